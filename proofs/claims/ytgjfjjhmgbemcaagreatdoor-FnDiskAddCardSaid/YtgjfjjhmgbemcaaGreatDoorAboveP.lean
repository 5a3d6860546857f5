/- A name and all names above it, both sides: the walks. No condition but lengths. -/
import Derived.Test.YtgjfjjhmgbemcaaGreatDoorTrLaw
import Derived.Test.YtgjfjjhmgbemcaaGreatDoorIc
namespace Go.Proofs.YtgjfjjhmgbemcaaGreatDoor
open Go.RowKit

theorem fr_grown {B g : Nat} {w W w' : World} (h : Fr B w W) (hg : W.grownBy w' (some g)) (hb : g < B ∨ w.heap.size ≤ g) : Fr B w w' :=
  ⟨Nat.le_trans h.1 hg.size, fun k hk hl => (hg.block k (Nat.lt_of_lt_of_le hl h.1) (by intro e; injection e; omega)).trans (h.2 k hk hl)⟩
theorem x_ownA {w W w' : World} {B e size n : Nat} {v : Value} {xs : List Value} (hX : X w W) (h : W.ownsRow B e size v n xs) (hB : w.heap.size ≤ B) (hg : W.grownBy w' v.ownBlock) : X w w' :=
  X.of_below (hX.below.grown hg hX.size (fun g hg => by have := (h.lt g hg).1; omega))
theorem join_joinL (l : List (List UInt8)) : Lib.join l [46] = joinL l := by
  cases l with
  | nil => rfl
  | cons p r =>
    rw [Lib.join_cons, joinL]
    have h : ∀ (r : List (List UInt8)) (a : List UInt8), r.foldl (fun a q => a ++ 46 :: q) a = a ++ Lib.joinTail [46] r := fun r => by
      induction r with
      | nil => intro a; simp [Lib.joinTail]
      | cons q r ih =>
        intro a
        rw [List.foldl_cons, ih]
        simp [Lib.joinTail, List.append_assoc]
    exact (h r p).symm
theorem Join_c (l : List (List UInt8)) (a : Option Addr) (n m c B : Nat) (w : World) (hS : StrsAt w B a n l) (h0 : 0 < m) (hm : m ≤ n) (hmc : m ≤ c) (hp : ∀ p ∈ l, partB p = true) (hl : l.length ≤ 3) :
    Calls Tryz.prog 128 #[.slice a m c, .string ⟨#[46]⟩] w fun e w' => e = .returned (.string ⟨(joinL (l.take m)).toArray⟩) ∧ X w w' := by
  have hn := hS.1
  obtain ⟨b, off, rfl, _, hb, _, _⟩ := hS.at_ (k := 0) (by omega)
  have hmap : ((l.take m).map fun p => ByteArray.mk p.toArray).map (·.data.toList) = l.take m := by
    rw [List.map_map]
    have : ((fun x : ByteArray => x.data.toList) ∘ fun p : List UInt8 => ByteArray.mk p.toArray) = id := rfl
    rw [this, List.map_id]
  have hlen : ((l.take m).map fun p => ByteArray.mk p.toArray).length = m := by rw [List.length_map, List.length_take]; omega
  have hj := joinL_len (l := l.take m) (fun p h => hp p (List.mem_of_mem_take h))
  have h := Tryz.strings_Join b off c ((l.take m).map fun p => ByteArray.mk p.toArray) ⟨#[46]⟩ w (fun j x hx => by
      have hj : j < m := by
        have := (List.getElem?_eq_some_iff.1 hx).1
        omega
      obtain ⟨b', off', ha, _, _, hc, _⟩ := hS.at_ (k := j) (by omega)
      injection ha with ha
      injection ha with e1 e2
      subst e1 e2
      rw [hc]
      rw [List.getElem?_map, List.getElem?_take, if_pos hj, nth_get? (by omega)] at hx
      simpa using hx) hb (by omega) (by omega) (by
      rw [hmap]
      show (Lib.join (l.take m) [46]).length ≤ _
      rw [join_joinL]
      rw [List.length_take] at hj
      omega)
  rw [hlen, hmap] at h
  refine h.mono ?_
  rintro _ w' ⟨rfl, hb'⟩
  exact ⟨by rw [show Lib.join (l.take m) (ByteArray.mk #[46]).data.toList = joinL (l.take m) from join_joinL _], X.of_below hb'⟩

set_option maxRecDepth 100000 in
set_option maxHeartbeats 1000000 in
theorem NamesAbove_c (s : List UInt8) (w : World) (hs : nameB s = true) (hG : Gm w) : Calls Tryz.prog 75 #[.string ⟨(s).toArray⟩] w fun e w' =>
    ∃ a c, e = .returned (.slice a (splitL 46 s).length c) ∧ w'.ownsRow w.heap.size 9 1 (.slice a (splitL 46 s).length c) (splitL 46 s).length (strs (aboveL s (splitL 46 s).length)) ∧ X w w' := by
  have htn := (nameB_iff.1 hs).2
  have hparts := (nameB_iff.1 hs).1
  go_enter Tryz.func75, Tryz.ntmps75
  go_wp2_with fail
  refine calls_name (fun W hW => ?_)
  obtain ⟨x0, rfl, hrow0⟩ := own_new (size := 1) (n := 0) hW rfl (by omega)
  clear hW
  refine (PartsOf_c s _ hs (hG.mono (by (repeat (first | exact X.refl _ | assumption | refine X.ext ?_ _ | refine X.alloc ?_ _ | refine X.drew ?_))))).mono ?_
  rintro _ _ ⟨ta, tc, rfl, hown, hx⟩
  clear hown
  replace hrow0 := own_fr hrow0 (hx.fr _)
  obtain ⟨x1, rfl⟩ := hx.of_ext
  clear hx
  have Hpf := Lib.hid (fun k => show joinL ((splitL 46 s).take k) = pfx s k from rfl)
  generalize hn : (splitL 46 s).length = tn at *
  have Hn := Lib.hid hn
  clear hn
  go_wp2
  go_loopw [3, 9] (fun v i wr => ∃ (k : Nat) (ra : Option Addr) (rc : Nat) (z : Xt), k ≤ tn ∧ i = .int .i64 k ∧ v = .slice ra k rc ∧ wr = World.ext w z ∧ (World.ext w z).ownsRow w.heap.size 9 1 (.slice ra k rc) k (strs (aboveL s k))) (fun _ i _ => tn - (intOf i).toNat)
  case atStart => exact ⟨0, _, _, x1, by omega, rfl, rfl, rfl, hrow0⟩
  case round =>
    obtain ⟨k, ra, rc, z, hk, rfl, rfl, rfl, hrow⟩ := hrel
    by_cases hlt : k < tn
    · have He := Lib.hid (@aboveL_next s k)
      have q1 : IntKind.i64.wrap ((k : Int) + 1) = (k : Int) + 1 := IntWalk.i64_in _ (by omega)
      have q2 : (0 : Int) ≤ (k : Int) + 1 := by omega
      have q3 : ((k : Int) + 1).toNat = k + 1 := by omega
      go_wp2_with fail
      refine (PartsOf_c s _ hs (hG.mono (by (repeat (first | exact X.refl _ | assumption | refine X.ext ?_ _ | refine X.alloc ?_ _ | refine X.drew ?_))))).mono ?_
      rintro _ _ ⟨ta, tc, rfl, hown, hx⟩
      rw [Hn.out] at hown ⊢
      have htc := own_cap hown
      have hS := StrsAt.of_own (l := splitL 46 s) (by rw [Hn.out]; exact hown) (by rw [Hn.out]; omega) (fun p hp => by have := (partB_len (hparts p hp)).2; omega)
      rw [Hn.out] at hS
      replace hrow := own_fr hrow (hx.fr _)
      obtain ⟨z, rfl⟩ := hx.of_ext
      clear hx hown
      have q4 : (k : Int) + 1 ≤ (tc : Int) := by omega
      have hpk : ¬ tc = 0 := by omega
      go_wp2_with (first
        | (go_at_call 128; (try rw [if_neg hpk]); refine (Join_c (splitL 46 s) _ _ (k + 1) _ _ _ hS (by omega) (by omega) (by omega) hparts (by rw [Hn.out]; omega)).mono ?_; rintro _ _ ⟨rfl, hx⟩; rw [Hpf.out (k + 1)]; replace hrow := own_fr hrow (hx.fr _); obtain ⟨z, rfl⟩ := hx.of_ext)
        | (at_builtin; refine wpList_append_lit str_T rfl _ _ rfl hrow rfl rfl rfl ?_ ?_ ?_ ?_))
      · simp [Value.oneCell']
      · omega
      · omega
      intro a' c' z' hrow'
      go_wp2
      go_roundw
      case rel => exact ⟨k + 1, a', c', z', by omega, by go_num, rfl, rfl, by rw [He.out]; simpa [flat_snoc] using hrow'⟩
      case measure => simp [intOf]; omega
    · obtain rfl : k = tn := by omega
      go_wp2
      go_ret
      exact ⟨ra, rc, by rw [Hn.out]; rfl, by rw [Hn.out]; exact hrow, by (repeat (first | exact X.refl _ | assumption | refine X.ext ?_ _ | refine X.alloc ?_ _ | refine X.drew ?_))⟩


set_option maxHeartbeats 400000 in
theorem PartsOf_n (s : List UInt8) (w : World) (hl : s.length ≤ 4194304) (hs : nameB s = false) (hG : Gm w) : Calls Tryz.prog 127 #[.string ⟨(s).toArray⟩] w fun e w' => ∃ a, e = .returned (.slice a 0 0) ∧ X w w' := by
  go_enter Tryz.func127, Tryz.ntmps127
  go_wp2_with (go_at_call 77; refine (ValidName_c _ _ hl hG).mono ?_; rintro _ _ ⟨rfl, x, rfl⟩; rw [hs])
  go_ret
  exact ⟨_, rfl, by (repeat (first | exact X.refl _ | assumption | refine X.ext ?_ _ | refine X.alloc ?_ _ | refine X.drew ?_))⟩
set_option maxRecDepth 100000 in
set_option maxHeartbeats 1000000 in
theorem NamesAbove_p (s : List UInt8) (w : World) (hl : s.length ≤ 4194304) (hG : Gm w) : Calls Tryz.prog 75 #[.string ⟨(s).toArray⟩] w fun e w' =>
    ∃ a c, e = .returned (.slice a (aboveP s).length c) ∧ w'.ownsRow w.heap.size 9 1 (.slice a (aboveP s).length c) (aboveP s).length (strs (aboveP s)) ∧ X w w' := by
  cases hs : nameB s
  · rw [show aboveP s = [] by rw [aboveP, hs]; rfl]
    go_enter Tryz.func75, Tryz.ntmps75
    go_wp2_with fail
    refine calls_name (fun W hW => ?_)
    have hrow0 : W.ownsRow w.heap.size 9 1 (.slice (some ⟨w.heap.size, 0, none⟩) 0 0) 0 [] := by rw [hW]; exact own_lit (n := 0) (size := 1) rfl (Nat.le_refl _) rfl (by omega)
    have hX0 : X w W := by rw [hW]; (repeat (first | with_reducible exact X.refl _ | with_reducible assumption | with_reducible refine X.setCell ?_ (by first | (simp; done) | (simp; omega)) _ | with_reducible refine X.ext ?_ _ | with_reducible refine X.alloc ?_ _ | with_reducible refine X.drew ?_))
    clear hW
    refine (PartsOf_n s W hl hs (hG.mono hX0)).mono ?_
    rintro _ w1 ⟨ta, rfl, hx1⟩
    replace hrow0 := own_fr hrow0 (hx1.fr _)
    go_wp2
    go_loopw [3, 9] (fun v i wr => i = .int .i64 0 ∧ v = .slice (some ⟨w.heap.size, 0, none⟩) 0 0 ∧ wr = w1) (fun _ _ _ => 0)
    case atStart => exact ⟨rfl, rfl, rfl⟩
    case round =>
      obtain ⟨rfl, rfl, rfl⟩ := hrel
      go_wp2
      go_ret
      exact ⟨_, _, rfl, hrow0, hX0.trans hx1⟩
  · have e : aboveP s = aboveL s (splitL 46 s).length := by rw [aboveP, hs]; rfl
    have e2 : (aboveP s).length = (splitL 46 s).length := by rw [e, aboveL_len]
    rw [e2, e]
    exact NamesAbove_c s w hs hG
set_option maxRecDepth 100000 in
set_option maxHeartbeats 1000000 in
theorem above_s (s : List UInt8) (w : World) (hs : nameB s = true) : Calls Tryz.prog 151 #[.string ⟨(s).toArray⟩] w fun e w' =>
    ∃ a c, e = .returned (.slice a (aboveP s).length c) ∧ w'.ownsRow w.heap.size 9 1 (.slice a (aboveP s).length c) (aboveP s).length (strs (aboveP s)) ∧ X w w' := by
  have e : aboveP s = aboveL s (splitL 46 s).length := by rw [aboveP, hs]; rfl
  have e2 : (aboveP s).length = (splitL 46 s).length := by rw [e, aboveL_len]
  rw [e2, e]
  clear e e2
  have hsl := nameB_len hs
  have htn := (nameB_iff.1 hs).2
  have hparts := (nameB_iff.1 hs).1
  go_enter Tryz.func151, Tryz.ntmps151
  go_wp2_with fail
  refine (splitAt_c s 46 w (by omega)).mono ?_
  rintro _ w1 ⟨ta, tc, rfl, hown, hx1⟩
  have htc := own_cap hown
  have hS := StrsAt.of_own hown (by omega) (fun p hp => by have := (partB_len (hparts p hp)).2; omega)
  clear hown
  have Hj := fun (W : World) (h : X w1 W) (m : Nat) (hm : m ≤ (splitL 46 s).length) => Lib.hid (join_p s ta _ m tc _ W (hS.mono (h.fr _)) hs hm)
  generalize hn : (splitL 46 s).length = tn at *
  have Hn := Lib.hid hn
  clear hn
  have hPL := fun k => pfx_len hs k
  go_wp2
  go_loopw [4, 5] (fun v i wr => ∃ (k : Nat) (ra : Option Addr) (rc : Nat), k ≤ tn ∧ i = .int .i64 (k + 1) ∧ v = .slice ra k rc ∧ wr.ownsRow w1.heap.size 9 1 (.slice ra k rc) k (strs (aboveL s k)) ∧ X w1 wr) (fun _ i _ => tn + 1 - (intOf i).toNat)
  case atStart => exact ⟨0, _, _, by omega, rfl, rfl, own_lit (n := 0) (size := 1) rfl (Nat.le_refl _) rfl (by omega), by (repeat (first | with_reducible exact X.refl _ | with_reducible assumption | with_reducible refine X.setCell ?_ (by first | (simp; done) | (simp; omega)) _ | with_reducible refine X.ext ?_ _ | with_reducible refine X.alloc ?_ _ | with_reducible refine X.drew ?_))⟩
  case round =>
    obtain ⟨k, ra, rc, hk, rfl, rfl, hrow, hX⟩ := hrel
    by_cases hlt : k < tn
    · have He := Lib.hid (@aboveL_next s k)
      have hz := hX.size
      have hz1 := hx1.size
      go_wp2_with fail
      refine ((Hj wr hX (k + 1) (by omega)).out).mono ?_
      rintro _ _ ⟨rfl, rfl⟩
      go_wp2_with (at_builtin; refine wpList_append_g str_T rfl _ _ rfl hrow rfl rfl rfl rfl (by simp [Value.oneCell']) (by omega) (by omega) (by omega) ?_; intro a' c' w6 hO6 hg6)
      go_roundw
      case rel => exact ⟨k + 1, a', c', by omega, by go_num, rfl, by rw [He.out]; simpa [flat_snoc] using hO6, x_ownA (X.alloc hX _) (hrow.alloc _) (Nat.le_refl _) hg6⟩
      case measure => simp [intOf]; omega
    · obtain rfl : k = tn := by omega
      go_wp2
      go_ret
      exact ⟨ra, rc, by rw [Hn.out]; rfl, by rw [Hn.out]; exact own_less hrow hx1.size, hx1.trans hX⟩

end Go.Proofs.YtgjfjjhmgbemcaaGreatDoor
