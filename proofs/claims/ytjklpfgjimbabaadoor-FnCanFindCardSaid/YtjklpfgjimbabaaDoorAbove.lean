/- A name and all names above it: the walks; what is found is found with all above it: the plain law. No condition. -/
import Derived.Test.YtjklpfgjimbabaaDoorUp
import Derived.Test.YtjklpfgjimbabaaDoorJoin
namespace Go.Proofs.YtjklpfgjimbabaaDoor
open Go.RowKit

theorem join_joinL (l : List (List UInt8)) : Lib.join l [46] = joinL l := by
  cases l with
  | nil => rfl
  | cons p r =>
    rw [Lib.join_cons, joinL]
    have h : ∀ (r : List (List UInt8)) (a : List UInt8), r.foldl (fun a q => a ++ 46 :: q) a = a ++ Lib.joinTail [46] r := fun r => by
      induction r with
      | nil => intro a; simp [Lib.joinTail]
      | cons q r ih =>
        intro a
        rw [List.foldl_cons, ih]
        simp [Lib.joinTail, List.append_assoc]
    exact (h r p).symm
theorem Join_c (l : List (List UInt8)) (a : Option Addr) (n m c B : Nat) (w : World) (hS : StrsAt w B a n l) (h0 : 0 < m) (hm : m ≤ n) (hmc : m ≤ c) (hp : ∀ p ∈ l, partB p = true) (hl : l.length ≤ 3) :
    Calls Tryd.prog 80 #[.slice a m c, .string ⟨#[46]⟩] w fun e w' => e = .returned (.string ⟨(joinL (l.take m)).toArray⟩) ∧ X w w' := by
  have hn := hS.1
  obtain ⟨b, off, rfl, _, hb, _, _⟩ := hS.at_ (k := 0) (by omega)
  have hmap : ((l.take m).map fun p => ByteArray.mk p.toArray).map (·.data.toList) = l.take m := by
    rw [List.map_map]
    have : ((fun x : ByteArray => x.data.toList) ∘ fun p : List UInt8 => ByteArray.mk p.toArray) = id := rfl
    rw [this, List.map_id]
  have hlen : ((l.take m).map fun p => ByteArray.mk p.toArray).length = m := by rw [List.length_map, List.length_take]; omega
  have hj := joinL_len (l := l.take m) (fun p h => hp p (List.mem_of_mem_take h))
  have h := Tryd.strings_Join b off c ((l.take m).map fun p => ByteArray.mk p.toArray) ⟨#[46]⟩ w (fun j x hx => by
      have hj : j < m := by
        have := (List.getElem?_eq_some_iff.1 hx).1
        omega
      obtain ⟨b', off', ha, _, _, hc, _⟩ := hS.at_ (k := j) (by omega)
      injection ha with ha
      injection ha with e1 e2
      subst e1 e2
      rw [hc]
      rw [List.getElem?_map, List.getElem?_take, if_pos hj, nth_get? (by omega)] at hx
      simpa using hx) hb (by omega) (by omega) (by
      rw [hmap]
      show (Lib.join (l.take m) [46]).length ≤ _
      rw [join_joinL]
      rw [List.length_take] at hj
      omega)
  rw [hlen, hmap] at h
  refine h.mono ?_
  rintro _ w' ⟨rfl, hb'⟩
  exact ⟨by rw [show Lib.join (l.take m) (ByteArray.mk #[46]).data.toList = joinL (l.take m) from join_joinL _], X.of_below hb'⟩

def aboveL (s : List UInt8) (k : Nat) : List (List UInt8) := (List.range k).map fun i => pfx s (i + 1)
theorem aboveL_next {s : List UInt8} {k : Nat} : aboveL s (k + 1) = aboveL s k ++ [pfx s (k + 1)] := by simp [aboveL, List.range_succ]
theorem aboveL_len {s : List UInt8} {k : Nat} : (aboveL s k).length = k := by simp [aboveL]
theorem aboveL_nth {s : List UInt8} {k i : Nat} (h : i < k) : nth (aboveL s k) i = pfx s (i + 1) := by
  rw [nth_eq (by rw [aboveL_len]; exact h)]
  simp [aboveL]
set_option maxRecDepth 100000 in
set_option maxHeartbeats 1000000 in
theorem NamesAbove_c (s : List UInt8) (w : World) (hs : nameB s = true) (hG : Gm w) : Calls Tryd.prog 42 #[.string ⟨(s).toArray⟩] w fun e w' =>
    ∃ a c, e = .returned (.slice a (splitL 46 s).length c) ∧ w'.ownsRow w.heap.size 9 1 (.slice a (splitL 46 s).length c) (splitL 46 s).length (strs (aboveL s (splitL 46 s).length)) ∧ X w w' := by
  have htn := (nameB_iff.1 hs).2
  have hparts := (nameB_iff.1 hs).1
  go_enter Tryd.func42, Tryd.ntmps42
  go_wp2_with fail
  refine calls_name (fun W hW => ?_)
  obtain ⟨x0, rfl, hrow0⟩ := own_new (size := 1) (n := 0) hW rfl (by omega)
  clear hW
  refine (PartsOf_c s _ hs (hG.mono (by (repeat (first | exact X.refl _ | assumption | refine X.ext ?_ _ | refine X.alloc ?_ _ | refine X.drew ?_))))).mono ?_
  rintro _ _ ⟨ta, tc, rfl, hown, hx⟩
  clear hown
  replace hrow0 := own_fr hrow0 (hx.fr _)
  obtain ⟨x1, rfl⟩ := hx.of_ext
  clear hx
  have Hpf := Lib.hid (fun k => show joinL ((splitL 46 s).take k) = pfx s k from rfl)
  generalize hn : (splitL 46 s).length = tn at *
  have Hn := Lib.hid hn
  clear hn
  go_wp2
  go_loopw [3, 9] (fun v i wr => ∃ (k : Nat) (ra : Option Addr) (rc : Nat) (z : Xt), k ≤ tn ∧ i = .int .i64 k ∧ v = .slice ra k rc ∧ wr = World.ext w z ∧ (World.ext w z).ownsRow w.heap.size 9 1 (.slice ra k rc) k (strs (aboveL s k))) (fun _ i _ => tn - (intOf i).toNat)
  case atStart => exact ⟨0, _, _, x1, by omega, rfl, rfl, rfl, hrow0⟩
  case round =>
    obtain ⟨k, ra, rc, z, hk, rfl, rfl, rfl, hrow⟩ := hrel
    by_cases hlt : k < tn
    · have He := Lib.hid (@aboveL_next s k)
      have q1 : IntKind.i64.wrap ((k : Int) + 1) = (k : Int) + 1 := IntWalk.i64_in _ (by omega)
      have q2 : (0 : Int) ≤ (k : Int) + 1 := by omega
      have q3 : ((k : Int) + 1).toNat = k + 1 := by omega
      go_wp2_with fail
      refine (PartsOf_c s _ hs (hG.mono (by (repeat (first | exact X.refl _ | assumption | refine X.ext ?_ _ | refine X.alloc ?_ _ | refine X.drew ?_))))).mono ?_
      rintro _ _ ⟨ta, tc, rfl, hown, hx⟩
      rw [Hn.out] at hown ⊢
      have htc := own_cap hown
      have hS := StrsAt.of_own (l := splitL 46 s) (by rw [Hn.out]; exact hown) (by rw [Hn.out]; omega) (fun p hp => by have := (partB_len (hparts p hp)).2; omega)
      rw [Hn.out] at hS
      replace hrow := own_fr hrow (hx.fr _)
      obtain ⟨z, rfl⟩ := hx.of_ext
      clear hx hown
      have q4 : (k : Int) + 1 ≤ (tc : Int) := by omega
      have hpk : ¬ tc = 0 := by omega
      go_wp2_with (first
        | (go_at_call 80; (try rw [if_neg hpk]); refine (Join_c (splitL 46 s) _ _ (k + 1) _ _ _ hS (by omega) (by omega) (by omega) hparts (by rw [Hn.out]; omega)).mono ?_; rintro _ _ ⟨rfl, hx⟩; rw [Hpf.out (k + 1)]; replace hrow := own_fr hrow (hx.fr _); obtain ⟨z, rfl⟩ := hx.of_ext)
        | (at_builtin; refine wpList_append_lit str_T rfl _ _ rfl hrow rfl rfl rfl ?_ ?_ ?_ ?_))
      · simp [Value.oneCell']
      · omega
      · omega
      intro a' c' z' hrow'
      go_wp2
      go_roundw
      case rel => exact ⟨k + 1, a', c', z', by omega, by go_num, rfl, rfl, by rw [He.out]; simpa [flat_snoc] using hrow'⟩
      case measure => simp [intOf]; omega
    · obtain rfl : k = tn := by omega
      go_wp2
      go_ret
      exact ⟨ra, rc, by rw [Hn.out]; rfl, by rw [Hn.out]; exact hrow, by (repeat (first | exact X.refl _ | assumption | refine X.ext ?_ _ | refine X.alloc ?_ _ | refine X.drew ?_))⟩

theorem up_step {l : List Fi} {path : List Int} {s : List UInt8} (h : nameB s = true) {k : Nat} (hk : k + 1 < (splitL 46 s).length) (hf : (specF l path (pfx s (k + 2))).kind ≠ 0) : (specF l path (pfx s (k + 1))).kind = 2 ∨ (specF l path (pfx s (k + 1))).kind = 3 := by
  rw [specF, pfx_split h (by omega), take_succ_nth (k := k + 1) hk, specGo_snoc] at hf
  rw [specF, pfx_split h (by omega)]
  by_cases hc : (specGo l ((splitL 46 s).take (k + 1)) [] ⟨3, -1, path⟩).kind = 2 ∨ (specGo l ((splitL 46 s).take (k + 1)) [] ⟨3, -1, path⟩).kind = 3
  · exact hc
  · rw [if_neg hc] at hf
    exact absurd rfl hf
theorem can_law {l : List Fi} {path : List Int} {s : List UInt8} (h : canB l path s = true) : nameB s = true ∧ ∀ k, k < (splitL 46 s).length → canB l path (pfx s (k + 1)) = true ∧ (k + 1 < (splitL 46 s).length → packB l path (pfx s (k + 1)) = true) := by
  cases hv : (treeB l && pathB path && nameB s)
  · rw [canB, specB, hv] at h
    simp [noneSp] at h
  · simp only [Bool.and_eq_true] at hv
    obtain ⟨⟨v1, v2⟩, v3⟩ := hv
    refine ⟨v3, ?_⟩
    have hB : ∀ k, 0 < k → specB l path (pfx s k) = specF l path (pfx s k) := fun k hk => by rw [specB, v1, v2, pfx_name v3 hk]; rfl
    have hs : (specF l path (pfx s (splitL 46 s).length)).kind ≠ 0 := by
      rw [pfx_all (Nat.le_refl _)]
      rw [canB, specB, v1, v2, v3] at h
      simpa using h
    have hall : ∀ d k, k + d = (splitL 46 s).length → 0 < k → (specF l path (pfx s k)).kind ≠ 0 := by
      intro d
      induction d with
      | zero => intro k hk _; rw [show k = (splitL 46 s).length by omega]; exact hs
      | succ d ih =>
        intro k hk h0
        obtain ⟨m, rfl⟩ : ∃ m, k = m + 1 := ⟨k - 1, by omega⟩
        have := up_step v3 (k := m) (by omega) (ih (m + 2) (by omega) (by omega))
        omega
    intro k hk
    refine ⟨?_, fun hk2 => ?_⟩
    · rw [canB, hB _ (by omega)]
      simpa using hall ((splitL 46 s).length - (k + 1)) (k + 1) (by omega) (by omega)
    · rw [packB, hB _ (by omega)]
      have := up_step v3 hk2 (hall ((splitL 46 s).length - (k + 2)) (k + 2) (by omega) (by omega))
      simpa using this

end Go.Proofs.YtjklpfgjimbabaaDoor
