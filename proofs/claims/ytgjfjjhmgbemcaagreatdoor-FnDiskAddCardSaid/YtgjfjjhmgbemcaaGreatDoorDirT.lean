/- The laws' own copying of texts, directories and disks: the walks. No condition but lengths. -/
import Derived.Test.YtgjfjjhmgbemcaaGreatDoorDirW
namespace Go.Proofs.YtgjfjjhmgbemcaaGreatDoor
open Go.RowKit

theorem dcells4 (x : Di × Value) : (dcells x).length = 4 := rfl
theorem info_dir : (Tryz.prog.info? 140).map (fun i => (i.zero, i.size, i.bytes)) = some (some (.agg #[.int .i64 0, .string ⟨#[]⟩, .int .i64 0, .slice none 0 0]), 4, 56) := by kernel_rfl
theorem dir_S : StrT Tryz.prog 140 4 := ⟨⟨_, Tryz.underlying140⟩, by kernel_rfl⟩
theorem disk_S : StrT Tryz.prog 38 3 := ⟨⟨_, Tryz.underlying38⟩, by kernel_rfl⟩
theorem fill4 {A Z : List Value} {o : Nat} (ho : o = A.length) (hz : 4 ≤ Z.length) (v0 v1 v2 v3 : Value) :
    ((((A ++ Z).set o v0).set (o + 1) v1).set (o + 2) v2).set (o + 3) v3 = A ++ ([v0, v1, v2, v3] ++ Z.drop 4) := by
  subst ho
  match Z, hz with
  | a :: b :: c :: d :: Z, _ =>
    have h0 := set_off (A := A) (Z := a :: b :: c :: d :: Z) 0 v0
    rw [Nat.add_zero] at h0
    rw [h0, set_off, set_off, set_off]
    rfl
theorem own_set4 {w : World} {B e size n c g : Nat} {xs : List Value} (h : w.ownsRow B e size (.slice (some ⟨g, 0, none⟩) n c) n xs) (o : Nat) (v0 v1 v2 v3 : Value) :
    ((((w.setCell ⟨g, o, none⟩ v0).setCell ⟨g, o + 1, none⟩ v1).setCell ⟨g, o + 2, none⟩ v2).setCell ⟨g, o + 3, none⟩ v3).ownsRow B e size (.slice (some ⟨g, 0, none⟩) n c) n
      ((((xs.set o v0).set (o + 1) v1).set (o + 2) v2).set (o + 3) v3) := own_set (own_set (own_set (own_set h v0) v1) v2) v3

set_option maxRecDepth 100000 in
set_option maxHeartbeats 1000000 in
theorem toStringS_c (l : List (List UInt8)) (a : Option Addr) (n c B : Nat) (w : World) (hI : StrsAt w B a n l) :
    Calls Tryz.prog 152 #[.slice a n c] w fun e w' => ∃ ra, e = .returned (.slice ra n n) ∧ w'.ownsRow w.heap.size 9 1 (.slice ra n n) n (strs l) ∧ X w w' := by
  have hn := hI.2.1
  have hl := hI.1
  have hmk := fun w => run_make_row' (P := Tryz.prog) 64 9 (.string ⟨#[]⟩) 16 Tryz.underlying64 (by kernel_rfl) rfl .i64 .i64 n (by omega) (by omega) w
  have hz : (madeCells #[.string ⟨#[]⟩] n).toList.length = l.length * 1 := by rw [Array.length_toList, size_madeCells, Nat.mul_one]; exact hI.1
  have hX0 : X w (w.alloc (.cells (madeCells #[.string ⟨#[]⟩] n) 9)) := (X.refl w).alloc _
  have hO0 : (w.alloc (.cells (madeCells #[.string ⟨#[]⟩] n) 9)).ownsRow w.heap.size 9 1 (.slice (some ⟨w.heap.size, 0, none⟩) n n) n (madeCells #[.string ⟨#[]⟩] n).toList := World.ownsRow_lit w _ n (Nat.le_refl _) (by unfold maxLen; omega) (by rw [size_madeCells, Nat.mul_one])
  have Hl := Lib.hid hl
  clear hl
  have Hz := Lib.hid hz
  clear hz
  generalize hC : madeCells #[.string ⟨#[]⟩] n = C at *
  clear hC
  go_enter Tryz.func152, Tryz.ntmps152
  go_wp2
  go_loopw [4] (fun i wr => ∃ k : Nat, k ≤ n ∧ i = .int .i64 k ∧ X w wr ∧ wr.ownsRow w.heap.size 9 1 (.slice (some ⟨w.heap.size, 0, none⟩) n n) n (mixR (fun x => [.string ⟨(x).toArray⟩]) 1 l C.toList k)) (fun i _ => n - (intOf i).toNat)
  case atStart => exact ⟨0, Nat.zero_le _, rfl, hX0, by rw [mixR_zero]; exact hO0⟩
  case round =>
    obtain ⟨k, hk, rfl, hX, hO⟩ := hrel
    clear hX0 hO0 hmk
    by_cases hlt : k < n
    · obtain ⟨b, off, rfl, _, hb, hc, _⟩ := (hI.mono (hX.fr _)).at_ hlt
      obtain ⟨u, hu⟩ := own_here hO (j := k) (by omega)
      have hfz := hO.frozenAt k
      have hg := (hO.lt w.heap.size rfl).2
      have hne : w.heap.size ≠ b ∨ True := .inr trivial
      go_wp2
      go_roundw
      case rel => exact ⟨k + 1, by omega, by go_num, X.setCell hX (Nat.le_refl _) _, by
        have := own_set hO (k := k) (.string ⟨(nth l k).toArray⟩)
        rw [show (mixR (fun x => [.string ⟨(x).toArray⟩]) 1 l C.toList k).set k (.string ⟨(nth l k).toArray⟩) = mixR (fun x => [.string ⟨(x).toArray⟩]) 1 l C.toList (k + 1) from by
          have h2 := mix_set1 (g := fun x => [.string ⟨(x).toArray⟩]) (fun _ => rfl) Hz.out (k := k) (by rw [← Hl.out]; exact hlt) (.string ⟨(nth l k).toArray⟩) rfl
          rwa [Nat.mul_one] at h2] at this
        exact this⟩
      case measure => simp [intOf]; omega
    · obtain rfl : k = n := by omega
      go_wp2
      go_ret
      refine ⟨_, rfl, ?_, hX⟩
      rw [Hl.out, mixR_all Hz.out] at hO
      rw [Hl.out]
      exact hO

set_option maxRecDepth 100000 in
set_option maxHeartbeats 1000000 in
theorem toDir_c (f : Di) (ba : Option Addr) (bn bc B : Nat) (w : World) (hS : StrsAt w B ba bn f.names) :
    Calls Tryz.prog 100 #[.agg #[.int .i64 (f).root, .string ⟨(f).pkg.toArray⟩, .int .i64 (f).stamp, .slice ba bn bc]] w fun e w' => ∃ ra, e = .returned (.agg #[.int .i64 (f).root, .string ⟨(f).pkg.toArray⟩, .int .i64 (f).stamp, .slice ra bn bn]) ∧ w'.ownsRow w.heap.size 9 1 (.slice ra bn bn) bn (strs f.names) ∧ X w w' := by
  go_enter Tryz.func100, Tryz.ntmps100
  go_wp2_with fail
  refine calls_name (fun W hW => ?_)
  obtain ⟨_, hR, hT, hX0⟩ := bx3 hW
  have hsz : W.heap.size = w.heap.size + 3 := by rw [hW]; simp
  clear hW
  refine (toStringS_c f.names ba bn bc _ W (hS.mono (hX0.fr _))).mono ?_
  rintro _ w3 ⟨ra, rfl, hO, hX3⟩
  have hXw := hX0.trans hX3
  replace hR := hR.x hX3
  replace hT := hT.x hX3
  obtain ⟨hbR, hcR, hfR⟩ := hR.out
  obtain ⟨hbT, hcT, hfT⟩ := hT.out
  have r0 := hcR 0
  have r1 := hcR 1
  have r2 := hcR 2
  have r3 := hcR 3
  have t0 := hcT 0
  have t1 := hcT 1
  have t2 := hcT 2
  have t3 := hcT 3
  clear hcR hcT
  go_wp2
  refine bodyPost_row Tryz.results100 rfl (Bx.set (Bx.set (Bx.set (Bx.set (Bx.far hR (by simp) _) 0 _) 1 _) 2 _) 3 _) dir_S rfl rfl ?_
  refine ⟨ra, rfl, own_less (own_fr hO (by (repeat (first | with_reducible exact Fr.refl _ _ | with_reducible assumption | with_reducible refine Fr.set ?_ (.inr (by first | (simp; done) | (simp; omega))) _)))) (by omega), by (repeat (first | with_reducible exact X.refl _ | with_reducible assumption | with_reducible refine X.setCell ?_ (by first | (simp; done) | (simp; omega)) _ | with_reducible refine X.ext ?_ _ | with_reducible refine X.alloc ?_ _ | with_reducible refine X.drew ?_))⟩

/-- No two lists of names lie in one block. -/
def SepD (vs : List (Di × Value)) : Prop := vs.Pairwise fun x y => x.2.ownBlock = none ∨ y.2.ownBlock = none ∨ y.2.ownBlock ≠ x.2.ownBlock
/-- Directories that the call itself has made: the table and each body is a row of its own. -/
def DirsO (w : World) (B : Nat) (a : Option Addr) (n c : Nat) (l : List Di) : Prop :=
  ∃ vs : List (Di × Value), l = vs.map (·.1) ∧ n = l.length ∧ w.ownsRow B 140 4 (.slice a n c) n (vs.flatMap dcells) ∧ SepD vs ∧
    ∀ x ∈ vs, ∃ ba bc, x.2 = .slice ba x.1.names.length bc ∧ w.ownsRow B 9 1 (.slice ba x.1.names.length bc) x.1.names.length (strs x.1.names)
theorem DirsO.fr {w w' : World} {B n c : Nat} {a : Option Addr} {l : List Di} (h : DirsO w B a n c l) (hx : Fr B w w') : DirsO w' B a n c l := by
  obtain ⟨vs, e, h1, h2, hs, h3⟩ := h
  exact ⟨vs, e, h1, own_fr h2 hx, hs, fun x hm => let ⟨ba, bc, e, ho⟩ := h3 x hm; ⟨ba, bc, e, own_fr ho hx⟩⟩
theorem DirsO.less {w : World} {B B' n c : Nat} {a : Option Addr} {l : List Di} (h : DirsO w B a n c l) (hB : B' ≤ B) : DirsO w B' a n c l := by
  obtain ⟨vs, e, h1, h2, hs, h3⟩ := h
  exact ⟨vs, e, h1, own_less h2 hB, hs, fun x hm => let ⟨ba, bc, e, ho⟩ := h3 x hm; ⟨ba, bc, e, own_less ho hB⟩⟩
/-- No text of the directories is too long. -/
def OkD (l : List Di) : Prop := l.length ≤ 2097152 ∧ ∀ f ∈ l, f.pkg.length ≤ 1048576 ∧ f.names.length ≤ 8388608 ∧ ∀ s ∈ f.names, s.length ≤ 4194304
theorem DirsAt.okD {w : World} {B n : Nat} {a : Option Addr} {l : List Di} (h : DirsAt w B a n l) : OkD l := by
  obtain ⟨vs, e, h1, h2, h3, _, h5⟩ := h
  refine ⟨by omega, fun f hf => ⟨h3 f hf, ?_⟩⟩
  rw [e] at hf
  obtain ⟨x, hx, rfl⟩ := List.mem_map.1 hf
  obtain ⟨ba, bn, bc, _, _, hS⟩ := h5 x hx
  exact ⟨by have := hS.1; have := hS.2.1; omega, hS.2.2.1⟩
theorem DirsO.at {w : World} {B n c : Nat} {a : Option Addr} {l : List Di} (h : DirsO w B a n c l) (hk : OkD l) : DirsAt w B a n l := by
  obtain ⟨vs, e, h1, h2, _, h3⟩ := h
  refine ⟨vs, e, h1, by have := hk.1; omega, fun f hf => (hk.2 f hf).1, Sl.of_own h2, fun x hx => ?_⟩
  obtain ⟨ba, bc, e2, ho⟩ := h3 x hx
  have hm : x.1 ∈ l := by rw [e]; exact List.mem_map.2 ⟨x, hx, rfl⟩
  exact ⟨ba, _, bc, e2, own_cap ho, rfl, (hk.2 _ hm).2.1, (hk.2 _ hm).2.2, Sl.of_own ho⟩

set_option maxRecDepth 100000 in
set_option maxHeartbeats 1000000 in
theorem toDirS_c (l : List Di) (a : Option Addr) (n c B : Nat) (w : World) (hF : DirsAt w B a n l) :
    Calls Tryz.prog 44 #[.slice a n c] w fun e w' => ∃ ra, e = .returned (.slice ra n n) ∧ DirsO w' w.heap.size ra n n l ∧ X w w' := by
  obtain ⟨hl, hn⟩ := hF.len
  obtain ⟨i0, hi, hz0, hz1, hz2⟩ := info_parts info_dir
  have hz : (madeCells (Value.agg #[.int .i64 0, .string ⟨#[]⟩, .int .i64 0, .slice none 0 0]).cells (n * 4)).toList.length = n * 4 := by rw [Array.length_toList, size_madeCells]
  have Hz := Lib.hid hz
  have Hl := Lib.hid hl
  clear hl hz
  generalize hZ : (madeCells (Value.agg #[.int .i64 0, .string ⟨#[]⟩, .int .i64 0, .slice none 0 0]).cells (n * 4)).toList = Z at *
  go_enter Tryz.func44, Tryz.ntmps44
  go_wp2_with (at_make; refine wpList_make_full _ rfl _ _ 36 rfl w.heap.size 140 i0 (.agg #[.int .i64 0, .string ⟨#[]⟩, .int .i64 0, .slice none 0 0]) 4 Tryz.underlying36 hi hz0 hz1 _ _ _ _ n rfl rfl rfl rfl (by rw [hz2]; omega) (by unfold maxLen; omega) (Nat.le_refl _) ?_; intro w1 hO1 hg1; rw [hZ] at hO1; clear hZ)
  have hX0 : X w w1 := X.of_grown hg1
  clear hg1
  go_loopw [4] (fun i wr => ∃ (k : Nat) (vs : List (Di × Value)), k ≤ n ∧ i = .int .i64 k ∧ X w wr ∧ vs.map (·.1) = l.take k ∧ wr.ownsRow w.heap.size 140 4 (.slice (some ⟨w.heap.size, 0, none⟩) n n) n (vs.flatMap dcells ++ Z.drop (k * 4)) ∧ SepD vs ∧
    ∀ x ∈ vs, ∃ ba bc, x.2 = .slice ba x.1.names.length bc ∧ wr.ownsRow w.heap.size 9 1 (.slice ba x.1.names.length bc) x.1.names.length (strs x.1.names)) (fun i _ => n - (intOf i).toNat)
  case atStart => exact ⟨0, [], Nat.zero_le _, rfl, hX0, rfl, by rw [Nat.zero_mul]; exact hO1, List.Pairwise.nil, fun _ h => by cases h⟩
  case round =>
    obtain ⟨k, vs, hk, rfl, hX, hvs, hO, hsep, hbd⟩ := hrel
    have Hsep := Lib.hid hsep
    clear hsep
    clear hX0 hO1
    have Hvs := Lib.hid hvs
    clear hvs
    have Hbd := Lib.hid hbd
    clear hbd
    have hvl : vs.length = k := by have := congrArg List.length Hvs.out; rw [List.length_map, List.length_take, ← Hl.out] at this; omega
    have Hvl := Lib.hid hvl
    clear hvl
    by_cases hlt : k < n
    · obtain ⟨b, off, ba, bn, bc, rfl, _, hb, hok, hbc, hSb, g0, g1, g2, g3⟩ := (hF.mono (hX.fr _)).at_ hlt
      have hbn := hSb.1
      have Hbn := Lib.hid hbn
      clear hbn
      go_wp2_with (go_at_call 100; refine (toDir_c (nth l k) ba bn bc _ _ hSb).mono ?_; rintro _ w3 ⟨ra, rfl, hOb, hx3⟩; have hO3 := own_fr hO (hx3.fr _); have hX3 := hX.trans hx3; have hg3 := (hO3.lt w.heap.size rfl).2; have hf0 := (hO3).frozenAt (k * 4); obtain ⟨u0, hu0⟩ := own_here hO3 (j := k * 4) (by omega); have hf1 := (hO3).frozenAt (k * 4 + 1); obtain ⟨u1, hu1⟩ := own_here hO3 (j := k * 4 + 1) (by omega); have hf2 := (hO3).frozenAt (k * 4 + 2); obtain ⟨u2, hu2⟩ := own_here hO3 (j := k * 4 + 2) (by omega); have hf3 := (hO3).frozenAt (k * 4 + 3); obtain ⟨u3, hu3⟩ := own_here hO3 (j := k * 4 + 3) (by omega))
      have hgr : ∀ v0 v1 v2 v3, w3.grownBy ((((w3.setCell ⟨w.heap.size, k * 4, none⟩ v0).setCell ⟨w.heap.size, k * 4 + 1, none⟩ v1).setCell ⟨w.heap.size, k * 4 + 2, none⟩ v2).setCell ⟨w.heap.size, k * 4 + 3, none⟩ v3) (some w.heap.size) :=
        fun v0 v1 v2 v3 => grown_next (grown_next (grown_next (grown_set _ _ _) _ _) _ _) _ _
      obtain ⟨cs3, hb3⟩ := own_block hO3
      go_roundw
      case rel => exact ⟨k + 1, vs ++ [(nth l k, .slice ra bn bn)], by omega, by go_num, by (repeat (first | with_reducible exact X.refl _ | with_reducible assumption | with_reducible refine X.setCell ?_ (by first | (simp; done) | (simp; omega)) _ | with_reducible refine X.ext ?_ _ | with_reducible refine X.alloc ?_ _ | with_reducible refine X.drew ?_)), by rw [List.map_append, Hvs.out, take_succ_nth (by rw [← Hl.out]; exact hlt)]; rfl, by
          have h6 := own_set4 hO3 (k * 4) (.int .i64 (nth l k).root) (.string ⟨((nth l k).pkg).toArray⟩) (.int .i64 (nth l k).stamp) (.slice ra bn bn)
          rw [fill4 (by rw [flat_length 4 dcells dcells4, Hvl.out]) (left_len Hz.out hlt), List.drop_drop] at h6
          rw [List.flatMap_append, List.append_assoc, Nat.succ_mul]
          exact h6, List.pairwise_append.2 ⟨Hsep.out, List.pairwise_singleton _ _, fun x hx y hy => by
            rw [List.mem_singleton.1 hy]
            obtain ⟨ba', bc', e, ho⟩ := Hbd.out x hx
            rw [e]
            exact row_far ho rfl hOb⟩, fun x hx => by
          rcases List.mem_append.1 hx with hx | hx
          · obtain ⟨ba', bc', e, ho⟩ := Hbd.out x hx
            have ho3 := own_fr ho (hx3.fr _)
            exact ⟨ba', bc', e, ho3.kept (hgr _ _ _ _) (.inr (own_ne_at ho3 hb3 (by decide)))⟩
          · rw [List.mem_singleton.1 hx]
            have ho3 := own_less hOb hX.size
            rw [Hbn.out] at ho3 ⊢
            exact ⟨ra, _, rfl, ho3.kept (hgr _ _ _ _) (.inr (own_ne_at ho3 hb3 (by decide)))⟩⟩
      case measure => simp [intOf]; omega
    · obtain rfl : k = n := by omega
      go_wp2
      go_ret
      refine ⟨_, rfl, ⟨vs, by rw [Hvs.out, List.take_of_length_le (by rw [← Hl.out]; omega)], Hl.out, ?_, Hsep.out, Hbd.out⟩, hX⟩
      rw [List.drop_eq_nil_of_le (by rw [Hz.out]; omega), List.append_nil] at hO
      exact hO

set_option maxRecDepth 100000 in
set_option maxHeartbeats 1000000 in
theorem toDisk_c (l : List Fi) (a : Option Addr) (n c : Nat) (kk : Int) (dl : List Di) (da : Option Addr) (dn dc B : Nat) (w : World) (hF : FilesAt w B a n l) (hD : DirsAt w B da dn dl) :
    Calls Tryz.prog 11 #[.agg #[.slice a n c, .int .i64 kk, .slice da dn dc]] w fun e w' => ∃ ra rd, e = .returned (.agg #[.slice ra n n, .int .i64 kk, .slice rd dn dn]) ∧ FilesO w' w.heap.size ra n n l ∧ DirsO w' w.heap.size rd dn dn dl ∧ X w w' := by
  go_enter Tryz.func11, Tryz.ntmps11
  go_wp2_with fail
  refine calls_name (fun W hW => ?_)
  obtain ⟨hA, hR, hT, hX0⟩ := bx3 hW
  have hsz : W.heap.size = w.heap.size + 3 := by rw [hW]; simp
  clear hW
  refine (toTree_c l a n c B W (hF.mono (hX0.fr _))).mono ?_
  rintro _ w3 ⟨ra, rfl, hO, hX3⟩
  have hXw := hX0.trans hX3
  replace hA := hA.x hX3
  replace hR := hR.x hX3
  replace hT := hT.x hX3
  obtain ⟨hbA, hcA, hfA⟩ := hA.out
  obtain ⟨hbT, hcT, hfT⟩ := hT.out
  have a1 := hcA 1
  have a2 := hcA 2
  have t0 := hcT 0
  have t1 := hcT 1
  clear hcA hcT
  go_wp2_with fail
  refine calls_name (fun W4 hW4 => ?_)
  have hT4 : Bx W4 (w.heap.size + 2) #[.slice ra n n, .int .i64 kk, .slice none 0 0] := by rw [hW4]; exact Bx.set (Bx.set hT 0 _) 1 _
  have hR4 : Bx W4 (w.heap.size + 1) #[.slice none 0 0, .int .i64 0, .slice none 0 0] := by rw [hW4]; exact Bx.far (Bx.far hR (by simp) _) (by simp) _
  have hX4 : X w W4 := by rw [hW4]; (repeat (first | with_reducible exact X.refl _ | with_reducible assumption | with_reducible refine X.setCell ?_ (by first | (simp; done) | (simp; omega)) _ | with_reducible refine X.ext ?_ _ | with_reducible refine X.alloc ?_ _ | with_reducible refine X.drew ?_))
  have hO4 := hO.fr (w' := W4) (by rw [hW4]; (repeat (first | with_reducible exact Fr.refl _ _ | with_reducible assumption | with_reducible refine Fr.set ?_ (.inr (by first | (simp; done) | (simp; omega))) _)))
  have hs4 : w3.heap.size ≤ W4.heap.size := by rw [hW4]; simp [World.setCell]
  have hs3 := hX3.size
  clear hW4
  refine (toDirS_c dl da dn dc B W4 (hD.mono (hX4.fr _))).mono ?_
  rintro _ w5 ⟨rd, rfl, hQ, hX5⟩
  have hXz := hX4.trans hX5
  replace hR4 := hR4.x hX5
  replace hT4 := hT4.x hX5
  replace hO4 := hO4.fr (hX5.fr _)
  obtain ⟨hbR, hcR, hfR⟩ := hR4.out
  obtain ⟨hbT, hcT, hfT⟩ := hT4.out
  have r0 := hcR 0
  have r1 := hcR 1
  have r2 := hcR 2
  have t0 := hcT 0
  have t1 := hcT 1
  have t2 := hcT 2
  clear hcR hcT
  go_wp2
  refine bodyPost_row Tryz.results11 rfl (Bx.set (Bx.set (Bx.set (Bx.far hR4 (by simp) _) 0 _) 1 _) 2 _) disk_S rfl rfl ?_
  exact ⟨ra, rd, rfl, (hO4.fr (by (repeat (first | with_reducible exact Fr.refl _ _ | with_reducible assumption | with_reducible refine Fr.set ?_ (.inr (by first | (simp; done) | (simp; omega))) _)))).less (by omega), (hQ.fr (by (repeat (first | with_reducible exact Fr.refl _ _ | with_reducible assumption | with_reducible refine Fr.set ?_ (.inr (by first | (simp; done) | (simp; omega))) _)))).less (by omega), by (repeat (first | with_reducible exact X.refl _ | with_reducible assumption | with_reducible refine X.setCell ?_ (by first | (simp; done) | (simp; omega)) _ | with_reducible refine X.ext ?_ _ | with_reducible refine X.alloc ?_ _ | with_reducible refine X.drew ?_))⟩

end Go.Proofs.YtgjfjjhmgbemcaaGreatDoor
