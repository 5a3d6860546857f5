/- When two trees look the same, the program's: the walks. No condition but lengths. -/
import Derived.Test.YtijcdnaammbomaaGreatDoorFoundI
import Derived.Test.YtijcdnaammbomaaGreatDoorSameLaw
import Derived.Test.YtijcdnaammbomaaGreatDoorSameSp
import Derived.Test.YtijcdnaammbomaaGreatDoorEqSl
import Derived.Test.YtijcdnaammbomaaGreatDoorInv
namespace Go.Proofs.YtijcdnaammbomaaGreatDoor
open Go.RowKit

theorem same_no {t u : List Fi} {path : List Int} (h : (treeB t && treeB u && pathB path) = false) : sameI t u path = false := by
  unfold sameI
  rw [h]
  rfl
theorem heap_set_same {w : World} {b : Nat} {cs : Array Value} {t : TypeId} (h : w.heap[b]? = some (.cells cs t (0, 0))) (i : Nat) (v : Value) : (w.setCell ⟨b, i, none⟩ v).heap[b]? = some (.cells (cs.setIfInBounds i v) t (0, 0)) := by
  show (w.heap.modify b _)[b]? = _
  rw [Array.getElem?_modify, if_pos rfl, h]
  rfl
theorem heap_set_far {w : World} {b : Nat} {o : Obj} (h : w.heap[b]? = some o) {p : Addr} (hne : b ≠ p.block) (v : Value) : (w.setCell p v).heap[b]? = some o := by
  show (w.heap.modify p.block _)[b]? = _
  rw [Array.getElem?_modify, if_neg (fun e => hne e.symm), h]
def st3 (w : World) (b : Nat) (x y z : Value) : World := ((w.setCell ⟨b, 0, none⟩ x).setCell ⟨b, 1, none⟩ y).setCell ⟨b, 2, none⟩ z
theorem X.st3 {w w' : World} (h : X w w') {b : Nat} (hb : w.heap.size ≤ b) (x y z : Value) : X w (st3 w' b x y z) := ((h.setCell hb x).setCell hb y).setCell hb z
theorem arr3 {cs : Array Value} (h : cs.size = 3) : ∃ x y z, cs = #[x, y, z] := by
  obtain ⟨l⟩ := cs
  match l, h with
  | [x, y, z], _ => exact ⟨x, y, z, rfl⟩
/-- A box for what is found, made since w0. -/
def BoxI (w0 w : World) (v : Value) : Prop := ∃ b cs, v = .pointer (some ⟨b, 0, none⟩) ∧ w.heap[b]? = some (.cells cs 59 (0, 0)) ∧ cs.size = 3 ∧ w0.heap.size ≤ b
/-- A box that holds v'. -/
def FullI (w : World) (v v' : Value) : Prop := ∃ b cs, v = .pointer (some ⟨b, 0, none⟩) ∧ v' = .agg cs ∧ w.heap[b]? = some (.cells cs 59 (0, 0))
theorem BoxI.x {w0 w w' : World} {v : Value} (h : BoxI w0 w v) (hx : X w w') : BoxI w0 w' v := by
  obtain ⟨b, cs, e, h1, h2, h3⟩ := h
  exact ⟨b, cs, e, at_x2' h1 hx, h2, h3⟩
theorem FullI.x {w w' : World} {v v' : Value} (h : FullI w v v') (hx : X w w') : FullI w' v v' := by
  obtain ⟨b, cs, e, e2, h1⟩ := h
  exact ⟨b, cs, e, e2, at_x2' h1 hx⟩
theorem SpO.x {w w' : World} {B : Nat} {v : Value} {r : Sp} (h : SpO w B v r) (hx : X w w') : SpO w' B v r := by
  obtain ⟨a, c, e, ho⟩ := h
  exact ⟨a, c, e, own_fr ho (hx.fr _)⟩
theorem BoxI.set {w0 w : World} {v : Value} (h : BoxI w0 w v) (p : Addr) (hp : p = ⟨p.block, p.off, none⟩) (u : Value) : BoxI w0 (w.setCell p u) v := by
  obtain ⟨b, cs, e, h1, h2, h3⟩ := h
  by_cases hb : b = p.block
  · subst hb
    rw [hp]
    exact ⟨_, _, e, heap_set_same h1 _ _, by rw [Array.size_setIfInBounds]; exact h2, h3⟩
  · exact ⟨b, cs, e, heap_set_far h1 hb _, h2, h3⟩
theorem BoxI.st3 {w0 w : World} {v : Value} (h : BoxI w0 w v) (b : Nat) (x y z : Value) : BoxI w0 (st3 w b x y z) v := ((h.set ⟨b, 0, none⟩ rfl x).set ⟨b, 1, none⟩ rfl y).set ⟨b, 2, none⟩ rfl z
theorem FullI.st3_ne {w : World} {v v' : Value} (h : FullI w v v') {b : Nat} (hne : v ≠ .pointer (some ⟨b, 0, none⟩)) (x y z : Value) : FullI (Go.Proofs.YtijcdnaammbomaaGreatDoor.st3 w b x y z) v v' := by
  obtain ⟨b', cs, rfl, e2, h1⟩ := h
  have hb : b' ≠ b := by rintro rfl; exact hne rfl
  exact ⟨b', cs, rfl, e2, heap_set_far (heap_set_far (heap_set_far h1 hb _) hb _) hb _⟩
theorem BoxI.full {w0 w : World} {b : Nat} (h : BoxI w0 w (.pointer (some ⟨b, 0, none⟩))) (x y z : Value) : FullI (Go.Proofs.YtijcdnaammbomaaGreatDoor.st3 w b x y z) (.pointer (some ⟨b, 0, none⟩)) (.agg #[x, y, z]) := by
  obtain ⟨b', cs, e, h1, h2, _⟩ := h
  injection e with e
  injection e with e
  injection e with e
  subst e
  obtain ⟨x', y', z', rfl⟩ := arr3 h2
  exact ⟨b, _, rfl, rfl, heap_set_same (heap_set_same (heap_set_same h1 0 x) 1 y) 2 z⟩
theorem SpO.st3 {w0 w : World} {B b : Nat} {v : Value} {r : Sp} (h : SpO w B v r) (hb : BoxI w0 w (.pointer (some ⟨b, 0, none⟩))) (x y z : Value) : SpO (Go.Proofs.YtijcdnaammbomaaGreatDoor.st3 w b x y z) B v r := by
  obtain ⟨b', cs, e, h1, h2, _⟩ := hb
  injection e with e
  injection e with e
  injection e with e
  subst e
  obtain ⟨a, c, e, ho⟩ := h
  have h3 := heap_set_same h1 0 x
  exact ⟨a, c, e, own_set_far (own_set_far (own_set_far ho h1 (by decide) 0 x) h3 (by decide) 1 y) (heap_set_same h3 1 y) (by decide) 2 z⟩
theorem BoxI.new (w0 w : World) (hx : X w0 w) (x y z : Value) : BoxI w0 (w.alloc (.cells #[x, y, z] 59)) (.pointer (some ⟨w.heap.size, 0, none⟩)) := ⟨_, _, rfl, heap_alloc_new w _, rfl, hx.size⟩
theorem BoxI.ne_new {w0 w : World} {v : Value} (h : BoxI w0 w v) : v ≠ .pointer (some ⟨w.heap.size, 0, none⟩) := by
  obtain ⟨b, cs, rfl, h1, _, _⟩ := h
  intro e
  injection e with e
  injection e with e
  injection e with e
  have := (Array.getElem?_eq_some_iff.1 h1).1
  omega
theorem BoxI.cells {w0 w : World} {v : Value} (h : BoxI w0 w v) : ∃ b x y z, v = .pointer (some ⟨b, 0, none⟩) ∧ w0.heap.size ≤ b ∧ b < w.heap.size ∧ w.cell? ⟨b, 0, none⟩ = some x ∧ w.cell? ⟨b, 1, none⟩ = some y ∧ w.cell? ⟨b, 2, none⟩ = some z ∧ w.frozen? ⟨b, 0, none⟩ = false ∧ w.frozen? ⟨b, 1, none⟩ = false ∧ w.frozen? ⟨b, 2, none⟩ = false := by
  obtain ⟨b, cs, e, h1, h2, h3⟩ := h
  obtain ⟨x, y, z, rfl⟩ := arr3 h2
  obtain ⟨q1, q2, q3⟩ := Bx.out ⟨_, h1⟩
  exact ⟨b, x, y, z, e, h3, q1, q2 0, q2 1, q2 2, q3 0, q3 1, q3 2⟩
set_option maxRecDepth 100000 in
set_option maxHeartbeats 2000000 in
theorem SameFinds_i (t u : List Fi) (a a' : Option Addr) (n n' c c' B B' : Nat) (path : List Int) (pa : Option Addr) (pn pc Bp : Nat) (w : World) (hF : FilesAt w B a n t) (hnc : n ≤ c) (hU : FilesAt w B' a' n' u) (hnc' : n' ≤ c') (hI : IntsAt w Bp pa pn path) (hpc : pn ≤ pc) (hG : Gm w) :
    Calls Tryz.prog 20 #[.agg #[.slice a n c], .agg #[.slice a' n' c'], .slice pa pn pc] w fun e w' => e = .returned (.bool (sameI t u path)) ∧ X w w' := by
  obtain ⟨V, hV⟩ : ∃ V, sameI t u path = V := ⟨_, rfl⟩
  rw [hV]
  have HV := Lib.hid hV
  clear hV
  go_enter Tryz.func20, Tryz.ntmps20
  go_wp2_with fail
  refine calls_name (fun W hW => ?_)
  obtain ⟨hT0, hU0, hX0⟩ := bx2 hW
  clear hW
  refine (ValidTree_c t a n c _ W (hF.mono (hX0.fr _)) hnc (hG.mono hX0)).mono ?_
  rintro _ w1 ⟨rfl, hx1⟩
  have hT1 := hT0.x hx1
  have hU1 := hU0.x hx1
  have hX1 := hX0.trans hx1
  clear hT0 hU0 hX0 hx1
  have t1 := bxC hU1
  have lt1 := hU1.lt
  cases h1 : treeB t
  · obtain rfl : V = false := by rw [← HV.out]; exact same_no (by rw [h1]; rfl)
    go_wp2
    go_ret
    exact ⟨rfl, hX1⟩
  go_wp2_with fail
  refine (ValidTree_c u a' n' c' _ w1 (hU.mono (hX1.fr _)) hnc' (hG.mono hX1)).mono ?_
  rintro _ w2 ⟨rfl, hx2⟩
  have hT2 := hT1.x hx2
  have hU2 := hU1.x hx2
  have hX2 := hX1.trans hx2
  clear hT1 hU1 hX1 hx2 t1 lt1
  have t2 := bxC hT2
  have lt2 := hT2.lt
  cases h2 : treeB u
  · obtain rfl : V = false := by rw [← HV.out]; exact same_no (by rw [h1, h2]; rfl)
    go_wp2
    go_ret
    exact ⟨rfl, hX2⟩
  go_wp2_with fail
  refine (ValidPath_c path pa pn pc _ w2 (hI.mono (hX2.fr _)) hpc).mono ?_
  rintro _ _ ⟨rfl, rfl⟩
  cases h3 : pathB path
  · obtain rfl : V = false := by rw [← HV.out]; exact same_no (by rw [h1, h2, h3]; rfl)
    go_wp2
    go_ret
    exact ⟨rfl, hX2⟩
  have hVe : (foundL t path == foundL u path && (foundL t path).all fun n => sameSp t u (specB t path n) (specB u path n)) = V := by
    rw [← HV.out, sameI, h1, h2, h3]
    rfl
  have HVe := Lib.hid hVe
  clear hVe HV
  go_wp2_with fail
  refine (FoundNames_i t a n c _ path pa pn pc _ w2 (hF.mono (hX2.fr _)) hnc (hI.mono (hX2.fr _)) hpc (hG.mono hX2)).mono ?_
  have hl1 := @foundL_len t path
  have hs1 := @foundL_short t path
  have hl2 := @foundL_len u path
  have hs2 := @foundL_short u path
  obtain ⟨N, hN⟩ : ∃ N, foundL t path = N := ⟨_, rfl⟩
  obtain ⟨M, hM⟩ : ∃ M, foundL u path = M := ⟨_, rfl⟩
  have hVe := HVe.out
  rw [hN] at hl1 hs1 hVe ⊢
  rw [hM] at hl2 hs2 hVe
  have HM := Lib.hid hM
  have HV := Lib.hid hVe
  clear hN hM hVe HVe
  rintro _ w3 ⟨g3, c3, rfl, hO3, hx3⟩
  obtain ⟨na, hna⟩ : ∃ na : Option Addr, some (⟨g3, 0, none⟩ : Addr) = na := ⟨_, rfl⟩
  rw [hna] at hO3 ⊢
  clear hna
  have hS3 := StrsAt.of_own hO3 (by omega) (fun x hx => by have := hs1 x hx; omega)
  have hT3 := hT2.x hx3
  have hU3 := hU2.x hx3
  have hX3 := hX2.trans hx3
  clear hO3 hT2 hU2 hX2 hx3 t2 lt2
  have t3 := bxC hU3
  have lt3 := hU3.lt
  go_wp2_with fail
  refine (FoundNames_i u a' n' c' _ path pa pn pc _ w3 (hU.mono (hX3.fr _)) hnc' (hI.mono (hX3.fr _)) hpc (hG.mono hX3)).mono ?_
  rw [HM.out]
  rintro _ w4 ⟨g4, c4, rfl, hO4, hx4⟩
  have hS4 := StrsAt.of_own hO4 (by omega) (fun x hx => by have := hs2 x hx; omega)
  go_wp2_with fail
  refine (EqTexts_c N M _ _ _ _ _ _ _ _ w4 (hS3.mono (hx4.fr _)) hS4).mono ?_
  rintro _ w5 ⟨rfl, hx5⟩
  have hx35 := hx4.trans hx5
  have hS5 := hS3.mono (hx35.fr _)
  have hT5 := hT3.x hx35
  have hU5 := hU3.x hx35
  have hX5 := hX3.trans hx35
  clear hO4 hS3 hS4 hT3 hU3 hX3 hx4 hx5 hx35 t3 lt3
  by_cases hNM : N = M
  · rw [decide_eq_true hNM]
    obtain ⟨m, hm⟩ : ∃ m, N.length = m := ⟨_, rfl⟩
    rw [hm] at hS5 hl1 ⊢
    have Hm := Lib.hid hm
    have hVa : (N.all fun n => sameSp t u (specB t path n) (specB u path n)) = V := by
      rw [← HV.out, ← hNM]
      simp
    have HVa := Lib.hid hVa
    clear hm hVa HV
    go_wp2
    go_loopw [36] (fun i wr => ∃ k : Nat, k ≤ m ∧ i = .int .i64 k ∧ ((N.take k).all fun n => sameSp t u (specB t path n) (specB u path n)) = true ∧ X w5 wr) (fun i _ => m - (intOf i).toNat)
    case atStart => exact ⟨0, Nat.zero_le _, rfl, by rw [List.take_zero]; rfl, X.refl _⟩
    case round =>
      obtain ⟨k, hk, rfl, hall, hX⟩ := hrel
      by_cases hlt : k < m
      · obtain ⟨b, off, rfl, _, hb, hc, hcl⟩ := (hS5.mono (hX.fr _)).at_ hlt
        have Hnx := Lib.hid (show (N.take (k + 1)).all (fun n => sameSp t u (specB t path n) (specB u path n)) = ((N.take k).all (fun n => sameSp t u (specB t path n) (specB u path n)) && sameSp t u (specB t path (nth N k)) (specB u path (nth N k))) by rw [take_succ_nth (by rw [Hm.out]; exact hlt), List.all_append]; simp)
        have Hno := Lib.hid (show sameSp t u (specB t path (nth N k)) (specB u path (nth N k)) = false → V = false from fun h => by
          rw [← HVa.out, Bool.eq_false_iff]
          intro h2
          rw [List.all_eq_true] at h2
          have := h2 _ (nth_mem (l := N) (k := k) (by rw [Hm.out]; exact hlt))
          rw [h] at this
          cases this)
        generalize nth N k = x at *
        have hTk := hT5.x hX
        have hUk := hU5.x hX
        have t5 := bxC hTk
        have lt5 := hTk.lt
        have u5 := bxC hUk
        have lu5 := hUk.lt
        obtain ⟨oa, hoa⟩ : ∃ oa, specB t path x = oa := ⟨_, rfl⟩
        obtain ⟨ob, hob⟩ : ∃ ob, specB u path x = ob := ⟨_, rfl⟩
        have hfa := Lib.hid (@spec_file t path x)
        have hfb := Lib.hid (@spec_file u path x)
        rw [hoa] at hfa Hnx Hno
        rw [hob] at hfb Hnx Hno
        have Hoa := Lib.hid hoa
        have Hob := Lib.hid hob
        go_wp2
        refine wp_region_inv (fun L v W => X wr W ∧ (L 0 = true → v 0 = .agg #[.slice a n c]) ∧ (L 1 = true → v 1 = .slice pa pn pc) ∧ (L 2 = true → v 2 = .string ⟨(x).toArray⟩)
          ∧ (L 4 = true → v 4 = .agg #[.slice a' n' c']) ∧ (L 5 = true → v 5 = .slice pa pn pc) ∧ (L 6 = true → v 6 = .string ⟨(x).toArray⟩)
          ∧ (L 3 = true → SpO W wr.heap.size (v 3) oa) ∧ (L 7 = true → SpO W wr.heap.size (v 7) ob)
          ∧ (L 8 = true → BoxI wr W (v 8)) ∧ (L 9 = true → BoxI wr W (v 9)) ∧ (L 8 = true → L 9 = true → v 8 ≠ v 9)
          ∧ (L 10 = true → FullI W (v 8) (v 3)) ∧ (L 11 = true → FullI W (v 9) (v 7))
          ∧ (L 10 = true → L 8 = true ∧ L 3 = true) ∧ (L 11 = true → L 9 = true ∧ L 7 = true)) (by kernel_rfl) (by kernel_rfl) ?_ ?_ (l := [(40, 0), (41, 1), (42, 2), (43, 3), (44, 4), (45, 5), (46, 6), (47, 7), (10, 8), (11, 9)]) (by kernel_rfl) (n := 12) rfl ?_
        · intro v
          exact ⟨(X.refl _).drew, fun h => (by cases h), fun h => (by cases h), fun h => (by cases h), fun h => (by cases h), fun h => (by cases h), fun h => (by cases h), fun h => (by cases h), fun h => (by cases h), fun h => (by cases h), fun h => (by cases h), fun h => (by cases h), fun h => (by cases h), fun h => (by cases h), fun h => (by cases h), fun h => (by cases h)⟩
        · intro i hi
          have hi' : i = 0 ∨ i = 1 ∨ i = 2 ∨ i = 3 ∨ i = 4 ∨ i = 5 ∨ i = 6 ∨ i = 7 ∨ i = 8 ∨ i = 9 ∨ i = 10 ∨ i = 11 := by
            have : i < 12 := hi
            omega
          clear hi
          rcases hi' with rfl | rfl | rfl | rfl | rfl | rfl | rfl | rfl | rfl | rfl | rfl | rfl
          all_goals
            intro o ho L v aa W hI hS hL hA K hK
            cases (show some _ = some o from ho)
            obtain ⟨i0, i1, i2, i3, i4, i5, i6, i7, i8, i9, i10, i11, i12, i13, i14, i15⟩ := hI
          · have a3 := hS.old 3 (by kernel_rfl) rfl
            have c0 := (i0.cell (p := ⟨w.heap.size, 0, none⟩) lt5).trans t5
            clear hS ho hA
            go_simp
            exact hK _ W ⟨i0, fun _ => rfl, i2, i3, i4, i5, i6, i7, i8, i9, i10, i11, i12, i13, i14, i15⟩
          · have a3 := hS.old 2 (by kernel_rfl) rfl
            clear hS ho hA
            go_simp
            exact hK _ W ⟨i0, i1, fun _ => rfl, i3, i4, i5, i6, i7, i8, i9, i10, i11, i12, i13, i14, i15⟩
          · have a3 := hS.old 9 (by kernel_rfl) rfl
            clear hS ho hA
            go_simp
            exact hK _ W ⟨i0, i1, i2, fun _ => rfl, i4, i5, i6, i7, i8, i9, i10, i11, i12, i13, i14, i15⟩
          · have l0 : L 0 = true := hA ⟨0, .data⟩ (by simp) rfl
            have l1 : L 1 = true := hA ⟨1, .data⟩ (by simp) rfl
            have l2 : L 2 = true := hA ⟨2, .data⟩ (by simp) rfl
            have a0 := hS.get 0 40 rfl l0 (i1 l0)
            have a1 := hS.get 1 41 rfl l1 (i2 l1)
            have a2 := hS.get 2 42 rfl l2 (i3 l2)
            clear hS ho hA
            go_simp
            have hXX := (hX5.trans hX).trans i0
            refine (FindSpec_o t a n c _ path pa pn pc _ x W (hF.mono (hXX.fr _)) hnc (hI.mono (hXX.fr _)) hpc hcl (hG.mono hXX)).mono ?_
            rw [Hoa.out]
            rintro _ w6 ⟨v6, rfl, ⟨a6, c6, rfl, hO6⟩, hx6⟩
            exact hK _ w6 ⟨i0.trans hx6, i1, i2, i3, i4, i5, i6, fun _ => ⟨a6, c6, rfl, own_less hO6 i0.size⟩, fun h => (i8 h).x hx6, fun h => (i9 h).x hx6, fun h => (i10 h).x hx6, i11, fun h => Bool.noConfusion (hL.symm.trans (i14 h).2), fun h => (i13 h).x hx6, fun h => ⟨(i14 h).1, rfl⟩, i15⟩
          · have a3 := hS.old 4 (by kernel_rfl) rfl
            have c0 := (i0.cell (p := ⟨w.heap.size + 1, 0, none⟩) lu5).trans u5
            clear hS ho hA
            go_simp
            exact hK _ W ⟨i0, i1, i2, i3, fun _ => rfl, i5, i6, i7, i8, i9, i10, i11, i12, i13, i14, i15⟩
          · have a3 := hS.old 2 (by kernel_rfl) rfl
            clear hS ho hA
            go_simp
            exact hK _ W ⟨i0, i1, i2, i3, i4, fun _ => rfl, i6, i7, i8, i9, i10, i11, i12, i13, i14, i15⟩
          · have a3 := hS.old 9 (by kernel_rfl) rfl
            clear hS ho hA
            go_simp
            exact hK _ W ⟨i0, i1, i2, i3, i4, i5, fun _ => rfl, i7, i8, i9, i10, i11, i12, i13, i14, i15⟩
          · have l4 : L 4 = true := hA ⟨4, .data⟩ (by simp) rfl
            have l5 : L 5 = true := hA ⟨5, .data⟩ (by simp) rfl
            have l6 : L 6 = true := hA ⟨6, .data⟩ (by simp) rfl
            have a4 := hS.get 4 44 rfl l4 (i4 l4)
            have a5 := hS.get 5 45 rfl l5 (i5 l5)
            have a6 := hS.get 6 46 rfl l6 (i6 l6)
            clear hS ho hA
            go_simp
            have hXX := (hX5.trans hX).trans i0
            refine (FindSpec_o u a' n' c' _ path pa pn pc _ x W (hU.mono (hXX.fr _)) hnc' (hI.mono (hXX.fr _)) hpc hcl (hG.mono hXX)).mono ?_
            rw [Hob.out]
            rintro _ w6 ⟨v6, rfl, ⟨a6, c6, rfl, hO6⟩, hx6⟩
            exact hK _ w6 ⟨i0.trans hx6, i1, i2, i3, i4, i5, i6, fun h => (i7 h).x hx6, fun _ => ⟨a6, c6, rfl, own_less hO6 i0.size⟩, fun h => (i9 h).x hx6, fun h => (i10 h).x hx6, i11, fun h => (i12 h).x hx6, fun h => Bool.noConfusion (hL.symm.trans (i15 h).2), i14, fun h => ⟨(i15 h).1, rfl⟩⟩
          · clear hS ho hA
            go_simp
            have hxa : X W (W.alloc (.cells #[.int .i64 0, .int .i64 0, .slice none 0 0] 59)) := (X.refl W).alloc _
            exact hK _ _ ⟨i0.trans hxa, i1, i2, i3, i4, i5, i6, fun h => (i7 h).x hxa, fun h => (i8 h).x hxa, fun _ => BoxI.new wr W i0 _ _ _, fun h => (i10 h).x hxa, fun _ h => (i10 h).ne_new.symm, fun h => Bool.noConfusion (hL.symm.trans (i14 h).1), fun h => (i13 h).x hxa, fun h => ⟨rfl, (i14 h).2⟩, i15⟩
          · clear hS ho hA
            go_simp
            have hxa : X W (W.alloc (.cells #[.int .i64 0, .int .i64 0, .slice none 0 0] 59)) := (X.refl W).alloc _
            exact hK _ _ ⟨i0.trans hxa, i1, i2, i3, i4, i5, i6, fun h => (i7 h).x hxa, fun h => (i8 h).x hxa, fun h => (i9 h).x hxa, fun _ => BoxI.new wr W i0 _ _ _, fun h _ => (i9 h).ne_new, fun h => (i12 h).x hxa, fun h => Bool.noConfusion (hL.symm.trans (i15 h).1), i14, fun h => ⟨rfl, (i15 h).2⟩⟩
          · have l8 : L 8 = true := hA ⟨8, .data⟩ (by simp) rfl
            have l3 : L 3 = true := hA ⟨3, .data⟩ (by simp) rfl
            obtain ⟨b8, x8, y8, z8, e8, hb8, hl8, c0, c1, c2, f0, f1, f2⟩ := (i9 l8).cells
            obtain ⟨a6, c6, e3, hO6⟩ := i7 l3
            have hbx : BoxI wr W (.pointer (some ⟨b8, 0, none⟩)) := e8 ▸ i9 l8
            have a8 := hS.get 8 10 rfl l8 e8
            have a3 := hS.get 3 43 rfl l3 e3
            clear hS ho hA
            go_simp
            exact hK undef (st3 W b8 _ _ _) ⟨i0.st3 hb8 _ _ _, i1, i2, i3, i4, i5, i6, fun h => (i7 h).st3 hbx _ _ _, fun h => (i8 h).st3 hbx _ _ _, fun h => (i9 h).st3 b8 _ _ _, fun h => (i10 h).st3 b8 _ _ _, i11, fun _ => (by show FullI _ (v 8) (v 3); rw [e8, e3]; exact hbx.full _ _ _), fun h => (i13 h).st3_ne (fun e => i11 l8 (i15 h).1 (e8.trans e.symm)) _ _ _, fun _ => ⟨l8, l3⟩, i15⟩
          · have l8 : L 9 = true := hA ⟨9, .data⟩ (by simp) rfl
            have l3 : L 7 = true := hA ⟨7, .data⟩ (by simp) rfl
            obtain ⟨b8, x8, y8, z8, e8, hb8, hl8, c0, c1, c2, f0, f1, f2⟩ := (i10 l8).cells
            obtain ⟨a6, c6, e3, hO6⟩ := i8 l3
            have hbx : BoxI wr W (.pointer (some ⟨b8, 0, none⟩)) := e8 ▸ i10 l8
            have a8 := hS.get 9 11 rfl l8 e8
            have a3 := hS.get 7 47 rfl l3 e3
            clear hS ho hA
            go_simp
            exact hK undef (st3 W b8 _ _ _) ⟨i0.st3 hb8 _ _ _, i1, i2, i3, i4, i5, i6, fun h => (i7 h).st3 hbx _ _ _, fun h => (i8 h).st3 hbx _ _ _, fun h => (i9 h).st3 b8 _ _ _, fun h => (i10 h).st3 b8 _ _ _, i11, fun h => (i12 h).st3_ne (fun e => i11 (i14 h).1 l8 (e.trans e8.symm)) _ _ _, fun _ => (by show FullI _ (v 9) (v 7); rw [e8, e3]; exact hbx.full _ _ _), i14, fun _ => ⟨l8, l3⟩⟩
        · intro v W hI
          obtain ⟨i0, i1, i2, i3, i4, i5, i6, i7, i8, i9, i10, i11, i12, i13, i14, i15⟩ := hI
          have e0 := i1 rfl
          have e1 := i2 rfl
          have e2 := i3 rfl
          have e4 := i4 rfl
          have e5 := i5 rfl
          have e6 := i6 rfl
          obtain ⟨a6, c6, e3, hO6⟩ := i7 rfl
          obtain ⟨a7, c7, e7, hO7⟩ := i8 rfl
          obtain ⟨b8, cs8, e8, e3', h8⟩ := i12 rfl
          obtain ⟨b9, cs9, e9, e7', h9⟩ := i13 rfl
          rw [e3] at e3'
          injection e3' with e3'
          subst e3'
          rw [e7] at e7'
          injection e7' with e7'
          subst e7'
          clear i1 i2 i3 i4 i5 i6 i7 i8 i9 i10 i11 i12 i13 i14 i15
          simp only [putL, List.foldl, List.setIfInBounds_toArray, List.set_cons_zero, List.set_cons_succ, e0, e1, e2, e3, e4, e5, e6, e7, e8, e9]
          clear e0 e1 e2 e3 e4 e5 e6 e7 e8 e9
          have hR6 : oa.roots.length ≤ 2097152 := Nat.le_trans (by rw [← Hoa.out]; exact specB_roots t path x) (by have := hI.1; have := hI.2.1; omega)
          have hR7 : ob.roots.length ≤ 2097152 := Nat.le_trans (by rw [← Hob.out]; exact specB_roots u path x) (by have := hI.1; have := hI.2.1; omega)
          have hI6 := SpecAt.ints hO6 hR6
          have hI7 := SpecAt.ints hO7 hR7
          obtain ⟨q8, p8, _⟩ := Bx.out ⟨_, h8⟩
          obtain ⟨q9, p9, _⟩ := Bx.out ⟨_, h9⟩
          have x0 := p8 0
          have x1 := p8 1
          have x2 := p8 2
          have y0 := p9 0
          have y1 := p9 1
          have y2 := p9 2
          have hXW := (hX5.trans hX).trans i0
          have z0 := (i0.cell (p := ⟨w.heap.size, 0, none⟩) lt5).trans t5
          have z1 := (i0.cell (p := ⟨w.heap.size + 1, 0, none⟩) lu5).trans u5
          have lz0 := Nat.lt_of_lt_of_le lt5 i0.size
          have lz1 := Nat.lt_of_lt_of_le lu5 i0.size
          clear p8 p9 hO6 hO7 h8 h9 t5 u5 hc hTk hUk lt5 lu5
          by_cases k1 : oa.kind = ob.kind
          case neg =>
            go_wp2
            go_ret
            exact ⟨ret_boolW (Hno.out (by simp [sameSp, k1])).symm, hXW.trans (by (repeat (first | with_reducible exact X.refl _ | with_reducible assumption | with_reducible refine X.setCell ?_ (by first | (simp; done) | (simp; omega)) _ | with_reducible refine X.ext ?_ _ | with_reducible refine X.alloc ?_ _ | with_reducible refine X.drew ?_)))⟩
          go_wp2_with fail
          refine (EqInts_c oa.roots ob.roots _ _ _ _ _ _ _ _ W hI6 hI7).mono ?_
          rintro _ w6 ⟨rfl, z6, rfl⟩
          by_cases k2 : oa.roots = ob.roots
          case neg =>
            rw [decide_eq_false k2]
            go_wp2
            go_ret
            exact ⟨ret_boolW (Hno.out (by simp [sameSp, k2])).symm, hXW.trans (by (repeat (first | with_reducible exact X.refl _ | with_reducible assumption | with_reducible refine X.setCell ?_ (by first | (simp; done) | (simp; omega)) _ | with_reducible refine X.ext ?_ _ | with_reducible refine X.alloc ?_ _ | with_reducible refine X.drew ?_)))⟩
          rw [decide_eq_true k2]
          cases k3 : decide (oa.file < 0) <;> cases k4 : decide (ob.file < 0)
          case false.true | true.false =>
            have p3 := k3
            have p4 := k4
            simp only [decide_eq_true_eq, decide_eq_false_iff_not] at p3 p4
            go_wp2
            go_ret
            exact ⟨ret_boolW (Hno.out (by simp [sameSp, k3, k4])).symm, hXW.trans (by (repeat (first | with_reducible exact X.refl _ | with_reducible assumption | with_reducible refine X.setCell ?_ (by first | (simp; done) | (simp; omega)) _ | with_reducible refine X.ext ?_ _ | with_reducible refine X.alloc ?_ _ | with_reducible refine X.drew ?_)))⟩
          case true.true =>
            have hsm : sameSp t u oa ob = true := by simp [sameSp, k1, k2, k3, k4]
            have p3 := k3
            have p4 := k4
            simp only [decide_eq_true_eq] at p3 p4
            have p5 : decide ((0 : Int) ≤ oa.file) = false := by simp; omega
            go_wp2
            refine wp_region_grow (by kernel_rfl) (by kernel_rfl) ?_
            repeat (go_big_quiet_step ((fail)))
            refine wpQuiet_nil ?_
            rintro _ ⟨y, rfl⟩
            go_wp2
            go_roundw
            case rel => exact ⟨k + 1, by omega, by go_num, by rw [Hnx.out, hall, hsm]; rfl, hX.trans (i0.trans (by (repeat (first | exact X.refl _ | assumption | refine X.ext ?_ _ | refine X.alloc ?_ _ | refine X.drew ?_))))⟩
            case measure => simp [intOf]; omega
          case false.false =>
            have hsm : sameSp t u oa ob = sameP (nth t oa.file.toNat) (nth u ob.file.toNat) := by simp [sameSp, k1, k2, k3, k4]
            have p3 := k3
            have p4 := k4
            simp only [decide_eq_false_iff_not] at p3 p4
            obtain ⟨ia, ea⟩ := hfa.out (by omega)
            obtain ⟨ib, eb⟩ := hfb.out (by omega)
            have hlt1 := hF.len.1
            have hlt2 := hU.len.1
            obtain ⟨f1, o1, y1', yn1, yc1, rfl, _, hf1, _, _, _, g0, g1, g2, g3, g4', g5⟩ := (hF.mono (hXW.fr _)).at_ (k := oa.file.toNat) (by omega)
            obtain ⟨f2, o2, y2', yn2, yc2, rfl, _, hf2, _, _, _, j0, j1, j2, j3, j4, j5⟩ := (hU.mono (hXW.fr _)).at_ (k := ob.file.toNat) (by omega)
            have r1 : (0 : Int) ≤ (oa.file.toNat : Int) := by omega
            have r2 : (oa.file.toNat : Int) < (n : Int) := by omega
            have r3 : (0 : Int) ≤ (ob.file.toNat : Int) := by omega
            have r4 : (ob.file.toNat : Int) < (n' : Int) := by omega
            have r5 : ¬ (oa.file.toNat : Int) < 0 := by omega
            rw [← ea] at x1
            rw [← eb] at y1
            clear hlt1 hlt2
            cases hsp : sameP (nth t oa.file.toNat) (nth u ob.file.toNat)
            all_goals
              rw [hsp] at hsm
              go_wp2
              refine wp_region_grow (by kernel_rfl) (by kernel_rfl) ?_
              repeat (go_big_quiet_step ((go_at_call 41; refine grow_of (samePlace_c _ _ _ _ _))))
              refine wpQuiet_nil ?_
              rintro _ ⟨y, rfl⟩
              go_wp2
            · go_ret
              exact ⟨ret_boolW (Hno.out hsm).symm, hXW.trans (by (repeat (first | exact X.refl _ | assumption | refine X.ext ?_ _ | refine X.alloc ?_ _ | refine X.drew ?_)))⟩
            · go_roundw
              case rel => exact ⟨k + 1, by omega, by go_num, by rw [Hnx.out, hall, hsm]; rfl, hX.trans (i0.trans (by (repeat (first | exact X.refl _ | assumption | refine X.ext ?_ _ | refine X.alloc ?_ _ | refine X.drew ?_))))⟩
              case measure => simp [intOf]; omega
      · obtain rfl : k = m := by omega
        have hvt : V = true := by
          rw [← HVa.out, ← hall, List.take_of_length_le (by rw [Hm.out]; exact Nat.le_refl _)]
        go_wp2
        go_ret
        exact ⟨ret_boolW hvt.symm, hX5.trans hX⟩
  · rw [decide_eq_false hNM]
    obtain rfl : V = false := by
      rw [← HV.out]
      simp [hNM]
    go_wp2
    go_ret
    exact ⟨rfl, hX5⟩

end Go.Proofs.YtijcdnaammbomaaGreatDoor
