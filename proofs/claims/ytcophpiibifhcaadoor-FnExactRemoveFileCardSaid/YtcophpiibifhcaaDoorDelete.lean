/- One element of a row of files is taken out: slices.Delete of the library. No condition but lengths. -/
import Derived.Test.YtcophpiibifhcaaDoorClone
import Derived.Lib.SliceRun
import Derived.Deep.RegionLaw
namespace Go.Proofs.YtcophpiibifhcaaDoor
open Go.RowKit

/-- Cells written one behind the other. -/
def setL : List Value → Nat → List Value → List Value
  | xs, _, [] => xs
  | xs, o, v :: r => setL (xs.set o v) (o + 1) r
theorem own_setCells {B e size n c g : Nat} : ∀ (vs : List Value) (o : Nat) (w : World) (xs : List Value), w.ownsRow B e size (.slice (some ⟨g, 0, none⟩) n c) n xs → (w.setCells g o vs).ownsRow B e size (.slice (some ⟨g, 0, none⟩) n c) n (setL xs o vs)
  | [], _, _, _, h => h
  | v :: r, o, w, xs, h => by
    rw [World.setCells, setL]
    exact own_setCells r (o + 1) _ _ (own_set h v)
theorem grown_setCells {g : Nat} {w0 : World} : ∀ (vs : List Value) (o : Nat) (w : World), w0.grownBy w (some g) → w0.grownBy (w.setCells g o vs) (some g)
  | [], _, _, h => h
  | v :: r, o, w, h => by
    rw [World.setCells]
    exact grown_setCells r (o + 1) _ (grown_next h o v)
theorem setL_mid : ∀ (vs A M R : List Value), M.length = vs.length → setL (A ++ (M ++ R)) A.length vs = A ++ (vs ++ R)
  | [], A, M, R, h => by
    have : M = [] := List.length_eq_zero_iff.1 h
    subst this; rfl
  | v :: vs, A, m :: M, R, h => by
    rw [setL]
    have h0 := set_off (A := A) (Z := (m :: M) ++ R) 0 v
    rw [Nat.add_zero] at h0
    rw [h0]
    have h1 := setL_mid vs (A ++ [v]) M R (by simpa using h)
    simp only [List.length_append, List.length_singleton, List.append_assoc, List.singleton_append] at h1
    simpa using h1
theorem setL_take : ∀ (vs : List Value) (o : Nat) (xs : List Value), (setL xs o vs).take o = xs.take o
  | [], _, _ => rfl
  | v :: r, o, xs => by
    rw [setL]
    have h := setL_take r (o + 1) (xs.set o v)
    have h2 := congrArg (List.take o) h
    rw [List.take_take, List.take_take, Nat.min_eq_left (by omega)] at h2
    rw [h2, List.take_set_of_le (by omega)]
theorem own_short {w : World} {B e size n c g m : Nat} {xs : List Value} (h : w.ownsRow B e size (.slice (some ⟨g, 0, none⟩) n c) n xs) (hm : m ≤ n) : w.ownsRow B e size (.slice (some ⟨g, 0, none⟩) m c) m (xs.take (m * size)) := by
  have hms : m * size ≤ n * size := Nat.mul_le_mul_right size hm
  obtain ⟨hl, h1 | ⟨g', cap, cur, hv, hB, hg, hn, hcap, hsz, hx⟩⟩ := h
  · injection h1.1 with h1; cases h1
  · injection hv with h1 _ h2
    injection h1 with h1
    injection h1 with h1
    subst h1 h2
    refine ⟨by rw [List.length_take, hl]; exact Nat.min_eq_left hms, .inr ⟨g, c, cur, rfl, hB, hg, Nat.le_trans hm hn, hcap, hsz, ?_⟩⟩
    rw [← hx, List.take_take, Nat.min_eq_left hms]
/-- A row without its element i, when the ones behind have been moved. -/
theorem moved {xs : List Value} {n i s : Nat} (hl : xs.length = n * s) (hi : i < n) : (setL xs (i * s) (xs.drop ((i + 1) * s))).take ((n - 1) * s) = xs.take (i * s) ++ xs.drop ((i + 1) * s) := by
  obtain ⟨m, rfl⟩ : ∃ m, n = i + 1 + m := ⟨n - (i + 1), by omega⟩
  have hA : (xs.take (i * s)).length = i * s := by rw [List.length_take, hl]; exact Nat.min_eq_left (Nat.mul_le_mul_right s (by omega))
  have hN : (xs.drop ((i + 1) * s)).length = m * s := by rw [List.length_drop, hl, Nat.add_mul (i + 1) m s]; omega
  have hD : (xs.drop (i * s)).length = s + m * s := by rw [List.length_drop, hl, Nat.add_mul (i + 1) m s, Nat.add_mul i 1 s]; omega
  have e : xs = xs.take (i * s) ++ ((xs.drop (i * s)).take (m * s) ++ (xs.drop (i * s)).drop (m * s)) := by rw [List.take_append_drop, List.take_append_drop]
  have h := setL_mid (xs.drop ((i + 1) * s)) (xs.take (i * s)) ((xs.drop (i * s)).take (m * s)) ((xs.drop (i * s)).drop (m * s)) (by rw [List.length_take, hD, hN]; omega)
  rw [← e, hA] at h
  rw [h, ← List.append_assoc]
  have hL : (xs.take (i * s) ++ xs.drop ((i + 1) * s)).length = (i + 1 + m - 1) * s := by
    rw [List.length_append, hA, hN, ← Nat.add_mul]
    congr 1
    omega
  rw [← hL, List.take_left]
theorem run_clear_one {P : Program} (w : World) (t e ty : TypeId) (z : Value) (ht : P.underlying t = some (.slice e)) (hv : ∀ w, (zeroValue e).run P w = .ok z w) (h1 : ∀ v ∈ z.cells.toList, v.oneCell' = true) (b o c : Nat)
    (hc : ∀ j, j < z.cells.toList.length → (w.cell? ⟨b, o + j, none⟩).isSome = true) (hf : ∀ j, j < z.cells.toList.length → w.frozen? ⟨b, o + j, none⟩ = false) :
    (Builtin.clear_ #[t] ty #[.slice (some ⟨b, o, none⟩) 1 c]).run P w = .ok (.tuple #[]) (w.setCells b o z.cells.toList) := by
  have hzc : (Builtin.zeroCells z.cells 1).toList = z.cells.toList := by
    apply List.ext_getElem
    · simp [Builtin.zeroCells]
    · intro i h1 h2
      have h3 : i < z.cells.size := by simpa using h2
      simp [Builtin.zeroCells, Nat.mod_eq_of_lt h3, getElem!_pos, h3]
  have hst := run_storeCells_cells (P := P) b o z.cells.toList 0 w (by simpa using hc) (by simpa using hf) h1
  simp only [Nat.add_zero] at hst
  simp [Builtin.clear_, run_underlying ht, hv, hzc, hst]

theorem zero_file (w : World) : (zeroValue 76).run Tryd.prog w = .ok (.agg #[.int .i64 0, .string ⟨#[]⟩, .string ⟨#[]⟩, .bool false, .int .i64 0, .slice none 0 0]) w := by kernel_rfl
def zcells : List Value := [.int .i64 0, .string ⟨#[]⟩, .string ⟨#[]⟩, .bool false, .int .i64 0, .slice none 0 0]
theorem row_one {n c g : Nat} {w : World} {B : Nat} {xs : List Value} (h : w.ownsRow B 76 6 (.slice (some ⟨g, 0, none⟩) n c) n xs) {j : Nat} (hj : j < n * 6) : (w.cell? ⟨g, j, none⟩).isSome = true ∧ w.frozen? ⟨g, j, none⟩ = false := by
  obtain ⟨u, hu⟩ := own_here h hj
  exact ⟨by rw [hu]; rfl, h.frozenAt j⟩
set_option maxRecDepth 100000 in
set_option maxHeartbeats 2000000 in
theorem Delete_c (xs : List Value) (g n c i B : Nat) (w : World) (h : w.ownsRow B 76 6 (.slice (some ⟨g, 0, none⟩) n c) n xs) (hx1 : ∀ u ∈ xs, u.oneCell' = true) (hi : i < n) (hn : n ≤ 2097152) (hnc : n ≤ c) :
    Calls Tryd.prog 62 #[.slice (some ⟨g, 0, none⟩) n c, .int .i64 (i : Int), .int .i64 ((i : Int) + 1)] w fun e w' => e = .returned (.slice (some ⟨g, 0, none⟩) (n - 1) c) ∧
      w'.ownsRow B 76 6 (.slice (some ⟨g, 0, none⟩) (n - 1) c) (n - 1) (xs.take (i * 6) ++ xs.drop ((i + 1) * 6)) ∧ w.grownBy w' (some g) := by
  have hl := h.1
  obtain ⟨i0, hi0, hz0, hz1, hz2⟩ := info_parts info_file
  obtain ⟨news, hnews⟩ : ∃ news, news = xs.drop ((i + 1) * 6) := ⟨_, rfl⟩
  have hlen : news.length = (n - (i + 1)) * 6 := by rw [hnews, List.length_drop, hl, Nat.sub_mul]
  obtain ⟨A, hA, hsrc0⟩ : ∃ A : Addr, (if c = i + 1 then some (⟨g, 0, none⟩ : Addr) else some ⟨g, (i + 1) * 6, none⟩) = some A ∧ ∀ t u, news[t]? = some u → w.drew.cell? (A.add t) = some u := by
    by_cases hc : c = i + 1
    · refine ⟨⟨g, 0, none⟩, by simp [hc], fun t u hu => ?_⟩
      have h0 : news.length = 0 := by rw [hlen]; omega
      rw [List.length_eq_zero_iff.1 h0] at hu
      simp at hu
    · refine ⟨⟨g, (i + 1) * 6, none⟩, by simp [hc], fun t u hu => ?_⟩
      have hadd : (⟨g, (i + 1) * 6, none⟩ : Addr).add t = ⟨g, (i + 1) * 6 + t, none⟩ := by unfold Addr.add; split <;> simp_all
      rw [hadd]
      show w.cell? _ = _
      rw [hnews, List.getElem?_drop] at hu
      exact row_cell h _ _ hu
  have hsrc := Lib.hid hsrc0
  clear hsrc0
  have s2 := Lib.hid (show ∀ u ∈ news, u.oneCell' = true from fun u hu => hx1 u (by rw [hnews] at hu; exact List.mem_of_mem_drop hu))
  have s3 := Lib.hid (show ∀ t, t < news.length → (w.drew.cell? ⟨g, 0 + i * 6 + t, none⟩).isSome = true ∧ w.drew.frozen? ⟨g, 0 + i * 6 + t, none⟩ = false from fun t ht => by
    rw [Nat.zero_add]
    exact row_one h (by rw [hlen] at ht; omega))
  obtain ⟨W1, hW1⟩ : ∃ W1, W1 = w.drew.setCells g (0 + i * 6) news := ⟨_, rfl⟩
  have hO1 : W1.ownsRow B 76 6 (.slice (some ⟨g, 0, none⟩) n c) n (setL xs (i * 6) news) := by
    rw [hW1, Nat.zero_add]
    exact own_setCells news (i * 6) _ xs h
  have hg1 : w.grownBy W1 (some g) := by
    rw [hW1]
    exact grown_setCells news _ _ ⟨rfl, rfl, rfl, Nat.le_refl _, fun _ _ _ => rfl⟩
  have hcl : ∀ ty cc, (Builtin.clear_ #[28] ty #[.slice (some ⟨g, (n - 1) * 6, none⟩) 1 cc]).run Tryd.prog W1 = .ok (.tuple #[]) (W1.setCells g ((n - 1) * 6) zcells) :=
    fun ty cc => run_clear_one W1 28 76 ty (.agg #[.int .i64 0, .string ⟨#[]⟩, .string ⟨#[]⟩, .bool false, .int .i64 0, .slice none 0 0]) Tryd.underlying28 zero_file (by simp [Value.cells, Value.oneCell']) g ((n - 1) * 6) cc
      (fun j hj => (row_one hO1 (by simp [Value.cells] at hj; omega)).1) (fun j hj => (row_one hO1 (by simp [Value.cells] at hj; omega)).2)
  have hmv := Lib.hid (show (setL xs (i * 6) news).take ((n - 1) * 6) = xs.take (i * 6) ++ xs.drop ((i + 1) * 6) by rw [hnews]; exact moved hl hi)
  have hW := Lib.hid hW1
  clear hW1 hnews
  have hic : i ≤ c := by omega
  have hjc : i + 1 ≤ c := by omega
  have hb0 : (0 : Int) ≤ (i : Int) + 1 := by omega
  have hb1 : (i : Int) + 1 ≤ (n : Int) := by omega
  go_enter Tryd.func62, Tryd.ntmps62
  go_wp2_with fail
  go_region_law (refine step_append_room rfl (.tmp 22) (.tmp 25) 28 rfl 76 i0 6 Tryd.underlying28 hi0 hz1 g 0 i c (by simp [Act.eval, Act.put]) A (n - (i + 1)) (c - (i + 1)) news (by simp [Act.eval, Act.put]) hlen hsrc.out s2.out (by omega) s3.out ?_; rw [← hW.out])
  rw [show i + (n - (i + 1)) = n - 1 by omega]
  have hm1 : n - 1 ≤ n := by omega
  have hm2 : n - 1 ≤ c := by omega
  have hm3 : ¬ c = n - 1 := by omega
  have hm4 : n - (n - 1) = 1 := by omega
  go_wp2
  go_ret
  refine ⟨rfl, ?_, grown_setCells zcells _ W1 hg1⟩
  have hO2 := own_short (own_setCells zcells ((n - 1) * 6) W1 _ hO1) hm1
  rw [setL_take, hmv.out] at hO2
  exact hO2

end Go.Proofs.YtcophpiibifhcaaDoor
