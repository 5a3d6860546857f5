/- Files that are found are of their modules: the plain law. No condition. -/
import Derived.Test.YtjklpfgjimbabaaDoorSpecLaws
namespace Go.Proofs.YtjklpfgjimbabaaDoor
open Go.RowKit

theorem findGo_sub (l : List Fi) (p s : List UInt8) (R : List Int) : ∀ (path acc : List Int), (∀ x ∈ path, x ∈ R) → (∀ x ∈ acc, x ∈ R) → ∀ x ∈ (findGo l p s path acc).roots, x ∈ R
  | [], acc, _, ha => by
    unfold findGo
    split
    · simp [noneSp]
    · exact ha
  | r :: rs, acc, hp, ha => by
    unfold findGo
    split
    · intro x hx
      obtain rfl : x = r := by simpa using hx
      exact hp x (by simp)
    · split
      · simp
      · refine findGo_sub l p s R rs _ (fun x hx => hp x (by simp [hx])) ?_
        split
        · intro x hx
          rcases List.mem_append.1 hx with hx | hx
          · exact ha x hx
          · obtain rfl : x = r := by simpa using hx
            exact hp x (by simp)
        · exact ha
/-- The file of a Spec is of the module m. -/
def FileOf (l : List Fi) (path : List Int) (m : List UInt8) (o : Sp) : Prop := 0 ≤ o.file → ∃ j, j < l.length ∧ o.file = (j : Int) ∧ moduleB (nth l j) = m ∧ (nth l j).root ∈ path ∧ ((nth l j).init = true ↔ o.kind = 2)
theorem findF_file (l : List Fi) (path roots : List Int) (p s : List UInt8) (hsub : ∀ x ∈ roots, x ∈ path) : FileOf l path (childL p s) (findF l roots p s) := by
  intro h
  obtain ⟨k, hk, _, hh, e⟩ := findGo_hit (acc := []) h
  obtain ⟨j, hj, f1, f2, f3, f4, _⟩ := oneF_file hh
  exact ⟨j, hj, by rw [findF, e, f1], f3, by rw [f2]; exact hsub _ (nth_mem hk), by rw [f4, findF, e]⟩
theorem specGo_file (l : List Fi) (path : List Int) : ∀ (ps : List (List UInt8)) (p : List UInt8) (o : Sp), (∀ x ∈ o.roots, x ∈ path) → FileOf l path p o → FileOf l path (ps.foldl childL p) (specGo l ps p o)
  | [], _, _, _, h => h
  | q :: qs, p, o, hs, _ => by
    unfold specGo
    split
    · exact specGo_file l path qs _ _ (findGo_sub l p q path o.roots [] hs (by simp)) (findF_file l path o.roots p q hs)
    · intro h; exact absurd h (by simp [noneSp])
theorem foldl_pfx {s : List UInt8} (h : nameB s = true) : ∀ k, k ≤ (splitL 46 s).length → ((splitL 46 s).take k).foldl childL [] = pfx s k
  | 0, _ => by rw [pfx_zero]; simp
  | k + 1, hk => by rw [take_succ_nth (by omega), List.foldl_append, foldl_pfx h k (by omega), List.foldl_cons, List.foldl_nil, pfx_succ h (by omega)]
theorem foldl_name {s : List UInt8} (h : nameB s = true) : (splitL 46 s).foldl childL [] = s := by
  have := foldl_pfx h _ (Nat.le_refl _)
  rwa [List.take_length, pfx_all (Nat.le_refl _)] at this
theorem specFile_law {l : List Fi} {path : List Int} {s : List UInt8} (h : 0 ≤ (specB l path s).file) :
    ∃ j, j < l.length ∧ (specB l path s).file = (j : Int) ∧ moduleOf (nth l j) = s ∧ (nth l j).root ∈ path ∧ (nth l j).init = ((specB l path s).kind == 2) := by
  cases hv : (treeB l && pathB path && nameB s)
  · rw [specB, hv] at h; simp [noneSp] at h
  · have e : specB l path s = specF l path s := by rw [specB, hv]; rfl
    rw [e] at h ⊢
    simp only [Bool.and_eq_true] at hv
    obtain ⟨⟨v1, v2⟩, v3⟩ := hv
    obtain ⟨j, hj, f1, f2, f3, f4⟩ := specGo_file l path (splitL 46 s) [] ⟨3, -1, path⟩ (fun x hx => hx) (fun h => absurd h (by simp)) h
    refine ⟨j, hj, f1, ?_, f3, ?_⟩
    · rw [moduleOf, treeB_file v1 hj, if_pos rfl, f2, foldl_name v3]
    · rw [Bool.eq_iff_iff, f4, specF]; simp

theorem equalSpec_one (r : Sp) (a a' : Option Addr) (c c' B B' : Nat) (w : World) (hL : IntsAt w B a r.roots.length r.roots) (hM : IntsAt w B' a' r.roots.length r.roots) :
    Calls Tryd.prog 13 #[.agg #[.int .i64 r.kind, .int .i64 r.file, .slice a r.roots.length c], .agg #[.int .i64 r.kind, .int .i64 r.file, .slice a' r.roots.length c']] w fun e w' => e = .returned (.bool true) ∧ X w w' :=
  (equalSpec_c r r a a' c c' B B' w hL hM).mono fun _ _ ⟨h, hx⟩ => ⟨by rw [h]; simp, hx⟩
set_option maxHeartbeats 400000 in
theorem isIn_c (l : List Int) (a : Option Addr) (n c B : Nat) (x : Int) (w : World) (hI : IntsAt w B a n l) :
    Calls Tryd.prog 28 #[.slice a n c, .int .i64 x] w fun e w' => e = .returned (.bool (decide (x ∈ l))) ∧ X w w' := by
  have hn := hI.2.1
  have hl := hI.1
  have Hl := Lib.hid hl
  clear hl
  go_enter Tryd.func28, Tryd.ntmps28
  go_wp2
  go_loop [5] (fun i => ∃ k : Nat, k ≤ n ∧ i = .int .i64 k ∧ anyN (fun k => nth l k == x) k = false) (fun i => n - (intOf i).toNat)
  case atStart => exact ⟨0, by omega, rfl, rfl⟩
  case round =>
    obtain ⟨k, hk, rfl, hno⟩ := hrel
    by_cases hlt : k < n
    · obtain ⟨b, off, rfl, _, hb, hc⟩ := hI.at_ hlt
      cases he : nth l k == x
      · go_wp2
        go_round
        case rel => exact ⟨k + 1, by omega, by go_num, anyN_next hno he⟩
        case measure => simp [intOf]; omega
      · have he' : nth l k = x := by simpa using he
        go_wp2
        go_ret
        exact ⟨ret_bool (by rw [eq_comm, decide_eq_true_iff, ← he']; exact nth_mem (by rw [← Hl.out]; exact hlt)), by (repeat (first | exact X.refl _ | assumption | refine X.ext ?_ _ | refine X.alloc ?_ _ | refine X.drew ?_))⟩
    · obtain rfl : k = n := by omega
      go_wp2
      go_ret
      refine ⟨ret_bool ?_, by (repeat (first | exact X.refl _ | assumption | refine X.ext ?_ _ | refine X.alloc ?_ _ | refine X.drew ?_))⟩
      rw [eq_comm, decide_eq_false_iff_not]
      intro hm
      obtain ⟨q, hq, e⟩ := List.getElem_of_mem hm
      have h1 := anyN_false.1 hno q (by rw [Hl.out]; exact hq)
      rw [nth_eq hq, e] at h1
      simp at h1

end Go.Proofs.YtjklpfgjimbabaaDoor
