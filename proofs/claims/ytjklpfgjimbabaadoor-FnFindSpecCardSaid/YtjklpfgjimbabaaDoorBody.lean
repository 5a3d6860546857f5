/- The generators of bodies. No condition but that the reader has not read too far. -/
import Derived.Test.YtjklpfgjimbabaaDoorDraw
namespace Go.Proofs.YtjklpfgjimbabaaDoor
open Go.RowKit

set_option maxRecDepth 100000 in
set_option maxHeartbeats 1000000 in
theorem someBody_c (rb m : Nat) (w : World) (hr : Rdr w rb m) (hm : m + 60 ≤ 1000000000) :
    Calls Tryd.prog 114 #[.pointer (some ⟨rb, 0, none⟩)] w fun e w' => ∃ (l : List St) (a : Option Addr) (c : Nat), e = .returned (.slice a l.length c) ∧ w'.ownsRow w.heap.size 83 5 (.slice a l.length c) l.length (l.flatMap scells) ∧
      (l.length ≤ 4 ∧ ∀ s ∈ l, s.mod.length ≤ 20 ∧ s.name.length ≤ 20) ∧ Rdr w' rb (m + 60) ∧ Y rb w w' := by
  have hlt := hr.lt
  have hown : (w.alloc (.cells #[] 83)).ownsRow w.heap.size 83 5 (.slice (some ⟨w.heap.size, 0, none⟩) 0 0) 0 [] := own_lit (cs := #[]) rfl (Nat.le_refl _) rfl (by omega)
  have hy : Y rb w (w.alloc (.cells #[] 83)) := Y.of_x (by (repeat (first | exact X.refl _ | assumption | refine X.ext ?_ _ | refine X.alloc ?_ _ | refine X.drew ?_)))
  replace hr : Rdr (w.alloc (.cells #[] 83)) rb m := hr.x (by (repeat (first | exact X.refl _ | assumption | refine X.ext ?_ _ | refine X.alloc ?_ _ | refine X.drew ?_)))
  go_enter Tryd.func114, Tryd.ntmps114
  go_wp2_with fail
  refine (pick_c rb _ _ _ hr (by omega) (by omega)).mono ?_
  rintro _ w1 ⟨k, rfl, hk, hr', hy'⟩
  replace hown := own_fr hown (hy'.fr.mono (by omega))
  replace hy := hy.trans ((Y.of_x (by (repeat (first | exact X.refl _ | assumption | refine X.ext ?_ _ | refine X.alloc ?_ _ | refine X.drew ?_)))).trans hy'); replace hr := hr'; clear hr' hy'
  go_wp2_with fail
  refine (one_c rb _ [2, 1, 3, 0, 4] _ _ _ (rb + 1) _ (hr.x (by (repeat (first | exact X.refl _ | assumption | refine X.ext ?_ _ | refine X.alloc ?_ _ | refine X.drew ?_)))) (by omega) (ints_lit rfl (by have := hr.lt; omega) rfl rfl (by decide)) (by omega) (by decide)).mono ?_
  rintro _ w2 ⟨n, rfl, hn, hr', hy'⟩
  replace hown := own_fr (own_fr hown (X.fr (X.alloc (X.refl _) _) _)) (hy'.fr.mono (by omega))
  replace hy := hy.trans ((Y.of_x (by (repeat (first | exact X.refl _ | assumption | refine X.ext ?_ _ | refine X.alloc ?_ _ | refine X.drew ?_)))).trans hy'); replace hr := hr'; clear hr' hy'
  obtain ⟨N, rfl, hN⟩ : ∃ N : Nat, n = N ∧ N ≤ 4 := ⟨n.toNat, by revert hn; simp only [List.mem_cons, List.mem_nil_iff, or_false]; omega, by revert hn; simp only [List.mem_cons, List.mem_nil_iff, or_false]; omega⟩
  clear hn
  clear hk
  go_wp2
  generalize ((k : Int) == 0) = pl

  cases pl
  · go_loopw [3, 5] (fun v i wr => ∃ (k : Nat) (l : List St) (a : Option Addr) (c : Nat), k ≤ N ∧ i = .int .i64 k ∧ v = .slice a l.length c ∧ l.length ≤ N - k ∧ (∀ s ∈ l, s.mod.length ≤ 20 ∧ s.name.length ≤ 20) ∧
        wr.ownsRow w.heap.size 83 5 (.slice a l.length c) l.length (l.flatMap scells) ∧ Rdr wr rb (m + 2 + (N - k) * 13) ∧ Y rb w wr) (fun _ i _ => (intOf i).toNat)
    case atStart => exact ⟨N, [], _, _, Nat.le_refl _, rfl, rfl, by simp, by simp, hown, hr.weak (by omega) (by omega), hy⟩
    case round =>
      obtain ⟨j, l, a, c, hj, rfl, rfl, hl, hok, hown, hr, hy⟩ := hrel
      by_cases h0 : 0 < j
      · go_wp2_with fail
        refine (someStmt_c rb _ _ hr (by omega)).mono ?_
        rintro _ w3 ⟨s, rfl, ⟨hs1, hs2⟩, hr', hy'⟩
        replace hown := own_fr hown (hy'.fr.mono (by omega))
        replace hy := hy.trans ((Y.of_x (by (repeat (first | exact X.refl _ | assumption | refine X.ext ?_ _ | refine X.alloc ?_ _ | refine X.drew ?_)))).trans hy'); replace hr := hr'; clear hr' hy'
        have hB := Bx.new w3 #[.int .i64 s.kind, .string ⟨(s.mod).toArray⟩, .int .i64 s.level, .string ⟨(s.name).toArray⟩, .int .i64 s.val] 83
        have hlt3 := hr.lt
        have hne : w3.heap.size ≠ rb := by omega
        have hw3 := hy.size
        have hX3 : Y rb w3 (w3.alloc (.cells #[.int .i64 s.kind, .string ⟨(s.mod).toArray⟩, .int .i64 s.level, .string ⟨(s.name).toArray⟩, .int .i64 s.val] 83)) := Y.of_x (by (repeat (first | exact X.refl _ | assumption | refine X.ext ?_ _ | refine X.alloc ?_ _ | refine X.drew ?_)))
        have Hpost := Lib.hid (show ∀ (t : St) (a' : Option Addr) (c' : Nat) (W : World), t.mod.length ≤ 20 ∧ t.name.length ≤ 20 → W.ownsRow w.heap.size 83 5 (.slice a' (l.length + 1) c') (l.length + 1) (l.flatMap scells ++ scells t) → Rdr W rb (m + 2 + (N - j) * 13 + 13) → Y rb w W →
            ∃ (l' : List St), l'.length = l.length + 1 ∧ l'.length ≤ N - (j - 1) ∧ (∀ s ∈ l', s.mod.length ≤ 20 ∧ s.name.length ≤ 20) ∧ W.ownsRow w.heap.size 83 5 (.slice a' l'.length c') l'.length (l'.flatMap scells) ∧ Rdr W rb (m + 2 + (N - (j - 1)) * 13) ∧ Y rb w W from
          fun t a' c' W ht ho hr hy => ⟨l ++ [t], by simp, by simp; omega, fun s hs => by
            rcases List.mem_append.1 hs with hs | hs
            · exact hok s hs
            · rw [List.mem_singleton.1 hs]; exact ht, by rw [flat_snoc, List.length_append]; exact ho, hr.weak (by omega) (by omega), hy⟩)
        go_wp2_with (at_builtin; refine wpList_append_y stmt_T rfl _ _ rfl (w0 := w) (rb := rb) (m := m + 2 + (N - j) * 13 + 13) (B := w.heap.size) (own_fr hown (X.fr (X.alloc (X.refl _) _) _)) rfl rfl (by simp) rfl ?_ ?_ ?_ (hr.weak2 (by (repeat (first | exact X.refl _ | assumption | refine X.ext ?_ _ | refine X.alloc ?_ _ | refine X.drew ?_))) (by omega) (by omega)) (hy.trans (Y.of_x (by (repeat (first | exact X.refl _ | assumption | refine X.ext ?_ _ | refine X.alloc ?_ _ | refine X.drew ?_))))) (Nat.le_refl _) hlt ?_ ?_)
        · simp [Value.oneCell']
        · omega
        · omega
        · simp; omega
        · intro a' c' w' ho hr' hy' _
          obtain ⟨l', hl', h1, h2, h3, h4, h5⟩ := Hpost.out s a' c' w' (by first | exact ⟨hs1, hs2⟩ | (constructor <;> simp)) (by simpa [scells] using ho) hr' hy'
          go_wp2
          go_roundw
          case rel => exact ⟨j - 1, l', a', c', by omega, by go_num, by rw [hl'], h1, h2, h3, h4, h5⟩
          case measure => simp [intOf]; omega
      · go_wp2
        go_ret
        exact ⟨l, a, c, rfl, hown, ⟨by omega, hok⟩, hr.weak (by omega) (by omega), hy⟩

  · go_loopw [3, 5] (fun v i wr => ∃ (k : Nat) (l : List St) (a : Option Addr) (c : Nat), k ≤ N ∧ i = .int .i64 k ∧ v = .slice a l.length c ∧ l.length ≤ N - k ∧ (∀ s ∈ l, s.mod.length ≤ 20 ∧ s.name.length ≤ 20) ∧
        wr.ownsRow w.heap.size 83 5 (.slice a l.length c) l.length (l.flatMap scells) ∧ Rdr wr rb (m + 2 + (N - k) * 13) ∧ Y rb w wr) (fun _ i _ => (intOf i).toNat)
    case atStart => exact ⟨N, [], _, _, Nat.le_refl _, rfl, rfl, by simp, by simp, hown, hr.weak (by omega) (by omega), hy⟩
    case round =>
      obtain ⟨j, l, a, c, hj, rfl, rfl, hl, hok, hown, hr, hy⟩ := hrel
      by_cases h0 : 0 < j
      · go_wp2_with fail
        refine (someStmt_c rb _ _ hr (by omega)).mono ?_
        rintro _ w3 ⟨s, rfl, ⟨hs1, hs2⟩, hr', hy'⟩
        replace hown := own_fr hown (hy'.fr.mono (by omega))
        replace hy := hy.trans ((Y.of_x (by (repeat (first | exact X.refl _ | assumption | refine X.ext ?_ _ | refine X.alloc ?_ _ | refine X.drew ?_)))).trans hy'); replace hr := hr'; clear hr' hy'
        have hB := Bx.new w3 #[.int .i64 s.kind, .string ⟨(s.mod).toArray⟩, .int .i64 s.level, .string ⟨(s.name).toArray⟩, .int .i64 s.val] 83
        have hlt3 := hr.lt
        have hne : w3.heap.size ≠ rb := by omega
        have hw3 := hy.size
        have hX3 : Y rb w3 (w3.alloc (.cells #[.int .i64 s.kind, .string ⟨(s.mod).toArray⟩, .int .i64 s.level, .string ⟨(s.name).toArray⟩, .int .i64 s.val] 83)) := Y.of_x (by (repeat (first | exact X.refl _ | assumption | refine X.ext ?_ _ | refine X.alloc ?_ _ | refine X.drew ?_)))
        have Hpost := Lib.hid (show ∀ (t : St) (a' : Option Addr) (c' : Nat) (W : World), t.mod.length ≤ 20 ∧ t.name.length ≤ 20 → W.ownsRow w.heap.size 83 5 (.slice a' (l.length + 1) c') (l.length + 1) (l.flatMap scells ++ scells t) → Rdr W rb (m + 2 + (N - j) * 13 + 13) → Y rb w W →
            ∃ (l' : List St), l'.length = l.length + 1 ∧ l'.length ≤ N - (j - 1) ∧ (∀ s ∈ l', s.mod.length ≤ 20 ∧ s.name.length ≤ 20) ∧ W.ownsRow w.heap.size 83 5 (.slice a' l'.length c') l'.length (l'.flatMap scells) ∧ Rdr W rb (m + 2 + (N - (j - 1)) * 13) ∧ Y rb w W from
          fun t a' c' W ht ho hr hy => ⟨l ++ [t], by simp, by simp; omega, fun s hs => by
            rcases List.mem_append.1 hs with hs | hs
            · exact hok s hs
            · rw [List.mem_singleton.1 hs]; exact ht, by rw [flat_snoc, List.length_append]; exact ho, hr.weak (by omega) (by omega), hy⟩)
        go_wp2_with (at_builtin; refine wpList_append_y stmt_T rfl _ _ rfl (w0 := w) (rb := rb) (m := m + 2 + (N - j) * 13 + 13) (B := w.heap.size) (own_fr hown (X.fr (X.alloc (X.refl _) _) _)) rfl rfl (by simp) rfl ?_ ?_ ?_ (hr.weak2 (by (repeat (first | exact X.refl _ | assumption | refine X.ext ?_ _ | refine X.alloc ?_ _ | refine X.drew ?_))) (by omega) (by omega)) (hy.trans (Y.of_x (by (repeat (first | exact X.refl _ | assumption | refine X.ext ?_ _ | refine X.alloc ?_ _ | refine X.drew ?_))))) (Nat.le_refl _) hlt ?_ ?_)
        · refine (pick_c rb _ _ _ (hr.x (by (repeat (first | exact X.refl _ | assumption | refine X.ext ?_ _ | refine X.alloc ?_ _ | refine X.drew ?_)))) (by omega) (by omega)).mono ?_
          rintro _ w4 ⟨k2, rfl, hk2, hr', hy'⟩
          have hB4 := Bx.y (Bx.new w3 _ _) hy' hne
          obtain ⟨hb, hc, hf⟩ := hB4.out
          have hy3 : Y rb w3 w4 := (Y.of_x (by (repeat (first | exact X.refl _ | assumption | refine X.ext ?_ _ | refine X.alloc ?_ _ | refine X.drew ?_)))).trans hy'
          replace hy := hy.trans ((Y.of_x (by (repeat (first | exact X.refl _ | assumption | refine X.ext ?_ _ | refine X.alloc ?_ _ | refine X.drew ?_)))).trans hy'); replace hr := hr'; clear hr' hy'
          go_wp2_with (at_builtin; refine wpList_append_y stmt_T rfl _ _ rfl (w0 := w) (rb := rb) (m := m + 2 + (N - j) * 13 + 13) (B := w.heap.size) (own_fr hown ((Y.fr (rb := rb) (by (repeat (first | refine Y.set2 ?_ (Nat.le_refl _) _ | exact hy3)))).mono (by omega))) rfl rfl (by simp) rfl ?_ ?_ ?_ ((by (repeat (first | refine Rdr.set2 ?_ (by first | exact hlt | exact (Nat.lt_of_lt_of_le hlt hw4) | omega) _ | (refine Rdr.weak hr (by omega) (by omega)))))) ((by (repeat (first | refine Y.set2 ?_ (by first | exact Nat.le_refl _ | exact hw4 | omega) _ | exact hy)))) (Nat.le_refl _) hlt ?_ ?_)
          · simp [Value.oneCell']
          · omega
          · omega
          · simp; omega
          · intro a' c' w' ho hr' hy' _
            obtain ⟨l', hl', h1, h2, h3, h4, h5⟩ := Hpost.out ⟨3, [], 0, [121], _⟩ a' c' w' (by first | exact ⟨hs1, hs2⟩ | (constructor <;> simp)) (by simpa [scells] using ho) hr' hy'
            go_wp2
            go_roundw
            case rel => exact ⟨j - 1, l', a', c', by omega, by go_num, by rw [hl'], h1, h2, h3, h4, h5⟩
            case measure => simp [intOf]; omega
        · refine (pick_c rb _ _ _ (hr.x (by (repeat (first | exact X.refl _ | assumption | refine X.ext ?_ _ | refine X.alloc ?_ _ | refine X.drew ?_)))) (by omega) (by omega)).mono ?_
          rintro _ w4 ⟨k2, rfl, hk2, hr', hy'⟩
          have hB4 := Bx.y (Bx.new w3 _ _) hy' hne
          obtain ⟨hb, hc, hf⟩ := hB4.out
          have hy3 : Y rb w3 w4 := (Y.of_x (by (repeat (first | exact X.refl _ | assumption | refine X.ext ?_ _ | refine X.alloc ?_ _ | refine X.drew ?_)))).trans hy'
          replace hy := hy.trans ((Y.of_x (by (repeat (first | exact X.refl _ | assumption | refine X.ext ?_ _ | refine X.alloc ?_ _ | refine X.drew ?_)))).trans hy'); replace hr := hr'; clear hr' hy'
          go_wp2_with (at_builtin; refine wpList_append_y stmt_T rfl _ _ rfl (w0 := w) (rb := rb) (m := m + 2 + (N - j) * 13 + 13) (B := w.heap.size) (own_fr hown ((Y.fr (rb := rb) (by (repeat (first | refine Y.set2 ?_ (Nat.le_refl _) _ | exact hy3)))).mono (by omega))) rfl rfl (by simp) rfl ?_ ?_ ?_ ((by (repeat (first | refine Rdr.set2 ?_ (by first | exact hlt | exact (Nat.lt_of_lt_of_le hlt hw4) | omega) _ | (refine Rdr.weak hr (by omega) (by omega)))))) ((by (repeat (first | refine Y.set2 ?_ (by first | exact Nat.le_refl _ | exact hw4 | omega) _ | exact hy)))) (Nat.le_refl _) hlt ?_ ?_)
          · simp [Value.oneCell']
          · omega
          · omega
          · simp; omega
          · intro a' c' w' ho hr' hy' _
            obtain ⟨l', hl', h1, h2, h3, h4, h5⟩ := Hpost.out ⟨3, [], 0, [121], _⟩ a' c' w' (by first | exact ⟨hs1, hs2⟩ | (constructor <;> simp)) (by simpa [scells] using ho) hr' hy'
            go_wp2
            go_roundw
            case rel => exact ⟨j - 1, l', a', c', by omega, by go_num, by rw [hl'], h1, h2, h3, h4, h5⟩
            case measure => simp [intOf]; omega
        · refine (pick_c rb _ _ _ (hr.x (by (repeat (first | exact X.refl _ | assumption | refine X.ext ?_ _ | refine X.alloc ?_ _ | refine X.drew ?_)))) (by omega) (by omega)).mono ?_
          rintro _ w4 ⟨k2, rfl, hk2, hr', hy'⟩
          have hB4 := Bx.y (Bx.new w3 _ _) hy' hne
          obtain ⟨hb, hc, hf⟩ := hB4.out
          have hy3 : Y rb w3 w4 := (Y.of_x (by (repeat (first | exact X.refl _ | assumption | refine X.ext ?_ _ | refine X.alloc ?_ _ | refine X.drew ?_)))).trans hy'
          replace hy := hy.trans ((Y.of_x (by (repeat (first | exact X.refl _ | assumption | refine X.ext ?_ _ | refine X.alloc ?_ _ | refine X.drew ?_)))).trans hy'); replace hr := hr'; clear hr' hy'
          go_wp2_with (at_builtin; refine wpList_append_y stmt_T rfl _ _ rfl (w0 := w) (rb := rb) (m := m + 2 + (N - j) * 13 + 13) (B := w.heap.size) (own_fr hown ((Y.fr (rb := rb) (by (repeat (first | refine Y.set2 ?_ (Nat.le_refl _) _ | exact hy3)))).mono (by omega))) rfl rfl (by simp) rfl ?_ ?_ ?_ ((by (repeat (first | refine Rdr.set2 ?_ (by first | exact hlt | exact (Nat.lt_of_lt_of_le hlt hw4) | omega) _ | (refine Rdr.weak hr (by omega) (by omega)))))) ((by (repeat (first | refine Y.set2 ?_ (by first | exact Nat.le_refl _ | exact hw4 | omega) _ | exact hy)))) (Nat.le_refl _) hlt ?_ ?_)
          · simp [Value.oneCell']
          · omega
          · omega
          · simp; omega
          · intro a' c' w' ho hr' hy' _
            obtain ⟨l', hl', h1, h2, h3, h4, h5⟩ := Hpost.out ⟨3, [], 0, [121], _⟩ a' c' w' (by first | exact ⟨hs1, hs2⟩ | (constructor <;> simp)) (by simpa [scells] using ho) hr' hy'
            go_wp2
            go_roundw
            case rel => exact ⟨j - 1, l', a', c', by omega, by go_num, by rw [hl'], h1, h2, h3, h4, h5⟩
            case measure => simp [intOf]; omega
        · simp [Value.oneCell']
        · omega
        · omega
        · simp; omega
        · intro a' c' w' ho hr' hy' _
          obtain ⟨l', hl', h1, h2, h3, h4, h5⟩ := Hpost.out s a' c' w' (by first | exact ⟨hs1, hs2⟩ | (constructor <;> simp)) (by simpa [scells] using ho) hr' hy'
          go_wp2
          go_roundw
          case rel => exact ⟨j - 1, l', a', c', by omega, by go_num, by rw [hl'], h1, h2, h3, h4, h5⟩
          case measure => simp [intOf]; omega
      · go_wp2
        go_ret
        exact ⟨l, a, c, rfl, hown, ⟨by omega, hok⟩, hr.weak (by omega) (by omega), hy⟩

end Go.Proofs.YtjklpfgjimbabaaDoor
