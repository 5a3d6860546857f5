/- The generators of trees. No condition but that the reader has not read too far. -/
import Derived.Test.YtjklpfgjimbabaaDoorRowk
namespace Go.Proofs.YtjklpfgjimbabaaDoor
open Go.RowKit

set_option maxRecDepth 100000 in
set_option maxHeartbeats 2000000 in
theorem someTree_c (rb m : Nat) (w : World) (hr : Rdr w rb m) (hm : m + 720 ≤ 1000000000) :
    Calls Tryd.prog 81 #[.pointer (some ⟨rb, 0, none⟩)] w fun e w' => ∃ (vs : List (Fi × Value)) (a : Option Addr) (c : Nat), e = .returned (.agg #[.slice a vs.length c]) ∧ TreeO w' w.heap.size a c vs ∧ vs.length ≤ 10 ∧ (∀ x ∈ vs, x.1.body.length ≤ 4) ∧
      Rdr w' rb (m + 720) ∧ Y rb w w' := by
  have hlt := hr.lt
  have hBr := Bx.new w #[.slice none 0 0] 25
  have hBt := Bx.new (w.alloc (.cells #[.slice none 0 0] 25)) #[.slice none 0 0] 25
  replace hBr := hBr.x (w' := (w.alloc (.cells #[.slice none 0 0] 25)).alloc (.cells #[.slice none 0 0] 25)) (by (repeat (first | exact X.refl _ | assumption | refine X.ext ?_ _ | refine X.alloc ?_ _ | refine X.drew ?_)))
  have hy : Y rb w ((w.alloc (.cells #[.slice none 0 0] 25)).alloc (.cells #[.slice none 0 0] 25)) := Y.of_x (by (repeat (first | exact X.refl _ | assumption | refine X.ext ?_ _ | refine X.alloc ?_ _ | refine X.drew ?_)))
  replace hr := hr.x (w' := (w.alloc (.cells #[.slice none 0 0] 25)).alloc (.cells #[.slice none 0 0] 25)) (by (repeat (first | exact X.refl _ | assumption | refine X.ext ?_ _ | refine X.alloc ?_ _ | refine X.drew ?_)))
  rw [World.size_alloc] at hBt
  have hner : w.heap.size ≠ rb := by omega
  have hnet : w.heap.size + 1 ≠ rb := by omega
  go_enter Tryd.func81, Tryd.ntmps81
  go_wp2_with fail
  refine (one_c rb _ [5, 4, 6, 3, 8, 1, 0, 10] _ _ _ (rb + 1) _ (hr.x (by (repeat (first | exact X.refl _ | assumption | refine X.ext ?_ _ | refine X.alloc ?_ _ | refine X.drew ?_)))) (by omega) (ints_lit (by simp) (by omega) rfl rfl (by decide)) (by omega) (by decide)).mono ?_
  rintro _ w1 ⟨n, rfl, hn, hr', hy'⟩
  replace hBr := (hBr.x (by (repeat (first | exact X.refl _ | assumption | refine X.ext ?_ _ | refine X.alloc ?_ _ | refine X.drew ?_)))).y hy' hner
  replace hBt := (hBt.x (by (repeat (first | exact X.refl _ | assumption | refine X.ext ?_ _ | refine X.alloc ?_ _ | refine X.drew ?_)))).y hy' hnet
  replace hy := hy.trans ((Y.of_x (by (repeat (first | exact X.refl _ | assumption | refine X.ext ?_ _ | refine X.alloc ?_ _ | refine X.drew ?_)))).trans hy'); replace hr := hr'; clear hr' hy'
  obtain ⟨N, rfl, hN⟩ : ∃ N : Nat, n = N ∧ N ≤ 10 := ⟨n.toNat, by revert hn; simp only [List.mem_cons, List.mem_nil_iff, or_false]; omega, by revert hn; simp only [List.mem_cons, List.mem_nil_iff, or_false]; omega⟩
  clear hn
  go_wp2
  go_loopw [4, 5] (fun i _ wr => ∃ (k : Nat) (vs : List (Fi × Value)) (a : Option Addr) (c : Nat), k ≤ N ∧ i = .int .i64 k ∧ vs.length ≤ N - k ∧ (∀ x ∈ vs, x.1.body.length ≤ 4) ∧ TreeO wr (w.heap.size + 2) a c vs ∧
        Bx wr w.heap.size #[.slice none 0 0] ∧ Bx wr (w.heap.size + 1) #[.slice a vs.length c] ∧ Rdr wr rb (m + 1 + (N - k) * 70) ∧ Y rb w wr) (fun i _ _ => (intOf i).toNat)
  case atStart => exact ⟨N, [], none, 0, Nat.le_refl _, rfl, by simp, by simp, TreeO.nil, hBr, hBt, hr.weak (by omega) (by omega), hy⟩
  case round =>
    obtain ⟨j, vs, a, c, hj, rfl, hl, h4, hT, hBr, hBt, hr, hy⟩ := hrel
    have hw := hy.size
    by_cases h0 : 0 < j
    · go_wp2_with fail
      refine (someFile_c rb _ _ hr (by omega)).mono ?_
      rintro _ w3 ⟨f, ba, bc, rfl, hown, ⟨hf1, hf2, hf3⟩, hr', hy'⟩
      have hltr := hBt.lt
      have hrow := hT.row
      have hne : ∀ y ∈ vs, y.2.ownBlock = none ∨ (Value.slice ba f.body.length bc).ownBlock = none ∨ (Value.slice ba f.body.length bc).ownBlock ≠ y.2.ownBlock := fun y hm => by
        obtain ⟨b1, c1, e1, h1⟩ := hT.body y hm
        rw [e1]
        exact row_far h1 rfl hown
      clear hrow
      replace hBr := hBr.y hy' hner
      replace hBt := hBt.y hy' hnet
      replace hT := hT.fr (hy'.fr.mono (by omega))
      replace hown := own_less hown (B' := w.heap.size + 2) (by omega)
      replace hy := hy.trans ((Y.of_x (by (repeat (first | exact X.refl _ | assumption | refine X.ext ?_ _ | refine X.alloc ?_ _ | refine X.drew ?_)))).trans hy'); replace hr := hr'; clear hr' hy'
      have hw3 := hy.size
      obtain ⟨hb, hc, hf⟩ := hBt.out
      go_wp2_with fail
      refine (fileAt_c (vs.map (·.1)) _ _ _ (w.heap.size + 2) f _ _ ((hT.fr (X.fr (by (repeat (first | exact X.refl _ | assumption | refine X.ext ?_ _ | refine X.alloc ?_ _ | refine X.drew ?_))) _)).files (by omega))).mono ?_
      rintro _ W ⟨rfl, hx⟩
      have hxx : X w3 W := X.trans (by (repeat (first | exact X.refl _ | assumption | refine X.ext ?_ _ | refine X.alloc ?_ _ | refine X.drew ?_))) hx
      have hBf := Bx.x (Bx.new w3 _ _) hx
      replace hBt := hBt.x hxx
      replace hBr := hBr.x hxx
      replace hT := hT.fr (hxx.fr _)
      replace hown := own_fr hown (hxx.fr _)
      replace hr := hr.x hxx
      replace hy := hy.trans (Y.of_x hxx)
      clear hb hc hf hx
      obtain ⟨hb, hc, hf⟩ := hBt.out
      obtain ⟨hb', hc', hf'⟩ := hBf.out
      generalize fidx (vs.map (·.1)) f = q
      have hwW := hy.size
      go_wp2_with (at_builtin; refine wpList_append_g file_T rfl _ _ rfl hT.row rfl rfl rfl rfl (by simp [Value.oneCell']) (by omega) (by omega) (by omega) ?_)
      · intro a' c' W2 hrow' hg'
        have hxl : Y rb w (W.alloc (.cells #[.int .i64 f.root, .string ⟨(f.pkg).toArray⟩, .string ⟨(f.name).toArray⟩, .bool f.init, .int .i64 f.stamp, .slice ba f.body.length bc] 39)) := hy.trans (Y.of_x (by (repeat (first | exact X.refl _ | assumption | refine X.ext ?_ _ | refine X.alloc ?_ _ | refine X.drew ?_))))
        have hT2 := TreeO.push (x := (f, .slice ba f.body.length bc)) (hT.fr (X.fr (X.alloc (X.refl _) _) _)) hg' hrow' ⟨hf1, hf2, Nat.le_trans hf3.1 (by decide), hf3.2⟩ ⟨ba, bc, rfl, own_fr hown (X.fr (X.alloc (X.refl _) _) _)⟩ hne
        have hBt2 := (hBt.x (X.alloc (X.refl _) _)).grown hg' (own_ge hT.row (by omega))
        have hBr2 := (hBr.x (X.alloc (X.refl _) _)).grown hg' (own_ge hT.row (by omega))
        have hr2 := (hr.x (X.alloc (X.refl _) _)).grown hg' (fun k hk => by have := (hT.row.lt k hk).1; omega)
        have hy2 := hxl.grown hg' (fun k hk => by have := (hT.row.lt k hk).1; omega)
        clear hBt hBr hr hy hxl hg' hb hc hf hb' hc' hf' hBf hxx
        obtain ⟨hb, hc, hf⟩ := hBt2.out
        go_wp2
        go_roundw
        case rel => exact ⟨j - 1, vs ++ [(f, .slice ba f.body.length bc)], a', c', by omega, by go_num, by rw [List.length_append, List.length_singleton]; omega, fun y hm => by
            rcases List.mem_append.1 hm with hm | hm
            · exact h4 y hm
            · rw [List.mem_singleton.1 hm]; exact hf3.1, hT2.fr (Fr.set (Fr.refl _ _) (.inr (by simp)) _), Bx.far hBr2 (by simp) _, by simpa using Bx.set hBt2 0 _, Rdr.set2 (hr2.weak (by omega) (by omega)) (by simp; omega) _, Y.set2 hy2 (by simp) _⟩
        case measure => simp [intOf]; omega
      · go_roundw
        case rel => exact ⟨j - 1, vs, a, c, by omega, by go_num, by omega, h4, hT, hBr, hBt, hr.weak (by omega) (by omega), hy⟩
        case measure => simp [intOf]; omega
    · obtain ⟨hb, hc, hf⟩ := hBt.out
      obtain ⟨hb', hc', hf'⟩ := hBr.out
      go_wp2
      refine bodyPost_row Tryd.results81 rfl (Bx.set hBr 0 _) tree_S rfl rfl ?_
      exact ⟨vs, a, c, rfl, (hT.fr (Fr.set (Fr.refl _ _) (.inr (by simp)) _)).less (by omega), by omega, h4, Rdr.set2 (hr.weak (by omega) (by omega)) hlt _, Y.set2 hy (Nat.le_refl _) _⟩

end Go.Proofs.YtjklpfgjimbabaaDoor
