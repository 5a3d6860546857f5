/- Trees, as they are generated for the laws on lists of modules and packages and on directories. No condition. -/
import Derived.Test.YtlpbgingggnjpaaDoorId
namespace Go.Proofs.YtlpbgingggnjpaaDoor
open Go.RowKit

theorem tree_Sm : StrT Tryd.prog 25 1 := ⟨⟨_, Tryd.underlying25⟩, by kernel_rfl⟩
set_option maxRecDepth 100000 in
set_option maxHeartbeats 1000000 in
theorem DrawModulesOf_c (ca : Option Addr) (cn cc : Nat) (w : World) (hC : CodeAt w ca cn cc) (hn : cn ≤ 1048576) :
    Calls Tryd.prog 10 #[.slice ca cn cc] w fun e w' => ∃ (l : List Fi) (a : Option Addr) (n c : Nat), e = .returned (.agg #[.slice a n c]) ∧ FilesAt w' w.heap.size a n l ∧ n ≤ c ∧ n ≤ 11 ∧ X w w' := by
  have hBr := Bx.new w #[.slice none 0 0] 25
  go_enter Tryd.func10, Tryd.ntmps10
  go_wp2_with fail
  refine (newReader_c ca cn cc _ hC.1 (fun h => by
    obtain ⟨b, off, h1, h2, h3⟩ := hC.2 h
    exact ⟨b, off, h1, by simp; omega, fun i hi => by
      obtain ⟨v, hv, hc⟩ := h3 i hi
      exact ⟨v, hv, by rw [World.cell?_alloc_lt _ _ _ h2]; exact hc⟩⟩) hn).mono ?_
  rintro _ w1 ⟨rfl, hr, hx⟩
  rw [World.size_alloc] at hr
  replace hBr := hBr.x hx
  have hxx : X w w1 := X.trans (by (repeat (first | exact X.refl _ | assumption | refine X.ext ?_ _ | refine X.alloc ?_ _ | refine X.drew ?_))) hx
  have hlt := hr.lt
  have hne : w.heap.size ≠ w.heap.size + 1 := by omega
  simp only [World.size_alloc]
  have hy : Y (w.heap.size + 1) w w1 := Y.of_x hxx
  clear hx hxx
  go_wp2_with fail
  refine (anyTree_c _ _ _ hr (by omega)).mono ?_
  rintro _ w2 ⟨l, a, n, c, rfl, hF, hnc, hn11, hsm, hr', hy'⟩
  replace hBr := hBr.y hy' hne
  replace hF := hF.less (B' := w.heap.size + 2) (by omega)
  replace hy := hy.trans ((Y.of_x (by (repeat (first | exact X.refl _ | assumption | refine X.ext ?_ _ | refine X.alloc ?_ _ | refine X.drew ?_)))).trans hy'); replace hr := hr'; clear hr' hy'
  have hlt2 := hr.lt
  obtain ⟨hb, hc, hf⟩ := hBr.out
  have hB2 := Bx.set hBr 0 (.slice a n c)
  go_wp2
  refine bodyPost_row Tryd.results10 rfl hB2 tree_Sm rfl rfl ?_
  exact ⟨l, a, n, c, rfl, (hF.mono (Fr.set (Fr.refl _ _) (.inr (by simp)) _)).less (by omega), hnc, hn11, Y.x (Y.set2 hy (by simp) _) (by omega)⟩
/-- What is drawn: a tree, a root, a package. -/
def DrawnTRP (w w' : World) (e : Ending) : Prop := ∃ (l : List Fi) (a : Option Addr) (n c : Nat) (q : Int) (p : List UInt8),
  e = .returned (.tuple #[.agg #[.slice a n c], .int .i64 q, .string ⟨(p).toArray⟩]) ∧ FilesAt w' w.heap.size a n l ∧ n ≤ c ∧ n ≤ 11 ∧ q ∈ [0, 1, 2, 3, -1] ∧ p.length ≤ 20 ∧ X w w'
set_option maxRecDepth 100000 in
set_option maxHeartbeats 1000000 in
theorem DrawHasDir_c (ca : Option Addr) (cn cc : Nat) (w : World) (hC : CodeAt w ca cn cc) (hn : cn ≤ 1048576) :
    Calls Tryd.prog 29 #[.slice ca cn cc] w fun e w' => DrawnTRP w w' e := by
  have hBr := Bx.new w #[.slice none 0 0] 25
  go_enter Tryd.func29, Tryd.ntmps29
  go_wp2_with fail
  refine (newReader_c ca cn cc _ hC.1 (fun h => by
    obtain ⟨b, off, h1, h2, h3⟩ := hC.2 h
    exact ⟨b, off, h1, by simp; omega, fun i hi => by
      obtain ⟨v, hv, hc⟩ := h3 i hi
      exact ⟨v, hv, by rw [World.cell?_alloc_lt _ _ _ h2]; exact hc⟩⟩) hn).mono ?_
  rintro _ w1 ⟨rfl, hr, hx⟩
  rw [World.size_alloc] at hr
  replace hBr := hBr.x hx
  have hxx : X w w1 := X.trans (by (repeat (first | exact X.refl _ | assumption | refine X.ext ?_ _ | refine X.alloc ?_ _ | refine X.drew ?_))) hx
  have hlt := hr.lt
  have hne : w.heap.size ≠ w.heap.size + 1 := by omega
  simp only [World.size_alloc]
  have hy : Y (w.heap.size + 1) w w1 := Y.of_x hxx
  clear hx hxx
  go_wp2_with fail
  refine (anyTree_c _ _ _ hr (by omega)).mono ?_
  rintro _ w2 ⟨l, a, n, c, rfl, hF, hnc, hn11, hsm, hr', hy'⟩
  replace hBr := hBr.y hy' hne
  replace hF := hF.less (B' := w.heap.size + 2) (by omega)
  replace hy := hy.trans ((Y.of_x (by (repeat (first | exact X.refl _ | assumption | refine X.ext ?_ _ | refine X.alloc ?_ _ | refine X.drew ?_)))).trans hy'); replace hr := hr'; clear hr' hy'
  have hlt2 := hr.lt
  go_wp2_with fail
  refine (one_c _ _ [0, 1, 2, 3, -1] _ _ _ (w.heap.size + 2) _ (hr.x (by (repeat (first | exact X.refl _ | assumption | refine X.ext ?_ _ | refine X.alloc ?_ _ | refine X.drew ?_)))) (by omega) (ints_lit (by simp) (by omega) rfl rfl (by decide)) (by omega) (by decide)).mono ?_
  rintro _ w3 ⟨q, rfl, hq, hr', hy'⟩
  replace hBr := (hBr.x (by (repeat (first | exact X.refl _ | assumption | refine X.ext ?_ _ | refine X.alloc ?_ _ | refine X.drew ?_)))).y hy' hne
  replace hF := (hF.mono (X.fr (by (repeat (first | exact X.refl _ | assumption | refine X.ext ?_ _ | refine X.alloc ?_ _ | refine X.drew ?_))) _)).mono (hy'.fr.mono (by omega))
  replace hy := hy.trans ((Y.of_x (by (repeat (first | exact X.refl _ | assumption | refine X.ext ?_ _ | refine X.alloc ?_ _ | refine X.drew ?_)))).trans hy'); replace hr := hr'; clear hr' hy'
  have hlt3 := hr.lt
  go_wp2_with fail
  refine (anyPackage_c _ _ _ (hr.x (by (repeat (first | exact X.refl _ | assumption | refine X.ext ?_ _ | refine X.alloc ?_ _ | refine X.drew ?_)))) (by omega)).mono ?_
  rintro _ w4 ⟨p, rfl, hp, hr', hy'⟩
  replace hBr := (hBr.x (by (repeat (first | exact X.refl _ | assumption | refine X.ext ?_ _ | refine X.alloc ?_ _ | refine X.drew ?_)))).y hy' hne
  replace hF := (hF.mono (X.fr (by (repeat (first | exact X.refl _ | assumption | refine X.ext ?_ _ | refine X.alloc ?_ _ | refine X.drew ?_))) _)).mono (hy'.fr.mono (by omega))
  replace hy := hy.trans ((Y.of_x (by (repeat (first | exact X.refl _ | assumption | refine X.ext ?_ _ | refine X.alloc ?_ _ | refine X.drew ?_)))).trans hy'); replace hr := hr'; clear hr' hy'
  obtain ⟨hb, hc, hf⟩ := hBr.out
  have hB2 := Bx.set hBr 0 (.slice a n c)
  go_wp2
  refine bodyPost_ret (v := .tuple #[.agg #[.slice a n c], .int .i64 q, .string ⟨(p).toArray⟩]) ?_ rfl ?_
  · obtain ⟨hb2, hc2, hf2⟩ := hB2.out
    clear hb hc hf
    have e0 : (w4.setCell ⟨w.heap.size, 0, none⟩ (.slice a n c)).cell? ⟨w.heap.size, 0, none⟩ = some (.slice a n c) := hc2 0
    simp [results, Tryd.results29, go_sem, e0, Result.andThen]
  · exact ⟨l, a, n, c, q, p, rfl, (hF.mono (Fr.set (Fr.refl _ _) (.inr (by simp)) _)).less (by omega), hnc, hn11, hq, hp, Y.x (Y.set2 hy (by simp) _) (by omega)⟩
set_option maxRecDepth 100000 in
set_option maxHeartbeats 1000000 in
theorem DrawListDir_c (ca : Option Addr) (cn cc : Nat) (w : World) (hC : CodeAt w ca cn cc) (hn : cn ≤ 1048576) :
    Calls Tryd.prog 25 #[.slice ca cn cc] w fun e w' => DrawnTRP w w' e := by
  have hBr := Bx.new w #[.slice none 0 0] 25
  go_enter Tryd.func25, Tryd.ntmps25
  go_wp2_with fail
  refine (DrawHasDir_c ca cn cc _ ⟨hC.1, fun h => by
    obtain ⟨b, off, h1, h2, h3⟩ := hC.2 h
    exact ⟨b, off, h1, by simp; omega, fun i hi => by
      obtain ⟨v, hv, hc⟩ := h3 i hi
      exact ⟨v, hv, by rw [World.cell?_alloc_lt _ _ _ h2]; exact hc⟩⟩⟩ hn).mono ?_
  rintro _ w1 ⟨l, a, n, c, q, p, rfl, hF, hnc, hn11, hq, hp, hx⟩
  replace hBr := hBr.x hx
  have hx1 : X w w1 := X.trans (by (repeat (first | exact X.refl _ | assumption | refine X.ext ?_ _ | refine X.alloc ?_ _ | refine X.drew ?_))) hx
  rw [World.size_alloc] at hF
  obtain ⟨hb, hc, hf⟩ := hBr.out
  have hB2 := Bx.set hBr 0 (.slice a n c)
  go_wp2
  refine bodyPost_ret (v := .tuple #[.agg #[.slice a n c], .int .i64 q, .string ⟨(p).toArray⟩]) ?_ rfl ?_
  · obtain ⟨hb2, hc2, hf2⟩ := hB2.out
    clear hb hc hf
    have e0 : (w1.setCell ⟨w.heap.size, 0, none⟩ (.slice a n c)).cell? ⟨w.heap.size, 0, none⟩ = some (.slice a n c) := hc2 0
    simp [results, Tryd.results25, go_sem, e0, Result.andThen]
  · exact ⟨l, a, n, c, q, p, rfl, (hF.mono (Fr.set (Fr.refl _ _) (.inr (by simp)) _)).less (by omega), hnc, hn11, hq, hp, by (repeat (first | exact X.refl _ | assumption | refine X.setCell ?_ (by first | (simp; done) | (simp; omega)) _ | refine X.ext ?_ _ | refine X.alloc ?_ _ | refine X.drew ?_))⟩

end Go.Proofs.YtlpbgingggnjpaaDoor
