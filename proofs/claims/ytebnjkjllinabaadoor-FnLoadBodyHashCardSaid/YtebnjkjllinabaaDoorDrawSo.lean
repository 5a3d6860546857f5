/- The arguments of WrongFiles and of PruneStore: the generators. No condition. -/
import Derived.Test.YtebnjkjllinabaaDoorStoreDa
namespace Go.Proofs.YtebnjkjllinabaaDoor
open Go.RowKit

theorem bxOne {tb : Nat} {v : Value} {w : World} (h : Bx w tb #[v]) : w.cell? ⟨tb, 0, none⟩ = some v := h.out.2.1 0
/-- What is drawn: a store, a tree. -/
def DrawnST (w w' : World) (e : Ending) : Prop := ∃ (ls : List Co) (la : Option Addr) (n lc : Nat) (t : List Fi) (a : Option Addr) (tn c : Nat),
  e = .returned (.tuple #[.slice la n lc, .agg #[.slice a tn c]]) ∧ CosAt w' w.heap.size la n ls ∧ FilesAt w' w.heap.size a tn t ∧ n ≤ lc ∧ tn ≤ c ∧ n ≤ 11 ∧ tn ≤ 10 ∧ X w w'
set_option maxRecDepth 100000 in
set_option maxHeartbeats 1000000 in
theorem DrawWrongFiles_c (ca : Option Addr) (cn cc : Nat) (w : World) (hC : CodeAt w ca cn cc) (hn : cn ≤ 1048576) :
    Calls Tryd.prog 26 #[.slice ca cn cc] w fun e w' => DrawnST w w' e := by
  have hBr := Bx.new w #[.slice none 0 0] 25
  go_enter Tryd.func26, Tryd.ntmps26
  go_wp2_with fail
  refine (newReader_c ca cn cc _ hC.1 (fun h => by
    obtain ⟨b, off, h1, h2, h3⟩ := hC.2 h
    exact ⟨b, off, h1, by simp; omega, fun i hi => by
      obtain ⟨v, hv, hc⟩ := h3 i hi
      exact ⟨v, hv, by rw [World.cell?_alloc_lt _ _ _ h2]; exact hc⟩⟩) hn).mono ?_
  rintro _ w1 ⟨rfl, hr, hx⟩
  rw [World.size_alloc] at hr
  replace hBr := hBr.x hx
  have hxx : X w w1 := X.trans (by (repeat (first | exact X.refl _ | assumption | refine X.ext ?_ _ | refine X.alloc ?_ _ | refine X.drew ?_))) hx
  have hlt := hr.lt
  have hne : w.heap.size ≠ w.heap.size + 1 := by omega
  simp only [World.size_alloc]
  have hy : Y (w.heap.size + 1) w w1 := Y.of_x hxx
  clear hx hxx
  go_wp2_with fail
  refine (anyStore_c _ _ _ hr (by omega)).mono ?_
  rintro _ w2 ⟨ls, la, lc, vs, a, c, rfl, hS, hT, hls, hvs, hr', hy'⟩
  replace hBr := hBr.y hy' hne
  replace hy := hy.trans ((Y.of_x (by (repeat (first | exact X.refl _ | assumption | refine X.ext ?_ _ | refine X.alloc ?_ _ | refine X.drew ?_)))).trans hy'); replace hr := hr'; clear hr' hy'
  have hD := (hS.cos (by omega)).less (B' := w.heap.size + 1) (by omega)
  have hF := (hT.files (by omega)).less (B' := w.heap.size + 1) (by omega)
  have hc1 := own_cap hS.row
  have hc2 := own_cap hT.row
  obtain ⟨hb, hc, hf⟩ := hBr.out
  have hB2 := Bx.set hBr 0 (.slice a vs.length c)
  go_wp2
  refine bodyPost_ret (v := .tuple #[.slice la ls.length lc, .agg #[.slice a vs.length c]]) ?_ rfl ?_
  · obtain ⟨hb2, hc2, hf2⟩ := hB2.out
    clear hb hc hf
    have e0 : (w2.setCell ⟨w.heap.size, 0, none⟩ (.slice a vs.length c)).cell? ⟨w.heap.size, 0, none⟩ = some (.slice a vs.length c) := hc2 0
    simp [results, Tryd.results26, go_sem, e0, Result.andThen]
  · exact ⟨ls.map (·.1), la, ls.length, lc, vs.map (·.1), a, vs.length, c, rfl, (hD.mono (Fr.set (Fr.refl _ _) (.inr (by simp)) _)).less (by omega), (hF.mono (Fr.set (Fr.refl _ _) (.inr (by simp)) _)).less (by omega), hc1, hc2, hls, hvs, Y.x (Y.set2 hy (by simp) _) (by omega)⟩

end Go.Proofs.YtebnjkjllinabaaDoor
