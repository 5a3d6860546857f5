/- CompileTree, both sides: the walks. No condition but lengths. -/
import Derived.Test.YtjlooplpjliaiaaDoorCompileI
namespace Go.Proofs.YtjlooplpjliaiaaDoor
open Go.RowKit

def compL (l : List Fi) (mode : Int) : List Co := if treeB l && rangeB mode 0 2 then l.map (fun f => compB f mode) else []
theorem CosO.nil {w : World} {B c : Nat} {a : Option Addr} (h : w.ownsRow B 65 8 (.slice a 0 c) 0 []) : CosO w B a 0 c [] := ⟨[], rfl, rfl, h, List.Pairwise.nil, fun _ h => by cases h⟩
theorem co_T : AppT Tryd.prog 26 65 8 88 := AppT.of (z := .agg #[.int .i64 0, .string ⟨#[]⟩, .bool false, .int .i64 0, .int .i64 0, .int .i64 0, .int .i64 0, .slice none 0 0]) (by kernel_rfl) (by kernel_rfl) rfl (by omega)
theorem compB_len {f : Fi} {mode : Int} : (compB f mode).body = f.body := rfl

set_option maxRecDepth 100000 in
set_option maxHeartbeats 2000000 in
theorem CompileTree_c (l : List Fi) (a : Option Addr) (n c B : Nat) (mode : Int) (w : World) (hF : FilesAt w B a n l) (hnc : n ≤ c) (hG : Gm w) :
    Calls Tryd.prog 10 #[.agg #[.slice a n c], .int .i64 mode] w fun e w' => ∃ ra rc, e = .returned (.slice ra (compL l mode).length rc) ∧ CosO w' w.heap.size ra (compL l mode).length rc (compL l mode) ∧ X w w' := by
  obtain ⟨hl, hn⟩ := hF.len
  have Hl := Lib.hid hl
  cases h1 : treeB l <;> cases h2 : rangeB mode 0 2
  case true.true =>
    have Hc := Lib.hid (show compL l mode = l.map (fun f => compB f mode) by rw [compL, h1, h2]; rfl)
    rw [Hc.out, List.length_map, ← hl]
    clear hl
    go_enter Tryd.func10, Tryd.ntmps10
    go_wp2_with fail
    refine calls_name (fun W0 hW0 => ?_)
    obtain ⟨hT0, hE0, hX0⟩ := bx2 hW0
    have hrow0 : W0.ownsRow (w.heap.size + 1) 65 8 (.slice (some ⟨w.heap.size + 1, 0, none⟩) 0 0) 0 [] := by
      rw [hW0]
      exact own_lit (w := w.alloc (.cells #[.slice a n c] 30)) (cs := #[]) (e := 65) (B := w.heap.size + 1) (g := w.heap.size + 1) (size := 8) (n := 0) (by simp) (by simp) rfl (by omega)
    have hs0 : w.heap.size + 1 < W0.heap.size := hE0.lt
    clear hW0 hE0
    refine (ValidTree_c l a n c B W0 (hF.mono (hX0.fr _)) hnc (hG.mono hX0)).mono ?_
    rintro _ w1 ⟨rfl, hx1⟩
    rw [h1]
    go_wp2_with (go_at_call 40; refine (modeOk_c mode _).mono ?_; rintro _ w2 ⟨rfl, hx2⟩; rw [h2]; obtain ⟨lt2, ct2, _⟩ := ((hT0.x hx1).x hx2).out; have t0 := ct2 0; clear ct2)
    have hXw := (hX0.trans hx1).trans hx2
    have hrow2 := own_fr hrow0 ((hx1.trans hx2).fr _)
    clear hx1 hx2 hX0 hrow0
    go_loopw [5, 21] (fun v i wr => ∃ (k : Nat) (vs : List (Co × Value)) (ra : Option Addr) (rc : Nat), k ≤ n ∧ i = .int .i64 k ∧ v = .slice ra k rc ∧ vs.map (·.1) = (l.take k).map (fun f => compB f mode) ∧ wr.ownsRow (w.heap.size + 1) 65 8 (.slice ra k rc) k (vs.flatMap ccells) ∧ SepC vs ∧
      (∀ x ∈ vs, BodyC wr (w.heap.size + 1) x) ∧ X w wr ∧ w.heap.size + 1 ≤ wr.heap.size) (fun _ i _ => n - (intOf i).toNat)
    case atStart => exact ⟨0, [], _, 0, Nat.zero_le _, rfl, rfl, rfl, hrow2, List.Pairwise.nil, (fun _ h => by cases h), hXw, by omega⟩
    case round =>
      obtain ⟨k, vs, ra, rc, hk, rfl, rfl, hvs, hrow, hsep, hbd, hX, hsz⟩ := hrel
      have Hv := Lib.hid (And.intro hvs (And.intro hsep hbd))
      clear hvs hsep hbd hXw hrow2 t0 lt2
      by_cases hlt : k < n
      · obtain ⟨b, off, ba, bn, bc, rfl, _, hb, hok, hbc, hSb, g0, g1, g2, g3, g4, g5⟩ := (hF.mono (hX.fr _)).at_ hlt
        have Hbn := Lib.hid hSb.1
        have hfb := treeB_file h1 (k := k) (by rw [← Hl.out]; exact hlt)
        go_wp2_with fail
        refine calls_name (fun W3 hW3 => ?_)
        have hX3 : X wr W3 := by rw [hW3]; (repeat (first | with_reducible exact X.refl _ | with_reducible assumption | with_reducible refine X.setCell ?_ (by first | (simp; done) | (simp; omega)) _ | with_reducible refine X.ext ?_ _ | with_reducible refine X.alloc ?_ _ | with_reducible refine X.drew ?_))
        clear hW3
        refine (CompileFile_c (nth l k) mode ba bn bc B W3 hok (hSb.mono (hX3.fr _)) hfb h2 (hG.mono (hX.trans hX3))).mono ?_
        rintro _ w3 ⟨rb, rcb, rfl, hO3, hx3⟩
        generalize hcf : compB (nth l k) mode = cf
        have Hcf := Lib.hid hcf
        have Hcb := Lib.hid (show cf.body = (nth l k).body by rw [← hcf]; rfl)
        clear hcf
        have hX4 : X wr w3 := hX3.trans hx3
        have hrow3 := own_fr hrow (hX4.fr _)
        have hsz3 : w.heap.size + 1 ≤ w3.heap.size := Nat.le_trans hsz hX4.size
        go_wp2_with (at_builtin; refine wpList_append_g co_T rfl _ _ rfl hrow3 rfl rfl rfl rfl (by simp [Value.oneCell']) (by omega) (by omega) hsz3 ?_; intro a' c' w' hrow' hg')
        have hXw' : X w w' := X.of_below (((X.alloc (hX.trans hX4) _).below).grown hg' (X.size (X.alloc (hX.trans hX4) _)) (fun g hg => by have := (hrow3.lt g hg).1; omega))
        go_roundw
        case rel => exact ⟨k + 1, vs ++ [(cf, .slice rb bn rcb)], a', c', by omega, by go_num, rfl, by rw [List.map_append, Hv.out.1, take_succ_nth (by rw [← Hl.out]; exact hlt), List.map_append, ← Hcf.out]; rfl, by
            rw [List.flatMap_append]
            exact hrow', List.pairwise_append.2 ⟨Hv.out.2.1, List.pairwise_singleton _ _, fun x hx y hy => by
            rw [List.mem_singleton.1 hy]
            obtain ⟨ba', bc', e, ho⟩ := Hv.out.2.2 x hx
            rw [e]
            exact row_far (own_fr ho (hX3.fr _)) rfl hO3⟩, fun x hx => by
            have hga : w3.grownBy w' (Value.slice ra k rc).ownBlock := X.grown ((X.refl w3).alloc _) hg'
            rcases List.mem_append.1 hx with hx | hx
            · obtain ⟨ba', bc', e, ho⟩ := Hv.out.2.2 x hx
              have ho3 := own_fr ho (hX4.fr _)
              exact ⟨ba', bc', e, ho3.kept hga (row_ne ho3 hrow3 (by decide))⟩
            · rw [List.mem_singleton.1 hx]
              have ho3 := own_less hO3 (show w.heap.size + 1 ≤ _ from Nat.le_trans hsz hX3.size)
              refine ⟨rb, rcb, ?_, ?_⟩
              · show Value.slice rb bn rcb = Value.slice rb cf.body.length rcb
                rw [Hcb.out, ← Hbn.out]
              · show w'.ownsRow _ _ 5 (Value.slice rb cf.body.length rcb) cf.body.length (cf.body.flatMap scells)
                rw [Hcb.out, ← Hbn.out]
                exact ho3.kept hga (row_ne ho3 hrow3 (by decide)), hXw', Nat.le_trans hsz3 (by have := hg'.size; rw [World.size_alloc] at this; omega)⟩
        case measure => simp [intOf]; omega
      · obtain rfl : k = n := by omega
        go_wp2
        go_ret
        have hFO : CosO wr (w.heap.size + 1) ra k rc (l.map (fun f => compB f mode)) := ⟨vs, by rw [Hv.out.1, List.take_of_length_le (by rw [← Hl.out]; omega)], by rw [List.length_map]; exact Hl.out, hrow, Hv.out.2.1, Hv.out.2.2⟩
        exact ⟨ra, rc, rfl, hFO.less (by omega), hX⟩
  all_goals
    clear hl
    rw [show compL l mode = [] by rw [compL, h1, h2]; rfl]
    go_enter Tryd.func10, Tryd.ntmps10
    go_wp2_with fail
    refine calls_name (fun W0 hW0 => ?_)
    have hX0 : X w W0 := by rw [hW0]; (repeat (first | with_reducible exact X.refl _ | with_reducible assumption | with_reducible refine X.setCell ?_ (by first | (simp; done) | (simp; omega)) _ | with_reducible refine X.ext ?_ _ | with_reducible refine X.alloc ?_ _ | with_reducible refine X.drew ?_))
    have hrow0 : W0.ownsRow (w.heap.size + 1) 65 8 (.slice (some ⟨w.heap.size + 1, 0, none⟩) 0 0) 0 [] := by
      rw [hW0]
      exact own_lit (w := w.alloc (.cells #[.slice a n c] 30)) (cs := #[]) (e := 65) (B := w.heap.size + 1) (g := w.heap.size + 1) (size := 8) (n := 0) (by simp) (by simp) rfl (by omega)
    clear hW0
    refine (ValidTree_c l a n c B W0 (hF.mono (hX0.fr _)) hnc (hG.mono hX0)).mono ?_
    rintro _ w1 ⟨rfl, hx1⟩
    rw [h1]
    have hXw := hX0.trans hx1
    have hrow1 := own_fr hrow0 (hx1.fr _)
    go_wp2_with (go_at_call 40; refine (modeOk_c mode _).mono ?_; rintro _ w2 ⟨rfl, hx2⟩; rw [h2]; replace hXw := hXw.trans hx2; replace hrow1 := own_fr hrow1 (hx2.fr _))
    go_ret
    exact ⟨_, _, rfl, (CosO.nil hrow1).less (by omega), hXw⟩

set_option maxRecDepth 100000 in
set_option maxHeartbeats 2000000 in
theorem CompileTree_s (l : List Fi) (a : Option Addr) (n c B : Nat) (mode : Int) (w : World) (hF : FilesAt w B a n l) :
    Calls Tryd.prog 8 #[.agg #[.slice a n c], .int .i64 mode] w fun e w' => ∃ ra rc, e = .returned (.slice ra (compL l mode).length rc) ∧ CosO w' w.heap.size ra (compL l mode).length rc (compL l mode) ∧ X w w' := by
  obtain ⟨hl, hn⟩ := hF.len
  have Hl := Lib.hid hl
  cases h1 : treeB l <;> cases h2 : rangeB mode 0 2
  case true.true =>
    have Hc := Lib.hid (show compL l mode = l.map (fun f => compB f mode) by rw [compL, h1, h2]; rfl)
    rw [Hc.out, List.length_map, ← hl]
    clear hl
    go_enter Tryd.func8, Tryd.ntmps8
    go_wp2_with fail
    refine calls_name (fun W0 hW0 => ?_)
    have hT0 : Bx W0 w.heap.size #[.slice a n c] := by rw [hW0]; exact Bx.new _ _ _
    have hX0 : X w W0 := by rw [hW0]; (repeat (first | with_reducible exact X.refl _ | with_reducible assumption | with_reducible refine X.setCell ?_ (by first | (simp; done) | (simp; omega)) _ | with_reducible refine X.ext ?_ _ | with_reducible refine X.alloc ?_ _ | with_reducible refine X.drew ?_))
    clear hW0
    refine (validTree_c l a n c B W0 (hF.mono (hX0.fr _))).mono ?_
    rintro _ w1 ⟨rfl, hx1⟩
    rw [h1]
    obtain ⟨lt2, ct2, _⟩ := (hT0.x hx1).out
    have t0 := ct2 0
    clear ct2
    have hs1 : w.heap.size + 1 ≤ w1.heap.size := lt2
    have hXw := hX0.trans hx1
    go_wp2_with (go_at_call 36; refine (inRange_c mode 0 2 _).mono ?_; rintro _ _ ⟨rfl, rfl⟩; rw [h2])
    refine wp_name (fun W2 hW2 => ?_)
    have hrow2 : W2.ownsRow (w.heap.size + 1) 65 8 (.slice (some ⟨w1.heap.size, 0, none⟩) 0 0) 0 [] := by
      rw [hW2]
      exact own_lit (w := w1) (cs := #[]) (e := 65) (B := w.heap.size + 1) (g := w1.heap.size) (size := 8) (n := 0) rfl hs1 rfl (by omega)
    have hX2 : X w1 W2 := by rw [hW2]; (repeat (first | with_reducible exact X.refl _ | with_reducible assumption | with_reducible refine X.setCell ?_ (by first | (simp; done) | (simp; omega)) _ | with_reducible refine X.ext ?_ _ | with_reducible refine X.alloc ?_ _ | with_reducible refine X.drew ?_))
    clear hW2
    have hT := (hT0.x hx1).x hX2
    replace hXw := hXw.trans hX2
    have hs2 : w.heap.size + 1 ≤ W2.heap.size := Nat.le_trans hs1 hX2.size
    clear hx1 hX0 hT0 t0 lt2 hX2 hs1
    go_loopw [5, 6] (fun v i wr => ∃ (k : Nat) (vs : List (Co × Value)) (ra : Option Addr) (rc : Nat), k ≤ n ∧ i = .int .i64 k ∧ v = .slice ra k rc ∧ vs.map (·.1) = (l.take k).map (fun f => compB f mode) ∧ wr.ownsRow (w.heap.size + 1) 65 8 (.slice ra k rc) k (vs.flatMap ccells) ∧ SepC vs ∧
      (∀ x ∈ vs, BodyC wr (w.heap.size + 1) x) ∧ X w wr ∧ Bx wr w.heap.size #[.slice a n c]) (fun _ i _ => n - (intOf i).toNat)
    case atStart => exact ⟨0, [], _, 0, Nat.zero_le _, rfl, rfl, rfl, hrow2, List.Pairwise.nil, (fun _ h => by cases h), hXw, hT⟩
    case round =>
      obtain ⟨k, vs, ra, rc, hk, rfl, rfl, hvs, hrow, hsep, hbd, hX, hT⟩ := hrel
      have Hv := Lib.hid (And.intro hvs (And.intro hsep hbd))
      have hsz : w.heap.size + 1 ≤ wr.heap.size := hT.lt
      clear hvs hsep hbd hXw hrow2
      obtain ⟨ltT, cT, _⟩ := hT.out
      have t0 := cT 0
      clear cT
      by_cases hlt : k < n
      · obtain ⟨b, off, ba, bn, bc, rfl, _, hb, hok, hbc, hSb, g0, g1, g2, g3, g4, g5⟩ := (hF.mono (hX.fr _)).at_ hlt
        have Hbn := Lib.hid hSb.1
        have hfb := treeB_file h1 (k := k) (by rw [← Hl.out]; exact hlt)
        go_wp2_with fail
        refine calls_name (fun W3 hW3 => ?_)
        have hX3 : X wr W3 := by rw [hW3]; (repeat (first | with_reducible exact X.refl _ | with_reducible assumption | with_reducible refine X.setCell ?_ (by first | (simp; done) | (simp; omega)) _ | with_reducible refine X.ext ?_ _ | with_reducible refine X.alloc ?_ _ | with_reducible refine X.drew ?_))
        clear hW3
        refine (compiled_c (nth l k) mode ba bn bc B W3 hok (hSb.mono (hX3.fr _)) (fileB_body hfb)).mono ?_
        rintro _ w3 ⟨rb, rcb, rfl, hO3, hx3⟩
        generalize hcf : compB (nth l k) mode = cf
        have Hcf := Lib.hid hcf
        have Hcb := Lib.hid (show cf.body = (nth l k).body by rw [← hcf]; rfl)
        clear hcf
        have hX4 : X wr w3 := hX3.trans hx3
        have hrow3 := own_fr hrow (hX4.fr _)
        have hsz3 : w.heap.size + 1 ≤ w3.heap.size := Nat.le_trans hsz hX4.size
        have hT3 := hT.x hX4
        go_wp2_with (at_builtin; refine wpList_append_g co_T rfl _ _ rfl hrow3 rfl rfl rfl rfl (by simp [Value.oneCell']) (by omega) (by omega) hsz3 ?_; intro a' c' w' hrow' hg')
        have hXw' : X w w' := X.of_below (((X.alloc (hX.trans hX4) _).below).grown hg' (X.size (X.alloc (hX.trans hX4) _)) (fun g hg => by have := (hrow3.lt g hg).1; omega))
        have hga : w3.grownBy w' (Value.slice ra k rc).ownBlock := X.grown ((X.refl w3).alloc _) hg'
        have hT' := hT3.grown hga (fun g hg => by have := (hrow3.lt g hg).1; omega)
        go_roundw
        case rel => exact ⟨k + 1, vs ++ [(cf, .slice rb bn rcb)], a', c', by omega, by go_num, rfl, by rw [List.map_append, Hv.out.1, take_succ_nth (by rw [← Hl.out]; exact hlt), List.map_append, ← Hcf.out]; rfl, by
            rw [List.flatMap_append]
            exact hrow', List.pairwise_append.2 ⟨Hv.out.2.1, List.pairwise_singleton _ _, fun x hx y hy => by
            rw [List.mem_singleton.1 hy]
            obtain ⟨ba', bc', e, ho⟩ := Hv.out.2.2 x hx
            rw [e]
            exact row_far (own_fr ho (hX3.fr _)) rfl hO3⟩, fun x hx => by
            rcases List.mem_append.1 hx with hx | hx
            · obtain ⟨ba', bc', e, ho⟩ := Hv.out.2.2 x hx
              have ho3 := own_fr ho (hX4.fr _)
              exact ⟨ba', bc', e, ho3.kept hga (row_ne ho3 hrow3 (by decide))⟩
            · rw [List.mem_singleton.1 hx]
              have ho3 := own_less hO3 (show w.heap.size + 1 ≤ _ from Nat.le_trans hsz hX3.size)
              refine ⟨rb, rcb, ?_, ?_⟩
              · show Value.slice rb bn rcb = Value.slice rb cf.body.length rcb
                rw [Hcb.out, ← Hbn.out]
              · show w'.ownsRow _ _ 5 (Value.slice rb cf.body.length rcb) cf.body.length (cf.body.flatMap scells)
                rw [Hcb.out, ← Hbn.out]
                exact ho3.kept hga (row_ne ho3 hrow3 (by decide)), hXw', hT'⟩
        case measure => simp [intOf]; omega
      · obtain rfl : k = n := by omega
        go_wp2
        go_ret
        have hFO : CosO wr (w.heap.size + 1) ra k rc (l.map (fun f => compB f mode)) := ⟨vs, by rw [Hv.out.1, List.take_of_length_le (by rw [← Hl.out]; omega)], by rw [List.length_map]; exact Hl.out, hrow, Hv.out.2.1, Hv.out.2.2⟩
        exact ⟨ra, rc, rfl, hFO.less (by omega), hX⟩
  all_goals
    clear hl
    rw [show compL l mode = [] by rw [compL, h1, h2]; rfl]
    go_enter Tryd.func8, Tryd.ntmps8
    go_wp2_with fail
    refine calls_name (fun W0 hW0 => ?_)
    have hX0 : X w W0 := by rw [hW0]; (repeat (first | with_reducible exact X.refl _ | with_reducible assumption | with_reducible refine X.setCell ?_ (by first | (simp; done) | (simp; omega)) _ | with_reducible refine X.ext ?_ _ | with_reducible refine X.alloc ?_ _ | with_reducible refine X.drew ?_))
    clear hW0
    refine (validTree_c l a n c B W0 (hF.mono (hX0.fr _))).mono ?_
    rintro _ w1 ⟨rfl, hx1⟩
    rw [h1]
    have hXw := hX0.trans hx1
    go_wp2_with (go_at_call 36; refine (inRange_c mode 0 2 _).mono ?_; rintro _ _ ⟨rfl, rfl⟩; rw [h2])
    go_ret
    exact ⟨_, _, rfl, CosO.nil ⟨rfl, .inl ⟨rfl, rfl⟩⟩, hXw⟩

end Go.Proofs.YtjlooplpjliaiaaDoor
