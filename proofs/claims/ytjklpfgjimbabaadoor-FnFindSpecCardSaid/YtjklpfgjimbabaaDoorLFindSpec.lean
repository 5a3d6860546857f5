/- The walk of the law FnFindSpec. -/
import Derived.Test.YtjklpfgjimbabaaDoorUp
import Derived.Test.YtjklpfgjimbabaaDoorDrawName
namespace Go.Proofs.YtjklpfgjimbabaaDoor
open Go.RowKit

theorem specUp_if (l : List Fi) (path : List Int) (s : List UInt8) : (treeB l && pathB path && nameB s) = true →
    (parentF s = [] ∧ specB l path s = findInF l path [] s) ∨ ((parentF s).isEmpty = false ∧ (parentF s).length ≤ 12 ∧ (lastF s).length ≤ 12 ∧
      ((specB l path (parentF s)).kind = 0 ∧ (specB l path s).kind = 0 ∨ (specB l path (parentF s)).kind = 1 ∧ (specB l path s).kind = 0 ∨
        ((specB l path (parentF s)).kind = 2 ∨ (specB l path (parentF s)).kind = 3) ∧ specB l path s = findInF l (specB l path (parentF s)).roots (parentF s) (lastF s))) := specUp_law
set_option maxRecDepth 100000 in
set_option maxHeartbeats 16000000 in
theorem FnFindSpec_c (ca : Option Addr) (cn cc : Nat) (w : World) (hC : CodeAt w ca cn cc) (hG : Gm w) :
    Calls Tryd.prog 7 #[.slice ca cn cc] w fun e w' => e = .returned (.bool true) ∧ X w w' := by
  by_cases hbig : 1048576 < cn
  · go_enter Tryd.func7, Tryd.ntmps7
    go_wp2
    go_ret
    exact ⟨by simp, by (repeat (first | exact X.refl _ | assumption | refine X.ext ?_ _ | refine X.alloc ?_ _ | refine X.drew ?_))⟩
  · go_enter Tryd.func7, Tryd.ntmps7
    go_wp2_with fail
    refine (DrawFindSpec_c ca cn cc _ hC (by omega)).mono ?_
    rintro _ W1 ⟨l, a, n, c, path, pa, pn, pc, s, rfl, hF, hnc, hn11, hsm, hI, hpc, hpn3, hsl, hx1⟩
    replace hG := hG.mono hx1
    have hB1 := Bx.new W1 #[.slice a n c] 25
    go_wp2_with fail
    refine calls_name (fun W hW => ?_)
    rw [← hW] at hB1
    have hx2 : X W1 W := by rw [hW]; (repeat (first | exact X.refl _ | assumption | refine X.ext ?_ _ | refine X.alloc ?_ _ | refine X.drew ?_))
    clear hW
    replace hF := hF.mono (hx2.fr _)
    replace hI := hI.mono (hx2.fr _)
    replace hG := hG.mono hx2
    have hxw := hx1.trans hx2
    clear hx1 hx2
    obtain ⟨hb1, hc1, hf1⟩ := hB1.out
    have d1 := hc1 0
    clear hc1
    have hsl2 : s.length ≤ 4194304 := by omega
    refine (FindSpec_i l _ _ _ _ path _ _ _ _ s W hF hnc hI hpc hsl2 hG).mono ?_
    rintro _ W2 ⟨v5, rfl, ⟨ra, rc, rfl, hrc, hRI⟩, hx2⟩
    replace hB1 := hB1.x hx2
    have hlaw := Lib.hid (@specUp_if l path s)
    have hr3 : (specB l path s).roots.length ≤ 2097152 := hRI.2.1
    generalize hr : specB l path s = r at *
    have Hr := Lib.hid hr
    clear hr
    have hB2 := Bx.new W2 #[.int .i64 r.kind, .int .i64 r.file, .slice ra r.roots.length rc] 30
    go_wp2_with fail
    refine wp_name (fun W3 hW3 => ?_)
    rw [← hW3] at hB2
    have hx23 : X W2 W3 := hW3 ▸ (by (repeat (first | exact X.refl _ | assumption | refine X.ext ?_ _ | refine X.alloc ?_ _ | refine X.drew ?_)))
    clear hW3
    have hx3 : X W W3 := hx2.trans hx23
    replace hB1 := hB1.x hx23
    replace hF := hF.mono (hx3.fr _)
    replace hI := hI.mono (hx3.fr _)
    replace hRI := hRI.mono (hx23.fr _)
    replace hG := hG.mono hx3
    have hlt2 := hB2.lt
    have hlt1 := hB1.lt
    replace hxw := hxw.trans hx3
    clear hx2 hx23 hx3 hb1 hf1 d1
    obtain ⟨hb1, hc1, hf1⟩ := hB1.out
    obtain ⟨hb2, hc2, hf2⟩ := hB2.out
    have d1 := hc1 0
    have d2 := hc2 0
    have d3 := hc2 1
    have d4 := hc2 2
    clear hc1 hc2
    have hx : X W3 W3 := X.refl _
    cases h1 : treeB l
    · first | go_region_with (((first
        | (go_at_call 27; refine (FindSpec_s l a n c _ path pa pn pc _ s _ (hF.mono (X.fr (by (repeat (first | exact X.refl _ | assumption | refine X.ext ?_ _ | refine X.alloc ?_ _ | refine X.drew ?_))) _)) (hI.mono (X.fr (by (repeat (first | exact X.refl _ | assumption | refine X.ext ?_ _ | refine X.alloc ?_ _ | refine X.drew ?_))) _)) hpc hsl2).mono ?_; rintro _ w4 ⟨v4, rfl, ⟨ra4, rc4, rfl, hrc4, hRI4⟩, hx4⟩; rw [Hr.out] at hRI4 ⊢; replace hx4 := X.trans (a := W3) (by (repeat (first | exact X.refl _ | assumption | refine X.ext ?_ _ | refine X.alloc ?_ _ | refine X.drew ?_))) hx4; obtain ⟨z, rfl⟩ := hx4)
        | (go_at_call 13; refine (equalSpec_one r ra ra4 rc rc4 _ _ _ (hRI.mono (X.fr (by (repeat (first | exact X.refl _ | assumption | refine X.ext ?_ _ | refine X.alloc ?_ _ | refine X.drew ?_))) _)) (hRI4.mono (X.fr (by (repeat (first | exact X.refl _ | assumption | refine X.ext ?_ _ | refine X.alloc ?_ _ | refine X.drew ?_))) _))).mono ?_; rintro _ w5 ⟨rfl, hx5⟩; replace hx5 := X.trans (a := W3) (by (repeat (first | exact X.refl _ | assumption | refine X.ext ?_ _ | refine X.alloc ?_ _ | refine X.drew ?_))) hx5; obtain ⟨z5, rfl⟩ := hx5)
        | (go_at_call 22; refine (ValidTree_c l _ _ _ _ _ (hF.mono (X.fr (by (repeat (first | exact X.refl _ | assumption | refine X.ext ?_ _ | refine X.alloc ?_ _ | refine X.drew ?_))) _)) hnc (hG.mono (by (repeat (first | exact X.refl _ | assumption | refine X.ext ?_ _ | refine X.alloc ?_ _ | refine X.drew ?_))))).mono ?_; rintro _ _ ⟨rfl, hx⟩; rw [h1]; replace hx := X.trans (a := W3) (by (repeat (first | exact X.refl _ | assumption | refine X.ext ?_ _ | refine X.alloc ?_ _ | refine X.drew ?_))) hx; obtain ⟨x, rfl⟩ := hx)
        | (go_at_call 23; refine (ValidPath_c path _ _ _ _ _ (hI.mono (X.fr (by (repeat (first | exact X.refl _ | assumption | refine X.ext ?_ _ | refine X.alloc ?_ _ | refine X.drew ?_))) _)) hpc).mono ?_; rintro _ _ ⟨rfl, rfl⟩; rw [h2])
        | (go_at_call 24; refine (ValidName_c _ _ hsl2 (hG.mono (by (repeat (first | exact X.refl _ | assumption | refine X.ext ?_ _ | refine X.alloc ?_ _ | refine X.drew ?_))))).mono ?_; rintro _ _ ⟨rfl, hx⟩; rw [h3]; replace hx := X.trans (a := W3) (by (repeat (first | exact X.refl _ | assumption | refine X.ext ?_ _ | refine X.alloc ?_ _ | refine X.drew ?_))) hx; obtain ⟨x, rfl⟩ := hx)))) | fail
      all_goals go_wp2_with fail
      all_goals (go_region_held3 (fun w' => w'.cell? ⟨W1.heap.size, 0, none⟩ = some (.slice a n c) ∧ w'.cell? ⟨W2.heap.size, 0, none⟩ = some (.int .i64 r.kind) ∧ w'.cell? ⟨W2.heap.size, 1, none⟩ = some (.int .i64 r.file) ∧ w'.cell? ⟨W2.heap.size, 2, none⟩ = some (.slice ra r.roots.length rc)) (first | exact ⟨(World.cell?_ext _ _ _ _ hlt1).trans d1, (World.cell?_ext _ _ _ _ hlt2).trans d2, (World.cell?_ext _ _ _ _ hlt2).trans d3, (World.cell?_ext _ _ _ _ hlt2).trans d4⟩ | go_keep) ((first
        | (go_at_call 27; refine (FindSpec_s l a n c _ path pa pn pc _ s _ (hF.mono (X.fr (by (repeat (first | exact X.refl _ | assumption | refine X.ext ?_ _ | refine X.alloc ?_ _ | refine X.drew ?_))) _)) (hI.mono (X.fr (by (repeat (first | exact X.refl _ | assumption | refine X.ext ?_ _ | refine X.alloc ?_ _ | refine X.drew ?_))) _)) hpc hsl2).mono ?_; rintro _ w4 ⟨v4, rfl, ⟨ra4, rc4, rfl, hrc4, hRI4⟩, hx4⟩; rw [Hr.out] at hRI4 ⊢; replace hx4 := X.trans (a := W3) (by (repeat (first | exact X.refl _ | assumption | refine X.ext ?_ _ | refine X.alloc ?_ _ | refine X.drew ?_))) hx4; obtain ⟨z, rfl⟩ := hx4)
        | (go_at_call 13; refine (equalSpec_one r ra ra4 rc rc4 _ _ _ (hRI.mono (X.fr (by (repeat (first | exact X.refl _ | assumption | refine X.ext ?_ _ | refine X.alloc ?_ _ | refine X.drew ?_))) _)) (hRI4.mono (X.fr (by (repeat (first | exact X.refl _ | assumption | refine X.ext ?_ _ | refine X.alloc ?_ _ | refine X.drew ?_))) _))).mono ?_; rintro _ w5 ⟨rfl, hx5⟩; replace hx5 := X.trans (a := W3) (by (repeat (first | exact X.refl _ | assumption | refine X.ext ?_ _ | refine X.alloc ?_ _ | refine X.drew ?_))) hx5; obtain ⟨z5, rfl⟩ := hx5))))
      all_goals go_wp2
      all_goals go_ret
      all_goals exact ⟨by simp, hxw.trans (by (repeat (first | exact X.refl _ | assumption | refine X.ext ?_ _ | refine X.alloc ?_ _ | refine X.drew ?_)))⟩
    cases h2 : pathB path
    · first | go_region_with (((first
        | (go_at_call 27; refine (FindSpec_s l a n c _ path pa pn pc _ s _ (hF.mono (X.fr (by (repeat (first | exact X.refl _ | assumption | refine X.ext ?_ _ | refine X.alloc ?_ _ | refine X.drew ?_))) _)) (hI.mono (X.fr (by (repeat (first | exact X.refl _ | assumption | refine X.ext ?_ _ | refine X.alloc ?_ _ | refine X.drew ?_))) _)) hpc hsl2).mono ?_; rintro _ w4 ⟨v4, rfl, ⟨ra4, rc4, rfl, hrc4, hRI4⟩, hx4⟩; rw [Hr.out] at hRI4 ⊢; replace hx4 := X.trans (a := W3) (by (repeat (first | exact X.refl _ | assumption | refine X.ext ?_ _ | refine X.alloc ?_ _ | refine X.drew ?_))) hx4; obtain ⟨z, rfl⟩ := hx4)
        | (go_at_call 13; refine (equalSpec_one r ra ra4 rc rc4 _ _ _ (hRI.mono (X.fr (by (repeat (first | exact X.refl _ | assumption | refine X.ext ?_ _ | refine X.alloc ?_ _ | refine X.drew ?_))) _)) (hRI4.mono (X.fr (by (repeat (first | exact X.refl _ | assumption | refine X.ext ?_ _ | refine X.alloc ?_ _ | refine X.drew ?_))) _))).mono ?_; rintro _ w5 ⟨rfl, hx5⟩; replace hx5 := X.trans (a := W3) (by (repeat (first | exact X.refl _ | assumption | refine X.ext ?_ _ | refine X.alloc ?_ _ | refine X.drew ?_))) hx5; obtain ⟨z5, rfl⟩ := hx5)
        | (go_at_call 22; refine (ValidTree_c l _ _ _ _ _ (hF.mono (X.fr (by (repeat (first | exact X.refl _ | assumption | refine X.ext ?_ _ | refine X.alloc ?_ _ | refine X.drew ?_))) _)) hnc (hG.mono (by (repeat (first | exact X.refl _ | assumption | refine X.ext ?_ _ | refine X.alloc ?_ _ | refine X.drew ?_))))).mono ?_; rintro _ _ ⟨rfl, hx⟩; rw [h1]; replace hx := X.trans (a := W3) (by (repeat (first | exact X.refl _ | assumption | refine X.ext ?_ _ | refine X.alloc ?_ _ | refine X.drew ?_))) hx; obtain ⟨x, rfl⟩ := hx)
        | (go_at_call 23; refine (ValidPath_c path _ _ _ _ _ (hI.mono (X.fr (by (repeat (first | exact X.refl _ | assumption | refine X.ext ?_ _ | refine X.alloc ?_ _ | refine X.drew ?_))) _)) hpc).mono ?_; rintro _ _ ⟨rfl, rfl⟩; rw [h2])
        | (go_at_call 24; refine (ValidName_c _ _ hsl2 (hG.mono (by (repeat (first | exact X.refl _ | assumption | refine X.ext ?_ _ | refine X.alloc ?_ _ | refine X.drew ?_))))).mono ?_; rintro _ _ ⟨rfl, hx⟩; rw [h3]; replace hx := X.trans (a := W3) (by (repeat (first | exact X.refl _ | assumption | refine X.ext ?_ _ | refine X.alloc ?_ _ | refine X.drew ?_))) hx; obtain ⟨x, rfl⟩ := hx)))) | fail
      all_goals go_wp2_with fail
      all_goals (go_region_held3 (fun w' => w'.cell? ⟨W1.heap.size, 0, none⟩ = some (.slice a n c) ∧ w'.cell? ⟨W2.heap.size, 0, none⟩ = some (.int .i64 r.kind) ∧ w'.cell? ⟨W2.heap.size, 1, none⟩ = some (.int .i64 r.file) ∧ w'.cell? ⟨W2.heap.size, 2, none⟩ = some (.slice ra r.roots.length rc)) (first | exact ⟨(World.cell?_ext _ _ _ _ hlt1).trans d1, (World.cell?_ext _ _ _ _ hlt2).trans d2, (World.cell?_ext _ _ _ _ hlt2).trans d3, (World.cell?_ext _ _ _ _ hlt2).trans d4⟩ | go_keep) ((first
        | (go_at_call 27; refine (FindSpec_s l a n c _ path pa pn pc _ s _ (hF.mono (X.fr (by (repeat (first | exact X.refl _ | assumption | refine X.ext ?_ _ | refine X.alloc ?_ _ | refine X.drew ?_))) _)) (hI.mono (X.fr (by (repeat (first | exact X.refl _ | assumption | refine X.ext ?_ _ | refine X.alloc ?_ _ | refine X.drew ?_))) _)) hpc hsl2).mono ?_; rintro _ w4 ⟨v4, rfl, ⟨ra4, rc4, rfl, hrc4, hRI4⟩, hx4⟩; rw [Hr.out] at hRI4 ⊢; replace hx4 := X.trans (a := W3) (by (repeat (first | exact X.refl _ | assumption | refine X.ext ?_ _ | refine X.alloc ?_ _ | refine X.drew ?_))) hx4; obtain ⟨z, rfl⟩ := hx4)
        | (go_at_call 13; refine (equalSpec_one r ra ra4 rc rc4 _ _ _ (hRI.mono (X.fr (by (repeat (first | exact X.refl _ | assumption | refine X.ext ?_ _ | refine X.alloc ?_ _ | refine X.drew ?_))) _)) (hRI4.mono (X.fr (by (repeat (first | exact X.refl _ | assumption | refine X.ext ?_ _ | refine X.alloc ?_ _ | refine X.drew ?_))) _))).mono ?_; rintro _ w5 ⟨rfl, hx5⟩; replace hx5 := X.trans (a := W3) (by (repeat (first | exact X.refl _ | assumption | refine X.ext ?_ _ | refine X.alloc ?_ _ | refine X.drew ?_))) hx5; obtain ⟨z5, rfl⟩ := hx5))))
      all_goals go_wp2
      all_goals go_ret
      all_goals exact ⟨by simp, hxw.trans (by (repeat (first | exact X.refl _ | assumption | refine X.ext ?_ _ | refine X.alloc ?_ _ | refine X.drew ?_)))⟩
    cases h3 : nameB s
    · first | go_region_with (((first
        | (go_at_call 27; refine (FindSpec_s l a n c _ path pa pn pc _ s _ (hF.mono (X.fr (by (repeat (first | exact X.refl _ | assumption | refine X.ext ?_ _ | refine X.alloc ?_ _ | refine X.drew ?_))) _)) (hI.mono (X.fr (by (repeat (first | exact X.refl _ | assumption | refine X.ext ?_ _ | refine X.alloc ?_ _ | refine X.drew ?_))) _)) hpc hsl2).mono ?_; rintro _ w4 ⟨v4, rfl, ⟨ra4, rc4, rfl, hrc4, hRI4⟩, hx4⟩; rw [Hr.out] at hRI4 ⊢; replace hx4 := X.trans (a := W3) (by (repeat (first | exact X.refl _ | assumption | refine X.ext ?_ _ | refine X.alloc ?_ _ | refine X.drew ?_))) hx4; obtain ⟨z, rfl⟩ := hx4)
        | (go_at_call 13; refine (equalSpec_one r ra ra4 rc rc4 _ _ _ (hRI.mono (X.fr (by (repeat (first | exact X.refl _ | assumption | refine X.ext ?_ _ | refine X.alloc ?_ _ | refine X.drew ?_))) _)) (hRI4.mono (X.fr (by (repeat (first | exact X.refl _ | assumption | refine X.ext ?_ _ | refine X.alloc ?_ _ | refine X.drew ?_))) _))).mono ?_; rintro _ w5 ⟨rfl, hx5⟩; replace hx5 := X.trans (a := W3) (by (repeat (first | exact X.refl _ | assumption | refine X.ext ?_ _ | refine X.alloc ?_ _ | refine X.drew ?_))) hx5; obtain ⟨z5, rfl⟩ := hx5)
        | (go_at_call 22; refine (ValidTree_c l _ _ _ _ _ (hF.mono (X.fr (by (repeat (first | exact X.refl _ | assumption | refine X.ext ?_ _ | refine X.alloc ?_ _ | refine X.drew ?_))) _)) hnc (hG.mono (by (repeat (first | exact X.refl _ | assumption | refine X.ext ?_ _ | refine X.alloc ?_ _ | refine X.drew ?_))))).mono ?_; rintro _ _ ⟨rfl, hx⟩; rw [h1]; replace hx := X.trans (a := W3) (by (repeat (first | exact X.refl _ | assumption | refine X.ext ?_ _ | refine X.alloc ?_ _ | refine X.drew ?_))) hx; obtain ⟨x, rfl⟩ := hx)
        | (go_at_call 23; refine (ValidPath_c path _ _ _ _ _ (hI.mono (X.fr (by (repeat (first | exact X.refl _ | assumption | refine X.ext ?_ _ | refine X.alloc ?_ _ | refine X.drew ?_))) _)) hpc).mono ?_; rintro _ _ ⟨rfl, rfl⟩; rw [h2])
        | (go_at_call 24; refine (ValidName_c _ _ hsl2 (hG.mono (by (repeat (first | exact X.refl _ | assumption | refine X.ext ?_ _ | refine X.alloc ?_ _ | refine X.drew ?_))))).mono ?_; rintro _ _ ⟨rfl, hx⟩; rw [h3]; replace hx := X.trans (a := W3) (by (repeat (first | exact X.refl _ | assumption | refine X.ext ?_ _ | refine X.alloc ?_ _ | refine X.drew ?_))) hx; obtain ⟨x, rfl⟩ := hx)))) | fail
      all_goals go_wp2_with fail
      all_goals (go_region_held3 (fun w' => w'.cell? ⟨W1.heap.size, 0, none⟩ = some (.slice a n c) ∧ w'.cell? ⟨W2.heap.size, 0, none⟩ = some (.int .i64 r.kind) ∧ w'.cell? ⟨W2.heap.size, 1, none⟩ = some (.int .i64 r.file) ∧ w'.cell? ⟨W2.heap.size, 2, none⟩ = some (.slice ra r.roots.length rc)) (first | exact ⟨(World.cell?_ext _ _ _ _ hlt1).trans d1, (World.cell?_ext _ _ _ _ hlt2).trans d2, (World.cell?_ext _ _ _ _ hlt2).trans d3, (World.cell?_ext _ _ _ _ hlt2).trans d4⟩ | go_keep) ((first
        | (go_at_call 27; refine (FindSpec_s l a n c _ path pa pn pc _ s _ (hF.mono (X.fr (by (repeat (first | exact X.refl _ | assumption | refine X.ext ?_ _ | refine X.alloc ?_ _ | refine X.drew ?_))) _)) (hI.mono (X.fr (by (repeat (first | exact X.refl _ | assumption | refine X.ext ?_ _ | refine X.alloc ?_ _ | refine X.drew ?_))) _)) hpc hsl2).mono ?_; rintro _ w4 ⟨v4, rfl, ⟨ra4, rc4, rfl, hrc4, hRI4⟩, hx4⟩; rw [Hr.out] at hRI4 ⊢; replace hx4 := X.trans (a := W3) (by (repeat (first | exact X.refl _ | assumption | refine X.ext ?_ _ | refine X.alloc ?_ _ | refine X.drew ?_))) hx4; obtain ⟨z, rfl⟩ := hx4)
        | (go_at_call 13; refine (equalSpec_one r ra ra4 rc rc4 _ _ _ (hRI.mono (X.fr (by (repeat (first | exact X.refl _ | assumption | refine X.ext ?_ _ | refine X.alloc ?_ _ | refine X.drew ?_))) _)) (hRI4.mono (X.fr (by (repeat (first | exact X.refl _ | assumption | refine X.ext ?_ _ | refine X.alloc ?_ _ | refine X.drew ?_))) _))).mono ?_; rintro _ w5 ⟨rfl, hx5⟩; replace hx5 := X.trans (a := W3) (by (repeat (first | exact X.refl _ | assumption | refine X.ext ?_ _ | refine X.alloc ?_ _ | refine X.drew ?_))) hx5; obtain ⟨z5, rfl⟩ := hx5))))
      all_goals go_wp2
      all_goals go_ret
      all_goals exact ⟨by simp, hxw.trans (by (repeat (first | exact X.refl _ | assumption | refine X.ext ?_ _ | refine X.alloc ?_ _ | refine X.drew ?_)))⟩
    go_region_held3 (fun w' => w'.cell? ⟨W1.heap.size, 0, none⟩ = some (.slice a n c) ∧ w'.cell? ⟨W2.heap.size, 0, none⟩ = some (.int .i64 r.kind) ∧ w'.cell? ⟨W2.heap.size, 1, none⟩ = some (.int .i64 r.file) ∧ w'.cell? ⟨W2.heap.size, 2, none⟩ = some (.slice ra r.roots.length rc)) (first | exact ⟨(World.cell?_ext _ _ _ _ hlt1).trans d1, (World.cell?_ext _ _ _ _ hlt2).trans d2, (World.cell?_ext _ _ _ _ hlt2).trans d3, (World.cell?_ext _ _ _ _ hlt2).trans d4⟩ | go_keep)
      ((first
        | (go_at_call 27; refine (FindSpec_s l a n c _ path pa pn pc _ s _ (hF.mono (X.fr (by (repeat (first | exact X.refl _ | assumption | refine X.ext ?_ _ | refine X.alloc ?_ _ | refine X.drew ?_))) _)) (hI.mono (X.fr (by (repeat (first | exact X.refl _ | assumption | refine X.ext ?_ _ | refine X.alloc ?_ _ | refine X.drew ?_))) _)) hpc hsl2).mono ?_; rintro _ w4 ⟨v4, rfl, ⟨ra4, rc4, rfl, hrc4, hRI4⟩, hx4⟩; rw [Hr.out] at hRI4 ⊢; replace hx4 := X.trans (a := W3) (by (repeat (first | exact X.refl _ | assumption | refine X.ext ?_ _ | refine X.alloc ?_ _ | refine X.drew ?_))) hx4; obtain ⟨z, rfl⟩ := hx4)
        | (go_at_call 13; refine (equalSpec_one r ra ra4 rc rc4 _ _ _ (hRI.mono (X.fr (by (repeat (first | exact X.refl _ | assumption | refine X.ext ?_ _ | refine X.alloc ?_ _ | refine X.drew ?_))) _)) (hRI4.mono (X.fr (by (repeat (first | exact X.refl _ | assumption | refine X.ext ?_ _ | refine X.alloc ?_ _ | refine X.drew ?_))) _))).mono ?_; rintro _ w5 ⟨rfl, hx5⟩; replace hx5 := X.trans (a := W3) (by (repeat (first | exact X.refl _ | assumption | refine X.ext ?_ _ | refine X.alloc ?_ _ | refine X.drew ?_))) hx5; obtain ⟨z5, rfl⟩ := hx5)
        | (go_at_call 22; refine (ValidTree_c l _ _ _ _ _ (hF.mono (X.fr (by (repeat (first | exact X.refl _ | assumption | refine X.ext ?_ _ | refine X.alloc ?_ _ | refine X.drew ?_))) _)) hnc (hG.mono (by (repeat (first | exact X.refl _ | assumption | refine X.ext ?_ _ | refine X.alloc ?_ _ | refine X.drew ?_))))).mono ?_; rintro _ _ ⟨rfl, hx⟩; rw [h1]; replace hx := X.trans (a := W3) (by (repeat (first | exact X.refl _ | assumption | refine X.ext ?_ _ | refine X.alloc ?_ _ | refine X.drew ?_))) hx; obtain ⟨x, rfl⟩ := hx)
        | (go_at_call 23; refine (ValidPath_c path _ _ _ _ _ (hI.mono (X.fr (by (repeat (first | exact X.refl _ | assumption | refine X.ext ?_ _ | refine X.alloc ?_ _ | refine X.drew ?_))) _)) hpc).mono ?_; rintro _ _ ⟨rfl, rfl⟩; rw [h2])
        | (go_at_call 24; refine (ValidName_c _ _ hsl2 (hG.mono (by (repeat (first | exact X.refl _ | assumption | refine X.ext ?_ _ | refine X.alloc ?_ _ | refine X.drew ?_))))).mono ?_; rintro _ _ ⟨rfl, hx⟩; rw [h3]; replace hx := X.trans (a := W3) (by (repeat (first | exact X.refl _ | assumption | refine X.ext ?_ _ | refine X.alloc ?_ _ | refine X.drew ?_))) hx; obtain ⟨x, rfl⟩ := hx)))
    rename_i hHd
    clear hHd
    rcases hlaw.out (by rw [h1, h2, h3]; rfl) with ⟨hp0, htop⟩ | ⟨hpe, hpl, hql, hcase⟩
    · have Htop := Lib.hid htop
      have Hp0 := Lib.hid hp0
      clear htop hp0 hRI4
      go_wp2_with (go_at_call 29; refine (ParentOf_c s _ hsl2 (hG.mono (by (repeat (first | exact X.refl _ | assumption | refine X.ext ?_ _ | refine X.alloc ?_ _ | refine X.drew ?_))))).mono ?_; rintro _ w6 ⟨rfl, hx6⟩; rw [Hp0.out]; replace hx6 := X.trans (a := W3) (by (repeat (first | exact X.refl _ | assumption | refine X.ext ?_ _ | refine X.alloc ?_ _ | refine X.drew ?_))) hx6; obtain ⟨z6, rfl⟩ := hx6)
      go_region_held3 (fun w' => w'.cell? ⟨W1.heap.size, 0, none⟩ = some (.slice a n c) ∧ w'.cell? ⟨W2.heap.size, 0, none⟩ = some (.int .i64 r.kind) ∧ w'.cell? ⟨W2.heap.size, 1, none⟩ = some (.int .i64 r.file) ∧ w'.cell? ⟨W2.heap.size, 2, none⟩ = some (.slice ra r.roots.length rc)) (first | exact ⟨(World.cell?_ext _ _ _ _ hlt1).trans d1, (World.cell?_ext _ _ _ _ hlt2).trans d2, (World.cell?_ext _ _ _ _ hlt2).trans d3, (World.cell?_ext _ _ _ _ hlt2).trans d4⟩ | go_keep)
        ((first
          | (go_at_call 12; refine (FindIn_i l _ n c _ path _ _ _ _ [] s _ (hF.mono (X.fr (by (repeat (first | exact X.refl _ | assumption | refine X.ext ?_ _ | refine X.alloc ?_ _ | refine X.drew ?_))) _)) hnc (hI.mono (X.fr (by (repeat (first | exact X.refl _ | assumption | refine X.ext ?_ _ | refine X.alloc ?_ _ | refine X.drew ?_))) _)) hpc (by simp) (by omega) (hG.mono (by (repeat (first | exact X.refl _ | assumption | refine X.ext ?_ _ | refine X.alloc ?_ _ | refine X.drew ?_))))).mono ?_; rintro _ w7 ⟨v7, rfl, ⟨ra7, rc7, rfl, hown7⟩, hx7⟩; rw [← Htop.out] at hown7 ⊢; replace hx7 := X.trans (a := W3) (by (repeat (first | exact X.refl _ | assumption | refine X.ext ?_ _ | refine X.alloc ?_ _ | refine X.drew ?_))) hx7; obtain ⟨z7, rfl⟩ := hx7)
          | (go_at_call 13; refine (equalSpec_one r ra ra7 rc rc7 _ _ _ (hRI.mono (X.fr (by (repeat (first | exact X.refl _ | assumption | refine X.ext ?_ _ | refine X.alloc ?_ _ | refine X.drew ?_))) _)) ((SpecAt.ints hown7 hr3).mono (X.fr (by (repeat (first | exact X.refl _ | assumption | refine X.ext ?_ _ | refine X.alloc ?_ _ | refine X.drew ?_))) _))).mono ?_; rintro _ w8 ⟨rfl, hx8⟩; replace hx8 := X.trans (a := W3) (by (repeat (first | exact X.refl _ | assumption | refine X.ext ?_ _ | refine X.alloc ?_ _ | refine X.drew ?_))) hx8; obtain ⟨z8, rfl⟩ := hx8)))
      go_wp2
      go_ret
      exact ⟨by simp, hxw.trans (by (repeat (first | exact X.refl _ | assumption | refine X.ext ?_ _ | refine X.alloc ?_ _ | refine X.drew ?_)))⟩
    · have hpl2 : (parentF s).length ≤ 4194304 := by omega
      have hpl1 : (parentF s).length ≤ 1048576 := by omega
      have hql1 : (lastF s).length ≤ 1048576 := by omega
      generalize hu : specB l path (parentF s) = u at hcase
      have Hu := Lib.hid hu
      clear hu hRI4
      go_wp2_with (go_at_call 29; refine (ParentOf_c s _ hsl2 (hG.mono (by (repeat (first | exact X.refl _ | assumption | refine X.ext ?_ _ | refine X.alloc ?_ _ | refine X.drew ?_))))).mono ?_; rintro _ w6 ⟨rfl, hx6⟩; replace hx6 := X.trans (a := W3) (by (repeat (first | exact X.refl _ | assumption | refine X.ext ?_ _ | refine X.alloc ?_ _ | refine X.drew ?_))) hx6; obtain ⟨z6, rfl⟩ := hx6)
      refine (FindSpec_i l _ _ _ _ path _ _ _ _ (parentF s) _ (hF.mono (X.fr (by (repeat (first | exact X.refl _ | assumption | refine X.ext ?_ _ | refine X.alloc ?_ _ | refine X.drew ?_))) _)) hnc (hI.mono (X.fr (by (repeat (first | exact X.refl _ | assumption | refine X.ext ?_ _ | refine X.alloc ?_ _ | refine X.drew ?_))) _)) hpc hpl2 (hG.mono (by (repeat (first | exact X.refl _ | assumption | refine X.ext ?_ _ | refine X.alloc ?_ _ | refine X.drew ?_))))).mono ?_
      rintro _ W6 ⟨v6, rfl, ⟨ua, uc, rfl, huc, hUI⟩, hx6⟩
      rw [Hu.out] at huc hUI ⊢
      have hX6 : X W3 W6 := X.trans (by (repeat (first | exact X.refl _ | assumption | refine X.ext ?_ _ | refine X.alloc ?_ _ | refine X.drew ?_))) hx6
      clear hx6
      replace hUI := hUI.less (B' := 0) (Nat.zero_le _)
      have m2 := (hX6.cell (p := ⟨W2.heap.size, 0, none⟩) hlt2).trans d2
      have n2 : W2.heap.size < W6.heap.size := Nat.lt_of_lt_of_le hlt2 hX6.size
      rcases hcase with ⟨h, hr0⟩ | ⟨h, hr0⟩ | ⟨h | h, hru⟩
      · have Hr0 := Lib.hid hr0
        rw [h]
        clear h hr0
        go_wp2_with fail
        go_ret
        exact ⟨by simp [Hr0.out], hxw.trans (hX6.trans (by (repeat (first | exact X.refl _ | assumption | refine X.ext ?_ _ | refine X.alloc ?_ _ | refine X.drew ?_))))⟩
      · have Hr0 := Lib.hid hr0
        rw [h]
        clear h hr0
        go_wp2_with fail
        go_ret
        exact ⟨by simp [Hr0.out], hxw.trans (hX6.trans (by (repeat (first | exact X.refl _ | assumption | refine X.ext ?_ _ | refine X.alloc ?_ _ | refine X.drew ?_))))⟩
      · have Hru := Lib.hid hru
        clear hru
        rw [h]
        clear h
        have hB8 := Bx.new W6 #[.int .i64 2, .int .i64 u.file, .slice ua u.roots.length uc] 30
        go_wp2_with fail
        refine wp_name (fun W8 hW8 => ?_)
        rw [← hW8] at hB8
        have hX8 : X W3 W8 := by rw [hW8]; (repeat (first | exact X.refl _ | assumption | refine X.ext ?_ _ | refine X.alloc ?_ _ | refine X.drew ?_))
        have hUI8 := hUI.mono (X.fr (show X W6 W8 by rw [hW8]; (repeat (first | exact X.refl _ | assumption | refine X.ext ?_ _ | refine X.alloc ?_ _ | refine X.drew ?_))) 0)
        clear hW8
        obtain ⟨hb8, hc8, hf8⟩ := hB8.out
        have u2 := hc8 2
        clear hc8
        have l1 : W1.heap.size < W8.heap.size := Nat.lt_of_lt_of_le hlt1 hX8.size
        have l2 : W2.heap.size < W8.heap.size := Nat.lt_of_lt_of_le hlt2 hX8.size
        have e1 := (hX8.cell (p := ⟨W1.heap.size, 0, none⟩) hlt1).trans d1
        have e2 := (hX8.cell (p := ⟨W2.heap.size, 0, none⟩) hlt2).trans d2
        have e3 := (hX8.cell (p := ⟨W2.heap.size, 1, none⟩) hlt2).trans d3
        have e4 := (hX8.cell (p := ⟨W2.heap.size, 2, none⟩) hlt2).trans d4
        go_region_held3 (fun w' => w'.cell? ⟨W1.heap.size, 0, none⟩ = some (.slice a n c) ∧ w'.cell? ⟨W2.heap.size, 0, none⟩ = some (.int .i64 r.kind) ∧ w'.cell? ⟨W2.heap.size, 1, none⟩ = some (.int .i64 r.file) ∧ w'.cell? ⟨W2.heap.size, 2, none⟩ = some (.slice ra r.roots.length rc) ∧ w'.cell? ⟨W6.heap.size, 2, none⟩ = some (.slice ua u.roots.length uc))
          (first | exact ⟨(World.cell?_ext _ _ _ _ l1).trans e1, (World.cell?_ext _ _ _ _ l2).trans e2, (World.cell?_ext _ _ _ _ l2).trans e3, (World.cell?_ext _ _ _ _ l2).trans e4, (World.cell?_ext _ _ _ _ hb8).trans u2⟩ | exact ⟨e1, e2, e3, e4, u2⟩ | go_keep)
          ((first
            | (go_at_call 30; refine (LastOf_c s _ hsl2 (hG.mono (hX8.trans (by (repeat (first | exact X.refl _ | assumption | refine X.ext ?_ _ | refine X.alloc ?_ _ | refine X.drew ?_)))))).mono ?_; rintro _ w9 ⟨rfl, hx9⟩; replace hx9 := X.trans (a := W8) (by (repeat (first | exact X.refl _ | assumption | refine X.ext ?_ _ | refine X.alloc ?_ _ | refine X.drew ?_))) hx9; obtain ⟨z9, rfl⟩ := hx9)
            | (go_at_call 12; refine (FindIn_i l _ n c _ u.roots _ _ _ _ (parentF s) (lastF s) _ (hF.mono (X.fr (hX8.trans (by (repeat (first | exact X.refl _ | assumption | refine X.ext ?_ _ | refine X.alloc ?_ _ | refine X.drew ?_)))) _)) hnc (hUI8.mono (X.fr (by (repeat (first | exact X.refl _ | assumption | refine X.ext ?_ _ | refine X.alloc ?_ _ | refine X.drew ?_))) _)) huc hpl1 hql1 (hG.mono (hX8.trans (by (repeat (first | exact X.refl _ | assumption | refine X.ext ?_ _ | refine X.alloc ?_ _ | refine X.drew ?_)))))).mono ?_; rintro _ w7 ⟨v7, rfl, ⟨ra7, rc7, rfl, hown7⟩, hx7⟩; rw [← Hru.out] at hown7 ⊢; replace hx7 := X.trans (a := W8) (by (repeat (first | exact X.refl _ | assumption | refine X.ext ?_ _ | refine X.alloc ?_ _ | refine X.drew ?_))) hx7; obtain ⟨z7, rfl⟩ := hx7)
            | (go_at_call 13; refine (equalSpec_one r ra ra7 rc rc7 _ _ _ (hRI.mono (X.fr (hX8.trans (by (repeat (first | exact X.refl _ | assumption | refine X.ext ?_ _ | refine X.alloc ?_ _ | refine X.drew ?_)))) _)) ((SpecAt.ints hown7 hr3).mono (X.fr (by (repeat (first | exact X.refl _ | assumption | refine X.ext ?_ _ | refine X.alloc ?_ _ | refine X.drew ?_))) _))).mono ?_; rintro _ w8 ⟨rfl, hx8⟩; replace hx8 := X.trans (a := W8) (by (repeat (first | exact X.refl _ | assumption | refine X.ext ?_ _ | refine X.alloc ?_ _ | refine X.drew ?_))) hx8; obtain ⟨z8, rfl⟩ := hx8)))
        go_wp2
        go_ret
        exact ⟨by simp, hxw.trans (hX8.trans (by (repeat (first | exact X.refl _ | assumption | refine X.ext ?_ _ | refine X.alloc ?_ _ | refine X.drew ?_))))⟩
      · have Hru := Lib.hid hru
        clear hru
        rw [h]
        clear h
        have hB8 := Bx.new W6 #[.int .i64 3, .int .i64 u.file, .slice ua u.roots.length uc] 30
        go_wp2_with fail
        refine wp_name (fun W8 hW8 => ?_)
        rw [← hW8] at hB8
        have hX8 : X W3 W8 := by rw [hW8]; (repeat (first | exact X.refl _ | assumption | refine X.ext ?_ _ | refine X.alloc ?_ _ | refine X.drew ?_))
        have hUI8 := hUI.mono (X.fr (show X W6 W8 by rw [hW8]; (repeat (first | exact X.refl _ | assumption | refine X.ext ?_ _ | refine X.alloc ?_ _ | refine X.drew ?_))) 0)
        clear hW8
        obtain ⟨hb8, hc8, hf8⟩ := hB8.out
        have u2 := hc8 2
        clear hc8
        have l1 : W1.heap.size < W8.heap.size := Nat.lt_of_lt_of_le hlt1 hX8.size
        have l2 : W2.heap.size < W8.heap.size := Nat.lt_of_lt_of_le hlt2 hX8.size
        have e1 := (hX8.cell (p := ⟨W1.heap.size, 0, none⟩) hlt1).trans d1
        have e2 := (hX8.cell (p := ⟨W2.heap.size, 0, none⟩) hlt2).trans d2
        have e3 := (hX8.cell (p := ⟨W2.heap.size, 1, none⟩) hlt2).trans d3
        have e4 := (hX8.cell (p := ⟨W2.heap.size, 2, none⟩) hlt2).trans d4
        go_region_held3 (fun w' => w'.cell? ⟨W1.heap.size, 0, none⟩ = some (.slice a n c) ∧ w'.cell? ⟨W2.heap.size, 0, none⟩ = some (.int .i64 r.kind) ∧ w'.cell? ⟨W2.heap.size, 1, none⟩ = some (.int .i64 r.file) ∧ w'.cell? ⟨W2.heap.size, 2, none⟩ = some (.slice ra r.roots.length rc) ∧ w'.cell? ⟨W6.heap.size, 2, none⟩ = some (.slice ua u.roots.length uc))
          (first | exact ⟨(World.cell?_ext _ _ _ _ l1).trans e1, (World.cell?_ext _ _ _ _ l2).trans e2, (World.cell?_ext _ _ _ _ l2).trans e3, (World.cell?_ext _ _ _ _ l2).trans e4, (World.cell?_ext _ _ _ _ hb8).trans u2⟩ | exact ⟨e1, e2, e3, e4, u2⟩ | go_keep)
          ((first
            | (go_at_call 30; refine (LastOf_c s _ hsl2 (hG.mono (hX8.trans (by (repeat (first | exact X.refl _ | assumption | refine X.ext ?_ _ | refine X.alloc ?_ _ | refine X.drew ?_)))))).mono ?_; rintro _ w9 ⟨rfl, hx9⟩; replace hx9 := X.trans (a := W8) (by (repeat (first | exact X.refl _ | assumption | refine X.ext ?_ _ | refine X.alloc ?_ _ | refine X.drew ?_))) hx9; obtain ⟨z9, rfl⟩ := hx9)
            | (go_at_call 12; refine (FindIn_i l _ n c _ u.roots _ _ _ _ (parentF s) (lastF s) _ (hF.mono (X.fr (hX8.trans (by (repeat (first | exact X.refl _ | assumption | refine X.ext ?_ _ | refine X.alloc ?_ _ | refine X.drew ?_)))) _)) hnc (hUI8.mono (X.fr (by (repeat (first | exact X.refl _ | assumption | refine X.ext ?_ _ | refine X.alloc ?_ _ | refine X.drew ?_))) _)) huc hpl1 hql1 (hG.mono (hX8.trans (by (repeat (first | exact X.refl _ | assumption | refine X.ext ?_ _ | refine X.alloc ?_ _ | refine X.drew ?_)))))).mono ?_; rintro _ w7 ⟨v7, rfl, ⟨ra7, rc7, rfl, hown7⟩, hx7⟩; rw [← Hru.out] at hown7 ⊢; replace hx7 := X.trans (a := W8) (by (repeat (first | exact X.refl _ | assumption | refine X.ext ?_ _ | refine X.alloc ?_ _ | refine X.drew ?_))) hx7; obtain ⟨z7, rfl⟩ := hx7)
            | (go_at_call 13; refine (equalSpec_one r ra ra7 rc rc7 _ _ _ (hRI.mono (X.fr (hX8.trans (by (repeat (first | exact X.refl _ | assumption | refine X.ext ?_ _ | refine X.alloc ?_ _ | refine X.drew ?_)))) _)) ((SpecAt.ints hown7 hr3).mono (X.fr (by (repeat (first | exact X.refl _ | assumption | refine X.ext ?_ _ | refine X.alloc ?_ _ | refine X.drew ?_))) _))).mono ?_; rintro _ w8 ⟨rfl, hx8⟩; replace hx8 := X.trans (a := W8) (by (repeat (first | exact X.refl _ | assumption | refine X.ext ?_ _ | refine X.alloc ?_ _ | refine X.drew ?_))) hx8; obtain ⟨z8, rfl⟩ := hx8)))
        go_wp2
        go_ret
        exact ⟨by simp, hxw.trans (hX8.trans (by (repeat (first | exact X.refl _ | assumption | refine X.ext ?_ _ | refine X.alloc ?_ _ | refine X.drew ?_))))⟩

end Go.Proofs.YtjklpfgjimbabaaDoor
