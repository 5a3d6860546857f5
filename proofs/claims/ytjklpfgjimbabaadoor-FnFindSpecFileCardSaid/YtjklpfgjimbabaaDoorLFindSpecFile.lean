/- The walk of the law FnFindSpecFile. -/
import Derived.Test.YtjklpfgjimbabaaDoorSpecFile
import Derived.Test.YtjklpfgjimbabaaDoorDrawName
namespace Go.Proofs.YtjklpfgjimbabaaDoor
open Go.RowKit

set_option maxRecDepth 100000 in
set_option maxHeartbeats 1000000 in
theorem FnFindSpecFile_c (ca : Option Addr) (cn cc : Nat) (w : World) (hC : CodeAt w ca cn cc) (hG : Gm w) :
    Calls Tryd.prog 6 #[.slice ca cn cc] w fun e w' => e = .returned (.bool true) ∧ X w w' := by
  by_cases hbig : 1048576 < cn
  · go_enter Tryd.func6, Tryd.ntmps6
    go_wp2
    go_ret
    exact ⟨by simp, by (repeat (first | exact X.refl _ | assumption | refine X.ext ?_ _ | refine X.alloc ?_ _ | refine X.drew ?_))⟩
  · go_enter Tryd.func6, Tryd.ntmps6
    go_wp2_with fail
    refine (DrawFindSpec_c ca cn cc _ hC (by omega)).mono ?_
    rintro _ W1 ⟨l, a, n, c, path, pa, pn, pc, s, rfl, hF, hnc, hn11, hsm, hI, hpc, hpn3, hsl, hx1⟩
    replace hG := hG.mono hx1
    have hB1 := Bx.new W1 #[.slice a n c] 25
    go_wp2_with fail
    refine calls_name (fun W hW => ?_)
    rw [← hW] at hB1
    have hx2 : X W1 W := by rw [hW]; (repeat (first | exact X.refl _ | assumption | refine X.ext ?_ _ | refine X.alloc ?_ _ | refine X.drew ?_))
    clear hW
    replace hF := hF.mono (hx2.fr _)
    replace hI := hI.mono (hx2.fr _)
    replace hG := hG.mono hx2
    have hxw := hx1.trans hx2
    clear hx1 hx2
    obtain ⟨hb1, hc1, hf1⟩ := hB1.out
    have d1 := hc1 0
    clear hc1
    have hsl2 : s.length ≤ 4194304 := by omega
    refine (FindSpec_i l _ _ _ _ path _ _ _ _ s W hF hnc hI hpc hsl2 hG).mono ?_
    rintro _ W2 ⟨v5, rfl, ⟨ra, rc, rfl, hrc, hRI⟩, hx2⟩
    replace hB1 := hB1.x hx2
    have hlaw := Lib.hid (@specFile_law l path s)
    have hr3 : (specB l path s).roots.length ≤ 2097152 := hRI.2.1
    generalize hr : specB l path s = r at *
    have Hr := Lib.hid hr
    clear hr
    have hB2 := Bx.new W2 #[.int .i64 r.kind, .int .i64 r.file, .slice ra r.roots.length rc] 30
    go_wp2_with fail
    refine wp_name (fun W3 hW3 => ?_)
    rw [← hW3] at hB2
    have hx23 : X W2 W3 := hW3 ▸ (by (repeat (first | exact X.refl _ | assumption | refine X.ext ?_ _ | refine X.alloc ?_ _ | refine X.drew ?_)))
    clear hW3
    have hx3 : X W W3 := hx2.trans hx23
    replace hB1 := hB1.x hx23
    replace hF := hF.mono (hx3.fr _)
    replace hI := hI.mono (hx3.fr _)
    replace hRI := hRI.mono (hx23.fr _)
    replace hG := hG.mono hx3
    have hlt2 := hB2.lt
    have hlt1 := hB1.lt
    replace hxw := hxw.trans hx3
    clear hx2 hx23 hx3 hb1 hf1 d1
    obtain ⟨hb1, hc1, hf1⟩ := hB1.out
    obtain ⟨hb2, hc2, hf2⟩ := hB2.out
    have d1 := hc1 0
    have d2 := hc2 0
    have d3 := hc2 1
    have d4 := hc2 2
    clear hc1 hc2
    have hx : X W3 W3 := X.refl _
    by_cases hk : r.file < 0
    · go_region_held3 (fun w' => w'.cell? ⟨W1.heap.size, 0, none⟩ = some (.slice a n c) ∧ w'.cell? ⟨W2.heap.size, 0, none⟩ = some (.int .i64 r.kind) ∧ w'.cell? ⟨W2.heap.size, 1, none⟩ = some (.int .i64 r.file) ∧ w'.cell? ⟨W2.heap.size, 2, none⟩ = some (.slice ra r.roots.length rc)) (first | exact ⟨(World.cell?_ext _ _ _ _ hlt1).trans d1, (World.cell?_ext _ _ _ _ hlt2).trans d2, (World.cell?_ext _ _ _ _ hlt2).trans d3, (World.cell?_ext _ _ _ _ hlt2).trans d4⟩ | go_keep)
        ((first
          | (go_at_call 27; refine (FindSpec_s l a n c _ path pa pn pc _ s _ (hF.mono (X.fr (by (repeat (first | exact X.refl _ | assumption | refine X.ext ?_ _ | refine X.alloc ?_ _ | refine X.drew ?_))) _)) (hI.mono (X.fr (by (repeat (first | exact X.refl _ | assumption | refine X.ext ?_ _ | refine X.alloc ?_ _ | refine X.drew ?_))) _)) hpc hsl2).mono ?_; rintro _ w4 ⟨v4, rfl, ⟨ra4, rc4, rfl, hrc4, hRI4⟩, hx4⟩; rw [Hr.out] at hRI4 ⊢; replace hx4 := X.trans (a := W3) (by (repeat (first | exact X.refl _ | assumption | refine X.ext ?_ _ | refine X.alloc ?_ _ | refine X.drew ?_))) hx4; obtain ⟨z, rfl⟩ := hx4)
          | (go_at_call 13; refine (equalSpec_one r ra ra4 rc rc4 _ _ _ (hRI.mono (X.fr (by (repeat (first | exact X.refl _ | assumption | refine X.ext ?_ _ | refine X.alloc ?_ _ | refine X.drew ?_))) _)) (hRI4.mono (X.fr (by (repeat (first | exact X.refl _ | assumption | refine X.ext ?_ _ | refine X.alloc ?_ _ | refine X.drew ?_))) _))).mono ?_; rintro _ w5 ⟨rfl, hx5⟩; replace hx5 := X.trans (a := W3) (by (repeat (first | exact X.refl _ | assumption | refine X.ext ?_ _ | refine X.alloc ?_ _ | refine X.drew ?_))) hx5; obtain ⟨z5, rfl⟩ := hx5)))
      clear hRI4
      go_wp2_with fail
      go_region_held3 (fun w' => w'.cell? ⟨W1.heap.size, 0, none⟩ = some (.slice a n c) ∧ w'.cell? ⟨W2.heap.size, 0, none⟩ = some (.int .i64 r.kind) ∧ w'.cell? ⟨W2.heap.size, 1, none⟩ = some (.int .i64 r.file) ∧ w'.cell? ⟨W2.heap.size, 2, none⟩ = some (.slice ra r.roots.length rc)) (first | exact ⟨(World.cell?_ext _ _ _ _ hlt1).trans d1, (World.cell?_ext _ _ _ _ hlt2).trans d2, (World.cell?_ext _ _ _ _ hlt2).trans d3, (World.cell?_ext _ _ _ _ hlt2).trans d4⟩ | go_keep)
        ((first
          | (go_at_call 27; refine (FindSpec_s l a n c _ path pa pn pc _ s _ (hF.mono (X.fr (by (repeat (first | exact X.refl _ | assumption | refine X.ext ?_ _ | refine X.alloc ?_ _ | refine X.drew ?_))) _)) (hI.mono (X.fr (by (repeat (first | exact X.refl _ | assumption | refine X.ext ?_ _ | refine X.alloc ?_ _ | refine X.drew ?_))) _)) hpc hsl2).mono ?_; rintro _ w4 ⟨v4, rfl, ⟨ra4, rc4, rfl, hrc4, hRI4⟩, hx4⟩; rw [Hr.out] at hRI4 ⊢; replace hx4 := X.trans (a := W3) (by (repeat (first | exact X.refl _ | assumption | refine X.ext ?_ _ | refine X.alloc ?_ _ | refine X.drew ?_))) hx4; obtain ⟨z, rfl⟩ := hx4)
          | (go_at_call 13; refine (equalSpec_one r ra ra4 rc rc4 _ _ _ (hRI.mono (X.fr (by (repeat (first | exact X.refl _ | assumption | refine X.ext ?_ _ | refine X.alloc ?_ _ | refine X.drew ?_))) _)) (hRI4.mono (X.fr (by (repeat (first | exact X.refl _ | assumption | refine X.ext ?_ _ | refine X.alloc ?_ _ | refine X.drew ?_))) _))).mono ?_; rintro _ w5 ⟨rfl, hx5⟩; replace hx5 := X.trans (a := W3) (by (repeat (first | exact X.refl _ | assumption | refine X.ext ?_ _ | refine X.alloc ?_ _ | refine X.drew ?_))) hx5; obtain ⟨z5, rfl⟩ := hx5)))
      go_wp2
      go_ret
      exact ⟨by simp, hxw.trans (by (repeat (first | exact X.refl _ | assumption | refine X.ext ?_ _ | refine X.alloc ?_ _ | refine X.drew ?_)))⟩
    · go_region_held3 (fun w' => w'.cell? ⟨W1.heap.size, 0, none⟩ = some (.slice a n c) ∧ w'.cell? ⟨W2.heap.size, 0, none⟩ = some (.int .i64 r.kind) ∧ w'.cell? ⟨W2.heap.size, 1, none⟩ = some (.int .i64 r.file) ∧ w'.cell? ⟨W2.heap.size, 2, none⟩ = some (.slice ra r.roots.length rc)) (first | exact ⟨(World.cell?_ext _ _ _ _ hlt1).trans d1, (World.cell?_ext _ _ _ _ hlt2).trans d2, (World.cell?_ext _ _ _ _ hlt2).trans d3, (World.cell?_ext _ _ _ _ hlt2).trans d4⟩ | go_keep)
        ((first
          | (go_at_call 27; refine (FindSpec_s l a n c _ path pa pn pc _ s _ (hF.mono (X.fr (by (repeat (first | exact X.refl _ | assumption | refine X.ext ?_ _ | refine X.alloc ?_ _ | refine X.drew ?_))) _)) (hI.mono (X.fr (by (repeat (first | exact X.refl _ | assumption | refine X.ext ?_ _ | refine X.alloc ?_ _ | refine X.drew ?_))) _)) hpc hsl2).mono ?_; rintro _ w4 ⟨v4, rfl, ⟨ra4, rc4, rfl, hrc4, hRI4⟩, hx4⟩; rw [Hr.out] at hRI4 ⊢; replace hx4 := X.trans (a := W3) (by (repeat (first | exact X.refl _ | assumption | refine X.ext ?_ _ | refine X.alloc ?_ _ | refine X.drew ?_))) hx4; obtain ⟨z, rfl⟩ := hx4)
          | (go_at_call 13; refine (equalSpec_one r ra ra4 rc rc4 _ _ _ (hRI.mono (X.fr (by (repeat (first | exact X.refl _ | assumption | refine X.ext ?_ _ | refine X.alloc ?_ _ | refine X.drew ?_))) _)) (hRI4.mono (X.fr (by (repeat (first | exact X.refl _ | assumption | refine X.ext ?_ _ | refine X.alloc ?_ _ | refine X.drew ?_))) _))).mono ?_; rintro _ w5 ⟨rfl, hx5⟩; replace hx5 := X.trans (a := W3) (by (repeat (first | exact X.refl _ | assumption | refine X.ext ?_ _ | refine X.alloc ?_ _ | refine X.drew ?_))) hx5; obtain ⟨z5, rfl⟩ := hx5)))
      rename_i hHd
      clear hHd
      obtain ⟨j, hj, hfj, hmod, hroot, hini⟩ := hlaw.out (by omega)
      rw [hfj] at d3
      have Hmod := Lib.hid hmod
      have Hini := Lib.hid hini
      have hrt : decide ((nth l j).root ∈ path) = true := decide_eq_true hroot
      have Hrt := Lib.hid hrt
      have hjn : j < n := by rw [hF.len.1]; exact hj
      clear hfj hmod hroot hini hrt hRI4
      obtain ⟨b, off, ba, bn, bc, rfl, hab, hb, hok, hbc, hS, g0, g1, g2, g3, g4, g5⟩ := hF.at_ hjn
      go_wp2_with fail
      refine calls_name (fun W7 hW7 => ?_)
      have hB7 : Bx W7 (World.ext W3 z5).heap.size #[.int .i64 (nth l j).root, .string ⟨((nth l j).pkg).toArray⟩, .string ⟨((nth l j).name).toArray⟩, .bool (nth l j).init, .int .i64 (nth l j).stamp, .slice ba bn bc] := by
        rw [hW7]; exact Bx.new _ _ _
      have hX7 : X W3 W7 := by rw [hW7]; (repeat (first | exact X.refl _ | assumption | refine X.ext ?_ _ | refine X.alloc ?_ _ | refine X.drew ?_))
      clear hW7
      obtain ⟨hb7, hc7, hf7⟩ := hB7.out
      have e0 := hc7 0
      have e3 := hc7 3
      have k2 := (hX7.cell (p := ⟨W2.heap.size, 0, none⟩) hlt2).trans d2
      have hl2 : W2.heap.size < W7.heap.size := Nat.lt_of_lt_of_le hlt2 hX7.size
      clear hc7
      refine (ModuleOf_c (nth l j) ba bn bc _ _ hok (hS.mono (X.fr hX7 _)) (hG.mono hX7)).mono ?_
      rintro _ _ ⟨rfl, x9, rfl⟩
      rw [Hmod.out]
      go_wp2_with (go_at_call 28; refine (isIn_c path _ _ _ _ _ _ (hI.mono (X.fr (hX7.trans (by (repeat (first | exact X.refl _ | assumption | refine X.ext ?_ _ | refine X.alloc ?_ _ | refine X.drew ?_)))) _))).mono ?_; rintro _ w10 ⟨rfl, hx10⟩; rw [Hrt.out]; obtain ⟨z10, rfl⟩ := hx10.of_ext)
      go_ret
      exact ⟨by simp [Hini.out], hxw.trans (hX7.trans (by (repeat (first | exact X.refl _ | assumption | refine X.ext ?_ _ | refine X.alloc ?_ _ | refine X.drew ?_))))⟩

end Go.Proofs.YtjklpfgjimbabaaDoor
