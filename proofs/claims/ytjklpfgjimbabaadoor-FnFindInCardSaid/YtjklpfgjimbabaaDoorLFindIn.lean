/- The walk of the law FnFindIn. -/
import Derived.Test.YtjklpfgjimbabaaDoorLFindInSpace
import Derived.Test.YtjklpfgjimbabaaDoorFirst
namespace Go.Proofs.YtjklpfgjimbabaaDoor
open Go.RowKit

theorem equalSpec_j (r : Sp) (f : Int) (hf : r.file = f) (a a' : Option Addr) (c c' B B' : Nat) (w : World) (hL : IntsAt w B a r.roots.length r.roots) (hM : IntsAt w B' a' r.roots.length r.roots) :
    Calls Tryd.prog 13 #[.agg #[.int .i64 r.kind, .int .i64 f, .slice a r.roots.length c], .agg #[.int .i64 r.kind, .int .i64 f, .slice a' r.roots.length c']] w fun e w' => e = .returned (.bool true) ∧ X w w' := by
  subst hf
  exact equalSpec_same r a a' c c' B B' w hL hM
theorem IntsAt.take {w : World} {B : Nat} {a : Option Addr} {n : Nat} {l : List Int} (h : IntsAt w B a n l) {m : Nat} (hm : m ≤ n) : IntsAt w B a m (l.take m) := by
  obtain ⟨h1, h2, h3⟩ := h
  refine ⟨by rw [List.length_take]; omega, by omega, fun hp => ?_⟩
  obtain ⟨b, off, ha, hB, hb, hc⟩ := h3 (by omega)
  refine ⟨b, off, ha, hB, hb, fun i hi => ?_⟩
  have e : ∀ l : List Int, (l.flatMap fun x => [Value.int .i64 x]) = l.map fun x => Value.int .i64 x := fun l => by
    induction l with
    | nil => rfl
    | cons x l ih => rw [List.flatMap_cons, List.map_cons, ih]; rfl
  have hi2 : i < l.length := by
    rw [e, List.length_map, List.length_take] at hi
    omega
  have h5 := hc i (by rw [e, List.length_map]; exact hi2)
  rw [h5]
  simp only [e, List.getElem_map, List.getElem_take]
set_option maxRecDepth 100000 in
set_option maxHeartbeats 1000000 in
theorem FnFindIn_c (ca : Option Addr) (cn cc : Nat) (w : World) (hC : CodeAt w ca cn cc) (hG : Gm w) :
    Calls Tryd.prog 4 #[.slice ca cn cc] w fun e w' => e = .returned (.bool true) ∧ X w w' := by
  by_cases hbig : 1048576 < cn
  · go_enter Tryd.func4, Tryd.ntmps4
    go_wp2
    go_ret
    exact ⟨by simp, by (repeat (first | exact X.refl _ | assumption | refine X.ext ?_ _ | refine X.alloc ?_ _ | refine X.drew ?_))⟩
  · go_enter Tryd.func4, Tryd.ntmps4
    go_wp2_with fail
    refine (DrawFindIn_c ca cn cc _ hC (by omega)).mono ?_
    rintro _ W1 ⟨l, a, n, c, path, pa, pn, pc, p, s, rfl, hF, hnc, hn11, hsm, hI, hpc, hpn3, hp, hs, hx1⟩
    replace hG := hG.mono hx1
    have hB1 := Bx.new W1 #[.slice a n c] 25
    go_wp2_with fail
    refine (FindIn_i l a n c _ path pa pn pc _ p s _ (hF.mono (X.fr (by (repeat (first | exact X.refl _ | assumption | refine X.ext ?_ _ | refine X.alloc ?_ _ | refine X.drew ?_))) _)) hnc (hI.mono (X.fr (by (repeat (first | exact X.refl _ | assumption | refine X.ext ?_ _ | refine X.alloc ?_ _ | refine X.drew ?_))) _)) hpc (by omega) (by omega) (hG.mono (by (repeat (first | exact X.refl _ | assumption | refine X.ext ?_ _ | refine X.alloc ?_ _ | refine X.drew ?_))))).mono ?_
    rintro _ W2 ⟨v, rfl, ⟨ra, rc, rfl, hown⟩, hx2⟩
    replace hB1 := hB1.x hx2
    have hx12 : X W1 W2 := X.trans (by (repeat (first | exact X.refl _ | assumption | refine X.ext ?_ _ | refine X.alloc ?_ _ | refine X.drew ?_))) hx2
    have hr3 := findInF_roots l path p s
    have hlaw := Lib.hid (@first_law l path p s)
    generalize hr : findInF l path p s = r at *
    have Hr := Lib.hid hr
    clear hr
    have hB2 := Bx.new W2 #[.int .i64 r.kind, .int .i64 r.file, .slice ra r.roots.length rc] 30
    go_wp2_with fail
    refine wp_name (fun W3 hW3 => ?_)
    rw [← hW3] at hB2
    have hx23 : X W2 W3 := hW3 ▸ (by (repeat (first | exact X.refl _ | assumption | refine X.ext ?_ _ | refine X.alloc ?_ _ | refine X.drew ?_)))
    clear hW3
    replace hB1 := hB1.x hx23
    replace hF := hF.mono ((hx12.trans hx23).fr _)
    replace hI := hI.mono ((hx12.trans hx23).fr _)
    replace hown := own_fr hown (hx23.fr _)
    replace hG := hG.mono (hx12.trans hx23)
    have hlt2 := hB2.lt
    have hlt1 := hB1.lt
    have hRI := SpecAt.ints hown (by have := hI.1; omega)
    have hxw : X w W3 := hx1.trans (hx12.trans hx23)
    clear hx2 hx12 hx23 hx1
    obtain ⟨hb1, hc1, hf1⟩ := hB1.out
    obtain ⟨hb2, hc2, hf2⟩ := hB2.out
    have d1 := hc1 0
    have d2 := hc2 0
    have d3 := hc2 1
    have d4 := hc2 2
    clear hc1 hc2
    have hx : X W3 W3 := X.refl _
    by_cases hk : r.file < 0
    · go_region_held3 (fun w' => w'.cell? ⟨W1.heap.size, 0, none⟩ = some (.slice a n c) ∧ w'.cell? ⟨W2.heap.size, 0, none⟩ = some (.int .i64 r.kind) ∧ w'.cell? ⟨W2.heap.size, 1, none⟩ = some (.int .i64 r.file) ∧ w'.cell? ⟨W2.heap.size, 2, none⟩ = some (.slice ra r.roots.length rc)) (first | exact ⟨(World.cell?_ext _ _ _ _ hlt1).trans d1, (World.cell?_ext _ _ _ _ hlt2).trans d2, (World.cell?_ext _ _ _ _ hlt2).trans d3, (World.cell?_ext _ _ _ _ hlt2).trans d4⟩ | go_keep)
        ((first
          | (go_at_call 14; refine (FindIn_c l a n c _ path pa pn pc _ p s _ (hF.mono (X.fr (by (repeat (first | exact X.refl _ | assumption | refine X.ext ?_ _ | refine X.alloc ?_ _ | refine X.drew ?_))) _)) (hI.mono (X.fr (by (repeat (first | exact X.refl _ | assumption | refine X.ext ?_ _ | refine X.alloc ?_ _ | refine X.drew ?_))) _)) hpc (by omega) (by omega)).mono ?_; rintro _ w4 ⟨v4, rfl, ⟨ra4, rc4, rfl, hown4⟩, hx4⟩; rw [Hr.out] at hown4 ⊢; replace hx4 := X.trans (a := W3) (by (repeat (first | exact X.refl _ | assumption | refine X.ext ?_ _ | refine X.alloc ?_ _ | refine X.drew ?_))) hx4; obtain ⟨z, rfl⟩ := hx4)
          | (go_at_call 13; refine (equalSpec_same r ra ra4 rc rc4 _ _ _ (hRI.mono (X.fr (by (repeat (first | exact X.refl _ | assumption | refine X.ext ?_ _ | refine X.alloc ?_ _ | refine X.drew ?_))) _)) ((SpecAt.ints hown4 (by have := hI.1; omega)).mono (X.fr (by (repeat (first | exact X.refl _ | assumption | refine X.ext ?_ _ | refine X.alloc ?_ _ | refine X.drew ?_))) _))).mono ?_; rintro _ w5 ⟨rfl, hx5⟩; replace hx5 := X.trans (a := W3) (by (repeat (first | exact X.refl _ | assumption | refine X.ext ?_ _ | refine X.alloc ?_ _ | refine X.drew ?_))) hx5; obtain ⟨z5, rfl⟩ := hx5)))
      clear hown4
      go_wp2_with fail
      go_region_held3 (fun w' => w'.cell? ⟨W1.heap.size, 0, none⟩ = some (.slice a n c) ∧ w'.cell? ⟨W2.heap.size, 0, none⟩ = some (.int .i64 r.kind) ∧ w'.cell? ⟨W2.heap.size, 1, none⟩ = some (.int .i64 r.file) ∧ w'.cell? ⟨W2.heap.size, 2, none⟩ = some (.slice ra r.roots.length rc)) (first | exact ⟨(World.cell?_ext _ _ _ _ hlt1).trans d1, (World.cell?_ext _ _ _ _ hlt2).trans d2, (World.cell?_ext _ _ _ _ hlt2).trans d3, (World.cell?_ext _ _ _ _ hlt2).trans d4⟩ | go_keep)
        ((first
          | (go_at_call 14; refine (FindIn_c l a n c _ path pa pn pc _ p s _ (hF.mono (X.fr (by (repeat (first | exact X.refl _ | assumption | refine X.ext ?_ _ | refine X.alloc ?_ _ | refine X.drew ?_))) _)) (hI.mono (X.fr (by (repeat (first | exact X.refl _ | assumption | refine X.ext ?_ _ | refine X.alloc ?_ _ | refine X.drew ?_))) _)) hpc (by omega) (by omega)).mono ?_; rintro _ w4 ⟨v4, rfl, ⟨ra4, rc4, rfl, hown4⟩, hx4⟩; rw [Hr.out] at hown4 ⊢; replace hx4 := X.trans (a := W3) (by (repeat (first | exact X.refl _ | assumption | refine X.ext ?_ _ | refine X.alloc ?_ _ | refine X.drew ?_))) hx4; obtain ⟨z, rfl⟩ := hx4)
          | (go_at_call 13; refine (equalSpec_same r ra ra4 rc rc4 _ _ _ (hRI.mono (X.fr (by (repeat (first | exact X.refl _ | assumption | refine X.ext ?_ _ | refine X.alloc ?_ _ | refine X.drew ?_))) _)) ((SpecAt.ints hown4 (by have := hI.1; omega)).mono (X.fr (by (repeat (first | exact X.refl _ | assumption | refine X.ext ?_ _ | refine X.alloc ?_ _ | refine X.drew ?_))) _))).mono ?_; rintro _ w5 ⟨rfl, hx5⟩; replace hx5 := X.trans (a := W3) (by (repeat (first | exact X.refl _ | assumption | refine X.ext ?_ _ | refine X.alloc ?_ _ | refine X.drew ?_))) hx5; obtain ⟨z5, rfl⟩ := hx5)))
      go_wp2
      go_ret
      exact ⟨by simp, by (repeat (first | exact X.refl _ | assumption | refine X.ext ?_ _ | refine X.alloc ?_ _ | refine X.drew ?_))⟩
    · go_region_held3 (fun w' => w'.cell? ⟨W1.heap.size, 0, none⟩ = some (.slice a n c) ∧ w'.cell? ⟨W2.heap.size, 0, none⟩ = some (.int .i64 r.kind) ∧ w'.cell? ⟨W2.heap.size, 1, none⟩ = some (.int .i64 r.file) ∧ w'.cell? ⟨W2.heap.size, 2, none⟩ = some (.slice ra r.roots.length rc)) (first | exact ⟨(World.cell?_ext _ _ _ _ hlt1).trans d1, (World.cell?_ext _ _ _ _ hlt2).trans d2, (World.cell?_ext _ _ _ _ hlt2).trans d3, (World.cell?_ext _ _ _ _ hlt2).trans d4⟩ | go_keep)
        ((first
          | (go_at_call 14; refine (FindIn_c l a n c _ path pa pn pc _ p s _ (hF.mono (X.fr (by (repeat (first | exact X.refl _ | assumption | refine X.ext ?_ _ | refine X.alloc ?_ _ | refine X.drew ?_))) _)) (hI.mono (X.fr (by (repeat (first | exact X.refl _ | assumption | refine X.ext ?_ _ | refine X.alloc ?_ _ | refine X.drew ?_))) _)) hpc (by omega) (by omega)).mono ?_; rintro _ w4 ⟨v4, rfl, ⟨ra4, rc4, rfl, hown4⟩, hx4⟩; rw [Hr.out] at hown4 ⊢; replace hx4 := X.trans (a := W3) (by (repeat (first | exact X.refl _ | assumption | refine X.ext ?_ _ | refine X.alloc ?_ _ | refine X.drew ?_))) hx4; obtain ⟨z, rfl⟩ := hx4)
          | (go_at_call 13; refine (equalSpec_same r ra ra4 rc rc4 _ _ _ (hRI.mono (X.fr (by (repeat (first | exact X.refl _ | assumption | refine X.ext ?_ _ | refine X.alloc ?_ _ | refine X.drew ?_))) _)) ((SpecAt.ints hown4 (by have := hI.1; omega)).mono (X.fr (by (repeat (first | exact X.refl _ | assumption | refine X.ext ?_ _ | refine X.alloc ?_ _ | refine X.drew ?_))) _))).mono ?_; rintro _ w5 ⟨rfl, hx5⟩; replace hx5 := X.trans (a := W3) (by (repeat (first | exact X.refl _ | assumption | refine X.ext ?_ _ | refine X.alloc ?_ _ | refine X.drew ?_))) hx5; obtain ⟨z5, rfl⟩ := hx5)))
      rename_i hHd
      clear hHd
      obtain ⟨j, q, hj, hfj, hq, hqr, hqn, hearly, hlate, hmod⟩ := hlaw.out (by omega)
      rw [hfj] at d3
      have Hfj := Lib.hid hfj
      have Hqr := Lib.hid hqr
      have Hqn := Lib.hid hqn
      have Hearly := Lib.hid hearly
      have Hlate := Lib.hid hlate
      have Hmod := Lib.hid hmod
      have hqp : q < pn := by rw [hI.1]; exact hq
      have hjn : j < n := by rw [hF.len.1]; exact hj
      clear hfj hqr hqn hearly hlate hmod hown4
      obtain ⟨b, off, ba, bn, bc, rfl, hab, hb, hok, hbc, hS, g0, g1, g2, g3, g4, g5⟩ := hF.at_ hjn
      go_wp2_with fail
      go_loop [9] (fun i => ∃ m : Nat, m ≤ q ∧ i = .int .i64 m) (fun i => q - (intOf i).toNat)
      case atStart => exact ⟨0, by omega, rfl⟩
      case round =>
        obtain ⟨m, hm, rfl⟩ := hrel
        obtain ⟨pb, po, rfl, hpb, hpl, hpcell⟩ := hI.at_ (k := m) (by omega)
        by_cases hlt : m < q
        · have hne : ((nth path m != (nth l j).root) = true) := by simpa using Hqn.out m hlt
          go_wp2
          go_round
          case rel => exact ⟨m + 1, by omega, by go_num⟩
          case measure => simp [intOf]; omega
        · obtain rfl : m = q := by omega
          have hne : ((nth path m != (nth l j).root) = false) := by rw [Hqr.out]; simp
          have hIt := hI.take (m := m) (by omega)
          have hIt2 := hI.take (m := m + 1) (by omega)
          have hmc : m ≤ pc := by omega
          have hmc2 : m + 1 ≤ pc := by omega
          have hpk : ¬ pc = 0 := by omega
          have hpl : p.length ≤ 1048576 := by omega
          have hsl : s.length ≤ 1048576 := by omega
          have q1 : IntKind.i64.wrap ((m : Int) + 1) = (m : Int) + 1 := IntWalk.i64_in _ (by omega)
          have q2 : (0 : Int) ≤ (m : Int) + 1 := by omega
          have q3 : ((m : Int) + 1).toNat = m + 1 := by omega
          have q4 : (m : Int) + 1 ≤ (pc : Int) := by omega
          have hrl : r.roots.length ≤ 2097152 := by have := hI.1; omega
          go_wp2_with fail
          go_region_held3 (fun w' => w'.cell? ⟨W1.heap.size, 0, none⟩ = some (.slice (some ⟨b, off, none⟩) n c)) (first | exact (X.cell (w := W3) (by (repeat (first | exact X.refl _ | assumption | refine X.setCell ?_ (by simp [World.size_ext]) _ | refine X.ext ?_ _ | refine X.alloc ?_ _ | refine X.drew ?_))) (p := ⟨W1.heap.size, 0, none⟩) hlt1).trans d1 | exact (by assumption) | go_keep)
            ((go_at_call 12; (try rw [if_neg hpk]); refine (FindIn_i l _ n c _ (path.take m) _ _ _ _ p s _ (hF.mono (X.fr (by (repeat (first | exact X.refl _ | assumption | refine X.ext ?_ _ | refine X.alloc ?_ _ | refine X.drew ?_))) _)) hnc (hIt.mono (X.fr (by (repeat (first | exact X.refl _ | assumption | refine X.ext ?_ _ | refine X.alloc ?_ _ | refine X.drew ?_))) _)) hmc hpl hsl (hG.mono (by (repeat (first | exact X.refl _ | assumption | refine X.ext ?_ _ | refine X.alloc ?_ _ | refine X.drew ?_))))).mono ?_; rintro _ w6 ⟨v6, rfl, ⟨ra6, rc6, rfl, hown6⟩, hx6⟩; rw [Hearly.out]; (first | (have hTn := at_x (o := (.cells #[.int .i64 0, .int .i64 0, .slice none 0 0] 30)) (heap_alloc_new _ _) hx6; obtain ⟨hbn, hcn, hfn⟩ := Bx.out ⟨_, hTn⟩; have n0 := hcn 0; have n1 := hcn 1; have n2 := hcn 2) | skip); replace hx6 := X.trans (a := W3) (by (repeat (first | exact X.refl _ | assumption | refine X.ext ?_ _ | refine X.alloc ?_ _ | refine X.drew ?_))) hx6; have d6 := (hx6.cell (p := ⟨W1.heap.size, 0, none⟩) hlt1).trans d1))
          · go_wp2_with fail
            refine wp_name (fun W5 hW5 => ?_)
            have hX5 : X W3 W5 := by rw [hW5]; (repeat (first | exact X.refl _ | assumption | refine X.setCell ?_ (by simp [World.size_ext]) _ | refine X.ext ?_ _ | refine X.alloc ?_ _ | refine X.drew ?_))
            have hB5 : Bx W5 (w6.heap.size) #[.int .i64 (findInF l (List.take m path) p s).kind, .int .i64 (-1), .slice ra6 (findInF l (List.take m path) p s).roots.length rc6] := by
              rw [hW5]
              first
                | exact Bx.new _ _ _
                | exact Bx.set (Bx.set (Bx.set ⟨_, hTn⟩ 0 _) 1 _) 2 _
            obtain ⟨hb5, hc5, hf5⟩ := hB5.out
            have e5 := hc5 1
            clear hc5 hW5 hB5
            have hF5 := hF.mono (hX5.fr _)
            have hI5 := hIt2.mono (hX5.fr _)
            have hG5 := hG.mono hX5
            have hR5 := hRI.mono (hX5.fr _)
            have hS5 := hS.mono (hX5.fr _)
            have l1 : W1.heap.size < W5.heap.size := Nat.lt_of_lt_of_le hlt1 hX5.size
            have l2 : W2.heap.size < W5.heap.size := Nat.lt_of_lt_of_le hlt2 hX5.size
            have l3 : b < W5.heap.size := Nat.lt_of_lt_of_le hb hX5.size
            have e1 := (hX5.cell (p := ⟨W1.heap.size, 0, none⟩) hlt1).trans d1
            have e2 := (hX5.cell (p := ⟨W2.heap.size, 0, none⟩) hlt2).trans d2
            have e3 := (hX5.cell (p := ⟨W2.heap.size, 1, none⟩) hlt2).trans d3
            have e4 := (hX5.cell (p := ⟨W2.heap.size, 2, none⟩) hlt2).trans d4
            have f0 := (hX5.cell (p := ⟨b, off + j * 6, none⟩) hb).trans g0
            have f1 := (hX5.cell (p := ⟨b, off + j * 6 + 1, none⟩) hb).trans g1
            have f2 := (hX5.cell (p := ⟨b, off + j * 6 + 2, none⟩) hb).trans g2
            have f3 := (hX5.cell (p := ⟨b, off + j * 6 + 3, none⟩) hb).trans g3
            have f4 := (hX5.cell (p := ⟨b, off + j * 6 + 4, none⟩) hb).trans g4
            have f5 := (hX5.cell (p := ⟨b, off + j * 6 + 5, none⟩) hb).trans g5
            go_region_held3 (fun w' => w'.cell? ⟨W1.heap.size, 0, none⟩ = some (.slice (some ⟨b, off, none⟩) n c) ∧ w'.cell? ⟨W2.heap.size, 0, none⟩ = some (.int .i64 r.kind) ∧ w'.cell? ⟨W2.heap.size, 1, none⟩ = some (.int .i64 (j : Int)) ∧ w'.cell? ⟨W2.heap.size, 2, none⟩ = some (.slice ra r.roots.length rc) ∧ w'.cell? ⟨w6.heap.size, 1, none⟩ = some (.int .i64 (-1)) ∧
                w'.cell? ⟨b, off + j * 6, none⟩ = some (.int .i64 (nth l j).root) ∧ w'.cell? ⟨b, off + j * 6 + 1, none⟩ = some (.string ⟨(nth l j).pkg.toArray⟩) ∧ w'.cell? ⟨b, off + j * 6 + 2, none⟩ = some (.string ⟨(nth l j).name.toArray⟩) ∧ w'.cell? ⟨b, off + j * 6 + 3, none⟩ = some (.bool (nth l j).init) ∧
                w'.cell? ⟨b, off + j * 6 + 4, none⟩ = some (.int .i64 (nth l j).stamp) ∧ w'.cell? ⟨b, off + j * 6 + 5, none⟩ = some (.slice ba bn bc))
              (first
                | exact ⟨(World.cell?_ext _ _ _ _ l1).trans e1, (World.cell?_ext _ _ _ _ l2).trans e2, (World.cell?_ext _ _ _ _ l2).trans e3, (World.cell?_ext _ _ _ _ l2).trans e4, (World.cell?_ext _ _ _ _ hb5).trans e5,
                    (World.cell?_ext _ _ _ _ l3).trans f0, (World.cell?_ext _ _ _ _ l3).trans f1, (World.cell?_ext _ _ _ _ l3).trans f2, (World.cell?_ext _ _ _ _ l3).trans f3, (World.cell?_ext _ _ _ _ l3).trans f4, (World.cell?_ext _ _ _ _ l3).trans f5⟩
                | exact ⟨e1, e2, e3, e4, e5, f0, f1, f2, f3, f4, f5⟩
                | go_keep)
              ((first
                | (go_at_call 12; (try rw [if_neg hpk]); refine (FindIn_i l _ n c _ (path.take (m + 1)) _ _ _ _ p s _ (hF5.mono (X.fr (by (repeat (first | exact X.refl _ | assumption | refine X.ext ?_ _ | refine X.alloc ?_ _ | refine X.drew ?_))) _)) hnc (hI5.mono (X.fr (by (repeat (first | exact X.refl _ | assumption | refine X.ext ?_ _ | refine X.alloc ?_ _ | refine X.drew ?_))) _)) hmc2 hpl hsl (hG5.mono (by (repeat (first | exact X.refl _ | assumption | refine X.ext ?_ _ | refine X.alloc ?_ _ | refine X.drew ?_))))).mono ?_; rintro _ w7 ⟨v7, rfl, ⟨ra7, rc7, rfl, hown7⟩, hx7⟩; rw [Hlate.out] at hown7 ⊢; rw [Hfj.out]; replace hx7 := X.trans (a := W5) (by (repeat (first | exact X.refl _ | assumption | refine X.ext ?_ _ | refine X.alloc ?_ _ | refine X.drew ?_))) hx7; obtain ⟨z7, rfl⟩ := hx7)
                | (go_at_call 13; refine (equalSpec_j r _ Hfj.out _ _ _ _ _ _ _ ((SpecAt.ints hown7 hrl).mono (X.fr (by (repeat (first | exact X.refl _ | assumption | refine X.ext ?_ _ | refine X.alloc ?_ _ | refine X.drew ?_))) _)) (hR5.mono (X.fr (by (repeat (first | exact X.refl _ | assumption | refine X.ext ?_ _ | refine X.alloc ?_ _ | refine X.drew ?_))) _))).mono ?_; rintro _ w8 ⟨rfl, hx8⟩; replace hx8 := X.trans (a := W5) (by (repeat (first | exact X.refl _ | assumption | refine X.ext ?_ _ | refine X.alloc ?_ _ | refine X.drew ?_))) hx8; obtain ⟨z8, rfl⟩ := hx8)
                | (go_at_call 18; refine (ModuleOf_c (nth l j) ba bn bc _ _ hok (hS5.mono (X.fr (by (repeat (first | exact X.refl _ | assumption | refine X.ext ?_ _ | refine X.alloc ?_ _ | refine X.drew ?_))) _)) (hG5.mono (by (repeat (first | exact X.refl _ | assumption | refine X.ext ?_ _ | refine X.alloc ?_ _ | refine X.drew ?_))))).mono ?_; rintro _ w9 ⟨rfl, hx9⟩; rw [Hmod.out]; replace hx9 := X.trans (a := W5) (by (repeat (first | exact X.refl _ | assumption | refine X.ext ?_ _ | refine X.alloc ?_ _ | refine X.drew ?_))) hx9; obtain ⟨z9, rfl⟩ := hx9)
                | (go_at_call 16; refine (ChildOf_c p s _ hpl hsl (hG5.mono (by (repeat (first | exact X.refl _ | assumption | refine X.ext ?_ _ | refine X.alloc ?_ _ | refine X.drew ?_))))).mono ?_; rintro _ w10 ⟨rfl, hx10⟩; replace hx10 := X.trans (a := W5) (by (repeat (first | exact X.refl _ | assumption | refine X.ext ?_ _ | refine X.alloc ?_ _ | refine X.drew ?_))) hx10; obtain ⟨z10, rfl⟩ := hx10)))
            all_goals go_wp2
            all_goals go_ret
            all_goals exact ⟨by simp, hxw.trans (hX5.trans (by (repeat (first | exact X.refl _ | assumption | refine X.ext ?_ _ | refine X.alloc ?_ _ | refine X.drew ?_))))⟩
          · go_wp2_with fail
            refine wp_name (fun W5 hW5 => ?_)
            have hX5 : X W3 W5 := by rw [hW5]; (repeat (first | exact X.refl _ | assumption | refine X.setCell ?_ (by simp [World.size_ext]) _ | refine X.ext ?_ _ | refine X.alloc ?_ _ | refine X.drew ?_))
            have hB5 : Bx W5 ((World.ext W3 z5).heap.size) #[.int .i64 (findInF l (List.take m path) p s).kind, .int .i64 (-1), .slice ra6 (findInF l (List.take m path) p s).roots.length rc6] := by
              rw [hW5]
              first
                | exact Bx.new _ _ _
                | exact Bx.set (Bx.set (Bx.set ⟨_, hTn⟩ 0 _) 1 _) 2 _
            obtain ⟨hb5, hc5, hf5⟩ := hB5.out
            have e5 := hc5 1
            clear hc5 hW5 hB5
            have hF5 := hF.mono (hX5.fr _)
            have hI5 := hIt2.mono (hX5.fr _)
            have hG5 := hG.mono hX5
            have hR5 := hRI.mono (hX5.fr _)
            have hS5 := hS.mono (hX5.fr _)
            have l1 : W1.heap.size < W5.heap.size := Nat.lt_of_lt_of_le hlt1 hX5.size
            have l2 : W2.heap.size < W5.heap.size := Nat.lt_of_lt_of_le hlt2 hX5.size
            have l3 : b < W5.heap.size := Nat.lt_of_lt_of_le hb hX5.size
            have e1 := (hX5.cell (p := ⟨W1.heap.size, 0, none⟩) hlt1).trans d1
            have e2 := (hX5.cell (p := ⟨W2.heap.size, 0, none⟩) hlt2).trans d2
            have e3 := (hX5.cell (p := ⟨W2.heap.size, 1, none⟩) hlt2).trans d3
            have e4 := (hX5.cell (p := ⟨W2.heap.size, 2, none⟩) hlt2).trans d4
            have f0 := (hX5.cell (p := ⟨b, off + j * 6, none⟩) hb).trans g0
            have f1 := (hX5.cell (p := ⟨b, off + j * 6 + 1, none⟩) hb).trans g1
            have f2 := (hX5.cell (p := ⟨b, off + j * 6 + 2, none⟩) hb).trans g2
            have f3 := (hX5.cell (p := ⟨b, off + j * 6 + 3, none⟩) hb).trans g3
            have f4 := (hX5.cell (p := ⟨b, off + j * 6 + 4, none⟩) hb).trans g4
            have f5 := (hX5.cell (p := ⟨b, off + j * 6 + 5, none⟩) hb).trans g5
            go_region_held3 (fun w' => w'.cell? ⟨W1.heap.size, 0, none⟩ = some (.slice (some ⟨b, off, none⟩) n c) ∧ w'.cell? ⟨W2.heap.size, 0, none⟩ = some (.int .i64 r.kind) ∧ w'.cell? ⟨W2.heap.size, 1, none⟩ = some (.int .i64 (j : Int)) ∧ w'.cell? ⟨W2.heap.size, 2, none⟩ = some (.slice ra r.roots.length rc) ∧ w'.cell? ⟨(World.ext W3 z5).heap.size, 1, none⟩ = some (.int .i64 (-1)) ∧
                w'.cell? ⟨b, off + j * 6, none⟩ = some (.int .i64 (nth l j).root) ∧ w'.cell? ⟨b, off + j * 6 + 1, none⟩ = some (.string ⟨(nth l j).pkg.toArray⟩) ∧ w'.cell? ⟨b, off + j * 6 + 2, none⟩ = some (.string ⟨(nth l j).name.toArray⟩) ∧ w'.cell? ⟨b, off + j * 6 + 3, none⟩ = some (.bool (nth l j).init) ∧
                w'.cell? ⟨b, off + j * 6 + 4, none⟩ = some (.int .i64 (nth l j).stamp) ∧ w'.cell? ⟨b, off + j * 6 + 5, none⟩ = some (.slice ba bn bc))
              (first
                | exact ⟨(World.cell?_ext _ _ _ _ l1).trans e1, (World.cell?_ext _ _ _ _ l2).trans e2, (World.cell?_ext _ _ _ _ l2).trans e3, (World.cell?_ext _ _ _ _ l2).trans e4, (World.cell?_ext _ _ _ _ hb5).trans e5,
                    (World.cell?_ext _ _ _ _ l3).trans f0, (World.cell?_ext _ _ _ _ l3).trans f1, (World.cell?_ext _ _ _ _ l3).trans f2, (World.cell?_ext _ _ _ _ l3).trans f3, (World.cell?_ext _ _ _ _ l3).trans f4, (World.cell?_ext _ _ _ _ l3).trans f5⟩
                | exact ⟨e1, e2, e3, e4, e5, f0, f1, f2, f3, f4, f5⟩
                | go_keep)
              ((first
                | (go_at_call 12; (try rw [if_neg hpk]); refine (FindIn_i l _ n c _ (path.take (m + 1)) _ _ _ _ p s _ (hF5.mono (X.fr (by (repeat (first | exact X.refl _ | assumption | refine X.ext ?_ _ | refine X.alloc ?_ _ | refine X.drew ?_))) _)) hnc (hI5.mono (X.fr (by (repeat (first | exact X.refl _ | assumption | refine X.ext ?_ _ | refine X.alloc ?_ _ | refine X.drew ?_))) _)) hmc2 hpl hsl (hG5.mono (by (repeat (first | exact X.refl _ | assumption | refine X.ext ?_ _ | refine X.alloc ?_ _ | refine X.drew ?_))))).mono ?_; rintro _ w7 ⟨v7, rfl, ⟨ra7, rc7, rfl, hown7⟩, hx7⟩; rw [Hlate.out] at hown7 ⊢; rw [Hfj.out]; replace hx7 := X.trans (a := W5) (by (repeat (first | exact X.refl _ | assumption | refine X.ext ?_ _ | refine X.alloc ?_ _ | refine X.drew ?_))) hx7; obtain ⟨z7, rfl⟩ := hx7)
                | (go_at_call 13; refine (equalSpec_j r _ Hfj.out _ _ _ _ _ _ _ ((SpecAt.ints hown7 hrl).mono (X.fr (by (repeat (first | exact X.refl _ | assumption | refine X.ext ?_ _ | refine X.alloc ?_ _ | refine X.drew ?_))) _)) (hR5.mono (X.fr (by (repeat (first | exact X.refl _ | assumption | refine X.ext ?_ _ | refine X.alloc ?_ _ | refine X.drew ?_))) _))).mono ?_; rintro _ w8 ⟨rfl, hx8⟩; replace hx8 := X.trans (a := W5) (by (repeat (first | exact X.refl _ | assumption | refine X.ext ?_ _ | refine X.alloc ?_ _ | refine X.drew ?_))) hx8; obtain ⟨z8, rfl⟩ := hx8)
                | (go_at_call 18; refine (ModuleOf_c (nth l j) ba bn bc _ _ hok (hS5.mono (X.fr (by (repeat (first | exact X.refl _ | assumption | refine X.ext ?_ _ | refine X.alloc ?_ _ | refine X.drew ?_))) _)) (hG5.mono (by (repeat (first | exact X.refl _ | assumption | refine X.ext ?_ _ | refine X.alloc ?_ _ | refine X.drew ?_))))).mono ?_; rintro _ w9 ⟨rfl, hx9⟩; rw [Hmod.out]; replace hx9 := X.trans (a := W5) (by (repeat (first | exact X.refl _ | assumption | refine X.ext ?_ _ | refine X.alloc ?_ _ | refine X.drew ?_))) hx9; obtain ⟨z9, rfl⟩ := hx9)
                | (go_at_call 16; refine (ChildOf_c p s _ hpl hsl (hG5.mono (by (repeat (first | exact X.refl _ | assumption | refine X.ext ?_ _ | refine X.alloc ?_ _ | refine X.drew ?_))))).mono ?_; rintro _ w10 ⟨rfl, hx10⟩; replace hx10 := X.trans (a := W5) (by (repeat (first | exact X.refl _ | assumption | refine X.ext ?_ _ | refine X.alloc ?_ _ | refine X.drew ?_))) hx10; obtain ⟨z10, rfl⟩ := hx10)))
            all_goals go_wp2
            all_goals go_ret
            all_goals exact ⟨by simp, hxw.trans (hX5.trans (by (repeat (first | exact X.refl _ | assumption | refine X.ext ?_ _ | refine X.alloc ?_ _ | refine X.drew ?_))))⟩

end Go.Proofs.YtjklpfgjimbabaaDoor
