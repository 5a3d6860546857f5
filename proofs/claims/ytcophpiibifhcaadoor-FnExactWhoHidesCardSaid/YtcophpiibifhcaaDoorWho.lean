/- Who hides a file: the walks of the program's and the reference's functions. No condition. -/
import Derived.Test.YtcophpiibifhcaaDoorHidden
namespace Go.Proofs.YtcophpiibifhcaaDoor
open Go.RowKit

def whoK (b1 b2 b3 : Bool) (o : Int) : Int × Int := if b1 then (0, -1) else if !b2 then (1, -1) else if b3 then (2, o) else (3, -1)
def fileOf (l : List Fi) (path : List Int) (k : Nat) : Int := (specB l path (moduleOf (nth l k))).file
def inB (l : List Fi) (path : List Int) (k : Nat) : Bool := anyN (fun q => nth path q == (nth l k).root) path.length
def whoB (l : List Fi) (path : List Int) (i : Int) : Int × Int :=
  if treeB l && pathB path && rangeB i 0 ((l.length : Int) - 1) then whoK (fileOf l path i.toNat == i) (inB l path i.toNat) (decide (0 ≤ fileOf l path i.toNat)) (fileOf l path i.toNat) else (-1, -1)
theorem whoB_at {l : List Fi} {path : List Int} {k : Nat} (h1 : treeB l = true) (h2 : pathB path = true) (hk : k < l.length) :
    whoB l path (k : Int) = whoK (fileOf l path k == (k : Int)) (inB l path k) (decide (0 ≤ fileOf l path k)) (fileOf l path k) := by
  rw [whoB, h1, h2, rangeB_yes (by omega) (by omega)]; rfl
theorem whoB_bad {l : List Fi} {path : List Int} {i : Int} (h : (treeB l && pathB path && rangeB i 0 ((l.length : Int) - 1)) = false) : whoB l path i = (-1, -1) := by rw [whoB, h]; rfl

theorem then_name {K : Act → World → Prop} {Q : Exit → Act → World → Prop} {e : Exit} {a : Act} {w : World} (h : ∀ W, W = w → Exit.then K Q e a W) : Exit.then K Q e a w := h w rfl
theorem at_x2 {w w' : World} {b : Nat} {o : Obj} (h : w.heap[b]? = some o) (hx : X w w') : w'.heap[b]? = some o := (hx.below.block b (Array.getElem?_eq_some_iff.1 h).1).trans h
set_option maxRecDepth 100000 in
set_option maxHeartbeats 1000000 in
theorem WhoHides_i (l : List Fi) (a : Option Addr) (n c B : Nat) (path : List Int) (pa : Option Addr) (pn pc Bp : Nat) (i : Int) (w : World) (hF : FilesAt w B a n l) (hnc : n ≤ c) (hI : IntsAt w Bp pa pn path) (hpc : pn ≤ pc) (hG : Gm w) :
    Calls Tryd.prog 22 #[.agg #[.slice a n c], .slice pa pn pc, .int .i64 i] w fun e w' => e = .returned (.tuple #[.int .i64 (whoB l path i).1, .int .i64 (whoB l path i).2]) ∧ X w w' := by
  obtain rfl := hI.1
  obtain ⟨hl, hn⟩ := hF.len
  have q1 : IntKind.i64.wrap ((n : Int) - 1) = (n : Int) - 1 := IntWalk.i64_in _ (by omega)
  cases h1 : treeB l <;> cases h2 : pathB path <;> cases h3 : rangeB i 0 ((n : Int) - 1)
  case true.true.true =>
    obtain ⟨k, rfl⟩ : ∃ k : Nat, i = (k : Int) := ⟨i.toNat, by have := (rangeB_iff.1 h3).1; omega⟩
    have hk : k < n := by have := (rangeB_iff.1 h3).2; omega
    rw [whoB_at h1 h2 (by rw [← hl]; exact hk)]
    have hk1 : (k : Int) < (n : Int) := by omega
    have hk0 : (0 : Int) ≤ (k : Int) := by omega
    clear hl
    have Ho := Lib.hid (show (specB l path (moduleOf (nth l k))).file = fileOf l path k from rfl)
    have Hin := Lib.hid (show anyN (fun q => nth path q == (nth l k).root) path.length = inB l path k from rfl)
    generalize fileOf l path k = o at *
    generalize inB l path k = b2 at *
    cases e1 : o == (k : Int) <;> cases b2 <;> by_cases e3 : 0 ≤ o
    all_goals
      go_enter Tryd.func22, Tryd.ntmps22
      go_wp2_with fail
      refine calls_name (fun W hW => ?_)
      have hT : Bx W w.heap.size #[.slice a n c] := by rw [hW]; exact Bx.new _ _ _
      have hX0 : X w W := by rw [hW]; (repeat (first | exact X.refl _ | assumption | refine X.ext ?_ _ | refine X.alloc ?_ _ | refine X.drew ?_))
      clear hW
      obtain ⟨b, off, ba, bn, bc, rfl, hab, hb, hok, hbc, hS, g0, g1, g2, g3, g4, g5⟩ := (hF.mono (hX0.fr _)).at_ hk
      have hml := moduleOf_len hok
      obtain ⟨hbT, hcT, hfT⟩ := hT.out
      have t0 := hcT 0
      clear hcT
      refine (ValidTree_c l _ _ _ _ W (hF.mono (hX0.fr _)) hnc (hG.mono hX0)).mono ?_
      rintro _ _ ⟨rfl, x, rfl⟩
      rw [h1]
      go_wp2_with (first | (go_at_call 56; refine (ValidPath_c path _ _ _ _ _ (hI.mono (X.fr (hX0.trans (by (repeat (first | exact X.refl _ | assumption | refine X.ext ?_ _ | refine X.alloc ?_ _ | refine X.drew ?_)))) _)) hpc).mono ?_; rintro _ _ ⟨rfl, rfl⟩) | (go_at_call 57; refine (within_c _ _ _ _).mono ?_; rintro _ _ ⟨rfl, rfl⟩))
      go_region_held3 (fun w' => w'.cell? ⟨w.heap.size, 0, none⟩ = some (.slice (some ⟨b, off, none⟩) n c) ∧ w'.cell? ⟨b, off + k * 6, none⟩ = some (.int .i64 (nth l k).root) ∧ w'.cell? ⟨b, off + k * 6 + 1, none⟩ = some (.string ⟨((nth l k).pkg).toArray⟩) ∧ w'.cell? ⟨b, off + k * 6 + 2, none⟩ = some (.string ⟨((nth l k).name).toArray⟩) ∧ w'.cell? ⟨b, off + k * 6 + 3, none⟩ = some (.bool (nth l k).init) ∧ w'.cell? ⟨b, off + k * 6 + 4, none⟩ = some (.int .i64 (nth l k).stamp) ∧ w'.cell? ⟨b, off + k * 6 + 5, none⟩ = some (.slice ba bn bc))
        (first | exact ⟨(World.cell?_ext _ _ _ _ hbT).trans t0, (World.cell?_ext _ _ _ _ hb).trans g0, (World.cell?_ext _ _ _ _ hb).trans g1, (World.cell?_ext _ _ _ _ hb).trans g2, (World.cell?_ext _ _ _ _ hb).trans g3, (World.cell?_ext _ _ _ _ hb).trans g4, (World.cell?_ext _ _ _ _ hb).trans g5⟩ | go_keep)
        ((first
          | (go_at_call 58; refine (ModuleOf_c (nth l k) ba bn bc _ _ hok (hS.mono (X.fr (by (repeat (first | exact X.refl _ | assumption | refine X.ext ?_ _ | refine X.alloc ?_ _ | refine X.drew ?_))) _)) (hG.mono (hX0.trans (by (repeat (first | exact X.refl _ | assumption | refine X.ext ?_ _ | refine X.alloc ?_ _ | refine X.drew ?_)))))).mono ?_; rintro _ w9 ⟨rfl, hx9⟩; replace hx9 := X.trans (a := W) (by (repeat (first | exact X.refl _ | assumption | refine X.ext ?_ _ | refine X.alloc ?_ _ | refine X.drew ?_))) hx9; obtain ⟨z9, rfl⟩ := hx9)
          | (go_at_call 34; refine (FindSpec_i l _ _ _ B path _ _ _ Bp (moduleOf (nth l k)) _ (hF.mono (X.fr (hX0.trans (by (repeat (first | exact X.refl _ | assumption | refine X.ext ?_ _ | refine X.alloc ?_ _ | refine X.drew ?_)))) _)) hnc (hI.mono (X.fr (hX0.trans (by (repeat (first | exact X.refl _ | assumption | refine X.ext ?_ _ | refine X.alloc ?_ _ | refine X.drew ?_)))) _)) hpc hml (hG.mono (hX0.trans (by (repeat (first | exact X.refl _ | assumption | refine X.ext ?_ _ | refine X.alloc ?_ _ | refine X.drew ?_)))))).mono ?_; rintro _ w5 ⟨v5, rfl, ⟨a5, c5, rfl, hc5, hI5⟩, hx5⟩; rw [Ho.out]; replace hx5 := X.trans (a := W) (by (repeat (first | exact X.refl _ | assumption | refine X.ext ?_ _ | refine X.alloc ?_ _ | refine X.drew ?_))) hx5; obtain ⟨z5, rfl⟩ := hx5)))
      go_wp2_with (go_at_call 59; refine (Contains_c path _ _ _ _ _ _ _ (hI.mono (X.fr (hX0.trans (by (repeat (first | exact X.refl _ | assumption | refine X.ext ?_ _ | refine X.alloc ?_ _ | refine X.drew ?_)))) _)) (Nat.le_refl _)).mono ?_; rintro _ _ ⟨rfl, rfl⟩; rw [Hin.out])
      refine bodyPost_ret (v := _) (by simp [results, Tryd.results22, go_sem]; rfl) rfl ?_
      exact ⟨by first | (simp [whoK, e3]; done) | (simp [whoK, eq_false (Int.not_le.2 e3)]; done), hX0.trans (by (repeat (first | exact X.refl _ | assumption | refine X.ext ?_ _ | refine X.alloc ?_ _ | refine X.drew ?_)))⟩
  all_goals
    rw [whoB_bad (l := l) (path := path) (i := i) (by rw [← hl, h1, h2, h3]; rfl)]
    clear hl
    go_enter Tryd.func22, Tryd.ntmps22
    go_wp2_with fail
    refine calls_name (fun W hW => ?_)
    have hT : Bx W w.heap.size #[.slice a n c] := by rw [hW]; exact Bx.new _ _ _
    have hX0 : X w W := by rw [hW]; (repeat (first | exact X.refl _ | assumption | refine X.ext ?_ _ | refine X.alloc ?_ _ | refine X.drew ?_))
    clear hW
    obtain ⟨hbT, hcT, hfT⟩ := hT.out
    have t0 := hcT 0
    clear hcT
    refine (ValidTree_c l _ _ _ _ W (hF.mono (hX0.fr _)) hnc (hG.mono hX0)).mono ?_
    rintro _ _ ⟨rfl, x, rfl⟩
    rw [h1]
    go_wp2_with (first | (go_at_call 56; refine (ValidPath_c path _ _ _ _ _ (hI.mono (X.fr (hX0.trans (by (repeat (first | exact X.refl _ | assumption | refine X.ext ?_ _ | refine X.alloc ?_ _ | refine X.drew ?_)))) _)) hpc).mono ?_; rintro _ _ ⟨rfl, rfl⟩) | (go_at_call 57; refine (within_c _ _ _ _).mono ?_; rintro _ _ ⟨rfl, rfl⟩))
    refine bodyPost_ret (v := _) (by simp [results, Tryd.results22, go_sem]; rfl) rfl ?_
    exact ⟨rfl, hX0.trans (by (repeat (first | exact X.refl _ | assumption | refine X.ext ?_ _ | refine X.alloc ?_ _ | refine X.drew ?_)))⟩

set_option maxRecDepth 100000 in
set_option maxHeartbeats 2000000 in
theorem WhoHides_s (l : List Fi) (a : Option Addr) (n c B : Nat) (path : List Int) (pa : Option Addr) (pn pc Bp : Nat) (i : Int) (w : World) (hF : FilesAt w B a n l) (hI : IntsAt w Bp pa pn path) (hpc : pn ≤ pc) :
    Calls Tryd.prog 21 #[.agg #[.slice a n c], .slice pa pn pc, .int .i64 i] w fun e w' => e = .returned (.tuple #[.int .i64 (whoB l path i).1, .int .i64 (whoB l path i).2]) ∧ X w w' := by
  obtain rfl := hI.1
  obtain ⟨hl, hn⟩ := hF.len
  have q1 : IntKind.i64.wrap ((n : Int) - 1) = (n : Int) - 1 := IntWalk.i64_in _ (by omega)
  cases h1 : treeB l <;> cases h2 : pathB path <;> cases h3 : rangeB i 0 ((n : Int) - 1)
  case true.true.true =>
    obtain ⟨k, rfl⟩ : ∃ k : Nat, i = (k : Int) := ⟨i.toNat, by have := (rangeB_iff.1 h3).1; omega⟩
    have hk : k < n := by have := (rangeB_iff.1 h3).2; omega
    rw [whoB_at h1 h2 (by rw [← hl]; exact hk)]
    have hk1 : (k : Int) < (n : Int) := by omega
    have hk0 : (0 : Int) ≤ (k : Int) := by omega
    have hfb := treeB_file h1 (k := k) (by rw [← hl]; exact hk)
    have hnm := fileB_name hfb
    have Ho := Lib.hid (show (specF l path (moduleB (nth l k))).file = fileOf l path k by rw [fileOf, moduleOf, hfb, if_pos rfl, specB, h1, h2, hnm]; rfl)
    have hin : (0 ≤ firstN (fun q => nth path q == (nth l k).root) path.length) ↔ inB l path k = true := by rw [firstN_nonneg]; rfl
    clear hl hfb
    generalize fileOf l path k = o at *
    generalize hfn : firstN (fun q => nth path q == (nth l k).root) path.length = fn at *
    have Hfn := Lib.hid hfn
    clear hfn
    generalize inB l path k = b2 at *
    go_enter Tryd.func21, Tryd.ntmps21
    go_wp2_with fail
    refine calls_name (fun W hW => ?_)
    have hT : Bx W w.heap.size #[.slice a n c] := by rw [hW]; exact Bx.new _ _ _
    have hX0 : X w W := by rw [hW]; (repeat (first | exact X.refl _ | assumption | refine X.ext ?_ _ | refine X.alloc ?_ _ | refine X.drew ?_))
    clear hW
    obtain ⟨b, off, ba, bn, bc, rfl, hab, hb, hok, hbc, hS, g0, g1, g2, g3, g4, g5⟩ := (hF.mono (hX0.fr _)).at_ hk
    obtain ⟨hbT, hcT, hfT⟩ := hT.out
    have t0 := hcT 0
    clear hcT
    refine (validTree_c l _ _ _ _ W (hF.mono (hX0.fr _))).mono ?_
    rintro _ _ ⟨rfl, x, rfl⟩
    rw [h1]
    go_wp2_with (first | (go_at_call 47; refine (validPath_c path _ _ _ _ _ (hI.mono (X.fr (hX0.trans (by (repeat (first | exact X.refl _ | assumption | refine X.ext ?_ _ | refine X.alloc ?_ _ | refine X.drew ?_)))) _)) hpc).mono ?_; rintro _ _ ⟨rfl, hx⟩; obtain ⟨x, rfl⟩ := hx.of_ext) | (go_at_call 52; refine (inRange_c _ _ _ _).mono ?_; rintro _ _ ⟨rfl, rfl⟩))
    go_region_held3 (fun w' => w'.cell? ⟨w.heap.size, 0, none⟩ = some (.slice (some ⟨b, off, none⟩) n c) ∧ w'.cell? ⟨b, off + k * 6, none⟩ = some (.int .i64 (nth l k).root) ∧ w'.cell? ⟨b, off + k * 6 + 1, none⟩ = some (.string ⟨((nth l k).pkg).toArray⟩) ∧ w'.cell? ⟨b, off + k * 6 + 2, none⟩ = some (.string ⟨((nth l k).name).toArray⟩) ∧ w'.cell? ⟨b, off + k * 6 + 3, none⟩ = some (.bool (nth l k).init) ∧ w'.cell? ⟨b, off + k * 6 + 4, none⟩ = some (.int .i64 (nth l k).stamp) ∧ w'.cell? ⟨b, off + k * 6 + 5, none⟩ = some (.slice ba bn bc))
      (exact ⟨(X.cell (w := W) (by (repeat (first | exact X.refl _ | assumption | refine X.setCell ?_ (by first | (simp; done) | (simp; omega) | (simp [World.size_ext]; done) | (simp [World.size_ext]; omega)) _ | refine X.ext ?_ _ | refine X.alloc ?_ _ | refine X.drew ?_))) (p := ⟨w.heap.size, 0, none⟩) hbT).trans t0, (X.cell (w := W) (by (repeat (first | exact X.refl _ | assumption | refine X.setCell ?_ (by first | (simp; done) | (simp; omega) | (simp [World.size_ext]; done) | (simp [World.size_ext]; omega)) _ | refine X.ext ?_ _ | refine X.alloc ?_ _ | refine X.drew ?_))) (p := ⟨b, off + k * 6, none⟩) hb).trans g0, (X.cell (w := W) (by (repeat (first | exact X.refl _ | assumption | refine X.setCell ?_ (by first | (simp; done) | (simp; omega) | (simp [World.size_ext]; done) | (simp [World.size_ext]; omega)) _ | refine X.ext ?_ _ | refine X.alloc ?_ _ | refine X.drew ?_))) (p := ⟨b, off + k * 6 + 1, none⟩) hb).trans g1, (X.cell (w := W) (by (repeat (first | exact X.refl _ | assumption | refine X.setCell ?_ (by first | (simp; done) | (simp; omega) | (simp [World.size_ext]; done) | (simp [World.size_ext]; omega)) _ | refine X.ext ?_ _ | refine X.alloc ?_ _ | refine X.drew ?_))) (p := ⟨b, off + k * 6 + 2, none⟩) hb).trans g2, (X.cell (w := W) (by (repeat (first | exact X.refl _ | assumption | refine X.setCell ?_ (by first | (simp; done) | (simp; omega) | (simp [World.size_ext]; done) | (simp [World.size_ext]; omega)) _ | refine X.ext ?_ _ | refine X.alloc ?_ _ | refine X.drew ?_))) (p := ⟨b, off + k * 6 + 3, none⟩) hb).trans g3, (X.cell (w := W) (by (repeat (first | exact X.refl _ | assumption | refine X.setCell ?_ (by first | (simp; done) | (simp; omega) | (simp [World.size_ext]; done) | (simp [World.size_ext]; omega)) _ | refine X.ext ?_ _ | refine X.alloc ?_ _ | refine X.drew ?_))) (p := ⟨b, off + k * 6 + 4, none⟩) hb).trans g4, (X.cell (w := W) (by (repeat (first | exact X.refl _ | assumption | refine X.setCell ?_ (by first | (simp; done) | (simp; omega) | (simp [World.size_ext]; done) | (simp [World.size_ext]; omega)) _ | refine X.ext ?_ _ | refine X.alloc ?_ _ | refine X.drew ?_))) (p := ⟨b, off + k * 6 + 5, none⟩) hb).trans g5⟩)
      ((first
        | (go_at_call 53; refine (moduleName_c (nth l k) (.slice ba bn bc) _ hok).mono ?_; rintro _ w9 ⟨rfl, hx9⟩; (first | (have hTn := at_x2 (o := (.cells #[.int .i64 0, .int .i64 0, .slice none 0 0] 44)) (heap_alloc_new _ _) hx9) | skip); replace hx9 := X.trans (a := W) (by (repeat (first | exact X.refl _ | assumption | refine X.setCell ?_ (by first | (simp; done) | (simp; omega) | (simp [World.size_ext]; done) | (simp [World.size_ext]; omega)) _ | refine X.ext ?_ _ | refine X.alloc ?_ _ | refine X.drew ?_))) hx9; have hs9 := hx9.size)
        | (go_at_call 49; refine (find_s l _ _ _ B path _ _ _ Bp (moduleB (nth l k)) _ (hF.mono (X.fr (hX0.trans (by (repeat (first | exact X.refl _ | assumption | refine X.setCell ?_ (by first | (simp; done) | (simp; omega) | (simp [World.size_ext]; done) | (simp [World.size_ext]; omega)) _ | refine X.ext ?_ _ | refine X.alloc ?_ _ | refine X.drew ?_)))) _)) (hI.mono (X.fr (hX0.trans (by (repeat (first | exact X.refl _ | assumption | refine X.setCell ?_ (by first | (simp; done) | (simp; omega) | (simp [World.size_ext]; done) | (simp [World.size_ext]; omega)) _ | refine X.ext ?_ _ | refine X.alloc ?_ _ | refine X.drew ?_)))) _)) hpc hnm).mono ?_; rintro _ w5 ⟨v5, rfl, ⟨a5, c5, rfl, hc5, hI5⟩, hx5⟩; rw [Ho.out]; (first | (have hTn := at_x2 (o := (.cells #[.int .i64 0, .int .i64 0, .slice none 0 0] 44)) (heap_alloc_new _ _) hx5; obtain ⟨hbn, hcn, hfn⟩ := Bx.out ⟨_, hTn⟩; have n0 := hcn 0; have n1 := hcn 1; have n2 := hcn 2; clear hcn) | (replace hTn := at_x2 hTn hx5; obtain ⟨hbn, hcn, hfn⟩ := Bx.out ⟨_, hTn⟩; have n0 := hcn 0; have n1 := hcn 1; have n2 := hcn 2; clear hcn) | skip); replace hx5 := X.trans (a := W) (by (repeat (first | exact X.refl _ | assumption | refine X.setCell ?_ (by first | (simp; done) | (simp; omega) | (simp [World.size_ext]; done) | (simp [World.size_ext]; omega)) _ | refine X.ext ?_ _ | refine X.alloc ?_ _ | refine X.drew ?_))) hx5; have hs5 := hx5.size)))
    · refine then_name (fun W5 hW5 => ?_)
      have hX5 : X W W5 := by rw [hW5]; (repeat (first | exact X.refl _ | assumption | refine X.setCell ?_ (by first | (simp; done) | (simp; omega) | (simp [World.size_ext]; done) | (simp [World.size_ext]; omega)) _ | refine X.ext ?_ _ | refine X.alloc ?_ _ | refine X.drew ?_))
      have hB8 : Bx W5 (w5.heap.size) #[.int .i64 (specF l path (moduleB (nth l k))).kind, .int .i64 o, .slice a5 (specF l path (moduleB (nth l k))).roots.length c5] := by
        rw [hW5]
        first
          | exact Bx.new _ _ _
          | exact Bx.set (Bx.set (Bx.set ⟨_, hTn⟩ 0 _) 1 _) 2 _
      obtain ⟨hb8, hc8, hf8⟩ := hB8.out
      have k1 := hc8 1
      clear hc8 hW5 hB8
      have t5 := (hX5.cell (p := ⟨w.heap.size, 0, none⟩) hbT).trans t0
      have r5 := (hX5.cell (p := ⟨b, off + k * 6, none⟩) hb).trans g0
      have lb : b < W5.heap.size := Nat.lt_of_lt_of_le hb hX5.size
      have lT : w.heap.size < W5.heap.size := Nat.lt_of_lt_of_le hbT hX5.size
      cases e1 : o == (k : Int) <;> cases b2 <;> by_cases e3 : 0 ≤ o
      all_goals
        first
          | (have e2 : 0 ≤ fn := hin.2 rfl)
          | (have e2 : fn < 0 := Int.not_le.1 (mt hin.1 (by simp)))
        go_wp2_with (go_at_call 54; refine (intAt_c path _ _ _ _ _ _ _ (hI.mono (X.fr (hX0.trans hX5) _)) (Nat.le_refl _)).mono ?_; rintro _ _ ⟨rfl, rfl⟩; rw [Hfn.out])
        try (go_region_held3 (fun w' => w'.cell? ⟨w5.heap.size, 1, none⟩ = some (.int .i64 o)) (first | exact k1 | exact (World.cell?_ext _ _ _ _ hb8).trans k1 | go_keep) ((fail)); go_wp2)
        refine bodyPost_ret (v := _) (by simp [results, Tryd.results21, go_sem]; rfl) rfl ?_
        exact ⟨by simp only [whoK, e1]; first | (simp; done) | (simp [e3]; done) | (simp [eq_false (Int.not_le.2 e3)]; done), hX0.trans (hX5.trans (by (repeat (first | exact X.refl _ | assumption | refine X.ext ?_ _ | refine X.alloc ?_ _ | refine X.drew ?_))))⟩
    · refine then_name (fun W5 hW5 => ?_)
      have hX5 : X W W5 := by rw [hW5]; (repeat (first | exact X.refl _ | assumption | refine X.setCell ?_ (by first | (simp; done) | (simp; omega) | (simp [World.size_ext]; done) | (simp [World.size_ext]; omega)) _ | refine X.ext ?_ _ | refine X.alloc ?_ _ | refine X.drew ?_))
      have hB8 : Bx W5 (w9.heap.size) #[.int .i64 (specF l path (moduleB (nth l k))).kind, .int .i64 o, .slice a5 (specF l path (moduleB (nth l k))).roots.length c5] := by
        rw [hW5]
        first
          | exact Bx.new _ _ _
          | exact Bx.set (Bx.set (Bx.set ⟨_, hTn⟩ 0 _) 1 _) 2 _
      obtain ⟨hb8, hc8, hf8⟩ := hB8.out
      have k1 := hc8 1
      clear hc8 hW5 hB8
      have t5 := (hX5.cell (p := ⟨w.heap.size, 0, none⟩) hbT).trans t0
      have r5 := (hX5.cell (p := ⟨b, off + k * 6, none⟩) hb).trans g0
      have lb : b < W5.heap.size := Nat.lt_of_lt_of_le hb hX5.size
      have lT : w.heap.size < W5.heap.size := Nat.lt_of_lt_of_le hbT hX5.size
      cases e1 : o == (k : Int) <;> cases b2 <;> by_cases e3 : 0 ≤ o
      all_goals
        first
          | (have e2 : 0 ≤ fn := hin.2 rfl)
          | (have e2 : fn < 0 := Int.not_le.1 (mt hin.1 (by simp)))
        go_wp2_with (go_at_call 54; refine (intAt_c path _ _ _ _ _ _ _ (hI.mono (X.fr (hX0.trans hX5) _)) (Nat.le_refl _)).mono ?_; rintro _ _ ⟨rfl, rfl⟩; rw [Hfn.out])
        try (go_region_held3 (fun w' => w'.cell? ⟨w9.heap.size, 1, none⟩ = some (.int .i64 o)) (first | exact k1 | exact (World.cell?_ext _ _ _ _ hb8).trans k1 | go_keep) ((fail)); go_wp2)
        refine bodyPost_ret (v := _) (by simp [results, Tryd.results21, go_sem]; rfl) rfl ?_
        exact ⟨by simp only [whoK, e1]; first | (simp; done) | (simp [e3]; done) | (simp [eq_false (Int.not_le.2 e3)]; done), hX0.trans (hX5.trans (by (repeat (first | exact X.refl _ | assumption | refine X.ext ?_ _ | refine X.alloc ?_ _ | refine X.drew ?_))))⟩
    · refine then_name (fun W5 hW5 => ?_)
      have hX5 : X W W5 := by rw [hW5]; (repeat (first | exact X.refl _ | assumption | refine X.setCell ?_ (by first | (simp; done) | (simp; omega) | (simp [World.size_ext]; done) | (simp [World.size_ext]; omega)) _ | refine X.ext ?_ _ | refine X.alloc ?_ _ | refine X.drew ?_))
      have hB8 : Bx W5 ((World.ext W x).heap.size) #[.int .i64 (specF l path (moduleB (nth l k))).kind, .int .i64 o, .slice a5 (specF l path (moduleB (nth l k))).roots.length c5] := by
        rw [hW5]
        first
          | exact Bx.new _ _ _
          | exact Bx.set (Bx.set (Bx.set ⟨_, hTn⟩ 0 _) 1 _) 2 _
      obtain ⟨hb8, hc8, hf8⟩ := hB8.out
      have k1 := hc8 1
      clear hc8 hW5 hB8
      have t5 := (hX5.cell (p := ⟨w.heap.size, 0, none⟩) hbT).trans t0
      have r5 := (hX5.cell (p := ⟨b, off + k * 6, none⟩) hb).trans g0
      have lb : b < W5.heap.size := Nat.lt_of_lt_of_le hb hX5.size
      have lT : w.heap.size < W5.heap.size := Nat.lt_of_lt_of_le hbT hX5.size
      cases e1 : o == (k : Int) <;> cases b2 <;> by_cases e3 : 0 ≤ o
      all_goals
        first
          | (have e2 : 0 ≤ fn := hin.2 rfl)
          | (have e2 : fn < 0 := Int.not_le.1 (mt hin.1 (by simp)))
        go_wp2_with (go_at_call 54; refine (intAt_c path _ _ _ _ _ _ _ (hI.mono (X.fr (hX0.trans hX5) _)) (Nat.le_refl _)).mono ?_; rintro _ _ ⟨rfl, rfl⟩; rw [Hfn.out])
        try (go_region_held3 (fun w' => w'.cell? ⟨(World.ext W x).heap.size, 1, none⟩ = some (.int .i64 o)) (first | exact k1 | exact (World.cell?_ext _ _ _ _ hb8).trans k1 | go_keep) ((fail)); go_wp2)
        refine bodyPost_ret (v := _) (by simp [results, Tryd.results21, go_sem]; rfl) rfl ?_
        exact ⟨by simp only [whoK, e1]; first | (simp; done) | (simp [e3]; done) | (simp [eq_false (Int.not_le.2 e3)]; done), hX0.trans (hX5.trans (by (repeat (first | exact X.refl _ | assumption | refine X.ext ?_ _ | refine X.alloc ?_ _ | refine X.drew ?_))))⟩
  all_goals
    rw [whoB_bad (l := l) (path := path) (i := i) (by rw [← hl, h1, h2, h3]; rfl)]
    clear hl
    go_enter Tryd.func21, Tryd.ntmps21
    go_wp2_with fail
    refine calls_name (fun W hW => ?_)
    have hT : Bx W w.heap.size #[.slice a n c] := by rw [hW]; exact Bx.new _ _ _
    have hX0 : X w W := by rw [hW]; (repeat (first | exact X.refl _ | assumption | refine X.ext ?_ _ | refine X.alloc ?_ _ | refine X.drew ?_))
    clear hW
    obtain ⟨hbT, hcT, hfT⟩ := hT.out
    have t0 := hcT 0
    clear hcT
    refine (validTree_c l _ _ _ _ W (hF.mono (hX0.fr _))).mono ?_
    rintro _ _ ⟨rfl, x, rfl⟩
    rw [h1]
    go_wp2_with (first | (go_at_call 47; refine (validPath_c path _ _ _ _ _ (hI.mono (X.fr (hX0.trans (by (repeat (first | exact X.refl _ | assumption | refine X.ext ?_ _ | refine X.alloc ?_ _ | refine X.drew ?_)))) _)) hpc).mono ?_; rintro _ _ ⟨rfl, hx⟩; obtain ⟨x, rfl⟩ := hx.of_ext) | (go_at_call 52; refine (inRange_c _ _ _ _).mono ?_; rintro _ _ ⟨rfl, rfl⟩))
    refine bodyPost_ret (v := _) (by simp [results, Tryd.results21, go_sem]; rfl) rfl ?_
    exact ⟨rfl, hX0.trans (by (repeat (first | exact X.refl _ | assumption | refine X.ext ?_ _ | refine X.alloc ?_ _ | refine X.drew ?_)))⟩

end Go.Proofs.YtcophpiibifhcaaDoor
