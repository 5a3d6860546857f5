/- Hidden files: the walks of the program's and the reference's functions. No condition. -/
import Derived.Test.YtijcdnaammbomaaGreatDoorIc
namespace Go.Proofs.YtijcdnaammbomaaGreatDoor
open Go.RowKit

def hidB (l : List Fi) (path : List Int) (i : Nat) : Bool := (specB l path (moduleOf (nth l i))).file != (i : Int)
def hidN (l : List Fi) (path : List Int) (n : Nat) : List Int := ((List.range n).filter (hidB l path)).map fun i : Nat => (i : Int)
def hidL (l : List Fi) (path : List Int) : List Int := if treeB l && pathB path then hidN l path l.length else []
theorem hidN_next {l : List Fi} {path : List Int} {k : Nat} : hidN l path (k + 1) = if hidB l path k then hidN l path k ++ [(k : Int)] else hidN l path k := by
  cases h : hidB l path k <;> simp [hidN, List.range_succ, List.filter_append, h]
theorem hidN_len {l : List Fi} {path : List Int} {n : Nat} : (hidN l path n).length ≤ n := by
  have := List.length_filter_le (hidB l path) (List.range n)
  simpa [hidN] using this
theorem moduleB_len2 {f : Fi} (h : Okf f) : (moduleB f).length ≤ 4194304 := by
  obtain ⟨h1, h2⟩ := h
  unfold moduleB
  split
  · omega
  · exact childL_length _ _ h1 h2
theorem moduleOf_len {f : Fi} (h : Okf f) : (moduleOf f).length ≤ 4194304 := by
  unfold moduleOf
  split
  · exact moduleB_len2 h
  · simp
theorem fileB_name {f : Fi} (h : fileB f = true) : nameB (moduleB f) = true := by
  unfold fileB at h
  unfold moduleB
  cases hi : f.init <;> rw [hi] at h <;> simp only [Bool.and_eq_true, Bool.false_eq_true, if_false, if_true] at h ⊢
  · exact h.2.2
  · rw [pkgB_ne h.1.1.1.2]; exact h.2.1

set_option maxRecDepth 100000 in
set_option maxHeartbeats 1000000 in
theorem isHidden_c (l : List Fi) (a : Option Addr) (n c B : Nat) (path : List Int) (pa : Option Addr) (pn pc Bp i : Nat) (w : World) (hF : FilesAt w B a n l) (hnc : n ≤ c) (hI : IntsAt w Bp pa pn path) (hpc : pn ≤ pc) (hG : Gm w) (hi : i < n) :
    Calls Tryz.prog 55 #[.agg #[.slice a n c], .slice pa pn pc, .int .i64 (i : Int)] w fun e w' => e = .returned (.bool (hidB l path i)) ∧ X w w' := by
  have hi1 : (i : Int) < (n : Int) := by omega
  have hi0 : (0 : Int) ≤ (i : Int) := by omega
  go_enter Tryz.func55, Tryz.ntmps55
  go_wp2_with fail
  refine wp_name (fun W hW => ?_)
  have hT : Bx W w.heap.size #[.slice a n c] := by rw [hW]; exact Bx.new _ _ _
  have hX0 : X w W := by rw [hW]; (repeat (first | exact X.refl _ | assumption | refine X.ext ?_ _ | refine X.alloc ?_ _ | refine X.drew ?_))
  clear hW
  obtain ⟨b, off, ba, bn, bc, rfl, hab, hb, hok, hbc, hS, g0, g1, g2, g3, g4, g5⟩ := (hF.mono (hX0.fr _)).at_ hi
  have hml := moduleOf_len hok
  obtain ⟨hbT, hcT, hfT⟩ := hT.out
  have t0 := hcT 0
  clear hcT
  go_region_held3 (fun w' => w'.cell? ⟨w.heap.size, 0, none⟩ = some (.slice (some ⟨b, off, none⟩) n c) ∧ w'.cell? ⟨b, off + i * 6, none⟩ = some (.int .i64 (nth l i).root) ∧ w'.cell? ⟨b, off + i * 6 + 1, none⟩ = some (.string ⟨((nth l i).pkg).toArray⟩) ∧ w'.cell? ⟨b, off + i * 6 + 2, none⟩ = some (.string ⟨((nth l i).name).toArray⟩) ∧ w'.cell? ⟨b, off + i * 6 + 3, none⟩ = some (.bool (nth l i).init) ∧ w'.cell? ⟨b, off + i * 6 + 4, none⟩ = some (.int .i64 (nth l i).stamp) ∧ w'.cell? ⟨b, off + i * 6 + 5, none⟩ = some (.slice ba bn bc))
    (first | exact ⟨(World.cell?_ext _ _ _ _ hbT).trans t0, (World.cell?_ext _ _ _ _ hb).trans g0, (World.cell?_ext _ _ _ _ hb).trans g1, (World.cell?_ext _ _ _ _ hb).trans g2, (World.cell?_ext _ _ _ _ hb).trans g3, (World.cell?_ext _ _ _ _ hb).trans g4, (World.cell?_ext _ _ _ _ hb).trans g5⟩ | exact ⟨t0, g0, g1, g2, g3, g4, g5⟩ | go_keep)
    ((first
      | (go_at_call 44; refine (ModuleOf_c (nth l i) ba bn bc _ _ hok (hS.mono (X.fr (by (repeat (first | exact X.refl _ | assumption | refine X.ext ?_ _ | refine X.alloc ?_ _ | refine X.drew ?_))) _)) (hG.mono (hX0.trans (by (repeat (first | exact X.refl _ | assumption | refine X.ext ?_ _ | refine X.alloc ?_ _ | refine X.drew ?_)))))).mono ?_; rintro _ w9 ⟨rfl, hx9⟩; replace hx9 := X.trans (a := W) (by (repeat (first | exact X.refl _ | assumption | refine X.ext ?_ _ | refine X.alloc ?_ _ | refine X.drew ?_))) hx9; obtain ⟨z9, rfl⟩ := hx9)
      | (go_at_call 48; refine (FindSpec_i l _ _ _ B path _ _ _ Bp (moduleOf (nth l i)) _ (hF.mono (X.fr (hX0.trans (by (repeat (first | exact X.refl _ | assumption | refine X.ext ?_ _ | refine X.alloc ?_ _ | refine X.drew ?_)))) _)) hnc (hI.mono (X.fr (hX0.trans (by (repeat (first | exact X.refl _ | assumption | refine X.ext ?_ _ | refine X.alloc ?_ _ | refine X.drew ?_)))) _)) hpc hml (hG.mono (hX0.trans (by (repeat (first | exact X.refl _ | assumption | refine X.ext ?_ _ | refine X.alloc ?_ _ | refine X.drew ?_)))))).mono ?_; rintro _ w5 ⟨v5, rfl, ⟨a5, c5, rfl, hc5, hI5⟩, hx5⟩; replace hx5 := X.trans (a := W) (by (repeat (first | exact X.refl _ | assumption | refine X.ext ?_ _ | refine X.alloc ?_ _ | refine X.drew ?_))) hx5; obtain ⟨z5, rfl⟩ := hx5)))
  go_wp2
  go_ret
  exact ⟨rfl, hX0.trans (by (repeat (first | exact X.refl _ | assumption | refine X.ext ?_ _ | refine X.alloc ?_ _ | refine X.drew ?_)))⟩

set_option maxRecDepth 100000 in
set_option maxHeartbeats 1000000 in
theorem HiddenFiles_o (l : List Fi) (a : Option Addr) (n c B : Nat) (path : List Int) (pa : Option Addr) (pn pc Bp : Nat) (w : World) (hF : FilesAt w B a n l) (hnc : n ≤ c) (hI : IntsAt w Bp pa pn path) (hpc : pn ≤ pc) (hG : Gm w) :
    Calls Tryz.prog 23 #[.agg #[.slice a n c], .slice pa pn pc] w fun e w' => ∃ ra rc, e = .returned (.slice ra (hidL l path).length rc) ∧ w'.ownsRow w.heap.size 3 1 (.slice ra (hidL l path).length rc) (hidL l path).length (ints (hidL l path)) ∧ X w w' := by
  obtain ⟨hl, hn⟩ := hF.len
  cases h1 : treeB l <;> cases h2 : pathB path
  case true.true =>
    have he : hidL l path = hidN l path n := by rw [hidL, h1, h2, hl]; rfl
    rw [he]
    clear he hl
    go_enter Tryz.func23, Tryz.ntmps23
    go_wp2_with fail
    refine calls_name (fun W' hW => ?_)
    obtain ⟨W, hV⟩ : ∃ V, V = w.alloc (.cells #[.slice a n c] 25) := ⟨_, rfl⟩
    rw [← hV] at hW
    have hT : Bx W w.heap.size #[.slice a n c] := by rw [hV]; exact Bx.new _ _ _
    have hX0 : X w W := by rw [hV]; (repeat (first | exact X.refl _ | assumption | refine X.ext ?_ _ | refine X.alloc ?_ _ | refine X.drew ?_))
    have hVs : w.heap.size + 1 = W.heap.size := by rw [hV]; simp
    clear hV
    obtain ⟨x0, rfl, hrow0⟩ := own_new (size := 1) (n := 0) hW rfl (by omega)
    rw [hVs]
    clear hW
    obtain ⟨hbT, hcT, hfT⟩ := hT.out
    have t0 := hcT 0
    clear hcT
    refine (ValidTree_c l _ _ _ _ _ (hF.mono (X.fr (hX0.trans (by (repeat (first | exact X.refl _ | assumption | refine X.ext ?_ _ | refine X.alloc ?_ _ | refine X.drew ?_)))) _)) hnc (hG.mono (hX0.trans (by (repeat (first | exact X.refl _ | assumption | refine X.ext ?_ _ | refine X.alloc ?_ _ | refine X.drew ?_)))))).mono ?_
    rintro _ _ ⟨rfl, hx⟩
    replace hrow0 := own_fr hrow0 (hx.fr _)
    obtain ⟨x, rfl⟩ := hx.of_ext
    rw [h1]
    go_wp2_with (go_at_call 12; refine (ValidPath_c path _ _ _ _ _ (hI.mono (X.fr (hX0.trans (by (repeat (first | exact X.refl _ | assumption | refine X.ext ?_ _ | refine X.alloc ?_ _ | refine X.drew ?_)))) _)) hpc).mono ?_; rintro _ _ ⟨rfl, rfl⟩)
    go_loopw [5, 20] (fun v i wr => ∃ (k : Nat) (ra : Option Addr) (rc : Nat) (z : Xt), k ≤ n ∧ i = .int .i64 k ∧ v = .slice ra (hidN l path k).length rc ∧ wr = World.ext W z ∧ (World.ext W z).ownsRow W.heap.size 3 1 (.slice ra (hidN l path k).length rc) (hidN l path k).length (ints (hidN l path k))) (fun _ i _ => n - (intOf i).toNat)
    case atStart => exact ⟨0, _, _, x, by omega, rfl, rfl, rfl, hrow0⟩
    case round =>
      obtain ⟨k, ra, rc, z, hk, rfl, rfl, rfl, hrow⟩ := hrel
      by_cases hlt : k < n
      · have Hn := Lib.hid (@hidN_next l path k)
        have hln := @hidN_len l path k
        cases hd : hidB l path k
        all_goals
          go_wp2_with fail
          refine (isHidden_c l _ _ _ _ path _ _ _ _ k _ (hF.mono (X.fr (hX0.trans (by (repeat (first | exact X.refl _ | assumption | refine X.ext ?_ _ | refine X.alloc ?_ _ | refine X.drew ?_)))) _)) hnc (hI.mono (X.fr (hX0.trans (by (repeat (first | exact X.refl _ | assumption | refine X.ext ?_ _ | refine X.alloc ?_ _ | refine X.drew ?_)))) _)) hpc (hG.mono (hX0.trans (by (repeat (first | exact X.refl _ | assumption | refine X.ext ?_ _ | refine X.alloc ?_ _ | refine X.drew ?_))))) hlt).mono ?_
          rintro _ _ ⟨rfl, hx5⟩
          replace hrow := own_fr hrow (hx5.fr _)
          obtain ⟨z, rfl⟩ := hx5.of_ext
          rw [hd]
        · have He : hidN l path (k + 1) = hidN l path k := by rw [Hn.out, hd]; rfl
          have He := Lib.hid He
          go_wp2
          go_roundw
          case rel => exact ⟨k + 1, ra, rc, z, by omega, by go_num, by rw [He.out], rfl, by rw [He.out]; exact hrow⟩
          case measure => simp [intOf]; omega
        · have He : hidN l path (k + 1) = hidN l path k ++ [(k : Int)] := by rw [Hn.out, hd]; rfl
          have He := Lib.hid He
          go_wp2_with (at_builtin; refine wpList_append_lit int_T rfl _ _ rfl hrow rfl rfl rfl ?_ ?_ ?_ ?_)
          · simp [Value.oneCell']
          · omega
          · omega
          intro a' c' z' hrow'
          go_wp2
          go_roundw
          case rel => exact ⟨k + 1, a', c', z', by omega, by go_num, by rw [He.out, List.length_append, List.length_singleton], rfl, by rw [He.out, List.length_append, List.length_singleton]; simpa [flat_snoc] using hrow'⟩
          case measure => simp [intOf]; omega
      · obtain rfl : k = n := by omega
        have hln := @hidN_len l path k
        go_wp2
        go_ret
        exact ⟨ra, rc, rfl, own_less hrow (by omega), hX0.trans (by (repeat (first | exact X.refl _ | assumption | refine X.ext ?_ _ | refine X.alloc ?_ _ | refine X.drew ?_)))⟩
  all_goals
    rw [show hidL l path = [] by simp [hidL, h1, h2]]
    clear hl
    go_enter Tryz.func23, Tryz.ntmps23
    go_wp2_with fail
    refine calls_name (fun W' hW => ?_)
    obtain ⟨W, hV⟩ : ∃ V, V = w.alloc (.cells #[.slice a n c] 25) := ⟨_, rfl⟩
    rw [← hV] at hW
    have hX0 : X w W := by rw [hV]; (repeat (first | exact X.refl _ | assumption | refine X.ext ?_ _ | refine X.alloc ?_ _ | refine X.drew ?_))
    have hVs : w.heap.size + 1 = W.heap.size := by rw [hV]; simp
    clear hV
    obtain ⟨x0, rfl, hrow0⟩ := own_new (size := 1) (n := 0) hW rfl (by omega)
    rw [hVs]
    clear hW
    refine (ValidTree_c l _ _ _ _ _ (hF.mono (X.fr (hX0.trans (by (repeat (first | exact X.refl _ | assumption | refine X.ext ?_ _ | refine X.alloc ?_ _ | refine X.drew ?_)))) _)) hnc (hG.mono (hX0.trans (by (repeat (first | exact X.refl _ | assumption | refine X.ext ?_ _ | refine X.alloc ?_ _ | refine X.drew ?_)))))).mono ?_
    rintro _ _ ⟨rfl, hx⟩
    replace hrow0 := own_fr hrow0 (hx.fr _)
    obtain ⟨x, rfl⟩ := hx.of_ext
    rw [h1]
    go_wp2_with (go_at_call 12; refine (ValidPath_c path _ _ _ _ _ (hI.mono (X.fr (hX0.trans (by (repeat (first | exact X.refl _ | assumption | refine X.ext ?_ _ | refine X.alloc ?_ _ | refine X.drew ?_)))) _)) hpc).mono ?_; rintro _ _ ⟨rfl, rfl⟩)
    go_ret
    exact ⟨_, _, rfl, own_less hrow0 (by omega), hX0.trans (by (repeat (first | exact X.refl _ | assumption | refine X.ext ?_ _ | refine X.alloc ?_ _ | refine X.drew ?_)))⟩
theorem HiddenFiles_i (l : List Fi) (a : Option Addr) (n c B : Nat) (path : List Int) (pa : Option Addr) (pn pc Bp : Nat) (w : World) (hF : FilesAt w B a n l) (hnc : n ≤ c) (hI : IntsAt w Bp pa pn path) (hpc : pn ≤ pc) (hG : Gm w) :
    Calls Tryz.prog 23 #[.agg #[.slice a n c], .slice pa pn pc] w fun e w' => ∃ ra rc, e = .returned (.slice ra (hidL l path).length rc) ∧ IntsAt w' w.heap.size ra (hidL l path).length (hidL l path) ∧ X w w' := by
  refine (HiddenFiles_o l a n c B path pa pn pc Bp w hF hnc hI hpc hG).mono ?_
  rintro _ _ ⟨ra, rc, e, h, hx⟩
  have h1 := hF.len
  have h2 := @hidN_len l path l.length
  exact ⟨ra, rc, e, SpecAt.ints h (by unfold hidL; split <;> first | omega | (simp; done) | (simp; omega)), hx⟩

set_option maxRecDepth 100000 in
set_option maxHeartbeats 1000000 in
theorem HiddenFiles_s (l : List Fi) (a : Option Addr) (n c B : Nat) (path : List Int) (pa : Option Addr) (pn pc Bp : Nat) (w : World) (hF : FilesAt w B a n l) (hI : IntsAt w Bp pa pn path) (hpc : pn ≤ pc) :
    Calls Tryz.prog 25 #[.agg #[.slice a n c], .slice pa pn pc] w fun e w' => ∃ ra rc, e = .returned (.slice ra (hidL l path).length rc) ∧ IntsAt w' w.heap.size ra (hidL l path).length (hidL l path) ∧ X w w' := by
  obtain ⟨hl, hn⟩ := hF.len
  cases h1 : treeB l <;> cases h2 : pathB path
  case true.true =>
    have he : hidL l path = hidN l path n := by rw [hidL, h1, h2, hl]; rfl
    have Hl := Lib.hid hl
    rw [he]
    clear he hl
    go_enter Tryz.func25, Tryz.ntmps25
    go_wp2_with fail
    refine calls_name (fun W hV => ?_)
    have hT : Bx W w.heap.size #[.slice a n c] := by rw [hV]; exact Bx.new _ _ _
    have hX0 : X w W := by rw [hV]; (repeat (first | exact X.refl _ | assumption | refine X.ext ?_ _ | refine X.alloc ?_ _ | refine X.drew ?_))
    clear hV
    obtain ⟨hbT, hcT, hfT⟩ := hT.out
    have t0 := hcT 0
    clear hcT
    refine (validTree_c l _ _ _ _ _ (hF.mono (X.fr (hX0.trans (by (repeat (first | exact X.refl _ | assumption | refine X.ext ?_ _ | refine X.alloc ?_ _ | refine X.drew ?_)))) _))).mono ?_
    rintro _ _ ⟨rfl, x, rfl⟩
    rw [h1]
    go_wp2_with (go_at_call 37; refine (validPath_c path _ _ _ _ _ (hI.mono (X.fr (hX0.trans (by (repeat (first | exact X.refl _ | assumption | refine X.ext ?_ _ | refine X.alloc ?_ _ | refine X.drew ?_)))) _)) hpc).mono ?_; rintro _ _ ⟨rfl, hx⟩; obtain ⟨x, rfl⟩ := hx.of_ext)
    go_loopw [5, 6] (fun v i wr => ∃ (k : Nat) (ra : Option Addr) (rc : Nat) (z : Xt), k ≤ n ∧ i = .int .i64 k ∧ v = .slice ra (hidN l path k).length rc ∧ wr = World.ext W z ∧ (World.ext W z).ownsRow W.heap.size 3 1 (.slice ra (hidN l path k).length rc) (hidN l path k).length (ints (hidN l path k))) (fun _ i _ => n - (intOf i).toNat)
    case atStart =>
      have hg : X W ((World.ext W x).alloc (.cells #[] 3)) := by (repeat (first | exact X.refl _ | assumption | refine X.ext ?_ _ | refine X.alloc ?_ _ | refine X.drew ?_))
      obtain ⟨z, hz⟩ := hg
      exact ⟨0, _, _, z, by omega, rfl, rfl, hz, hz ▸ own_lit (cs := #[]) rfl (by rw [World.size_ext]; omega) rfl (Nat.zero_le _)⟩
    case round =>
      obtain ⟨k, ra, rc, z, hk, rfl, rfl, rfl, hrow⟩ := hrel
      by_cases hlt : k < n
      · have Hn := Lib.hid (@hidN_next l path k)
        have hln := @hidN_len l path k
        have hi1 : (k : Int) < (n : Int) := by omega
        have hi0 : (0 : Int) ≤ (k : Int) := by omega
        have hfb := treeB_file h1 (k := k) (by rw [← Hl.out]; exact hlt)
        have hnm := fileB_name hfb
        have hs : specF l path (moduleB (nth l k)) = specB l path (moduleOf (nth l k)) := by rw [moduleOf, hfb, if_pos rfl, specB, h1, h2, hnm]; rfl
        have Hs := Lib.hid hs
        clear hs hfb
        obtain ⟨b, off, ba, bn, bc, rfl, hab, hb, hok, hbc, hS, g0, g1, g2, g3, g4, g5⟩ := (hF.mono (hX0.fr _)).at_ hlt
        have hbz : b < (World.ext W z).heap.size := by rw [World.size_ext]; omega
        have hTz : w.heap.size < (World.ext W z).heap.size := by rw [World.size_ext]; omega
        cases hd : ((specB l path (moduleOf (nth l k))).file != (k : Int))
        all_goals
          go_wp2_with fail
          go_region_held3 (fun w' => w'.cell? ⟨w.heap.size, 0, none⟩ = some (.slice (some ⟨b, off, none⟩) n c) ∧ w'.cell? ⟨b, off + k * 6, none⟩ = some (.int .i64 (nth l k).root) ∧ w'.cell? ⟨b, off + k * 6 + 1, none⟩ = some (.string ⟨((nth l k).pkg).toArray⟩) ∧ w'.cell? ⟨b, off + k * 6 + 2, none⟩ = some (.string ⟨((nth l k).name).toArray⟩) ∧ w'.cell? ⟨b, off + k * 6 + 3, none⟩ = some (.bool (nth l k).init) ∧ w'.cell? ⟨b, off + k * 6 + 4, none⟩ = some (.int .i64 (nth l k).stamp) ∧ w'.cell? ⟨b, off + k * 6 + 5, none⟩ = some (.slice ba bn bc))
            (first | exact ⟨(World.cell?_ext _ _ _ _ hbT).trans t0, (World.cell?_ext _ _ _ _ hb).trans g0, (World.cell?_ext _ _ _ _ hb).trans g1, (World.cell?_ext _ _ _ _ hb).trans g2, (World.cell?_ext _ _ _ _ hb).trans g3, (World.cell?_ext _ _ _ _ hb).trans g4, (World.cell?_ext _ _ _ _ hb).trans g5⟩ | go_keep)
            ((first
              | (go_at_call 56; refine (moduleName_c (nth l k) (.slice ba bn bc) _ hok).mono ?_; rintro _ w9 ⟨rfl, hx9⟩; have hr9 := own_fr hrow ((X.trans (a := World.ext W z) (by (repeat (first | exact X.refl _ | assumption | refine X.ext ?_ _ | refine X.alloc ?_ _ | refine X.drew ?_))) hx9).fr _); replace hx9 := X.trans (a := W) (by (repeat (first | exact X.refl _ | assumption | refine X.ext ?_ _ | refine X.alloc ?_ _ | refine X.drew ?_))) hx9; obtain ⟨z9, rfl⟩ := hx9)
              | (go_at_call 39; refine (find_s l _ _ _ B path _ _ _ Bp (moduleB (nth l k)) _ (hF.mono (X.fr (hX0.trans (by (repeat (first | exact X.refl _ | assumption | refine X.ext ?_ _ | refine X.alloc ?_ _ | refine X.drew ?_)))) _)) (hI.mono (X.fr (hX0.trans (by (repeat (first | exact X.refl _ | assumption | refine X.ext ?_ _ | refine X.alloc ?_ _ | refine X.drew ?_)))) _)) hpc hnm).mono ?_; rintro _ w5 ⟨v5, rfl, ⟨a5, c5, rfl, hc5, hI5⟩, hx5⟩; rw [Hs.out]; have hr5 := own_fr hr9 (hx5.fr _); replace hx5 := X.trans (a := W) (by (repeat (first | exact X.refl _ | assumption | refine X.ext ?_ _ | refine X.alloc ?_ _ | refine X.drew ?_))) hx5; obtain ⟨z5, rfl⟩ := hx5)))
        · have He : hidN l path (k + 1) = hidN l path k := by rw [Hn.out, hidB, hd]; rfl
          have He := Lib.hid He
          go_wp2
          go_roundw
          case rel => exact ⟨k + 1, ra, rc, z5, by omega, by go_num, by rw [He.out], rfl, by rw [He.out]; exact hr5⟩
          case measure => simp [intOf]; omega
        · have He : hidN l path (k + 1) = hidN l path k ++ [(k : Int)] := by rw [Hn.out, hidB, hd]; rfl
          have He := Lib.hid He
          go_wp2_with (at_builtin; refine wpList_append_lit int_T rfl _ _ rfl hr5 rfl rfl rfl ?_ ?_ ?_ ?_)
          · simp [Value.oneCell']
          · omega
          · omega
          intro a' c' z' hrow'
          go_wp2
          go_roundw
          case rel => exact ⟨k + 1, a', c', z', by omega, by go_num, by rw [He.out, List.length_append, List.length_singleton], rfl, by rw [He.out, List.length_append, List.length_singleton]; simpa [flat_snoc] using hrow'⟩
          case measure => simp [intOf]; omega
      · obtain rfl : k = n := by omega
        have hln := @hidN_len l path k
        go_wp2
        go_ret
        exact ⟨ra, rc, rfl, (SpecAt.ints hrow (by omega)).less (by have := hX0.size; omega), hX0.trans (by (repeat (first | exact X.refl _ | assumption | refine X.ext ?_ _ | refine X.alloc ?_ _ | refine X.drew ?_)))⟩
  all_goals
    rw [show hidL l path = [] by simp [hidL, h1, h2]]
    clear hl
    go_enter Tryz.func25, Tryz.ntmps25
    go_wp2_with (first | (go_at_call 36; refine (validTree_c l _ _ _ _ _ (hF.mono (X.fr (by (repeat (first | exact X.refl _ | assumption | refine X.ext ?_ _ | refine X.alloc ?_ _ | refine X.drew ?_))) _))).mono ?_; rintro _ _ ⟨rfl, hx⟩; replace hx := X.trans (a := w) (by (repeat (first | exact X.refl _ | assumption | refine X.ext ?_ _ | refine X.alloc ?_ _ | refine X.drew ?_))) hx; obtain ⟨x, rfl⟩ := hx) | (go_at_call 37; refine (validPath_c path _ _ _ _ _ (hI.mono (X.fr (by (repeat (first | exact X.refl _ | assumption | refine X.ext ?_ _ | refine X.alloc ?_ _ | refine X.drew ?_))) _)) hpc).mono ?_; rintro _ _ ⟨rfl, hx⟩; replace hx := X.trans (a := w) (by (repeat (first | exact X.refl _ | assumption | refine X.ext ?_ _ | refine X.alloc ?_ _ | refine X.drew ?_))) hx; obtain ⟨x, rfl⟩ := hx))
    go_ret
    exact ⟨_, _, rfl, ints_nil _ _ _, by (repeat (first | exact X.refl _ | assumption | refine X.ext ?_ _ | refine X.alloc ?_ _ | refine X.drew ?_))⟩

end Go.Proofs.YtijcdnaammbomaaGreatDoor
