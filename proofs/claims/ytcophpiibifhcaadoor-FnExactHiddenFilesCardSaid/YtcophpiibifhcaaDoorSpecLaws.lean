/- IsPackage and CanFind: the walks; plain laws of FindSpec. No condition but lengths. -/
import Derived.Test.YtcophpiibifhcaaDoorFindSpec
namespace Go.Proofs.YtcophpiibifhcaaDoor
open Go.RowKit

@[go_sem] theorem spec_field0 (k f : Int) (v : Value) (w : World) : (Instr.field 44 (.agg #[.int .i64 k, .int .i64 f, v]) 0).run Tryd.prog w = .ok (.int .i64 k) w := by kernel_rfl
@[go_sem] theorem spec_field1 (k f : Int) (v : Value) (w : World) : (Instr.field 44 (.agg #[.int .i64 k, .int .i64 f, v]) 1).run Tryd.prog w = .ok (.int .i64 f) w := by kernel_rfl
@[go_sem] theorem spec_field2 (k f : Int) (v : Value) (w : World) : (Instr.field 44 (.agg #[.int .i64 k, .int .i64 f, v]) 2).run Tryd.prog w = .ok v w := by
  kernel_rfl
def packB (l : List Fi) (path : List Int) (s : List UInt8) : Bool := (specB l path s).kind == 2 || (specB l path s).kind == 3
def canB (l : List Fi) (path : List Int) (s : List UInt8) : Bool := (specB l path s).kind != 0
def Pk (o : Sp) : Prop := (o.kind = 2 ∨ o.kind = 3) ↔ 0 < o.roots.length
theorem findGo_pk (l : List Fi) (p s : List UInt8) : ∀ (path acc : List Int), Pk (findGo l p s path acc)
  | [], acc => by
    unfold findGo
    split
    · simp [Pk, noneSp]
    · rename_i h
      simp only [Pk, or_true, true_iff]
      cases acc with
      | nil => exact absurd rfl h
      | cons a b => simp
  | r :: rs, acc => by
    unfold findGo
    split
    · simp [Pk]
    · split
      · simp [Pk]
      · exact findGo_pk l p s rs _
theorem specGo_pk (l : List Fi) : ∀ (ps : List (List UInt8)) (p : List UInt8) (o : Sp), Pk o → Pk (specGo l ps p o)
  | [], _, _, h => h
  | q :: qs, p, o, _ => by
    unfold specGo
    split
    · exact specGo_pk l qs _ _ (findGo_pk l p q _ _)
    · simp [Pk, noneSp]
theorem specF_pk (l : List Fi) (path : List Int) (s : List UInt8) : Pk (specF l path s) := by
  unfold specF
  cases h : splitL 46 s with
  | nil => exact absurd h (splitL_ne 46 s)
  | cons q qs =>
    unfold specGo
    split
    · exact specGo_pk l qs _ _ (findGo_pk l [] q _ _)
    · simp [Pk, noneSp]
theorem pack_roots {l : List Fi} {path : List Int} {s : List UInt8} : packB l path s = decide (0 < (specB l path s).roots.length) := by
  have h : ((specB l path s).kind = 2 ∨ (specB l path s).kind = 3) ↔ 0 < (specB l path s).roots.length := by
    unfold specB
    split
    · exact specF_pk l path s
    · simp [noneSp]
  rw [Bool.eq_iff_iff, decide_eq_true_iff, ← h]
  simp [packB]

set_option maxRecDepth 100000 in
set_option maxHeartbeats 1000000 in
theorem IsPackage_i (l : List Fi) (a : Option Addr) (n c B : Nat) (path : List Int) (pa : Option Addr) (pn pc Bp : Nat) (s : List UInt8) (w : World) (hF : FilesAt w B a n l) (hnc : n ≤ c) (hI : IntsAt w Bp pa pn path) (hpc : pn ≤ pc) (hsl : s.length ≤ 4194304) (hG : Gm w) :
    Calls Tryd.prog 20 #[.agg #[.slice a n c], .slice pa pn pc, .string ⟨(s).toArray⟩] w fun e w' => e = .returned (.bool (packB l path s)) ∧ X w w' := by
  cases h2 : (specB l path s).kind == 2 <;> cases h3 : (specB l path s).kind == 3
  all_goals
    go_enter Tryd.func20, Tryd.ntmps20
    go_wp2_with (go_at_call 34; refine (FindSpec_i l _ _ _ B path _ _ _ Bp s _ (hF.mono (X.fr (by (repeat (first | exact X.refl _ | assumption | refine X.ext ?_ _ | refine X.alloc ?_ _ | refine X.drew ?_))) _)) hnc (hI.mono (X.fr (by (repeat (first | exact X.refl _ | assumption | refine X.ext ?_ _ | refine X.alloc ?_ _ | refine X.drew ?_))) _)) hpc hsl (hG.mono (by (repeat (first | exact X.refl _ | assumption | refine X.ext ?_ _ | refine X.alloc ?_ _ | refine X.drew ?_))))).mono ?_; rintro _ w5 ⟨v5, rfl, ⟨a5, c5, rfl, hc5, hI5⟩, hx5⟩; replace hx5 := X.trans (a := w) (by (repeat (first | exact X.refl _ | assumption | refine X.ext ?_ _ | refine X.alloc ?_ _ | refine X.drew ?_))) hx5)
    go_ret
    exact ⟨by simp [packB, h2, h3], by (repeat (first | exact X.refl _ | assumption | refine X.ext ?_ _ | refine X.alloc ?_ _ | refine X.drew ?_))⟩
set_option maxRecDepth 100000 in
set_option maxHeartbeats 1000000 in
theorem IsPackage_s (l : List Fi) (a : Option Addr) (n c B : Nat) (path : List Int) (pa : Option Addr) (pn pc Bp : Nat) (s : List UInt8) (w : World) (hF : FilesAt w B a n l) (hI : IntsAt w Bp pa pn path) (hpc : pn ≤ pc) (hsl : s.length ≤ 4194304) :
    Calls Tryd.prog 19 #[.agg #[.slice a n c], .slice pa pn pc, .string ⟨(s).toArray⟩] w fun e w' => e = .returned (.bool (packB l path s)) ∧ X w w' := by
  cases h1 : treeB l <;> cases h2 : pathB path <;> cases h3 : nameB s
  case true.true.true =>
    cases h4 : (specF l path s).kind == 2 <;> cases h5 : (specF l path s).kind == 3
    all_goals
      go_enter Tryd.func19, Tryd.ntmps19
      go_wp2_with (first | (go_at_call 46; refine (validTree_c _ _ _ _ _ _ (hF.mono (X.fr (by (repeat (first | exact X.refl _ | assumption | refine X.ext ?_ _ | refine X.alloc ?_ _ | refine X.drew ?_))) _))).mono ?_; rintro _ _ ⟨rfl, hx⟩; obtain ⟨x, rfl⟩ := hx.of_ext) | (go_at_call 46; refine (validTree_c _ _ _ _ _ _ (hF.mono (X.fr (by (repeat (first | exact X.refl _ | assumption | refine X.ext ?_ _ | refine X.alloc ?_ _ | refine X.drew ?_))) _))).mono ?_; rintro _ _ ⟨rfl, ⟨x, rfl⟩⟩) | (go_at_call 47; refine (validPath_c _ _ _ _ _ _ (hI.mono (X.fr (by (repeat (first | exact X.refl _ | assumption | refine X.ext ?_ _ | refine X.alloc ?_ _ | refine X.drew ?_))) _)) hpc).mono ?_; rintro _ _ ⟨rfl, hx⟩; obtain ⟨x, rfl⟩ := hx.of_ext) | (go_at_call 48; refine (validName_c _ _ hsl).mono ?_; rintro _ _ ⟨rfl, hx⟩; obtain ⟨x, rfl⟩ := hx.of_ext) | (go_at_call 49; refine (find_s l _ _ _ B path _ _ _ Bp s _ (hF.mono (X.fr (by (repeat (first | exact X.refl _ | assumption | refine X.ext ?_ _ | refine X.alloc ?_ _ | refine X.drew ?_))) _)) (hI.mono (X.fr (by (repeat (first | exact X.refl _ | assumption | refine X.ext ?_ _ | refine X.alloc ?_ _ | refine X.drew ?_))) _)) hpc h3).mono ?_; rintro _ w5 ⟨v5, rfl, ⟨a5, c5, rfl, hc5, hI5⟩, hx5⟩; replace hx5 := X.trans (a := w) (by (repeat (first | exact X.refl _ | assumption | refine X.ext ?_ _ | refine X.alloc ?_ _ | refine X.drew ?_))) hx5))
      go_ret
      exact ⟨by simp [packB, specB, h1, h2, h3, h4, h5], by (repeat (first | exact X.refl _ | assumption | refine X.ext ?_ _ | refine X.alloc ?_ _ | refine X.drew ?_))⟩
  all_goals
    go_enter Tryd.func19, Tryd.ntmps19
    go_wp2_with (first | (go_at_call 46; refine (validTree_c _ _ _ _ _ _ (hF.mono (X.fr (by (repeat (first | exact X.refl _ | assumption | refine X.ext ?_ _ | refine X.alloc ?_ _ | refine X.drew ?_))) _))).mono ?_; rintro _ _ ⟨rfl, hx⟩; obtain ⟨x, rfl⟩ := hx.of_ext) | (go_at_call 46; refine (validTree_c _ _ _ _ _ _ (hF.mono (X.fr (by (repeat (first | exact X.refl _ | assumption | refine X.ext ?_ _ | refine X.alloc ?_ _ | refine X.drew ?_))) _))).mono ?_; rintro _ _ ⟨rfl, ⟨x, rfl⟩⟩) | (go_at_call 47; refine (validPath_c _ _ _ _ _ _ (hI.mono (X.fr (by (repeat (first | exact X.refl _ | assumption | refine X.ext ?_ _ | refine X.alloc ?_ _ | refine X.drew ?_))) _)) hpc).mono ?_; rintro _ _ ⟨rfl, hx⟩; obtain ⟨x, rfl⟩ := hx.of_ext) | (go_at_call 48; refine (validName_c _ _ hsl).mono ?_; rintro _ _ ⟨rfl, hx⟩; obtain ⟨x, rfl⟩ := hx.of_ext))
    go_ret
    exact ⟨by simp [packB, specB, noneSp, h1, h2, h3], by (repeat (first | exact X.refl _ | assumption | refine X.ext ?_ _ | refine X.alloc ?_ _ | refine X.drew ?_))⟩
set_option maxRecDepth 100000 in
set_option maxHeartbeats 1000000 in
theorem CanFind_i (l : List Fi) (a : Option Addr) (n c B : Nat) (path : List Int) (pa : Option Addr) (pn pc Bp : Nat) (s : List UInt8) (w : World) (hF : FilesAt w B a n l) (hnc : n ≤ c) (hI : IntsAt w Bp pa pn path) (hpc : pn ≤ pc) (hsl : s.length ≤ 4194304) (hG : Gm w) :
    Calls Tryd.prog 16 #[.agg #[.slice a n c], .slice pa pn pc, .string ⟨(s).toArray⟩] w fun e w' => e = .returned (.bool (canB l path s)) ∧ X w w' := by
  go_enter Tryd.func16, Tryd.ntmps16
  go_wp2_with (go_at_call 34; refine (FindSpec_i l _ _ _ B path _ _ _ Bp s _ (hF.mono (X.fr (by (repeat (first | exact X.refl _ | assumption | refine X.ext ?_ _ | refine X.alloc ?_ _ | refine X.drew ?_))) _)) hnc (hI.mono (X.fr (by (repeat (first | exact X.refl _ | assumption | refine X.ext ?_ _ | refine X.alloc ?_ _ | refine X.drew ?_))) _)) hpc hsl (hG.mono (by (repeat (first | exact X.refl _ | assumption | refine X.ext ?_ _ | refine X.alloc ?_ _ | refine X.drew ?_))))).mono ?_; rintro _ w5 ⟨v5, rfl, ⟨a5, c5, rfl, hc5, hI5⟩, hx5⟩; replace hx5 := X.trans (a := w) (by (repeat (first | exact X.refl _ | assumption | refine X.ext ?_ _ | refine X.alloc ?_ _ | refine X.drew ?_))) hx5)
  go_ret
  exact ⟨by simp [canB], by (repeat (first | exact X.refl _ | assumption | refine X.ext ?_ _ | refine X.alloc ?_ _ | refine X.drew ?_))⟩
set_option maxRecDepth 100000 in
set_option maxHeartbeats 1000000 in
theorem CanFind_s (l : List Fi) (a : Option Addr) (n c B : Nat) (path : List Int) (pa : Option Addr) (pn pc Bp : Nat) (s : List UInt8) (w : World) (hF : FilesAt w B a n l) (hI : IntsAt w Bp pa pn path) (hpc : pn ≤ pc) (hsl : s.length ≤ 4194304) :
    Calls Tryd.prog 13 #[.agg #[.slice a n c], .slice pa pn pc, .string ⟨(s).toArray⟩] w fun e w' => e = .returned (.bool (canB l path s)) ∧ X w w' := by
  cases h1 : treeB l <;> cases h2 : pathB path <;> cases h3 : nameB s
  case true.true.true =>
    go_enter Tryd.func13, Tryd.ntmps13
    go_wp2_with (first | (go_at_call 46; refine (validTree_c _ _ _ _ _ _ (hF.mono (X.fr (by (repeat (first | exact X.refl _ | assumption | refine X.ext ?_ _ | refine X.alloc ?_ _ | refine X.drew ?_))) _))).mono ?_; rintro _ _ ⟨rfl, hx⟩; obtain ⟨x, rfl⟩ := hx.of_ext) | (go_at_call 46; refine (validTree_c _ _ _ _ _ _ (hF.mono (X.fr (by (repeat (first | exact X.refl _ | assumption | refine X.ext ?_ _ | refine X.alloc ?_ _ | refine X.drew ?_))) _))).mono ?_; rintro _ _ ⟨rfl, ⟨x, rfl⟩⟩) | (go_at_call 47; refine (validPath_c _ _ _ _ _ _ (hI.mono (X.fr (by (repeat (first | exact X.refl _ | assumption | refine X.ext ?_ _ | refine X.alloc ?_ _ | refine X.drew ?_))) _)) hpc).mono ?_; rintro _ _ ⟨rfl, hx⟩; obtain ⟨x, rfl⟩ := hx.of_ext) | (go_at_call 48; refine (validName_c _ _ hsl).mono ?_; rintro _ _ ⟨rfl, hx⟩; obtain ⟨x, rfl⟩ := hx.of_ext) | (go_at_call 49; refine (find_s l _ _ _ B path _ _ _ Bp s _ (hF.mono (X.fr (by (repeat (first | exact X.refl _ | assumption | refine X.ext ?_ _ | refine X.alloc ?_ _ | refine X.drew ?_))) _)) (hI.mono (X.fr (by (repeat (first | exact X.refl _ | assumption | refine X.ext ?_ _ | refine X.alloc ?_ _ | refine X.drew ?_))) _)) hpc h3).mono ?_; rintro _ w5 ⟨v5, rfl, ⟨a5, c5, rfl, hc5, hI5⟩, hx5⟩; replace hx5 := X.trans (a := w) (by (repeat (first | exact X.refl _ | assumption | refine X.ext ?_ _ | refine X.alloc ?_ _ | refine X.drew ?_))) hx5))
    go_ret
    exact ⟨by simp [canB, specB, h1, h2, h3], by (repeat (first | exact X.refl _ | assumption | refine X.ext ?_ _ | refine X.alloc ?_ _ | refine X.drew ?_))⟩
  all_goals
    go_enter Tryd.func13, Tryd.ntmps13
    go_wp2_with (first | (go_at_call 46; refine (validTree_c _ _ _ _ _ _ (hF.mono (X.fr (by (repeat (first | exact X.refl _ | assumption | refine X.ext ?_ _ | refine X.alloc ?_ _ | refine X.drew ?_))) _))).mono ?_; rintro _ _ ⟨rfl, hx⟩; obtain ⟨x, rfl⟩ := hx.of_ext) | (go_at_call 46; refine (validTree_c _ _ _ _ _ _ (hF.mono (X.fr (by (repeat (first | exact X.refl _ | assumption | refine X.ext ?_ _ | refine X.alloc ?_ _ | refine X.drew ?_))) _))).mono ?_; rintro _ _ ⟨rfl, ⟨x, rfl⟩⟩) | (go_at_call 47; refine (validPath_c _ _ _ _ _ _ (hI.mono (X.fr (by (repeat (first | exact X.refl _ | assumption | refine X.ext ?_ _ | refine X.alloc ?_ _ | refine X.drew ?_))) _)) hpc).mono ?_; rintro _ _ ⟨rfl, hx⟩; obtain ⟨x, rfl⟩ := hx.of_ext) | (go_at_call 48; refine (validName_c _ _ hsl).mono ?_; rintro _ _ ⟨rfl, hx⟩; obtain ⟨x, rfl⟩ := hx.of_ext))
    go_ret
    exact ⟨by simp [canB, specB, noneSp, h1, h2, h3], by (repeat (first | exact X.refl _ | assumption | refine X.ext ?_ _ | refine X.alloc ?_ _ | refine X.drew ?_))⟩

end Go.Proofs.YtcophpiibifhcaaDoor
