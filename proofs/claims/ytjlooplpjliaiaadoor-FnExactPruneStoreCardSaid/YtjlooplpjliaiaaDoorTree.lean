/- Files and trees: which are valid, where a file is. No condition but lengths. -/
import Derived.Test.YtjlooplpjliaiaaDoorStmt
namespace Go.Proofs.YtjlooplpjliaiaaDoor
open Go.RowKit

def sameP (f g : Fi) : Bool := f.root == g.root && f.pkg == g.pkg && f.init == g.init && f.name == g.name
theorem sameP_iff {f g : Fi} : sameP f g = true ↔ f.root = g.root ∧ f.pkg = g.pkg ∧ f.init = g.init ∧ f.name = g.name := by simp [sameP, and_assoc]
theorem sameP_comm (f g : Fi) : sameP f g = sameP g f := by
  rw [Bool.eq_iff_iff, sameP_iff, sameP_iff]
  constructor <;> (rintro ⟨h1, h2, h3, h4⟩; exact ⟨h1.symm, h2.symm, h3.symm, h4.symm⟩)
theorem sameP_refl (f : Fi) : sameP f f = true := by simp [sameP]
def fidx (l : List Fi) (f : Fi) : Int := firstN (fun k => sameP (nth l k) f) l.length
def fileB (f : Fi) : Bool := rangeB f.root 0 2 && pkgB f.pkg && rangeB f.stamp 0 99 && bodyB f.body && (if f.init then !f.pkg.isEmpty && f.name.isEmpty else partB f.name && nameB (childL f.pkg f.name))
theorem nameB_ne {s : List UInt8} (h : nameB s = true) : s.isEmpty = false := by
  cases s with
  | nil => rw [nameB_nil] at h; cases h
  | cons a s => rfl

set_option maxHeartbeats 400000 in
theorem sameFile_c (f g : Fi) (bf bg : Value) (w : World) : Calls Tryd.prog 91 #[.agg #[.int .i64 (f).root, .string ⟨(f).pkg.toArray⟩, .string ⟨(f).name.toArray⟩, .bool (f).init, .int .i64 (f).stamp, bf], .agg #[.int .i64 (g).root, .string ⟨(g).pkg.toArray⟩, .string ⟨(g).name.toArray⟩, .bool (g).init, .int .i64 (g).stamp, bg]] w fun e w' => e = .returned (.bool (sameP f g)) ∧ X w w' := by
  go_enter Tryd.func91, Tryd.ntmps91
  go_wp2
  all_goals go_ret
  all_goals refine ⟨ret_bool ?_, by (repeat (first | exact X.refl _ | assumption | refine X.ext ?_ _ | refine X.alloc ?_ _ | refine X.drew ?_))⟩
  all_goals simp [sameP, *]
set_option maxHeartbeats 400000 in
theorem samePlace_c (f g : Fi) (bf bg : Value) (w : World) : Calls Tryd.prog 72 #[.agg #[.int .i64 (f).root, .string ⟨(f).pkg.toArray⟩, .string ⟨(f).name.toArray⟩, .bool (f).init, .int .i64 (f).stamp, bf], .agg #[.int .i64 (g).root, .string ⟨(g).pkg.toArray⟩, .string ⟨(g).name.toArray⟩, .bool (g).init, .int .i64 (g).stamp, bg]] w fun e w' => e = .returned (.bool (sameP f g)) ∧ X w w' := by
  go_enter Tryd.func72, Tryd.ntmps72
  go_wp2
  all_goals go_ret
  all_goals refine ⟨ret_bool ?_, by (repeat (first | exact X.refl _ | assumption | refine X.ext ?_ _ | refine X.alloc ?_ _ | refine X.drew ?_))⟩
  all_goals simp [sameP, *]

set_option maxHeartbeats 400000 in
theorem fileAt_c (l : List Fi) (a : Option Addr) (n c B : Nat) (f : Fi) (bf : Value) (w : World) (hF : FilesAt w B a n l) :
    Calls Tryd.prog 69 #[.agg #[.slice a n c], .agg #[.int .i64 (f).root, .string ⟨(f).pkg.toArray⟩, .string ⟨(f).name.toArray⟩, .bool (f).init, .int .i64 (f).stamp, bf]] w fun e w' => e = .returned (.int .i64 (fidx l f)) ∧ X w w' := by
  obtain ⟨hl, hn⟩ := hF.len
  have Hl := Lib.hid hl
  clear hl
  go_enter Tryd.func69, Tryd.ntmps69
  go_wp2
  refine wp_name (fun W hW => ?_)
  obtain ⟨⟨hb0, hc0⟩, ⟨hb1, hc1⟩, hX⟩ := boxes2 hW
  clear hW
  replace hF := hF.mono (hX.fr _)
  go_loopw [5] (fun i wr => ∃ k : Nat, k ≤ n ∧ i = .int .i64 k ∧ anyN (fun k => sameP (nth l k) f) k = false ∧ ∃ x, wr = World.ext W x) (fun i _ => n - (intOf i).toNat)
  case atStart => exact ⟨0, by omega, rfl, rfl, X.refl _⟩
  case round =>
    obtain ⟨k, hk, rfl, hno, x, rfl⟩ := hrel
    by_cases hlt : k < n
    · obtain ⟨b, off, ba, bn, bc, rfl, _, hb, _, _, _, h0, h1, h2, h3, h4, h5⟩ := hF.at_ hlt
      go_wp2
      refine wp_region_grow (by kernel_rfl) (by kernel_rfl) ?_
      repeat (go_big_quiet_step ((go_at_call 91; refine grow_of (sameFile_c _ _ _ _ _))))
      refine wpQuiet_nil ?_
      rintro _ ⟨y, rfl⟩
      go_wp2
      · have hs : sameP (nth l k) f = true := by assumption
        go_ret
        exact ⟨ret_int (by rw [fidx, ← Hl.out, firstN_some hno hs hlt]), hX.ext _⟩
      · have hs : sameP (nth l k) f = false := by assumption
        go_roundw
        case rel => exact ⟨k + 1, by omega, by go_num, anyN_next hno hs, _, rfl⟩
        case measure => simp [intOf]; omega
    · obtain rfl : k = n := by omega
      go_wp2
      go_ret
      exact ⟨ret_int (by rw [fidx, ← Hl.out, firstN_none hno]), hX.ext _⟩
theorem childOf_ne {p s : List UInt8} : (childOf p s).isEmpty = !(pkgB p && partB s && nameB (childL p s)) := by
  unfold childOf
  cases h : (pkgB p && partB s && nameB (childL p s))
  · simp
  · simp only [if_true, Bool.not_true]
    simp only [Bool.and_eq_true] at h
    exact nameB_ne h.2
set_option maxHeartbeats 1000000 in
theorem validFile_c (f : Fi) (ba : Option Addr) (bn bc B : Nat) (w : World) (hf : Okf f) (hS : StmtsAt w B ba bn f.body) : Calls Tryd.prog 49 #[.agg #[.int .i64 (f).root, .string ⟨(f).pkg.toArray⟩, .string ⟨(f).name.toArray⟩, .bool (f).init, .int .i64 (f).stamp, .slice ba bn bc]] w fun e w' => e = .returned (.bool (fileB f)) ∧ X w w' := by
  obtain ⟨root, pkg, name, init, stamp, body⟩ := f
  obtain ⟨h1, h2⟩ : pkg.length ≤ 1048576 ∧ name.length ≤ 1048576 := hf
  have hl := childL_length pkg name h1 h2
  cases hbd : bodyB body
  all_goals go_enter Tryd.func49, Tryd.ntmps49
  all_goals go_wp2_with (first | (go_at_call 36; refine (inRange_c _ _ _ _).mono ?_; rintro _ _ ⟨rfl, rfl⟩) | (go_at_call 79; refine (validPackage_c _ _ (by omega)).mono ?_; rintro _ _ ⟨rfl, hx⟩; first | obtain ⟨x, rfl⟩ := hx.of_ext | obtain ⟨x, rfl⟩ := hx) | (go_at_call 78; refine (validBody_c _ _ _ _ _ _ (hS.mono (X.fr (by (repeat (first | exact X.refl _ | assumption | refine X.ext ?_ _ | refine X.alloc ?_ _ | refine X.drew ?_))) _))).mono ?_; rintro _ _ ⟨rfl, hx⟩; first | obtain ⟨x, rfl⟩ := hx.of_ext | obtain ⟨x, rfl⟩ := hx) | (go_at_call 80; refine (validPart_c _ _ (by omega)).mono ?_; rintro _ _ ⟨rfl, rfl⟩) | (go_at_call 81; refine (child_c _ _ _ h1 h2).mono ?_; rintro _ _ ⟨rfl, rfl⟩) | (go_at_call 77; refine (validName_c _ _ hl).mono ?_; rintro _ _ ⟨rfl, hx⟩; first | obtain ⟨x, rfl⟩ := hx.of_ext | obtain ⟨x, rfl⟩ := hx))
  all_goals go_ret
  all_goals refine ⟨ret_bool ?_, by (repeat (first | exact X.refl _ | assumption | refine X.ext ?_ _ | refine X.alloc ?_ _ | refine X.drew ?_))⟩
  all_goals simp [fileB, *]
set_option maxHeartbeats 1000000 in
theorem fileOk_c (f : Fi) (ba : Option Addr) (bn bc B : Nat) (w : World) (hf : Okf f) (hS : StmtsAt w B ba bn f.body) (hG : Gm w) : Calls Tryd.prog 55 #[.agg #[.int .i64 (f).root, .string ⟨(f).pkg.toArray⟩, .string ⟨(f).name.toArray⟩, .bool (f).init, .int .i64 (f).stamp, .slice ba bn bc]] w fun e w' => e = .returned (.bool (fileB f)) ∧ X w w' := by
  obtain ⟨root, pkg, name, init, stamp, body⟩ := f
  have hch := childOf_ne (p := pkg) (s := name)
  obtain ⟨h1, h2⟩ : pkg.length ≤ 1048576 ∧ name.length ≤ 1048576 := hf
  have Hch := Lib.hid hch
  clear hch
  cases hbd : bodyB body
  all_goals go_enter Tryd.func55, Tryd.ntmps55
  all_goals go_wp2_with (first | (go_at_call 73; refine (within_c _ _ _ _).mono ?_; rintro _ _ ⟨rfl, rfl⟩) | (go_at_call 85; refine (packageOk_c _ _ (by omega) (hG.mono (by (repeat (first | exact X.refl _ | assumption | refine X.ext ?_ _ | refine X.alloc ?_ _ | refine X.drew ?_))))).mono ?_; rintro _ _ ⟨rfl, hx⟩; first | obtain ⟨x, rfl⟩ := hx.of_ext | obtain ⟨x, rfl⟩ := hx) | (go_at_call 84; refine (ValidBody_c _ _ _ _ _ _ (hS.mono (X.fr (by (repeat (first | exact X.refl _ | assumption | refine X.ext ?_ _ | refine X.alloc ?_ _ | refine X.drew ?_))) _)) (hG.mono (by (repeat (first | exact X.refl _ | assumption | refine X.ext ?_ _ | refine X.alloc ?_ _ | refine X.drew ?_))))).mono ?_; rintro _ _ ⟨rfl, hx⟩; first | obtain ⟨x, rfl⟩ := hx.of_ext | obtain ⟨x, rfl⟩ := hx) | (go_at_call 86; refine (ValidPart_c _ _ (by omega)).mono ?_; rintro _ _ ⟨rfl, rfl⟩) | (go_at_call 87; refine (ChildOf_c _ _ _ h1 h2 (hG.mono (by (repeat (first | exact X.refl _ | assumption | refine X.ext ?_ _ | refine X.alloc ?_ _ | refine X.drew ?_))))).mono ?_; rintro _ _ ⟨rfl, hx⟩; first | obtain ⟨x, rfl⟩ := hx.of_ext | obtain ⟨x, rfl⟩ := hx))
  all_goals go_ret
  all_goals refine ⟨ret_bool ?_, by (repeat (first | exact X.refl _ | assumption | refine X.ext ?_ _ | refine X.alloc ?_ _ | refine X.drew ?_))⟩
  all_goals first
    | (simp [fileB, *]; done)
    | (have h3 := Hch.out
       cases h4 : (pkgB pkg && partB name && nameB (childL pkg name))
       all_goals simp [fileB, *] at h3 ⊢)

def treeB (l : List Fi) : Bool := allN (fun k => fileB (nth l k) && !anyN (fun j => sameP (nth l j) (nth l k)) k) l.length && decide (l.length ≤ 12)
theorem fidx_lt {l : List Fi} {k : Nat} (hk : k < l.length) : decide (fidx l (nth l k) < (k : Int)) = anyN (fun j => sameP (nth l j) (nth l k)) k := by
  have hs : sameP (nth l k) (nth l k) = true := sameP_refl _
  cases h : anyN (fun j => sameP (nth l j) (nth l k)) k
  · have : fidx l (nth l k) = k := firstN_some (p := fun j => sameP (nth l j) (nth l k)) h hs hk
    rw [this]; simp
  · have h2 : fidx l (nth l k) < k := by
      rcases firstN_cases (fun j => sameP (nth l j) (nth l k)) l.length with ⟨h1, h2⟩ | ⟨j, hj, h1, h2, h3⟩
      · rw [show fidx l (nth l k) = -1 from h2]; omega
      · rw [show fidx l (nth l k) = j from h3]
        obtain ⟨i, hi, hp⟩ := anyN_iff.1 h
        rcases Nat.lt_or_ge j k with h4 | h4
        · omega
        · have := anyN_false.1 h2 i (by omega)
          rw [hp] at this; cases this
    simp [h2]
set_option maxHeartbeats 1000000 in
theorem validTree_c (l : List Fi) (a : Option Addr) (n c B : Nat) (w : World) (hF : FilesAt w B a n l) : Calls Tryd.prog 35 #[.agg #[.slice a n c]] w fun e w' => e = .returned (.bool (treeB l)) ∧ X w w' := by
  obtain ⟨hl, hn⟩ := hF.len
  have Hl := Lib.hid hl
  clear hl
  go_enter Tryd.func35, Tryd.ntmps35
  go_wp2
  refine wp_name (fun W hW => ?_)
  obtain ⟨⟨hb0, hc0⟩, hX⟩ := boxes1 hW
  clear hW
  replace hF := hF.mono (hX.fr _)
  go_loopw [3] (fun i wr => ∃ k : Nat, k ≤ n ∧ i = .int .i64 k ∧ allN (fun k => fileB (nth l k) && !anyN (fun j => sameP (nth l j) (nth l k)) k) k = true ∧ ∃ x, wr = World.ext W x) (fun i _ => n - (intOf i).toNat)
  case atStart => exact ⟨0, by omega, rfl, rfl, X.refl _⟩
  case round =>
    obtain ⟨k, hk, rfl, hall, x, rfl⟩ := hrel
    by_cases hlt : k < n
    · obtain ⟨b, off, ba, bn, bc, rfl, _, hb, hok, _, hS, h0, h1, h2, h3, h4, h5⟩ := hF.at_ hlt
      have hlt2 := fidx_lt (l := l) (k := k) (by have := Hl.out; omega)
      have Hlt2 := Lib.hid hlt2
      clear hlt2
      cases hv : fileB (nth l k)
      · go_wp2
        refine wp_region_grow (by kernel_rfl) (by kernel_rfl) ?_
        repeat (go_big_quiet_step ((go_at_call 49; refine grow_of (validFile_c _ _ _ _ _ _ hok (hS.mono (X.fr (by (repeat (first | exact X.refl _ | assumption | refine X.ext ?_ _ | refine X.alloc ?_ _ | refine X.drew ?_))) _))))))
        refine wpQuiet_nil ?_
        rintro _ ⟨y, rfl⟩
        go_wp2
        go_ret
        exact ⟨ret_bool (by rw [treeB, ← Hl.out, allN_not (k := k) (by simp [hv]) hlt, Bool.false_and]), hX.ext _⟩
      · go_wp2
        refine wp_region_grow (by kernel_rfl) (by kernel_rfl) ?_
        repeat (go_big_quiet_step ((first | (go_at_call 49; refine grow_of (validFile_c _ _ _ _ _ _ hok (hS.mono (X.fr (by (repeat (first | exact X.refl _ | assumption | refine X.ext ?_ _ | refine X.alloc ?_ _ | refine X.drew ?_))) _)))) | (go_at_call 69; refine grow_of (fileAt_c _ _ _ _ _ _ _ _ (hF.mono (X.fr (by (repeat (first | exact X.refl _ | assumption | refine X.ext ?_ _ | refine X.alloc ?_ _ | refine X.drew ?_))) _)))))))
        refine wpQuiet_nil ?_
        rintro _ ⟨y, rfl⟩
        go_wp2
        · have hs : fidx l (nth l k) < (k : Int) := by assumption
          go_ret
          exact ⟨ret_bool (by rw [treeB, ← Hl.out, allN_not (k := k) (by rw [hv, ← Hlt2.out]; simp [hs]) hlt, Bool.false_and]), hX.ext _⟩
        · have hs : (k : Int) ≤ fidx l (nth l k) := by assumption
          have hv2 : (fileB (nth l k) && !anyN (fun j => sameP (nth l j) (nth l k)) k) = true := by rw [hv, ← Hlt2.out]; simp; omega
          go_roundw
          case rel => exact ⟨k + 1, by omega, by go_num, allN_next hall hv2, _, rfl⟩
          case measure => simp [intOf]; omega
    · obtain rfl : k = n := by omega
      go_wp2
      go_ret
      exact ⟨ret_bool (by rw [treeB, ← Hl.out, hall, Bool.true_and]; exact decide_eq_decide.2 (by omega)), by (repeat (first | exact X.refl _ | assumption | refine X.ext ?_ _ | refine X.alloc ?_ _ | refine X.drew ?_))⟩


set_option maxHeartbeats 1000000 in
theorem ValidTree_c (l : List Fi) (a : Option Addr) (n c B : Nat) (w : World) (hF : FilesAt w B a n l) (hc : n ≤ c) (hG : Gm w) : Calls Tryd.prog 39 #[.agg #[.slice a n c]] w fun e w' => e = .returned (.bool (treeB l)) ∧ X w w' := by
  obtain ⟨hl, hn⟩ := hF.len
  have Hl := Lib.hid hl
  clear hl
  go_enter Tryd.func39, Tryd.ntmps39
  go_wp2
  refine wp_name (fun W hW => ?_)
  obtain ⟨⟨hb0, hc0⟩, hX⟩ := boxes1 hW
  clear hW
  replace hF := hF.mono (hX.fr _)
  replace hG := hG.mono hX
  go_loopw [10] (fun i wr => ∃ k : Nat, k ≤ n ∧ i = .int .i64 k ∧ allN (fun k => fileB (nth l k) && !anyN (fun j => sameP (nth l j) (nth l k)) k) k = true ∧ ∃ x, wr = World.ext W x) (fun i _ => n - (intOf i).toNat)
  case atStart => exact ⟨0, by omega, rfl, rfl, X.refl _⟩
  case round =>
    obtain ⟨k, hk, rfl, hall, x, rfl⟩ := hrel
    by_cases hlt : k < n
    · obtain ⟨b, off, ba, bn, bc, rfl, _, hb, hok, _, hS, h0, h1, h2, h3, h4, h5⟩ := hF.at_ hlt
      cases hv : fileB (nth l k)
      · go_wp2_with (go_at_call 55; refine (fileOk_c _ _ _ _ _ _ hok (hS.mono (X.fr (by (repeat (first | exact X.refl _ | assumption | refine X.ext ?_ _ | refine X.alloc ?_ _ | refine X.drew ?_))) _)) (hG.mono (by (repeat (first | exact X.refl _ | assumption | refine X.ext ?_ _ | refine X.alloc ?_ _ | refine X.drew ?_))))).mono ?_; rintro _ _ ⟨rfl, y, rfl⟩)
        go_ret
        exact ⟨ret_bool (by rw [treeB, ← Hl.out, allN_not (k := k) (by simp [hv]) hlt, Bool.false_and]), by (repeat (first | exact X.refl _ | assumption | refine X.ext ?_ _ | refine X.alloc ?_ _ | refine X.drew ?_))⟩
      · go_wp2_with (go_at_call 55; refine (fileOk_c _ _ _ _ _ _ hok (hS.mono (X.fr (by (repeat (first | exact X.refl _ | assumption | refine X.ext ?_ _ | refine X.alloc ?_ _ | refine X.drew ?_))) _)) (hG.mono (by (repeat (first | exact X.refl _ | assumption | refine X.ext ?_ _ | refine X.alloc ?_ _ | refine X.drew ?_))))).mono ?_; rintro _ W2 ⟨rfl, hx2⟩; obtain ⟨⟨hb1, hc1⟩, hX2⟩ := boxes1_X hx2; clear hx2; have hX1 : X W W2 := ((X.refl _).ext _).trans hX2; have hX02 : X w W2 := hX.trans hX1; obtain ⟨hb2, hc2⟩ := Box.mono ⟨hb0, hc0⟩ hX1)
        have hF2 := hF.mono (hX1.fr _)
        go_loopw [23] (fun i wr => ∃ j : Nat, j ≤ k ∧ i = .int .i64 j ∧ anyN (fun j => sameP (nth l j) (nth l k)) j = false ∧ ∃ x, wr = World.ext W2 x) (fun i _ => k - (intOf i).toNat)
        case atStart => exact ⟨0, by omega, rfl, rfl, X.refl _⟩
        case round =>
          obtain ⟨j, hj, rfl, hno, z, rfl⟩ := hrel
          by_cases hlt2 : j < k
          · obtain ⟨b', off', ba', bn', bc', ha', _, hb', _, _, _, g0, g1, g2, g3, g4, g5⟩ := hF2.at_ (k := j) (by omega)
            obtain ⟨rfl, rfl⟩ : b = b' ∧ off = off' := by simpa using ha'
            clear ha'
            go_wp2_with (go_at_call 72; refine (samePlace_c _ _ _ _ _).mono ?_; rintro _ _ ⟨rfl, y, rfl⟩)
            · have hs : sameP (nth l k) (nth l j) = true := by assumption
              rw [sameP_comm] at hs
              go_ret
              exact ⟨ret_bool (by rw [treeB, ← Hl.out, allN_not (k := k) (by rw [anyN_yes (k := j) hs hlt2, Bool.not_true, Bool.and_false]) hlt, Bool.false_and]), by (repeat (first | exact X.refl _ | assumption | refine X.ext ?_ _ | refine X.alloc ?_ _ | refine X.drew ?_))⟩
            · have hs : sameP (nth l k) (nth l j) = false := by assumption
              rw [sameP_comm] at hs
              go_roundw
              case rel => exact ⟨j + 1, by omega, by go_num, anyN_next hno hs, (by (repeat (first | exact X.refl _ | assumption | refine X.ext ?_ _ | refine X.alloc ?_ _ | refine X.drew ?_)))⟩
              case measure => simp [intOf]; omega
          · obtain rfl : j = k := by omega
            go_wp2
            go_roundw
            case rel => exact ⟨j + 1, by omega, by go_num, allN_next hall (by rw [hv, hno]; rfl), (hX1.ext _)⟩
            case measure => simp [intOf]; omega
    · obtain rfl : k = n := by omega
      go_wp2
      go_ret
      exact ⟨ret_bool (by rw [treeB, ← Hl.out, hall, Bool.true_and]; exact decide_eq_decide.2 (by omega)), by (repeat (first | exact X.refl _ | assumption | refine X.ext ?_ _ | refine X.alloc ?_ _ | refine X.drew ?_))⟩


/-! ### Directories -/
def underB (s p : List UInt8) : Bool := p.isEmpty || s == p || (decide (p.length < s.length) && s.take (p.length + 1) == p ++ [46])
def isUnder (s p : List UInt8) : Bool := nameB s && pkgB p && underB s p
def dirS (l : List Fi) (r : Int) (p : List UInt8) : Bool := anyN (fun k => (nth l k).root == r && !(nth l k).pkg.isEmpty && underB (nth l k).pkg p) l.length || p.isEmpty
def dirI (l : List Fi) (r : Int) (p : List UInt8) : Bool := anyN (fun k => (nth l k).root == r && isUnder (nth l k).pkg p) l.length || p.isEmpty
theorem under_prefix (s p : List UInt8) : underB s p = (p.isEmpty || s == p || Lib.hasPrefix s (p ++ [46])) := by
  unfold underB
  congr 1
  rw [Bool.eq_iff_iff]
  simp only [Lib.hasPrefix, Bool.and_eq_true, decide_eq_true_eq, beq_iff_eq, List.isPrefixOf_iff_prefix]
  constructor
  · rintro ⟨h1, h2⟩
    rw [← h2]; exact List.take_prefix _ _
  · rintro ⟨t, rfl⟩
    refine ⟨by simp, ?_⟩
    have h : (p ++ [46]).length = p.length + 1 := by simp
    rw [← h, List.take_left]
theorem underB_nil (s : List UInt8) : underB s [] = true := rfl
theorem underB_self (s : List UInt8) : underB s s = true := by simp [underB]
theorem pkgB_ne {p : List UInt8} (h : pkgB p = true) : nameB p = !p.isEmpty := by
  unfold pkgB at h
  cases he : p.isEmpty
  · rw [he] at h; simpa using h
  · rw [List.isEmpty_iff] at he; subst he; rfl
theorem treeB_file {l : List Fi} (h : treeB l = true) {k : Nat} (hk : k < l.length) : fileB (nth l k) = true := by
  unfold treeB at h
  simp only [Bool.and_eq_true] at h
  have := allN_iff.1 h.1 k hk
  simp only [Bool.and_eq_true] at this
  exact this.1
theorem treeB_len {l : List Fi} (h : treeB l = true) : l.length ≤ 12 := by
  unfold treeB at h
  simp only [Bool.and_eq_true, decide_eq_true_eq] at h
  exact h.2
theorem fileB_pkg {f : Fi} (h : fileB f = true) : pkgB f.pkg = true := by
  unfold fileB at h
  simp only [Bool.and_eq_true] at h
  exact h.1.1.1.2
theorem dirI_eq {l : List Fi} {r : Int} {p : List UInt8} (h : treeB l = true) (hp : pkgB p = true) : dirI l r p = dirS l r p := by
  unfold dirI dirS
  congr 1
  refine anyN_congr fun k hk => ?_
  rw [isUnder, hp, Bool.and_true, pkgB_ne (fileB_pkg (treeB_file h hk)), Bool.and_assoc]

end Go.Proofs.YtjlooplpjliaiaaDoor
