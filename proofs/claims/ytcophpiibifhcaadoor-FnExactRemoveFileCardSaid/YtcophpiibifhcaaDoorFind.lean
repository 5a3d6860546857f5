/- Finders over roots: FindIn. No condition but lengths. -/
import Derived.Test.YtcophpiibifhcaaDoorTree
namespace Go.Proofs.YtcophpiibifhcaaDoor
open Go.RowKit

def pathB (l : List Int) : Bool := allN (fun k => rangeB (nth l k) 0 2 && !anyN (fun j => nth l j == nth l k) k) l.length
structure Sp where
  kind : Int
  file : Int
  roots : List Int
deriving DecidableEq, Inhabited
def noneSp : Sp := ⟨0, -1, []⟩
def initF (r : Int) (m : List UInt8) : Fi := ⟨r, m, [], true, 0, []⟩
def fileF (r : Int) (p s : List UInt8) : Fi := ⟨r, p, s, false, 0, []⟩
def findGo (l : List Fi) (p s : List UInt8) : List Int → List Int → Sp
  | [], acc => if acc.isEmpty then noneSp else ⟨3, -1, acc⟩
  | r :: rs, acc =>
    if 0 ≤ fidx l (initF r (childL p s)) then ⟨2, fidx l (initF r (childL p s)), [r]⟩
    else if 0 ≤ fidx l (fileF r p s) then ⟨1, fidx l (fileF r p s), []⟩
    else findGo l p s rs (if dirS l r (childL p s) then acc ++ [r] else acc)
def findF (l : List Fi) (path : List Int) (p s : List UInt8) : Sp := findGo l p s path []
def findInF (l : List Fi) (path : List Int) (p s : List UInt8) : Sp :=
  if treeB l && pathB path && pkgB p && partB s && nameB (childL p s) then findF l path p s else noneSp

theorem Contains_c (l : List Int) (a : Option Addr) (n m c B : Nat) (x : Int) (w : World) (hI : IntsAt w B a n l) (hm : m ≤ n) :
    Calls Tryd.prog 59 #[.slice a m c, .int .i64 x] w fun e w' => e = .returned (.bool (anyN (fun k => nth l k == x) m)) ∧ w = w' := by
  rcases Nat.eq_zero_or_pos m with rfl | h0
  · exact (Tryd.slices_Contains_int_empty a c x w).mono fun e w' ⟨he, hw⟩ => ⟨he, hw.symm⟩
  · obtain ⟨b, off, rfl, _, _, _⟩ := hI.at_ (k := 0) (by omega)
    have hl := hI.1
    have hn := hI.2.1
    refine (Tryd.slices_Contains_int b off m c (l.take m) x w (by rw [List.length_take]; omega) (by omega) (fun j hj => ?_)).mono ?_
    · rw [List.length_take] at hj
      obtain ⟨b', off', hb, _, _, hc⟩ := hI.at_ (k := j) (by omega)
      simp only [Option.some.injEq, Addr.mk.injEq, and_true] at hb
      obtain ⟨rfl, rfl⟩ := hb
      rw [hc]
      have : nth l j = (l.take m).getD j 0 := by
        rw [show (l.take m).getD j 0 = nth (l.take m) j from rfl, nth_take (by omega)]
      rw [this]
    · rintro e w' ⟨rfl, rfl⟩
      refine ⟨?_, rfl⟩
      congr 2
      rw [List.take_take, Nat.min_self, Bool.eq_iff_iff, anyN_iff, List.contains_iff_mem]
      constructor
      · intro h
        obtain ⟨k, hk, he⟩ := List.mem_iff_getElem.1 h
        rw [List.length_take] at hk
        refine ⟨k, by omega, ?_⟩
        rw [List.getElem_take] at he
        rw [nth_eq (by omega), he]; simp
      · rintro ⟨k, hk, he⟩
        rw [List.mem_iff_getElem]
        refine ⟨k, by rw [List.length_take]; omega, ?_⟩
        rw [List.getElem_take, ← nth_eq (by omega)]; simpa using he

set_option maxHeartbeats 400000 in
theorem intAt_c (l : List Int) (a : Option Addr) (n m c B : Nat) (x : Int) (w : World) (hI : IntsAt w B a n l) (hm : m ≤ n) :
    Calls Tryd.prog 54 #[.slice a m c, .int .i64 x] w fun e w' => e = .returned (.int .i64 (firstN (fun k => nth l k == x) m)) ∧ w = w' := by
  have hn := hI.2.1
  go_enter Tryd.func54, Tryd.ntmps54
  go_wp2
  go_loop [5] (fun i => ∃ k : Nat, k ≤ m ∧ i = .int .i64 k ∧ anyN (fun k => nth l k == x) k = false) (fun i => m - (intOf i).toNat)
  case atStart => exact ⟨0, by omega, rfl, rfl⟩
  case round =>
    obtain ⟨k, hk, rfl, hno⟩ := hrel
    by_cases hlt : k < m
    · obtain ⟨b, off, rfl, _, hb, hc⟩ := hI.at_ (k := k) (by omega)
      cases hs : nth l k == x
      all_goals go_wp2
      · go_round
        case rel => exact ⟨k + 1, by omega, by go_num, anyN_next hno hs⟩
        case measure => simp [intOf]; omega
      · go_ret
        exact ⟨ret_int (firstN_some hno hs hlt).symm, rfl⟩
    · obtain rfl : k = m := by omega
      go_wp2
      go_ret
      exact ⟨ret_int (firstN_none hno).symm, rfl⟩
set_option maxHeartbeats 400000 in
theorem validPath_c (l : List Int) (a : Option Addr) (n c B : Nat) (w : World) (hI : IntsAt w B a n l) (hc : n ≤ c) :
    Calls Tryd.prog 47 #[.slice a n c] w fun e w' => e = .returned (.bool (pathB l)) ∧ X w w' := by
  have hn := hI.2.1
  go_enter Tryd.func47, Tryd.ntmps47
  go_wp2
  go_loopw [3] (fun i wr => ∃ k : Nat, k ≤ n ∧ i = .int .i64 k ∧ allN (fun k => rangeB (nth l k) 0 2 && !anyN (fun j => nth l j == nth l k) k) k = true ∧ ∃ x, wr = World.ext w x) (fun i _ => n - (intOf i).toNat)
  case atStart => exact ⟨0, by omega, rfl, rfl, X.refl _⟩
  case round =>
    obtain ⟨k, hk, rfl, hall, x, rfl⟩ := hrel
    by_cases hlt : k < n
    · obtain ⟨b, off, rfl, _, hb, hcell⟩ := hI.at_ hlt
      cases hr : rangeB (nth l k) 0 2
      · go_wp2
        refine wp_region_grow (by kernel_rfl) (by kernel_rfl) ?_
        repeat (go_big_quiet_step ((go_at_call 52; refine grow_same (inRange_c _ _ _ _))))
        refine wpQuiet_nil ?_
        rintro _ ⟨y, rfl⟩
        go_wp2
        go_ret
        exact ⟨ret_bool (by rw [pathB, ← hI.1, allN_not (k := k) (by rw [hr]; rfl) hlt]), by (repeat (first | exact X.refl _ | assumption | refine X.ext ?_ _ | refine X.alloc ?_ _ | refine X.drew ?_))⟩
      · have hge := firstN_nonneg (p := fun j => nth l j == nth l k) (n := k)
        have Hge := Lib.hid hge
        clear hge
        go_wp2
        refine wp_region_grow (by kernel_rfl) (by kernel_rfl) ?_
        repeat (go_big_quiet_step ((first | (go_at_call 52; refine grow_same (inRange_c _ _ _ _)) | (go_at_call 54; refine grow_same (intAt_c l _ n _ _ B _ _ (hI.mono (X.fr (by (repeat (first | exact X.refl _ | assumption | refine X.ext ?_ _ | refine X.alloc ?_ _ | refine X.drew ?_))) _)) hk)))))
        refine wpQuiet_nil ?_
        rintro _ ⟨y, rfl⟩
        go_wp2
        · have hs : 0 ≤ firstN (fun j => nth l j == nth l k) k := by assumption
          rw [Hge.out] at hs
          go_ret
          exact ⟨ret_bool (by rw [pathB, ← hI.1, allN_not (k := k) (by rw [hr, hs]; rfl) hlt]), by (repeat (first | exact X.refl _ | assumption | refine X.ext ?_ _ | refine X.alloc ?_ _ | refine X.drew ?_))⟩
        · have hs : firstN (fun j => nth l j == nth l k) k < 0 := by assumption
          have hs2 : anyN (fun j => nth l j == nth l k) k = false := by
            rw [Bool.eq_false_iff]; intro h; rw [← Hge.out] at h; omega
          go_roundw
          case rel => exact ⟨k + 1, by omega, by go_num, allN_next hall (by rw [hr, hs2]; rfl), (by (repeat (first | exact X.refl _ | assumption | refine X.ext ?_ _ | refine X.alloc ?_ _ | refine X.drew ?_)))⟩
          case measure => simp [intOf]; omega
    · obtain rfl : k = n := by omega
      go_wp2
      go_ret
      exact ⟨ret_bool (by rw [pathB, ← hI.1, hall]), by (repeat (first | exact X.refl _ | assumption | refine X.ext ?_ _ | refine X.alloc ?_ _ | refine X.drew ?_))⟩
set_option maxHeartbeats 400000 in
theorem ValidPath_c (l : List Int) (a : Option Addr) (n c B : Nat) (w : World) (hI : IntsAt w B a n l) (hc : n ≤ c) :
    Calls Tryd.prog 56 #[.slice a n c] w fun e w' => e = .returned (.bool (pathB l)) ∧ w = w' := by
  have hn := hI.2.1
  go_enter Tryd.func56, Tryd.ntmps56
  go_wp2
  go_loop [7] (fun i => ∃ k : Nat, k ≤ n ∧ i = .int .i64 k ∧ allN (fun k => rangeB (nth l k) 0 2 && !anyN (fun j => nth l j == nth l k) k) k = true) (fun i => n - (intOf i).toNat)
  case atStart => exact ⟨0, by omega, rfl, rfl⟩
  case round =>
    obtain ⟨k, hk, rfl, hall⟩ := hrel
    by_cases hlt : k < n
    · obtain ⟨b, off, rfl, _, hb, hcell⟩ := hI.at_ hlt
      cases hr : rangeB (nth l k) 0 2 <;> cases hs : anyN (fun j => nth l j == nth l k) k
      all_goals go_wp2_with (first | (go_at_call 57; refine (within_c _ _ _ _).mono ?_; rintro _ _ ⟨rfl, rfl⟩) | (go_at_call 59; refine (Contains_c l _ n _ _ B _ _ hI hk).mono ?_; rintro _ _ ⟨rfl, rfl⟩))
      all_goals first
        | (go_round
           case rel => exact ⟨k + 1, by omega, by go_num, allN_next hall (by rw [hr, hs]; rfl)⟩
           case measure => simp [intOf]; omega)
        | (go_ret
           exact ⟨ret_bool (by rw [pathB, ← hI.1, allN_not (k := k) (by rw [hr, hs]; rfl) hlt]), rfl⟩)
    · obtain rfl : k = n := by omega
      go_wp2
      go_ret
      exact ⟨ret_bool (by rw [pathB, ← hI.1, hall]), rfl⟩
set_option maxHeartbeats 400000 in
theorem noSpec_c (w : World) : Calls Tryd.prog 68 #[] w fun e w' => ∃ a c, e = .returned (.agg #[.int .i64 0, .int .i64 (-1), .slice a 0 c]) ∧ w'.ownsRow w.heap.size 3 1 (.slice a 0 c) 0 [] ∧ X w w' := by
  go_enter Tryd.func68, Tryd.ntmps68
  go_wp2
  refine bodyPost_ret (v := .agg #[.int .i64 0, .int .i64 (-1), .slice (some ⟨w.heap.size + 1, 0, none⟩) 0 0]) (by simp [results, Tryd.results68, go_sem]) rfl ⟨_, _, rfl, ?_, by (repeat (first | exact X.refl _ | assumption | refine X.ext ?_ _ | refine X.alloc ?_ _ | refine X.drew ?_))⟩
  have h := World.ownsRow_lit (base := w.heap.size) (e := 3) (size := 1) (w.alloc (.cells #[.int .i64 0, .int .i64 (-1), .slice (some ⟨w.heap.size + 1, 0, none⟩) 0 0] 44)) #[] 0 (by simp) (by unfold maxLen; omega) rfl
  simpa using h
set_option maxHeartbeats 400000 in
theorem nothing_c (w : World) : Calls Tryd.prog 72 #[] w fun e w' => ∃ a c, e = .returned (.agg #[.int .i64 0, .int .i64 (-1), .slice a 0 c]) ∧ w'.ownsRow w.heap.size 3 1 (.slice a 0 c) 0 [] ∧ X w w' := by
  go_enter Tryd.func72, Tryd.ntmps72
  go_wp2
  refine bodyPost_ret (v := .agg #[.int .i64 0, .int .i64 (-1), .slice (some ⟨w.heap.size + 1, 0, none⟩) 0 0]) (by simp [results, Tryd.results72, go_sem]) rfl ⟨_, _, rfl, ?_, by (repeat (first | exact X.refl _ | assumption | refine X.ext ?_ _ | refine X.alloc ?_ _ | refine X.drew ?_))⟩
  have h := World.ownsRow_lit (base := w.heap.size) (e := 3) (size := 1) (w.alloc (.cells #[.int .i64 0, .int .i64 (-1), .slice (some ⟨w.heap.size + 1, 0, none⟩) 0 0] 44)) #[] 0 (by simp) (by unfold maxLen; omega) rfl
  simpa using h

theorem init_dir {l : List Fi} {r : Int} {m : List UInt8} (h : 0 ≤ fidx l (initF r m)) : dirS l r m = true := by
  unfold dirS
  cases hm : m.isEmpty
  · rw [Bool.or_false]
    have h1 : anyN (fun k => sameP (nth l k) (initF r m)) l.length = true := by rw [← firstN_nonneg]; exact h
    obtain ⟨k, hk, hs⟩ := anyN_iff.1 h1
    obtain ⟨e1, e2, _, _⟩ := sameP_iff.1 hs
    refine anyN_yes (k := k) ?_ hk
    rw [e1, e2]
    simp [initF, hm, underB_self]
  · rw [Bool.or_true]
theorem int_T : AppT Tryd.prog 25 3 1 8 := AppT.of (z := .int .i64 0) (by kernel_rfl) (by kernel_rfl) rfl (by omega)
set_option maxHeartbeats 1000000 in
theorem findIn_c (l : List Fi) (a : Option Addr) (n c B : Nat) (path : List Int) (pa : Option Addr) (pn pc Bp : Nat) (p s : List UInt8) (w : World) (hF : FilesAt w B a n l) (hI : IntsAt w Bp pa pn path) (hp : p.length ≤ 1048576) (hs : s.length ≤ 1048576) :
    Calls Tryd.prog 69 #[.agg #[.slice a n c], .slice pa pn pc, .string ⟨(p).toArray⟩, .string ⟨(s).toArray⟩] w fun e w' => ∃ ra rc, e = .returned (.agg #[.int .i64 (findF l path p s).kind, .int .i64 (findF l path p s).file, .slice ra (findF l path p s).roots.length rc]) ∧
      w'.ownsRow w.heap.size 3 1 (.slice ra (findF l path p s).roots.length rc) (findF l path p s).roots.length (ints (findF l path p s).roots) ∧ X w w' := by
  have hpn := hI.2.1
  have hch := childL_length p s hp hs
  go_enter Tryd.func69, Tryd.ntmps69
  go_wp2
  obtain ⟨W1, hW1⟩ : ∃ W1, W1 = w.alloc (.cells #[.slice a n c] 30) := ⟨_, rfl⟩
  obtain ⟨⟨hb0, hc0⟩, hX⟩ := boxes1 hW1
  refine wp_name (fun W hW => ?_)
  rw [← hW1] at hW
  obtain ⟨x0, rfl, hown0⟩ := own_new (size := 1) (n := 0) hW rfl (by omega)
  clear hW
  have hsz : w.heap.size + 1 = W1.heap.size := by rw [hW1]; simp
  rw [hsz]
  clear hsz hW1
  have hF1 := hF.mono (hX.fr _)
  have hI1 := hI.mono (hX.fr _)
  go_loopw [9, 10] (fun v i wr => ∃ (k : Nat) (acc : List Int) (x : Xt) (ra : Option Addr) (rc : Nat), k ≤ pn ∧ i = .int .i64 k ∧ v = .slice ra acc.length rc ∧ acc.length ≤ k ∧
      findGo l p s (path.drop k) acc = findF l path p s ∧ wr = World.ext (W1.alloc (.cells #[.int .i64 0, .int .i64 0, .slice none 0 0] 44)) x ∧
      (World.ext (W1.alloc (.cells #[.int .i64 0, .int .i64 0, .slice none 0 0] 44)) x).ownsRow (W1.alloc (.cells #[.int .i64 0, .int .i64 0, .slice none 0 0] 44)).heap.size 3 1 (.slice ra acc.length rc) acc.length (ints acc)) (fun _ i _ => pn - (intOf i).toNat)
  case atStart => exact ⟨0, [], x0, _, _, by omega, rfl, rfl, by simp, rfl, rfl, by simpa using hown0⟩
  case round =>
    obtain ⟨k, acc, x, ra, rc, hk, rfl, rfl, hacc, hgo, rfl, hown⟩ := hrel
    by_cases hlt : k < pn
    · obtain ⟨b, off, rfl, _, hb, hcell⟩ := hI1.at_ hlt
      rw [drop_nth (l := path) (k := k) (by have := hI.1; omega)] at hgo
      have Hgo := Lib.hid hgo
      clear hgo
      have hb' : b < W1.heap.size + 1 := by omega
      have hb0' : w.heap.size < W1.heap.size + 1 := by omega
      go_wp2
      refine wp_region_grow0 (by kernel_rfl) (by kernel_rfl) ?_
      repeat (go_big_quiet_step ((first | (go_at_call 67; refine grow_same (child_c _ _ _ hp hs)) | (go_at_call 100; refine grow_of (hasDir_c l _ _ _ B _ _ _ (hF1.mono (X.fr (by (repeat (first | exact X.refl _ | assumption | refine X.ext ?_ _ | refine X.alloc ?_ _ | refine X.drew ?_))) _)) hch)))))
      refine wpQuiet_nil ?_
      rintro _ ⟨y, rfl⟩
      replace hown := own_fr hown (((X.refl _).ext y).fr _)
      obtain ⟨z, hz⟩ := ((X.refl _).ext y).of_ext
      rw [hz] at hown ⊢
      clear hz y
      go_wp2
      refine wp_region_grow0 (by kernel_rfl) (by kernel_rfl) ?_
      repeat (go_big_quiet_step ((first | (go_at_call 67; refine grow_same (child_c _ _ _ hp hs)) | (go_at_call 86; refine grow_of (fileAt_c l _ _ _ B (initF (nth path k) (childL p s)) _ _ (hF1.mono (X.fr (by (repeat (first | exact X.refl _ | assumption | refine X.ext ?_ _ | refine X.alloc ?_ _ | refine X.drew ?_))) _)))))))
      refine wpQuiet_nil ?_
      rintro _ ⟨y, rfl⟩
      replace hown := own_fr hown (((X.refl _).ext y).fr _)
      obtain ⟨z, hz⟩ := ((X.refl _).ext y).of_ext
      rw [hz] at hown ⊢
      clear hz y
      go_wp2
      · have hi : 0 ≤ fidx l (initF (nth path k) (childL p s)) := by assumption
        have he : findF l path p s = ⟨2, fidx l (initF (nth path k) (childL p s)), [nth path k]⟩ := by rw [← Hgo.out, findGo, if_pos hi]
        refine bodyPost_ret (v := _) (by simp [results, Tryd.results69, go_sem]; rfl) rfl ?_
        rw [he]
        refine ⟨_, _, rfl, ?_, by (repeat (first | exact X.refl _ | assumption | refine X.ext ?_ _ | refine X.alloc ?_ _ | refine X.drew ?_))⟩
        exact own_lit (by simp [World.size_ext]) (by have := hX.size; simp [World.size_ext]; omega) rfl (by simp)
      all_goals
        have hi : ¬ 0 ≤ fidx l (initF (nth path k) (childL p s)) := by
          first
            | (have h : fidx l (initF (nth path k) (childL p s)) < 0 := by assumption
               omega)
            | (intro h; have := init_dir h; contradiction)
        have Hi := Lib.hid hi
        clear hi
        refine wp_region_grow0 (by kernel_rfl) (by kernel_rfl) ?_
        repeat (go_big_quiet_step ((go_at_call 86; refine grow_of (fileAt_c l _ _ _ B (fileF (nth path k) p s) _ _ (hF1.mono (X.fr (by (repeat (first | exact X.refl _ | assumption | refine X.ext ?_ _ | refine X.alloc ?_ _ | refine X.drew ?_))) _))))))
        refine wpQuiet_nil ?_
        rintro _ ⟨y, rfl⟩
        replace hown := own_fr hown (((X.refl _).ext y).fr _)
        obtain ⟨z, hz⟩ := ((X.refl _).ext y).of_ext
        rw [hz] at hown ⊢
        clear hz y
        go_wp2_with (at_builtin; refine wpList_append_lit int_T rfl _ _ rfl hown rfl rfl rfl ?_ ?_ ?_ ?_)
      · have hj : 0 ≤ fidx l (fileF (nth path k) p s) := by assumption
        have hi' : ¬ 0 ≤ fidx l (initF (nth path k) (childL p s)) := by have := Hi.out; omega
        have he : findF l path p s = ⟨1, fidx l (fileF (nth path k) p s), []⟩ := by rw [← Hgo.out, findGo, if_neg hi', if_pos hj]
        refine bodyPost_ret (v := _) (by simp [results, Tryd.results69, go_sem]; rfl) rfl ?_
        rw [he]
        refine ⟨_, _, rfl, ?_, by (repeat (first | exact X.refl _ | assumption | refine X.ext ?_ _ | refine X.alloc ?_ _ | refine X.drew ?_))⟩
        exact own_lit (by simp [World.size_ext]) (by have := hX.size; simp [World.size_ext]; omega) rfl (by simp)
      · simp [Value.oneCell']
      · omega
      · omega
      · intro a' c' z' hown'
        have hj : fidx l (fileF (nth path k) p s) < 0 := by assumption
        have hd : dirS l (nth path k) (childL p s) = true := by assumption
        have hi' : ¬ 0 ≤ fidx l (initF (nth path k) (childL p s)) := by have := Hi.out; omega
        have he : findGo l p s (path.drop (k + 1)) (acc ++ [nth path k]) = findF l path p s := by rw [← Hgo.out, findGo, if_neg hi', if_neg (Int.not_le.2 hj), if_pos hd]
        have He := Lib.hid he
        clear he hi'
        go_wp2
        go_roundw
        case rel => exact ⟨k + 1, acc ++ [nth path k], z', a', c', by omega, by go_num, by simp, by simp; omega, He.out, rfl, by simpa [flat_snoc] using hown'⟩
        case measure => simp [intOf]; omega
      · have hj : 0 ≤ fidx l (fileF (nth path k) p s) := by assumption
        have hi' : ¬ 0 ≤ fidx l (initF (nth path k) (childL p s)) := by have := Hi.out; omega
        have he : findF l path p s = ⟨1, fidx l (fileF (nth path k) p s), []⟩ := by rw [← Hgo.out, findGo, if_neg hi', if_pos hj]
        refine bodyPost_ret (v := _) (by simp [results, Tryd.results69, go_sem]; rfl) rfl ?_
        rw [he]
        refine ⟨_, _, rfl, ?_, by (repeat (first | exact X.refl _ | assumption | refine X.ext ?_ _ | refine X.alloc ?_ _ | refine X.drew ?_))⟩
        exact own_lit (by simp [World.size_ext]) (by have := hX.size; simp [World.size_ext]; omega) rfl (by simp)
      · have hj : fidx l (fileF (nth path k) p s) < 0 := by assumption
        have hd : ¬ dirS l (nth path k) (childL p s) = true := by assumption
        have hi' : ¬ 0 ≤ fidx l (initF (nth path k) (childL p s)) := by have := Hi.out; omega
        have he : findGo l p s (path.drop (k + 1)) acc = findF l path p s := by rw [← Hgo.out, findGo, if_neg hi', if_neg (Int.not_le.2 hj), if_neg hd]
        go_roundw
        case rel => exact ⟨k + 1, acc, z, ra, rc, by omega, by go_num, rfl, by omega, he, rfl, hown⟩
        case measure => simp [intOf]; omega
    · obtain rfl : k = pn := by omega
      go_wp2_with (go_at_call 68; refine (noSpec_c _).mono ?_; rintro _ _ ⟨ra', rc', rfl, hown2, hx⟩; obtain ⟨z, rfl⟩ := hx.of_ext)
      · have h0 : 0 < acc.length := by assumption
        have he : findF l path p s = ⟨3, -1, acc⟩ := by
          rw [← hgo, List.drop_eq_nil_of_le (by have := hI.1; omega), findGo, if_neg (by cases acc with | nil => simp at h0 | cons a b => simp)]
        refine bodyPost_ret (v := _) (by simp [results, Tryd.results69, go_sem]; rfl) rfl ?_
        rw [he]
        exact ⟨_, _, rfl, own_swap hown hX.size, by (repeat (first | exact X.refl _ | assumption | refine X.ext ?_ _ | refine X.alloc ?_ _ | refine X.drew ?_))⟩
      · have h0 : ¬ 0 < acc.length := by assumption
        have he : findF l path p s = noneSp := by
          rw [← hgo, List.drop_eq_nil_of_le (by have := hI.1; omega), findGo, if_pos (by cases acc with | nil => rfl | cons a b => simp at h0)]
        refine bodyPost_ret (v := _) (by simp [results, Tryd.results69, go_sem]; rfl) rfl ?_
        rw [he]
        refine ⟨_, _, rfl, own_swap (own_less hown2 (by rw [World.size_ext]; omega)) hX.size, by (repeat (first | exact X.refl _ | assumption | refine X.ext ?_ _ | refine X.alloc ?_ _ | refine X.drew ?_))⟩

theorem neq_nilFunc (w : World) : (binOp .neq 106 .nilFunc .nilFunc).run Tryd.prog w = .ok (.bool false) w := by kernel_rfl
def findI (l : List Fi) (path : List Int) (p s : List UInt8) : Sp := if pkgB p && partB s && nameB (childL p s) then findF l path p s else noneSp
set_option maxRecDepth 100000 in
set_option maxHeartbeats 1000000 in
theorem find_c (l : List Fi) (a : Option Addr) (n c B : Nat) (path : List Int) (pa : Option Addr) (pn pc Bp : Nat) (p s : List UInt8) (w : World) (hF : FilesAt w B a n l) (hI : IntsAt w Bp pa pn path) (hp : p.length ≤ 1048576) (hs : s.length ≤ 1048576) (hG : Gm w) (ht : treeB l = true) :
    Calls Tryd.prog 73 #[.agg #[.slice a n c], .slice pa pn pc, .string ⟨(p).toArray⟩, .string ⟨(s).toArray⟩, .nilFunc] w fun e w' => ∃ ra rc, e = .returned (.agg #[.int .i64 (findI l path p s).kind, .int .i64 (findI l path p s).file, .slice ra (findI l path p s).roots.length rc]) ∧
      w'.ownsRow w.heap.size 3 1 (.slice ra (findI l path p s).roots.length rc) (findI l path p s).roots.length (ints (findI l path p s).roots) ∧ X w w' := by
  have hpn := hI.2.1
  have hch := childL_length p s hp hs
  cases hv : (pkgB p && partB s && nameB (childL p s))
  · have hc0 : childOf p s = [] := by rw [childOf, hv]; rfl
    have he : findI l path p s = noneSp := by rw [findI, hv]; rfl
    rw [he]
    clear he
    go_enter Tryd.func73, Tryd.ntmps73
    go_wp2_with (first | (go_at_call 93; refine (ChildOf_c _ _ _ hp hs (hG.mono (by (repeat (first | exact X.refl _ | assumption | refine X.ext ?_ _ | refine X.alloc ?_ _ | refine X.drew ?_))))).mono ?_; rintro _ _ ⟨rfl, x, rfl⟩) | (go_at_call 72; refine (nothing_c _).mono ?_; rintro _ _ ⟨ra', rc', rfl, hown2, hx⟩; obtain ⟨z, rfl⟩ := hx.of_ext))
    refine bodyPost_ret (v := _) (by simp [results, Tryd.results73, go_sem]; rfl) rfl ?_
    refine ⟨_, _, rfl, ?_, by (repeat (first | exact X.refl _ | assumption | refine X.ext ?_ _ | refine X.alloc ?_ _ | refine X.drew ?_))⟩
    refine own_swap (w := w.alloc (.cells #[.slice a n c] 30)) (o := (.cells #[.int .i64 0, .int .i64 0, .slice none 0 0] 44)) ?_ (by simp)
    exact own_less hown2 (by rw [World.size_ext]; omega)
  · have hc0 : childOf p s = childL p s := by rw [childOf, hv]; rfl
    have he : findI l path p s = findF l path p s := by rw [findI, hv]; rfl
    simp only [Bool.and_eq_true] at hv
    have hne := nameB_ne hv.2
    have hpk : pkgB (childL p s) = true := by rw [pkgB, hv.2, Bool.or_true]
    rw [he]
    clear he hv
    go_enter Tryd.func73, Tryd.ntmps73
    go_wp2_with fail
    obtain ⟨W1, hW1⟩ : ∃ W1, W1 = w.alloc (.cells #[.slice a n c] 30) := ⟨_, rfl⟩
    obtain ⟨⟨hb0, hc1⟩, hX⟩ := boxes1 hW1
    have hsz : w.heap.size + 1 = W1.heap.size := by rw [hW1]; simp
    rw [← hW1, hsz]
    clear hsz hW1
    have hF1 := hF.mono (hX.fr _)
    have hI1 := hI.mono (hX.fr _)
    have hG1 := hG.mono hX
    have hnf := neq_nilFunc
    refine (ChildOf_c _ _ _ hp hs (hG.mono (by (repeat (first | exact X.refl _ | assumption | refine X.ext ?_ _ | refine X.alloc ?_ _ | refine X.drew ?_))))).mono ?_
    rintro _ _ ⟨rfl, x, rfl⟩
    rw [hc0]
    go_wp2
    refine wp_name (fun W hW => ?_)
    obtain ⟨x0, rfl, hown0⟩ := own_new_ext (size := 1) (n := 0) hW rfl (by omega)
    clear hW
    go_loopw [12, 29] (fun v i wr => ∃ (k : Nat) (acc : List Int) (x : Xt) (ra : Option Addr) (rc : Nat), k ≤ pn ∧ i = .int .i64 k ∧ v = .slice ra acc.length rc ∧ acc.length ≤ k ∧
        findGo l p s (path.drop k) acc = findF l path p s ∧ wr = World.ext (W1.alloc (.cells #[.int .i64 0, .int .i64 0, .slice none 0 0] 44)) x ∧
        (World.ext (W1.alloc (.cells #[.int .i64 0, .int .i64 0, .slice none 0 0] 44)) x).ownsRow (W1.alloc (.cells #[.int .i64 0, .int .i64 0, .slice none 0 0] 44)).heap.size 3 1 (.slice ra acc.length rc) acc.length (ints acc)) (fun _ i _ => pn - (intOf i).toNat)
    case atStart => exact ⟨0, [], x0, _, _, by omega, rfl, rfl, by simp, rfl, rfl, by simpa using hown0⟩
    case round =>
      obtain ⟨k, acc, x, ra, rc, hk, rfl, rfl, hacc, hgo, rfl, hown⟩ := hrel
      by_cases hlt : k < pn
      · obtain ⟨b, off, rfl, _, hb, hcell⟩ := hI1.at_ hlt
        rw [drop_nth (l := path) (k := k) (by have := hI.1; omega)] at hgo
        have Hgo := Lib.hid hgo
        clear hgo
        have Hd := Lib.hid (@dirI_eq l (nth path k) (childL p s) ht hpk)
        go_wp2_with fail
        refine (fileAt_i l _ _ _ B (initF (nth path k) (childL p s)) _ _ (hF1.mono (X.fr (by (repeat (first | exact X.refl _ | assumption | refine X.ext ?_ _ | refine X.alloc ?_ _ | refine X.drew ?_))) _))).mono ?_
        rintro _ _ ⟨rfl, hx⟩
        replace hown := own_fr hown (hx.fr _)
        obtain ⟨x, rfl⟩ := hx.of_ext
        clear hx
        go_wp2_with fail
        · have hi : 0 ≤ fidx l (initF (nth path k) (childL p s)) := by assumption
          have he : findF l path p s = ⟨2, fidx l (initF (nth path k) (childL p s)), [nth path k]⟩ := by rw [← Hgo.out, findGo, if_pos hi]
          refine bodyPost_ret (v := _) (by simp [results, Tryd.results73, go_sem]; rfl) rfl ?_
          rw [he]
          refine ⟨_, _, rfl, ?_, by (repeat (first | exact X.refl _ | assumption | refine X.ext ?_ _ | refine X.alloc ?_ _ | refine X.drew ?_))⟩
          exact own_lit (by simp [World.size_ext]) (by have := hX.size; simp [World.size_ext]; omega) rfl (by simp)
        · have hi : fidx l (initF (nth path k) (childL p s)) < 0 := by assumption
          have hi' : ¬ 0 ≤ fidx l (initF (nth path k) (childL p s)) := by omega
          have Hi := Lib.hid hi
          clear hi'
          refine (fileAt_i l _ _ _ B (fileF (nth path k) p s) _ _ (hF1.mono (X.fr (by (repeat (first | exact X.refl _ | assumption | refine X.ext ?_ _ | refine X.alloc ?_ _ | refine X.drew ?_))) _))).mono ?_
          rintro _ _ ⟨rfl, hx⟩
          replace hown := own_fr hown (hx.fr _)
          obtain ⟨x, rfl⟩ := hx.of_ext
          clear hx
          go_wp2_with fail
          · have hj : 0 ≤ fidx l (fileF (nth path k) p s) := by assumption
            have he : findF l path p s = ⟨1, fidx l (fileF (nth path k) p s), []⟩ := by rw [← Hgo.out, findGo, if_neg (Int.not_le.2 Hi.out), if_pos hj]
            refine bodyPost_ret (v := _) (by simp [results, Tryd.results73, go_sem]; rfl) rfl ?_
            rw [he]
            refine ⟨_, _, rfl, ?_, by (repeat (first | exact X.refl _ | assumption | refine X.ext ?_ _ | refine X.alloc ?_ _ | refine X.drew ?_))⟩
            exact own_lit (by simp [World.size_ext]) (by have := hX.size; simp [World.size_ext]; omega) rfl (by simp)
          · have hj : fidx l (fileF (nth path k) p s) < 0 := by assumption
            refine (hasDir_i l _ _ _ B _ _ _ (hF1.mono (X.fr (by (repeat (first | exact X.refl _ | assumption | refine X.ext ?_ _ | refine X.alloc ?_ _ | refine X.drew ?_))) _)) hch (hG1.mono (by (repeat (first | exact X.refl _ | assumption | refine X.ext ?_ _ | refine X.alloc ?_ _ | refine X.drew ?_))))).mono ?_
            rintro _ _ ⟨rfl, hx⟩
            replace hown := own_fr hown (hx.fr _)
            obtain ⟨x, rfl⟩ := hx.of_ext
            clear hx
            rw [Hd.out]
            go_wp2_with (at_builtin; refine wpList_append_lit int_T rfl _ _ rfl hown rfl rfl rfl ?_ ?_ ?_ ?_)
            · simp [Value.oneCell']
            · omega
            · omega
            · intro a' c' z' hown'
              have hd : dirS l (nth path k) (childL p s) = true := by assumption
              have he : findGo l p s (path.drop (k + 1)) (acc ++ [nth path k]) = findF l path p s := by rw [← Hgo.out, findGo, if_neg (Int.not_le.2 Hi.out), if_neg (Int.not_le.2 hj), if_pos hd]
              have He := Lib.hid he
              clear he
              go_wp2
              go_roundw
              case rel => exact ⟨k + 1, acc ++ [nth path k], z', a', c', by omega, by go_num, by simp, by simp; omega, He.out, rfl, by simpa [flat_snoc] using hown'⟩
              case measure => simp [intOf]; omega
            · have hd : ¬ dirS l (nth path k) (childL p s) = true := by simp [*]
              have he : findGo l p s (path.drop (k + 1)) acc = findF l path p s := by rw [← Hgo.out, findGo, if_neg (Int.not_le.2 Hi.out), if_neg (Int.not_le.2 hj), if_neg hd]
              go_roundw
              case rel => exact ⟨k + 1, acc, x, ra, rc, by omega, by go_num, rfl, by omega, he, rfl, hown⟩
              case measure => simp [intOf]; omega
      · obtain rfl : k = pn := by omega
        go_wp2_with (go_at_call 72; refine (nothing_c _).mono ?_; rintro _ _ ⟨ra', rc', rfl, hown2, hx⟩; obtain ⟨z, rfl⟩ := hx.of_ext)
        · have h0 : 0 < acc.length := by assumption
          have he : findF l path p s = ⟨3, -1, acc⟩ := by
            rw [← hgo, List.drop_eq_nil_of_le (by have := hI.1; omega), findGo, if_neg (by cases acc with | nil => simp at h0 | cons a b => simp)]
          refine bodyPost_ret (v := _) (by simp [results, Tryd.results73, go_sem]; rfl) rfl ?_
          rw [he]
          exact ⟨_, _, rfl, own_swap hown hX.size, by (repeat (first | exact X.refl _ | assumption | refine X.ext ?_ _ | refine X.alloc ?_ _ | refine X.drew ?_))⟩
        · have h0 : ¬ 0 < acc.length := by assumption
          have he : findF l path p s = noneSp := by
            rw [← hgo, List.drop_eq_nil_of_le (by have := hI.1; omega), findGo, if_pos (by cases acc with | nil => rfl | cons a b => simp at h0)]
          refine bodyPost_ret (v := _) (by simp [results, Tryd.results73, go_sem]; rfl) rfl ?_
          rw [he]
          refine ⟨_, _, rfl, own_swap (own_less hown2 (by rw [World.size_ext]; omega)) hX.size, by (repeat (first | exact X.refl _ | assumption | refine X.ext ?_ _ | refine X.alloc ?_ _ | refine X.drew ?_))⟩


/-- What a Spec in a call's result is: its roots lie in memory of the call's own. -/
def SpecAt (w : World) (B : Nat) (v : Value) (r : Sp) : Prop :=
  ∃ a c, v = .agg #[.int .i64 r.kind, .int .i64 r.file, .slice a r.roots.length c] ∧ w.ownsRow B 3 1 (.slice a r.roots.length c) r.roots.length (ints r.roots)
set_option maxRecDepth 100000 in
set_option maxHeartbeats 1000000 in
theorem FindIn_i (l : List Fi) (a : Option Addr) (n c B : Nat) (path : List Int) (pa : Option Addr) (pn pc Bp : Nat) (p s : List UInt8) (w : World) (hF : FilesAt w B a n l) (hnc : n ≤ c) (hI : IntsAt w Bp pa pn path) (hpc : pn ≤ pc)
    (hp : p.length ≤ 1048576) (hs : s.length ≤ 1048576) (hG : Gm w) :
    Calls Tryd.prog 28 #[.agg #[.slice a n c], .slice pa pn pc, .string ⟨(p).toArray⟩, .string ⟨(s).toArray⟩] w fun e w' => ∃ v, e = .returned v ∧ SpecAt w' w.heap.size v (findInF l path p s) ∧ X w w' := by
  cases h1 : treeB l <;> cases h2 : pathB path <;> cases h3 : pkgB p <;> cases h4 : partB s
  all_goals
    go_enter Tryd.func28, Tryd.ntmps28
    go_wp2_with (first | (go_at_call 55; refine (ValidTree_c _ _ _ _ _ _ (hF.mono (X.fr (by (repeat (first | exact X.refl _ | assumption | refine X.ext ?_ _ | refine X.alloc ?_ _ | refine X.drew ?_))) _)) hnc (hG.mono (by (repeat (first | exact X.refl _ | assumption | refine X.ext ?_ _ | refine X.alloc ?_ _ | refine X.drew ?_))))).mono ?_; rintro _ _ ⟨rfl, hx⟩; first | obtain ⟨x, rfl⟩ := hx.of_ext | obtain ⟨x, rfl⟩ := hx) | (go_at_call 56; refine (ValidPath_c _ _ _ _ _ _ (hI.mono (X.fr (by (repeat (first | exact X.refl _ | assumption | refine X.ext ?_ _ | refine X.alloc ?_ _ | refine X.drew ?_))) _)) hpc).mono ?_; rintro _ _ ⟨rfl, rfl⟩) | (go_at_call 70; refine (packageOk_c _ _ (by omega) (hG.mono (by (repeat (first | exact X.refl _ | assumption | refine X.ext ?_ _ | refine X.alloc ?_ _ | refine X.drew ?_))))).mono ?_; rintro _ _ ⟨rfl, hx⟩; first | obtain ⟨x, rfl⟩ := hx.of_ext | obtain ⟨x, rfl⟩ := hx) | (go_at_call 71; refine (ValidPart_c _ _ (by omega)).mono ?_; rintro _ _ ⟨rfl, rfl⟩) | (go_at_call 72; refine (nothing_c _).mono ?_; rintro _ _ ⟨ra', rc', rfl, hown2, hx2⟩; obtain ⟨z, rfl⟩ := hx2.of_ext) | (go_at_call 73; refine (find_c l _ _ _ B path _ _ _ Bp p s _ (hF.mono (X.fr (by (repeat (first | exact X.refl _ | assumption | refine X.ext ?_ _ | refine X.alloc ?_ _ | refine X.drew ?_))) _)) (hI.mono (X.fr (by (repeat (first | exact X.refl _ | assumption | refine X.ext ?_ _ | refine X.alloc ?_ _ | refine X.drew ?_))) _)) hp hs (hG.mono (by (repeat (first | exact X.refl _ | assumption | refine X.ext ?_ _ | refine X.alloc ?_ _ | refine X.drew ?_)))) h1).mono ?_; rintro _ _ ⟨ra', rc', rfl, hown2, hx2⟩; obtain ⟨z, rfl⟩ := hx2.of_ext))
    refine bodyPost_ret (v := _) (by simp [results, Tryd.results28, go_sem]; rfl) rfl ?_
    refine ⟨_, rfl, ?_, by (repeat (first | exact X.refl _ | assumption | refine X.ext ?_ _ | refine X.alloc ?_ _ | refine X.drew ?_))⟩
  all_goals first
    | (rw [show findInF l path p s = noneSp by simp [findInF, h1, h2, h3, h4]]
       exact ⟨_, _, rfl, own_swap (w := w.alloc (.cells #[.slice a n c] 30)) (o := (.cells #[.int .i64 0, .int .i64 0, .slice none 0 0] 44)) (own_less hown2 (by rw [World.size_ext]; omega)) (by simp)⟩)
    | (rw [show findInF l path p s = findI l path p s by simp [findInF, findI, h1, h2, h3, h4]]
       exact ⟨_, _, rfl, own_swap (w := w.alloc (.cells #[.slice a n c] 30)) (o := (.cells #[.int .i64 0, .int .i64 0, .slice none 0 0] 44)) (own_less hown2 (by rw [World.size_ext]; omega)) (by simp)⟩)
set_option maxRecDepth 100000 in
set_option maxHeartbeats 1000000 in
theorem FindIn_c (l : List Fi) (a : Option Addr) (n c B : Nat) (path : List Int) (pa : Option Addr) (pn pc Bp : Nat) (p s : List UInt8) (w : World) (hF : FilesAt w B a n l) (hI : IntsAt w Bp pa pn path) (hpc : pn ≤ pc)
    (hp : p.length ≤ 1048576) (hs : s.length ≤ 1048576) :
    Calls Tryd.prog 27 #[.agg #[.slice a n c], .slice pa pn pc, .string ⟨(p).toArray⟩, .string ⟨(s).toArray⟩] w fun e w' => ∃ v, e = .returned v ∧ SpecAt w' w.heap.size v (findInF l path p s) ∧ X w w' := by
  have hch := childL_length p s hp hs
  cases h1 : treeB l <;> cases h2 : pathB path <;> cases h3 : pkgB p <;> cases h4 : partB s <;> cases h5 : nameB (childL p s)
  all_goals
    go_enter Tryd.func27, Tryd.ntmps27
    go_wp2_with (first | (go_at_call 46; refine (validTree_c _ _ _ _ _ _ (hF.mono (X.fr (by (repeat (first | exact X.refl _ | assumption | refine X.ext ?_ _ | refine X.alloc ?_ _ | refine X.drew ?_))) _))).mono ?_; rintro _ _ ⟨rfl, hx⟩; first | obtain ⟨x, rfl⟩ := hx.of_ext | obtain ⟨x, rfl⟩ := hx) | (go_at_call 47; refine (validPath_c _ _ _ _ _ _ (hI.mono (X.fr (by (repeat (first | exact X.refl _ | assumption | refine X.ext ?_ _ | refine X.alloc ?_ _ | refine X.drew ?_))) _)) hpc).mono ?_; rintro _ _ ⟨rfl, hx⟩; first | obtain ⟨x, rfl⟩ := hx.of_ext | obtain ⟨x, rfl⟩ := hx) | (go_at_call 65; refine (validPackage_c _ _ (by omega)).mono ?_; rintro _ _ ⟨rfl, hx⟩; first | obtain ⟨x, rfl⟩ := hx.of_ext | obtain ⟨x, rfl⟩ := hx) | (go_at_call 66; refine (validPart_c _ _ (by omega)).mono ?_; rintro _ _ ⟨rfl, rfl⟩) | (go_at_call 67; refine (child_c _ _ _ hp hs).mono ?_; rintro _ _ ⟨rfl, rfl⟩) | (go_at_call 48; refine (validName_c _ _ hch).mono ?_; rintro _ _ ⟨rfl, hx⟩; first | obtain ⟨x, rfl⟩ := hx.of_ext | obtain ⟨x, rfl⟩ := hx) | (go_at_call 68; refine (noSpec_c _).mono ?_; rintro _ _ ⟨ra', rc', rfl, hown2, hx2⟩; obtain ⟨z, rfl⟩ := hx2.of_ext) | (go_at_call 69; refine (findIn_c l _ _ _ B path _ _ _ Bp p s _ (hF.mono (X.fr (by (repeat (first | exact X.refl _ | assumption | refine X.ext ?_ _ | refine X.alloc ?_ _ | refine X.drew ?_))) _)) (hI.mono (X.fr (by (repeat (first | exact X.refl _ | assumption | refine X.ext ?_ _ | refine X.alloc ?_ _ | refine X.drew ?_))) _)) hp hs).mono ?_; rintro _ _ ⟨ra', rc', rfl, hown2, hx2⟩; obtain ⟨z, rfl⟩ := hx2.of_ext))
    refine bodyPost_ret (v := _) (by simp [results, Tryd.results27, go_sem]; rfl) rfl ?_
    refine ⟨_, rfl, ?_, by (repeat (first | exact X.refl _ | assumption | refine X.ext ?_ _ | refine X.alloc ?_ _ | refine X.drew ?_))⟩
  all_goals first
    | (rw [show findInF l path p s = noneSp by simp [findInF, h1, h2, h3, h4, h5]]
       exact ⟨_, _, rfl, own_swap (w := w.alloc (.cells #[.slice a n c] 30)) (o := (.cells #[.int .i64 0, .int .i64 0, .slice none 0 0] 44)) (own_less hown2 (by rw [World.size_ext]; omega)) (by simp)⟩)
    | (rw [show findInF l path p s = findF l path p s by simp [findInF, h1, h2, h3, h4, h5]]
       exact ⟨_, _, rfl, own_swap (w := w.alloc (.cells #[.slice a n c] 30)) (o := (.cells #[.int .i64 0, .int .i64 0, .slice none 0 0] 44)) (own_less hown2 (by rw [World.size_ext]; omega)) (by simp)⟩)

def moduleB (f : Fi) : List UInt8 := if f.init then f.pkg else childL f.pkg f.name
def moduleOf (f : Fi) : List UInt8 := if fileB f then moduleB f else []
theorem childOf_file {f : Fi} (h : fileB f = true) (hi : f.init = false) : childOf f.pkg f.name = childL f.pkg f.name := by
  unfold fileB at h
  rw [hi] at h
  simp only [Bool.and_eq_true, Bool.false_eq_true, if_false] at h
  rw [childOf, h.1.1.1.2, h.2.1, h.2.2]; rfl
set_option maxHeartbeats 1000000 in
theorem ModuleOf_c (f : Fi) (ba : Option Addr) (bn bc B : Nat) (w : World) (hf : Okf f) (hS : StmtsAt w B ba bn f.body) (hG : Gm w) : Calls Tryd.prog 58 #[.agg #[.int .i64 (f).root, .string ⟨(f).pkg.toArray⟩, .string ⟨(f).name.toArray⟩, .bool (f).init, .int .i64 (f).stamp, .slice ba bn bc]] w fun e w' => e = .returned (.string ⟨(moduleOf f).toArray⟩) ∧ X w w' := by
  obtain ⟨h1, h2⟩ := hf
  cases hv : fileB f
  · rw [show moduleOf f = [] by rw [moduleOf, hv]; rfl]
    go_enter Tryd.func58, Tryd.ntmps58
    go_wp2_with (go_at_call 91; refine (fileOk_c f _ _ _ _ _ ⟨h1, h2⟩ (hS.mono (X.fr (by (repeat (first | exact X.refl _ | assumption | refine X.ext ?_ _ | refine X.alloc ?_ _ | refine X.drew ?_))) _)) (hG.mono (by (repeat (first | exact X.refl _ | assumption | refine X.ext ?_ _ | refine X.alloc ?_ _ | refine X.drew ?_))))).mono ?_; rintro _ _ ⟨rfl, hx⟩; first | obtain ⟨x, rfl⟩ := hx.of_ext | obtain ⟨x, rfl⟩ := hx)
    go_ret
    exact ⟨rfl, by (repeat (first | exact X.refl _ | assumption | refine X.ext ?_ _ | refine X.alloc ?_ _ | refine X.drew ?_))⟩
  · have Hc := Lib.hid (@childOf_file f hv)
    go_enter Tryd.func58, Tryd.ntmps58
    go_wp2_with (first | (go_at_call 91; refine (fileOk_c f _ _ _ _ _ ⟨h1, h2⟩ (hS.mono (X.fr (by (repeat (first | exact X.refl _ | assumption | refine X.ext ?_ _ | refine X.alloc ?_ _ | refine X.drew ?_))) _)) (hG.mono (by (repeat (first | exact X.refl _ | assumption | refine X.ext ?_ _ | refine X.alloc ?_ _ | refine X.drew ?_))))).mono ?_; rintro _ _ ⟨rfl, hx⟩; first | obtain ⟨x, rfl⟩ := hx.of_ext | obtain ⟨x, rfl⟩ := hx) | (go_at_call 93; refine (ChildOf_c _ _ _ h1 h2 (hG.mono (by (repeat (first | exact X.refl _ | assumption | refine X.ext ?_ _ | refine X.alloc ?_ _ | refine X.drew ?_))))).mono ?_; rintro _ _ ⟨rfl, hx⟩; first | obtain ⟨x, rfl⟩ := hx.of_ext | obtain ⟨x, rfl⟩ := hx))
    · have hi : f.init = true := by assumption
      go_ret
      exact ⟨by simp [moduleOf, moduleB, hv, hi], by (repeat (first | exact X.refl _ | assumption | refine X.ext ?_ _ | refine X.alloc ?_ _ | refine X.drew ?_))⟩
    · have hi : f.init = false := by assumption
      go_ret
      exact ⟨by simp [moduleOf, moduleB, hv, hi, Hc.out hi], by (repeat (first | exact X.refl _ | assumption | refine X.ext ?_ _ | refine X.alloc ?_ _ | refine X.drew ?_))⟩

end Go.Proofs.YtcophpiibifhcaaDoor
