/- Several texts in one: Names, Stmt, Tree, Mod, MkF, Find. No condition but lengths. -/
import Derived.Test.YtgjfjjhmgbemcaaGreatDoorProg
import Derived.Test.YtgjfjjhmgbemcaaGreatDoorIa
import Derived.Test.YtgjfjjhmgbemcaaGreatDoorShelf
namespace Go.Proofs.YtgjfjjhmgbemcaaGreatDoor
open Go.RowKit

/-! ### Plain -/
def lowB (c : UInt8) : Bool := decide (97 ≤ (c.toNat : Int)) && decide ((c.toNat : Int) ≤ 122)
def partB (s : List UInt8) : Bool := rangeB s.length 1 3 && allN (fun k => lowB (nth s k)) s.length
def splitL (c : UInt8) : List UInt8 → List (List UInt8)
  | [] => [[]]
  | b :: s => if b == c then [] :: splitL c s else match splitL c s with
    | [] => [[b]]
    | p :: r => (b :: p) :: r
/-- A text put ahead of the first piece. -/
def preL (q : List UInt8) : List (List UInt8) → List (List UInt8)
  | [] => [q]
  | p :: r => (q ++ p) :: r
theorem splitL_ne (c : UInt8) (s : List UInt8) : splitL c s ≠ [] := by
  cases s with
  | nil => simp [splitL]
  | cons b s => unfold splitL; split <;> (try split) <;> simp
theorem splitL_pos (c : UInt8) (s : List UInt8) : 0 < (splitL c s).length := List.length_pos_iff.2 (splitL_ne c s)
theorem splitL_hit {c : UInt8} {s : List UInt8} : splitL c (c :: s) = [] :: splitL c s := by simp [splitL]
theorem splitL_miss {b c : UInt8} {s : List UInt8} (h : (b == c) = false) : splitL c (b :: s) = preL [b] (splitL c s) := by
  rw [splitL, h]
  simp only [Bool.false_eq_true, if_false]
  cases h' : splitL c s with
  | nil => exact absurd h' (splitL_ne c s)
  | cons p r => rfl
theorem preL_preL (p q : List UInt8) (l : List (List UInt8)) : preL p (preL q l) = preL (p ++ q) l := by
  cases l <;> simp [preL]
theorem preL_nil {l : List (List UInt8)} (h : l ≠ []) : preL [] l = l := by
  cases l with
  | nil => exact absurd rfl h
  | cons p r => simp [preL]
theorem splitL_length_le (c : UInt8) (s : List UInt8) : (splitL c s).length ≤ s.length + 1 := by
  induction s with
  | nil => simp [splitL]
  | cons b s ih =>
    cases h : b == c
    · rw [splitL_miss h]
      have : (preL [b] (splitL c s)).length = (splitL c s).length := by
        cases h' : splitL c s with
        | nil => exact absurd h' (splitL_ne c s)
        | cons p r => rfl
      rw [this, List.length_cons]; omega
    · obtain rfl : b = c := by simpa using h
      rw [splitL_hit, List.length_cons, List.length_cons]; omega
theorem splitL_piece_le (c : UInt8) (s : List UInt8) : ∀ p ∈ splitL c s, p.length ≤ s.length := by
  induction s with
  | nil => simp [splitL]
  | cons b s ih =>
    intro p hp
    cases h : b == c
    · rw [splitL_miss h] at hp
      cases h' : splitL c s with
      | nil => exact absurd h' (splitL_ne c s)
      | cons q r =>
        rw [h'] at hp ih
        simp only [preL, List.mem_cons] at hp
        rcases hp with rfl | hp
        · have := ih q (by simp); simp; omega
        · have := ih p (by simp [hp]); simp; omega
    · obtain rfl : b = c := by simpa using h
      rw [splitL_hit] at hp
      rcases List.mem_cons.1 hp with rfl | hp
      · simp
      · have := ih p hp; simp; omega
theorem splitL_none {c : UInt8} : ∀ {l : List UInt8}, Lib.indexByte l c = -1 → splitL c l = [l]
  | [], _ => rfl
  | b :: l, h => by
    unfold Lib.indexByte at h
    split at h
    · omega
    · rename_i hb
      split at h
      · rename_i hl
        rw [splitL_miss (by simpa using hb), splitL_none (by simpa using hl)]; rfl
      · have := Lib.indexByte_ge l c; omega
theorem splitL_some {c : UInt8} : ∀ {l : List UInt8} {i : Nat}, Lib.indexByte l c = i → splitL c l = l.take i :: splitL c (l.drop (i + 1))
  | [], i, h => by unfold Lib.indexByte at h; omega
  | b :: l, i, h => by
    unfold Lib.indexByte at h
    split at h
    · rename_i hb
      obtain rfl : i = 0 := by omega
      obtain rfl : b = c := by simpa using hb
      rw [splitL_hit]; rfl
    · rename_i hb
      split at h
      · omega
      · rename_i h1
        have h2 := Lib.indexByte_ge l c
        have h3 : Lib.indexByte l c ≠ -1 := by simpa using h1
        obtain ⟨j, rfl⟩ : ∃ j, i = j + 1 := ⟨i - 1, by omega⟩
        rw [splitL_miss (by simpa using hb), splitL_some (i := j) (by omega)]
        rfl
theorem splitK_one (c : UInt8) : ∀ (fuel : Nat) (l : List UInt8), l.length < fuel → Lib.splitK [c] 0 (Lib.countFrom [c] fuel l) l = splitL c l
  | 0, l, h => by omega
  | fuel + 1, l, h => by
    unfold Lib.countFrom
    rw [Lib.index_one]
    by_cases hi : Lib.indexByte l c = -1
    · rw [if_pos (by simp [hi]), splitL_none hi]; rfl
    · rw [if_neg (by simp [hi])]
      obtain ⟨i, hi'⟩ : ∃ i : Nat, Lib.indexByte l c = i := ⟨(Lib.indexByte l c).toNat, by have := Lib.indexByte_ge l c; omega⟩
      have hlt := (Lib.indexByte_some hi').1
      have hlen : i < l.length := by
        rcases Nat.lt_or_ge i l.length with h | h
        · exact h
        · rw [List.getElem?_eq_none h] at hlt; cases hlt
      rw [splitL_some hi', hi', Nat.add_comm, Lib.splitK, Lib.index_one, hi', if_neg (by simp)]
      simp only [Int.toNat_natCast, Nat.add_zero, List.length_cons, List.length_nil, Nat.zero_add]
      rw [splitK_one c fuel (l.drop (i + 1)) (by rw [List.length_drop]; omega)]
theorem splitB_one (c : UInt8) (l : List UInt8) : (Lib.splitB ⟨#[c]⟩ 0 (Lib.countB ⟨l.toArray⟩ ⟨#[c]⟩) ⟨l.toArray⟩).map (·.data.toList) = splitL c l := by
  rw [Lib.splitB_data]
  show Lib.splitK [c] 0 (Lib.count l [c]) l = _
  exact splitK_one c (l.length + 1) l (by omega)

def nameB (s : List UInt8) : Bool := allN (fun k => partB (nth (splitL 46 s) k)) (splitL 46 s).length && decide ((splitL 46 s).length ≤ 3)
def pkgB (s : List UInt8) : Bool := s.isEmpty || nameB s
def childL (p s : List UInt8) : List UInt8 := if p.isEmpty then s else p ++ 46 :: s
def childOf (p s : List UInt8) : List UInt8 := if pkgB p && partB s && nameB (childL p s) then childL p s else []

/-! ### Walks -/
/-- The library's variable that strings.Index reads. -/
def Gm (w : World) : Prop := ∃ m : Int, w.cell? ⟨0, 0, none⟩ = some (.int .i64 m) ∧ 0 < w.heap.size
theorem Gm.mono {w w' : World} (h : Gm w) (hx : X w w') : Gm w' := by
  obtain ⟨m, h1, h2⟩ := h
  exact ⟨m, (hx.cell (p := ⟨_, 0, none⟩) h2).trans h1, Nat.lt_of_lt_of_le h2 hx.size⟩

theorem grow_same {P : Program} {f : FuncId} {args : Array Value} {w : World} {x : Xt} {v : Value} (h : Calls P f args (World.ext w x) fun e w' => e = .returned v ∧ World.ext w x = w') :
    Calls P f args (World.ext w x) fun e w'' => e = .returned v ∧ ∃ x, w'' = World.ext w x :=
  h.mono fun _ _ ⟨he, hx⟩ => ⟨he, _, hx.symm⟩

@[go_sem] theorem bs_get (s : List UInt8) (k : Nat) (h : k < (ByteArray.mk s.toArray).size) : (ByteArray.mk s.toArray)[k]'h = nth s k := by
  rw [nth_eq (show k < s.length from h)]
  rfl
@[go_sem] theorem bs_extract (s : List UInt8) (i j : Nat) : (ByteArray.mk s.toArray).extract i j = ByteArray.mk ((s.drop i).take (j - i)).toArray := by
  apply ByteArray.ext
  apply Array.ext'
  rw [Lib.extract_data]
@[go_sem] theorem bs_append (a b : List UInt8) : ByteArray.mk a.toArray ++ ByteArray.mk b.toArray = ByteArray.mk (a ++ b).toArray := by
  apply ByteArray.ext
  apply Array.ext'
  simp
theorem split_hit {ch : UInt8} {s : List UInt8} {k fr : Nat} {done : List (List UInt8)} (h : splitL ch s = done ++ preL ((s.drop fr).take (k - fr)) (splitL ch (s.drop k))) (hlt : k < s.length) (hc : nth s k = ch) :
    splitL ch s = (done ++ [(s.drop fr).take (k - fr)]) ++ preL ((s.drop (k + 1)).take (k + 1 - (k + 1))) (splitL ch (s.drop (k + 1))) := by
  rw [h, drop_nth hlt, hc, splitL_hit, Nat.sub_self, List.take_zero, preL_nil (splitL_ne _ _)]
  simp [preL]
theorem split_miss {ch : UInt8} {s : List UInt8} {k fr : Nat} {done : List (List UInt8)} (h : splitL ch s = done ++ preL ((s.drop fr).take (k - fr)) (splitL ch (s.drop k))) (hlt : k < s.length) (hf : fr ≤ k) (hc : nth s k ≠ ch) :
    splitL ch s = done ++ preL ((s.drop fr).take (k + 1 - fr)) (splitL ch (s.drop (k + 1))) := by
  rw [h, drop_nth hlt, splitL_miss (by simpa using hc), preL_preL]
  congr 2
  have h1 : k + 1 - fr = (k - fr) + 1 := by omega
  rw [h1, take_succ_nth (by rw [List.length_drop]; omega), nth_drop]
  congr 3; omega
theorem split_end {ch : UInt8} {s : List UInt8} {k fr : Nat} {done : List (List UInt8)} (h : splitL ch s = done ++ preL ((s.drop fr).take (k - fr)) (splitL ch (s.drop k))) (hk : k = s.length) :
    splitL ch s = done ++ [s.drop fr] := by
  subst hk
  rw [h]
  have : (List.drop fr s).take (s.length - fr) = s.drop fr := List.take_of_length_le (by rw [List.length_drop]; omega)
  simp [this, splitL, preL]
theorem take_rest (s : List UInt8) (k : Nat) : (s.drop k).take (s.length - k) = s.drop k := List.take_of_length_le (by rw [List.length_drop]; omega)
theorem ret_bool {a b : Bool} (h : a = b) : Ending.returned (.bool a) = .returned (.bool b) := by rw [h]
theorem ret_int {k : IntKind} {a b : Int} (h : a = b) : Ending.returned (.int k a) = .returned (.int k b) := by rw [h]
theorem rangeB_yes {n lo hi : Int} (h : lo ≤ n) (h2 : n ≤ hi) : rangeB n lo hi = true := rangeB_iff.2 ⟨h, h2⟩
theorem lowB_no {c : UInt8} (h : (c.toNat : Int) < 97 ∨ 122 < (c.toNat : Int)) : lowB c = false := by
  unfold lowB; rw [Bool.and_eq_false_iff]; simp; omega
theorem lowB_yes {c : UInt8} (h : 97 ≤ (c.toNat : Int)) (h2 : (c.toNat : Int) ≤ 122) : lowB c = true := by simp [lowB]; omega

set_option maxHeartbeats 400000 in
theorem within_c (n a b : Int) (w : World) : Calls Tryz.prog 80 #[.int .i64 n, .int .i64 a, .int .i64 b] w fun e w' => e = .returned (.bool (rangeB n a b)) ∧ w = w' := by
  by_cases h1 : a ≤ n <;> by_cases h2 : n ≤ b
  all_goals
    go_enter Tryz.func80, Tryz.ntmps80
    go_wp2
    go_ret
    simp [rangeB, *]
set_option maxHeartbeats 400000 in
theorem inRange_c (n a b : Int) (w : World) : Calls Tryz.prog 40 #[.int .i64 n, .int .i64 a, .int .i64 b] w fun e w' => e = .returned (.bool (rangeB n a b)) ∧ w = w' := by
  by_cases h1 : a ≤ n <;> by_cases h2 : n ≤ b
  all_goals
    go_enter Tryz.func40, Tryz.ntmps40
    go_wp2
    go_ret
    simp [rangeB, *]

set_option maxHeartbeats 400000 in
theorem ValidPart_c (s : List UInt8) (w : World) (hs : s.length ≤ 4194304) : Calls Tryz.prog 132 #[.string ⟨(s).toArray⟩] w fun e w' => e = .returned (.bool (partB s)) ∧ w = w' := by
  go_enter Tryz.func132, Tryz.ntmps132
  go_wp2
  go_loop [6] (fun i => ∃ k : Nat, k ≤ s.length ∧ i = .int .i64 k ∧ allN (fun k => lowB (nth s k)) k = true) (fun i => s.length - (intOf i).toNat)
  case atStart => exact ⟨0, by omega, rfl, rfl⟩
  case round =>
    obtain ⟨k, hk, rfl, hall⟩ := hrel
    by_cases hlt : k < s.length
    · by_cases h1 : 97 ≤ ((nth s k).toNat : Int) <;> by_cases h2 : ((nth s k).toNat : Int) ≤ 122
      all_goals go_wp2
      · go_round
        case rel => exact ⟨k + 1, by omega, by go_num, allN_next hall (lowB_yes h1 h2)⟩
        case measure => simp [intOf]; omega
      all_goals
        go_ret
        exact ⟨ret_bool (by rw [partB, allN_not (lowB_no (by omega)) hlt, Bool.and_false]), rfl⟩
    · obtain rfl : k = s.length := by omega
      go_wp2_with (go_at_call 80; refine (within_c _ _ _ _).mono ?_; rintro _ _ ⟨rfl, rfl⟩)
      go_ret
      exact ⟨ret_bool (by rw [partB, hall, Bool.and_true]), rfl⟩
set_option maxHeartbeats 400000 in
theorem validPart_c (s : List UInt8) (w : World) (hs : s.length ≤ 4194304) : Calls Tryz.prog 158 #[.string ⟨(s).toArray⟩] w fun e w' => e = .returned (.bool (partB s)) ∧ w = w' := by
  cases hr : rangeB s.length 1 3
  · go_enter Tryz.func158, Tryz.ntmps158
    go_wp2_with (go_at_call 40; refine (inRange_c _ _ _ _).mono ?_; rintro _ _ ⟨rfl, rfl⟩)
    go_ret
    exact ⟨ret_bool (by rw [partB, hr, Bool.false_and]), rfl⟩
  · go_enter Tryz.func158, Tryz.ntmps158
    go_wp2_with (go_at_call 40; refine (inRange_c _ _ _ _).mono ?_; rintro _ _ ⟨rfl, rfl⟩)
    go_loop [3] (fun i => ∃ k : Nat, k ≤ s.length ∧ i = .int .i64 k ∧ allN (fun k => lowB (nth s k)) k = true) (fun i => s.length - (intOf i).toNat)
    case atStart => exact ⟨0, by omega, rfl, rfl⟩
    case round =>
      obtain ⟨k, hk, rfl, hall⟩ := hrel
      by_cases hlt : k < s.length
      · by_cases h1 : 97 ≤ ((nth s k).toNat : Int) <;> by_cases h2 : ((nth s k).toNat : Int) ≤ 122
        all_goals go_wp2
        · go_round
          case rel => exact ⟨k + 1, by omega, by go_num, allN_next hall (lowB_yes h1 h2)⟩
          case measure => simp [intOf]; omega
        all_goals
          go_ret
          exact ⟨ret_bool (by rw [partB, allN_not (lowB_no (by omega)) hlt, Bool.and_false]), rfl⟩
      · obtain rfl : k = s.length := by omega
        go_wp2
        go_ret
        exact ⟨ret_bool (by rw [partB, hall, hr]; rfl), rfl⟩


theorem str_T : AppT Tryz.prog 64 9 1 16 := AppT.of (z := .string ⟨#[]⟩) (by kernel_rfl) (by kernel_rfl) rfl (by omega)
set_option maxHeartbeats 800000 in
theorem splitAt_c (s : List UInt8) (ch : UInt8) (w : World) (hs : s.length ≤ 4194304) : Calls Tryz.prog 161 #[.string ⟨(s).toArray⟩, .int .u8 (ch.toNat : Int)] w fun e w' =>
    ∃ a c, e = .returned (.slice a (splitL ch s).length c) ∧ w'.ownsRow w.heap.size 9 1 (.slice a (splitL ch s).length c) (splitL ch s).length (strs (splitL ch s)) ∧ X w w' := by
  go_enter Tryz.func161, Tryz.ntmps161
  go_wp2
  refine wp_name (fun W hW => ?_)
  obtain ⟨x0, rfl, hown0⟩ := own_new (size := 1) (n := 0) hW rfl (by omega)
  clear hW
  go_loopw [5, 6, 7] (fun v f i wr => ∃ (k fr : Nat) (done : List (List UInt8)) (x : Xt) (a : Option Addr) (c : Nat), fr ≤ k ∧ k ≤ s.length ∧ i = .int .i64 k ∧ f = .int .i64 fr ∧ v = .slice a done.length c ∧ wr = World.ext w x ∧
      (World.ext w x).ownsRow w.heap.size 9 1 (.slice a done.length c) done.length (strs done) ∧ splitL ch s = done ++ preL ((s.drop fr).take (k - fr)) (splitL ch (s.drop k)) ∧ done.length ≤ k) (fun _ _ i _ => s.length - (intOf i).toNat)
  case atStart => exact ⟨0, 0, [], x0, _, _, by omega, by omega, rfl, rfl, rfl, rfl, hown0, by simp [preL_nil (splitL_ne _ _)], by simp⟩
  case round =>
    obtain ⟨k, fr, done, x, a, c, hfk, hk, rfl, rfl, rfl, rfl, hown, hsp, hd⟩ := hrel
    by_cases hlt : k < s.length
    · cases hc : ((nth s k).toNat : Int) == (ch.toNat : Int)
      · have hc' : nth s k ≠ ch := by rintro rfl; simp at hc
        go_wp2
        go_roundw
        case rel => exact ⟨k + 1, fr, done, x, a, c, by omega, by omega, by go_num, rfl, rfl, rfl, hown, split_miss hsp hlt hfk hc', by omega⟩
        case measure => simp [intOf]; omega
      · have hc' : nth s k = ch := by have := beq_iff_eq.1 hc; exact UInt8.toNat_inj.1 (by omega)
        go_wp2_with (at_builtin; refine wpList_append_lit str_T rfl _ _ rfl hown rfl rfl rfl ?_ ?_ ?_ ?_)
        · simp [Value.oneCell']
        · omega
        · omega
        intro a' c' z hown'
        go_wp2
        go_roundw
        case rel => exact ⟨k + 1, k + 1, done ++ [(s.drop fr).take (k - fr)], z, a', c', by omega, by omega, by go_num, by go_num, by simp, rfl, by simpa [flat_snoc] using hown', split_hit hsp hlt hc', by simp; omega⟩
        case measure => simp [intOf]; omega
    · have hke : k = s.length := by omega
      have he := split_end hsp hke
      have hlen : (splitL ch s).length = done.length + 1 := by rw [he]; simp
      clear hke
      have Hlen := Lib.hid hlen
      have He := Lib.hid he
      clear hlen he
      go_wp2_with (at_builtin; refine wpList_append_lit str_T rfl _ _ rfl hown rfl rfl rfl ?_ ?_ ?_ ?_)
      · simp [Value.oneCell']
      · omega
      · omega
      intro a' c' z hown'
      go_wp2
      go_ret
      refine ⟨a', c', ?_, ?_, ⟨_, rfl⟩⟩
      · rw [Hlen.out]; rfl
      · rw [Hlen.out, He.out]; simpa [flat_snoc, take_rest] using hown'

theorem strs_eq (l : List (List UInt8)) : strs l = l.map fun x => .string ⟨(x).toArray⟩ := by
  induction l with
  | nil => rfl
  | cons x l ih => rw [List.map_cons, ← ih]; rfl
theorem Split_c (s : List UInt8) (ch : UInt8) (w : World) (hs : s.length ≤ 4194304) (hG : Gm w) : Calls Tryz.prog 131 #[.string ⟨(s).toArray⟩, .string ⟨#[ch]⟩] w fun e w' =>
    ∃ a c, e = .returned (.slice a (splitL ch s).length c) ∧ w'.ownsRow w.heap.size 9 1 (.slice a (splitL ch s).length c) (splitL ch s).length (strs (splitL ch s)) ∧ X w w' := by
  obtain ⟨m, hm, _⟩ := hG
  refine (Tryz.strings_Split ⟨s.toArray⟩ ⟨#[ch]⟩ m w (by show s.length < _; omega) hm (Nat.le_refl 1)).mono ?_
  rintro e w' ⟨rfl, rfl⟩
  have h1 := splitB_one ch s
  have h2 : (Lib.splitB ⟨#[ch]⟩ 0 (Lib.countB ⟨s.toArray⟩ ⟨#[ch]⟩) ⟨s.toArray⟩).length = Lib.countB ⟨s.toArray⟩ ⟨#[ch]⟩ + 1 := Lib.splitB_all ⟨#[ch]⟩ (Nat.le_refl 1) 0 _ _ rfl
  have h3 : (splitL ch s).length = Lib.countB ⟨s.toArray⟩ ⟨#[ch]⟩ + 1 := by rw [← h1, List.length_map, h2]
  have h4 : (Lib.splitB ⟨#[ch]⟩ 0 (Lib.countB ⟨s.toArray⟩ ⟨#[ch]⟩) ⟨s.toArray⟩).map Value.string = strs (splitL ch s) := by
    rw [← h1, strs_eq, List.map_map]
    rfl
  rw [h3, ← h4]
  have hle := splitL_length_le ch s
  refine ⟨_, _, rfl, ?_, (X.refl w).alloc _⟩
  exact World.ownsRow_lit w _ _ (Nat.le_refl _) (by unfold maxLen; omega) (by simp [h2])
set_option maxHeartbeats 400000 in
theorem validName_c (s : List UInt8) (w : World) (hs : s.length ≤ 4194304) : Calls Tryz.prog 116 #[.string ⟨(s).toArray⟩] w fun e w' => e = .returned (.bool (nameB s)) ∧ X w w' := by
  go_enter Tryz.func116, Tryz.ntmps116
  go_wp2_with fail
  refine (splitAt_c s 46 w hs).mono ?_
  rintro _ W ⟨a, c, rfl, hown, hX⟩
  have hl := splitL_length_le 46 s
  have hS := StrsAt.of_own hown (by omega) (fun p hp => Nat.le_trans (splitL_piece_le 46 s p hp) hs)
  generalize hn : (splitL 46 s).length = n at hS hl
  clear hown
  go_wp2
  have hn' := hS.2.1
  go_loop [4] (fun i => ∃ k : Nat, k ≤ n ∧ i = .int .i64 k ∧ allN (fun k => partB (nth (splitL 46 s) k)) k = true) (fun i => n - (intOf i).toNat)
  case atStart => exact ⟨0, by omega, rfl, rfl⟩
  case round =>
    obtain ⟨k, hk, rfl, hall⟩ := hrel
    by_cases hlt : k < n
    · obtain ⟨b, off, rfl, _, hb, hcell, hp⟩ := hS.at_ hlt
      cases hv : partB (nth (splitL 46 s) k)
      all_goals go_wp2_with (go_at_call 158; refine (validPart_c _ _ hp).mono ?_; rintro _ _ ⟨rfl, rfl⟩)
      · go_ret
        exact ⟨ret_bool (by rw [nameB, hn, allN_not hv hlt, Bool.false_and]), hX⟩
      · go_round
        case rel => exact ⟨k + 1, by omega, by go_num, allN_next hall hv⟩
        case measure => simp [intOf]; omega
    · obtain rfl : k = n := by omega
      go_wp2
      go_ret
      exact ⟨ret_bool (by rw [nameB, hn, hall, Bool.true_and]; exact decide_eq_decide.2 (by omega)), hX⟩
set_option maxHeartbeats 400000 in
theorem ValidName_c (s : List UInt8) (w : World) (hs : s.length ≤ 4194304) (hG : Gm w) : Calls Tryz.prog 77 #[.string ⟨(s).toArray⟩] w fun e w' => e = .returned (.bool (nameB s)) ∧ X w w' := by
  go_enter Tryz.func77, Tryz.ntmps77
  go_wp2_with fail
  refine (Split_c s 46 w hs hG).mono ?_
  rintro _ W ⟨a, c, rfl, hown, hX⟩
  have hl := splitL_length_le 46 s
  have hS := StrsAt.of_own hown (by omega) (fun p hp => Nat.le_trans (splitL_piece_le 46 s p hp) hs)
  generalize hn : (splitL 46 s).length = n at hS hl
  clear hown
  have hn' := hS.2.1
  go_wp2
  go_loop [10] (fun i => ∃ k : Nat, k ≤ n ∧ i = .int .i64 k ∧ allN (fun k => partB (nth (splitL 46 s) k)) k = true) (fun i => n - (intOf i).toNat)
  case atStart => exact ⟨0, by omega, rfl, rfl⟩
  case round =>
    obtain ⟨k, hk, rfl, hall⟩ := hrel
    by_cases hlt : k < n
    · obtain ⟨b, off, rfl, _, hb, hcell, hp⟩ := hS.at_ hlt
      cases hv : partB (nth (splitL 46 s) k)
      all_goals go_wp2_with (go_at_call 132; refine (ValidPart_c _ _ hp).mono ?_; rintro _ _ ⟨rfl, rfl⟩)
      · go_ret
        exact ⟨ret_bool (by rw [nameB, hn, allN_not hv hlt, Bool.false_and]), hX⟩
      · go_round
        case rel => exact ⟨k + 1, by omega, by go_num, allN_next hall hv⟩
        case measure => simp [intOf]; omega
    · obtain rfl : k = n := by omega
      go_wp2
      go_ret
      exact ⟨ret_bool (by rw [nameB, hn, hall, Bool.true_and]; exact decide_eq_decide.2 (by omega)), hX⟩
set_option maxHeartbeats 400000 in
theorem packageOk_c (s : List UInt8) (w : World) (hs : s.length ≤ 4194304) (hG : Gm w) : Calls Tryz.prog 78 #[.string ⟨(s).toArray⟩] w fun e w' => e = .returned (.bool (pkgB s)) ∧ X w w' := by
  cases he : s.isEmpty
  all_goals
    go_enter Tryz.func78, Tryz.ntmps78
    go_wp2_with (go_at_call 77; refine (ValidName_c _ _ hs hG).mono ?_; rintro _ _ ⟨rfl, hX⟩)
    go_ret
  · exact ⟨ret_bool (by rw [pkgB, he]; rfl), hX⟩
  · exact ⟨ret_bool (by rw [pkgB, he]; rfl), X.refl _⟩
set_option maxHeartbeats 400000 in
theorem validPackage_c (s : List UInt8) (w : World) (hs : s.length ≤ 4194304) : Calls Tryz.prog 149 #[.string ⟨(s).toArray⟩] w fun e w' => e = .returned (.bool (pkgB s)) ∧ X w w' := by
  cases he : s.isEmpty
  all_goals
    go_enter Tryz.func149, Tryz.ntmps149
    go_wp2_with (go_at_call 116; refine (validName_c _ _ hs).mono ?_; rintro _ _ ⟨rfl, hX⟩)
    go_ret
  · exact ⟨ret_bool (by rw [pkgB, he]; rfl), hX⟩
  · exact ⟨ret_bool (by rw [pkgB, he]; rfl), X.refl _⟩
set_option maxHeartbeats 400000 in
theorem child_c (p s : List UInt8) (w : World) (hp : p.length ≤ 1048576) (hs : s.length ≤ 1048576) : Calls Tryz.prog 159 #[.string ⟨(p).toArray⟩, .string ⟨(s).toArray⟩] w fun e w' => e = .returned (.string ⟨(childL p s).toArray⟩) ∧ w = w' := by
  cases he : p.isEmpty
  all_goals
    go_enter Tryz.func159, Tryz.ntmps159
    go_wp2
    go_ret
    exact ⟨by simp [childL, he], rfl⟩
theorem childL_length (p s : List UInt8) (hp : p.length ≤ 1048576) (hs : s.length ≤ 1048576) : (childL p s).length ≤ 4194304 := by
  unfold childL; split
  · omega
  · simp; omega
set_option maxHeartbeats 400000 in
theorem ChildOf_c (p s : List UInt8) (w : World) (hp : p.length ≤ 1048576) (hs : s.length ≤ 1048576) (hG : Gm w) : Calls Tryz.prog 136 #[.string ⟨(p).toArray⟩, .string ⟨(s).toArray⟩] w fun e w' => e = .returned (.string ⟨(childOf p s).toArray⟩) ∧ X w w' := by
  have hl := childL_length p s hp hs
  cases h1 : pkgB p
  · go_enter Tryz.func136, Tryz.ntmps136
    go_wp2_with (go_at_call 78; refine (packageOk_c _ _ (by omega) hG).mono ?_; rintro _ _ ⟨rfl, hX⟩)
    go_ret
    exact ⟨by simp [childOf, h1], hX⟩
  cases h2 : partB s
  · go_enter Tryz.func136, Tryz.ntmps136
    go_wp2_with (first | (go_at_call 78; refine (packageOk_c _ _ (by omega) hG).mono ?_; rintro _ _ ⟨rfl, hX⟩) | (go_at_call 132; refine (ValidPart_c _ _ (by omega)).mono ?_; rintro _ _ ⟨rfl, rfl⟩))
    go_ret
    exact ⟨by simp [childOf, h1, h2], hX⟩
  cases he : p.isEmpty
  · cases h3 : nameB (p ++ 46 :: s)
    all_goals
      go_enter Tryz.func136, Tryz.ntmps136
      go_wp2_with (first | (go_at_call 78; refine (packageOk_c _ _ (by omega) hG).mono ?_; rintro _ _ ⟨rfl, hX⟩; replace hG := hG.mono hX) | (go_at_call 132; refine (ValidPart_c _ _ (by omega)).mono ?_; rintro _ _ ⟨rfl, rfl⟩) | (go_at_call 77; refine (ValidName_c _ _ (by simp; omega) hG).mono ?_; rintro _ _ ⟨rfl, hX2⟩))
      go_ret
      exact ⟨by simp [childOf, childL, h1, h2, h3, he], hX.trans hX2⟩
  · cases h3 : nameB s
    all_goals
      go_enter Tryz.func136, Tryz.ntmps136
      go_wp2_with (first | (go_at_call 78; refine (packageOk_c _ _ (by omega) hG).mono ?_; rintro _ _ ⟨rfl, hX⟩; replace hG := hG.mono hX) | (go_at_call 132; refine (ValidPart_c _ _ (by omega)).mono ?_; rintro _ _ ⟨rfl, rfl⟩) | (go_at_call 77; refine (ValidName_c _ _ (by omega) hG).mono ?_; rintro _ _ ⟨rfl, hX2⟩))
      go_ret
      exact ⟨by simp [childOf, childL, h1, h2, h3, he], hX.trans hX2⟩

end Go.Proofs.YtgjfjjhmgbemcaaGreatDoor

namespace Go.Proofs.YtgjfjjhmgbemcaaGreatDoor
open Go.RowKit

def stB (s : St) : Bool :=
  if s.kind = 0 ∨ s.kind = 2 then nameB s.mod && s.level == 0 && s.name.isEmpty && s.val == 0
  else if s.kind = 1 then pkgB s.mod && rangeB s.level 0 3 && (!s.mod.isEmpty || decide (0 < s.level)) && partB s.name && s.val == 0
  else if s.kind = 3 then s.mod.isEmpty && s.level == 0 && partB s.name && rangeB s.val 0 99
  else if s.kind = 4 then s.mod.isEmpty && s.level == 0 && partB s.name && s.val == 0
  else if s.kind = 5 then s.mod.isEmpty && s.level == 0 && s.name.isEmpty && s.val == 0
  else false
theorem nameB_nil : nameB [] = false := by decide
theorem pkgB_nil : pkgB [] = true := rfl

set_option maxHeartbeats 1000000 in
theorem validStmt_c (s : St) (w : World) (hs : Oks s) : Calls Tryz.prog 160 #[.agg #[.int .i64 (s).kind, .string ⟨(s).mod.toArray⟩, .int .i64 (s).level, .string ⟨(s).name.toArray⟩, .int .i64 (s).val]] w fun e w' => e = .returned (.bool (stB s)) ∧ X w w' := by
  obtain ⟨kind, mod, level, name, val⟩ := s
  obtain ⟨h1, h2⟩ : mod.length ≤ 1048576 ∧ name.length ≤ 1048576 := hs
  by_cases k0 : kind = 0
  · subst k0
    go_enter Tryz.func160, Tryz.ntmps160
    go_wp2_with (go_at_call 116; refine (validName_c _ _ (by omega)).mono ?_; rintro _ _ ⟨rfl, ⟨x, rfl⟩⟩)
    all_goals go_ret
    all_goals refine ⟨ret_bool ?_, by (repeat (first | exact X.refl _ | assumption | refine X.ext ?_ _ | refine X.alloc ?_ _ | refine X.drew ?_))⟩
    all_goals simp [stB, *]
  by_cases k2 : kind = 2
  · subst k2
    clear k0
    go_enter Tryz.func160, Tryz.ntmps160
    go_wp2_with (go_at_call 116; refine (validName_c _ _ (by omega)).mono ?_; rintro _ _ ⟨rfl, ⟨x, rfl⟩⟩)
    all_goals go_ret
    all_goals refine ⟨ret_bool ?_, by (repeat (first | exact X.refl _ | assumption | refine X.ext ?_ _ | refine X.alloc ?_ _ | refine X.drew ?_))⟩
    all_goals simp [stB, *]
  by_cases k1 : kind = 1
  · subst k1
    clear k0 k2
    go_enter Tryz.func160, Tryz.ntmps160
    go_wp2_with (first | (go_at_call 149; refine (validPackage_c _ _ (by omega)).mono ?_; rintro _ _ ⟨rfl, ⟨x, rfl⟩⟩) | (go_at_call 158; refine (validPart_c _ _ (by omega)).mono ?_; rintro _ _ ⟨rfl, rfl⟩) | (go_at_call 40; refine (inRange_c _ _ _ _).mono ?_; rintro _ _ ⟨rfl, rfl⟩))
    all_goals go_ret
    all_goals refine ⟨ret_bool ?_, by (repeat (first | exact X.refl _ | assumption | refine X.ext ?_ _ | refine X.alloc ?_ _ | refine X.drew ?_))⟩
    all_goals simp [stB, pkgB_nil, *]
    all_goals omega
  by_cases k3 : kind = 3
  · subst k3
    clear k0 k1 k2
    go_enter Tryz.func160, Tryz.ntmps160
    go_wp2_with (first | (go_at_call 158; refine (validPart_c _ _ (by omega)).mono ?_; rintro _ _ ⟨rfl, rfl⟩) | (go_at_call 40; refine (inRange_c _ _ _ _).mono ?_; rintro _ _ ⟨rfl, rfl⟩))
    all_goals go_ret
    all_goals refine ⟨ret_bool ?_, by (repeat (first | exact X.refl _ | assumption | refine X.ext ?_ _ | refine X.alloc ?_ _ | refine X.drew ?_))⟩
    all_goals simp [stB, *]
  by_cases k4 : kind = 4
  · subst k4
    clear k0 k1 k2 k3
    go_enter Tryz.func160, Tryz.ntmps160
    go_wp2_with (first | (go_at_call 158; refine (validPart_c _ _ (by omega)).mono ?_; rintro _ _ ⟨rfl, rfl⟩) | (go_at_call 40; refine (inRange_c _ _ _ _).mono ?_; rintro _ _ ⟨rfl, rfl⟩))
    all_goals go_ret
    all_goals refine ⟨ret_bool ?_, by (repeat (first | exact X.refl _ | assumption | refine X.ext ?_ _ | refine X.alloc ?_ _ | refine X.drew ?_))⟩
    all_goals simp [stB, *]
  by_cases k5 : kind = 5
  · subst k5
    clear k0 k1 k2 k3 k4
    go_enter Tryz.func160, Tryz.ntmps160
    go_wp2
    all_goals go_ret
    all_goals refine ⟨ret_bool ?_, by (repeat (first | exact X.refl _ | assumption | refine X.ext ?_ _ | refine X.alloc ?_ _ | refine X.drew ?_))⟩
    all_goals simp [stB, *]
  · have e0 := beq_eq_false_iff_ne.2 k0
    have e1 := beq_eq_false_iff_ne.2 k1
    have e2 := beq_eq_false_iff_ne.2 k2
    have e3 := beq_eq_false_iff_ne.2 k3
    have e4 := beq_eq_false_iff_ne.2 k4
    have e5 := beq_eq_false_iff_ne.2 k5
    go_enter Tryz.func160, Tryz.ntmps160
    go_wp2
    all_goals go_ret
    all_goals refine ⟨ret_bool ?_, by (repeat (first | exact X.refl _ | assumption | refine X.ext ?_ _ | refine X.alloc ?_ _ | refine X.drew ?_))⟩
    all_goals simp [stB, *]


set_option maxHeartbeats 1000000 in
theorem stmtOk_c (s : St) (w : World) (hs : Oks s) (hG : Gm w) : Calls Tryz.prog 137 #[.agg #[.int .i64 (s).kind, .string ⟨(s).mod.toArray⟩, .int .i64 (s).level, .string ⟨(s).name.toArray⟩, .int .i64 (s).val]] w fun e w' => e = .returned (.bool (stB s)) ∧ X w w' := by
  obtain ⟨kind, mod, level, name, val⟩ := s
  obtain ⟨h1, h2⟩ : mod.length ≤ 1048576 ∧ name.length ≤ 1048576 := hs
  by_cases k0 : kind = 0
  · subst k0
    go_enter Tryz.func137, Tryz.ntmps137
    go_wp2_with (go_at_call 77; refine (ValidName_c _ _ (by omega) (hG.mono (by (repeat (first | exact X.refl _ | assumption | refine X.ext ?_ _ | refine X.alloc ?_ _ | refine X.drew ?_))))).mono ?_; rintro _ _ ⟨rfl, ⟨x, rfl⟩⟩)
    all_goals go_ret
    all_goals refine ⟨ret_bool ?_, by (repeat (first | exact X.refl _ | assumption | refine X.ext ?_ _ | refine X.alloc ?_ _ | refine X.drew ?_))⟩
    all_goals simp [stB, *]
  by_cases k2 : kind = 2
  · subst k2
    clear k0
    go_enter Tryz.func137, Tryz.ntmps137
    go_wp2_with (first | (go_at_call 132; refine (ValidPart_c _ _ (by omega)).mono ?_; rintro _ _ ⟨rfl, rfl⟩) | (go_at_call 80; refine (within_c _ _ _ _).mono ?_; rintro _ _ ⟨rfl, rfl⟩) | (go_at_call 77; refine (ValidName_c _ _ (by omega) (hG.mono (by (repeat (first | exact X.refl _ | assumption | refine X.ext ?_ _ | refine X.alloc ?_ _ | refine X.drew ?_))))).mono ?_; rintro _ _ ⟨rfl, ⟨x, rfl⟩⟩))
    all_goals go_ret
    all_goals refine ⟨ret_bool ?_, by (repeat (first | exact X.refl _ | assumption | refine X.ext ?_ _ | refine X.alloc ?_ _ | refine X.drew ?_))⟩
    all_goals simp [stB, *]
  by_cases k1 : kind = 1
  · subst k1
    clear k0 k2
    have hp : pkgB mod = (nameB mod || mod.isEmpty) := Bool.or_comm _ _
    have Hp := Lib.hid hp
    clear hp
    go_enter Tryz.func137, Tryz.ntmps137
    go_wp2_with (first | (go_at_call 132; refine (ValidPart_c _ _ (by omega)).mono ?_; rintro _ _ ⟨rfl, rfl⟩) | (go_at_call 80; refine (within_c _ _ _ _).mono ?_; rintro _ _ ⟨rfl, rfl⟩) | (go_at_call 77; refine (ValidName_c _ _ (by omega) (hG.mono (by (repeat (first | exact X.refl _ | assumption | refine X.ext ?_ _ | refine X.alloc ?_ _ | refine X.drew ?_))))).mono ?_; rintro _ _ ⟨rfl, ⟨x, rfl⟩⟩))
    all_goals go_ret
    all_goals refine ⟨ret_bool ?_, by (repeat (first | exact X.refl _ | assumption | refine X.ext ?_ _ | refine X.alloc ?_ _ | refine X.drew ?_))⟩
    all_goals simp [stB, Hp.out, pkgB_nil, *]
    all_goals first
      | (refine Or.inl (fun h => ?_); have h3 : nameB mod = true := by assumption
         rw [h, nameB_nil] at h3; exact absurd h3 Bool.false_ne_true)
      | omega
  by_cases k3 : kind = 3
  · subst k3
    clear k0 k1 k2
    go_enter Tryz.func137, Tryz.ntmps137
    go_wp2
    go_region
    go_wp2_with (first | (go_at_call 132; refine (ValidPart_c _ _ (by omega)).mono ?_; rintro _ _ ⟨rfl, rfl⟩) | (go_at_call 80; refine (within_c _ _ _ _).mono ?_; rintro _ _ ⟨rfl, rfl⟩) | (go_at_call 77; refine (ValidName_c _ _ (by omega) (hG.mono (by (repeat (first | exact X.refl _ | assumption | refine X.ext ?_ _ | refine X.alloc ?_ _ | refine X.drew ?_))))).mono ?_; rintro _ _ ⟨rfl, ⟨x, rfl⟩⟩))
    all_goals go_ret
    all_goals refine ⟨ret_bool ?_, by (repeat (first | exact X.refl _ | assumption | refine X.ext ?_ _ | refine X.alloc ?_ _ | refine X.drew ?_))⟩
    all_goals simp [stB, *]
  by_cases k4 : kind = 4
  · subst k4
    clear k0 k1 k2 k3
    go_enter Tryz.func137, Tryz.ntmps137
    go_wp2_with (first | (go_at_call 132; refine (ValidPart_c _ _ (by omega)).mono ?_; rintro _ _ ⟨rfl, rfl⟩) | (go_at_call 80; refine (within_c _ _ _ _).mono ?_; rintro _ _ ⟨rfl, rfl⟩) | (go_at_call 77; refine (ValidName_c _ _ (by omega) (hG.mono (by (repeat (first | exact X.refl _ | assumption | refine X.ext ?_ _ | refine X.alloc ?_ _ | refine X.drew ?_))))).mono ?_; rintro _ _ ⟨rfl, ⟨x, rfl⟩⟩))
    all_goals go_ret
    all_goals refine ⟨ret_bool ?_, by (repeat (first | exact X.refl _ | assumption | refine X.ext ?_ _ | refine X.alloc ?_ _ | refine X.drew ?_))⟩
    all_goals simp [stB, *]
  by_cases k5 : kind = 5
  · subst k5
    clear k0 k1 k2 k3 k4
    go_enter Tryz.func137, Tryz.ntmps137
    go_wp2
    all_goals go_ret
    all_goals refine ⟨ret_bool ?_, by (repeat (first | exact X.refl _ | assumption | refine X.ext ?_ _ | refine X.alloc ?_ _ | refine X.drew ?_))⟩
    all_goals simp [stB, *]
  · have e0 := beq_eq_false_iff_ne.2 k0
    have e1 := beq_eq_false_iff_ne.2 k1
    have e2 := beq_eq_false_iff_ne.2 k2
    have e3 := beq_eq_false_iff_ne.2 k3
    have e4 := beq_eq_false_iff_ne.2 k4
    have e5 := beq_eq_false_iff_ne.2 k5
    go_enter Tryz.func137, Tryz.ntmps137
    go_wp2
    all_goals go_ret
    all_goals refine ⟨ret_bool ?_, by (repeat (first | exact X.refl _ | assumption | refine X.ext ?_ _ | refine X.alloc ?_ _ | refine X.drew ?_))⟩
    all_goals simp [stB, *]

def bodyB (l : List St) : Bool := allN (fun k => stB (nth l k)) l.length && decide (l.length ≤ 8)
set_option maxHeartbeats 400000 in
theorem validBody_c (l : List St) (a : Option Addr) (n c B : Nat) (w : World) (hS : StmtsAt w B a n l) : Calls Tryz.prog 115 #[.slice a n c] w fun e w' => e = .returned (.bool (bodyB l)) ∧ X w w' := by
  have hn := hS.2.1
  go_enter Tryz.func115, Tryz.ntmps115
  go_wp2
  go_loopw [3] (fun i wr => ∃ k : Nat, k ≤ n ∧ i = .int .i64 k ∧ allN (fun k => stB (nth l k)) k = true ∧ ∃ x, wr = World.ext w x) (fun i _ => n - (intOf i).toNat)
  case atStart => exact ⟨0, by omega, rfl, rfl, X.refl _⟩
  case round =>
    obtain ⟨k, hk, rfl, hall, x, rfl⟩ := hrel
    by_cases hlt : k < n
    · obtain ⟨b, off, rfl, _, hb, hok, h0, h1, h2, h3, h4⟩ := hS.at_ hlt
      cases hv : stB (nth l k)
      all_goals
        go_wp2_with (go_at_call 160; refine (validStmt_c _ _ hok).mono ?_; rintro _ _ ⟨rfl, hx⟩; obtain ⟨y, rfl⟩ := hx.of_ext)
      · go_ret
        exact ⟨ret_bool (by rw [bodyB, allN_not hv (by have := hS.1; omega), Bool.false_and]), by (repeat (first | exact X.refl _ | assumption | refine X.ext ?_ _ | refine X.alloc ?_ _ | refine X.drew ?_))⟩
      · go_roundw
        case rel => exact ⟨k + 1, by omega, by go_num, allN_next hall hv, _, rfl⟩
        case measure => simp [intOf]; omega
    · obtain rfl : k = n := by omega
      go_wp2
      go_ret
      exact ⟨ret_bool (by rw [bodyB, ← hS.1, hall, Bool.true_and]; exact decide_eq_decide.2 (by omega)), by (repeat (first | exact X.refl _ | assumption | refine X.ext ?_ _ | refine X.alloc ?_ _ | refine X.drew ?_))⟩
set_option maxHeartbeats 400000 in
theorem ValidBody_c (l : List St) (a : Option Addr) (n c B : Nat) (w : World) (hS : StmtsAt w B a n l) (hG : Gm w) : Calls Tryz.prog 85 #[.slice a n c] w fun e w' => e = .returned (.bool (bodyB l)) ∧ X w w' := by
  have hn := hS.2.1
  go_enter Tryz.func85, Tryz.ntmps85
  go_wp2
  go_loopw [7] (fun i wr => ∃ k : Nat, k ≤ n ∧ i = .int .i64 k ∧ allN (fun k => stB (nth l k)) k = true ∧ ∃ x, wr = World.ext w x) (fun i _ => n - (intOf i).toNat)
  case atStart => exact ⟨0, by omega, rfl, rfl, X.refl _⟩
  case round =>
    obtain ⟨k, hk, rfl, hall, x, rfl⟩ := hrel
    by_cases hlt : k < n
    · obtain ⟨b, off, rfl, _, hb, hok, h0, h1, h2, h3, h4⟩ := hS.at_ hlt
      cases hv : stB (nth l k)
      all_goals
        go_wp2_with (go_at_call 137; refine (stmtOk_c _ _ hok (hG.mono (by (repeat (first | exact X.refl _ | assumption | refine X.ext ?_ _ | refine X.alloc ?_ _ | refine X.drew ?_))))).mono ?_; rintro _ _ ⟨rfl, y, rfl⟩)
      · go_ret
        exact ⟨ret_bool (by rw [bodyB, allN_not hv (by have := hS.1; omega), Bool.false_and]), by (repeat (first | exact X.refl _ | assumption | refine X.ext ?_ _ | refine X.alloc ?_ _ | refine X.drew ?_))⟩
      · go_outline
        go_roundw
        case rel => exact ⟨k + 1, by omega, by go_num, allN_next hall hv, (by (repeat (first | exact X.refl _ | assumption | refine X.ext ?_ _ | refine X.alloc ?_ _ | refine X.drew ?_)))⟩
        case measure => simp [intOf]; omega
    · obtain rfl : k = n := by omega
      go_wp2
      go_ret
      exact ⟨ret_bool (by rw [bodyB, ← hS.1, hall, Bool.true_and]; exact decide_eq_decide.2 (by omega)), by (repeat (first | exact X.refl _ | assumption | refine X.ext ?_ _ | refine X.alloc ?_ _ | refine X.drew ?_))⟩

end Go.Proofs.YtgjfjjhmgbemcaaGreatDoor

namespace Go.Proofs.YtgjfjjhmgbemcaaGreatDoor
open Go.RowKit

def sameP (f g : Fi) : Bool := f.root == g.root && f.pkg == g.pkg && f.init == g.init && f.name == g.name
theorem sameP_iff {f g : Fi} : sameP f g = true ↔ f.root = g.root ∧ f.pkg = g.pkg ∧ f.init = g.init ∧ f.name = g.name := by simp [sameP, and_assoc]
theorem sameP_comm (f g : Fi) : sameP f g = sameP g f := by
  rw [Bool.eq_iff_iff, sameP_iff, sameP_iff]
  constructor <;> (rintro ⟨h1, h2, h3, h4⟩; exact ⟨h1.symm, h2.symm, h3.symm, h4.symm⟩)
theorem sameP_refl (f : Fi) : sameP f f = true := by simp [sameP]
def fidx (l : List Fi) (f : Fi) : Int := firstN (fun k => sameP (nth l k) f) l.length
def fileB (f : Fi) : Bool := rangeB f.root 0 2 && pkgB f.pkg && rangeB f.stamp 0 99 && bodyB f.body && (if f.init then !f.pkg.isEmpty && f.name.isEmpty else partB f.name && nameB (childL f.pkg f.name))
theorem nameB_ne {s : List UInt8} (h : nameB s = true) : s.isEmpty = false := by
  cases s with
  | nil => rw [nameB_nil] at h; cases h
  | cons a s => rfl

set_option maxHeartbeats 400000 in
theorem sameFile_c (f g : Fi) (bf bg : Value) (w : World) : Calls Tryz.prog 183 #[.agg #[.int .i64 (f).root, .string ⟨(f).pkg.toArray⟩, .string ⟨(f).name.toArray⟩, .bool (f).init, .int .i64 (f).stamp, bf], .agg #[.int .i64 (g).root, .string ⟨(g).pkg.toArray⟩, .string ⟨(g).name.toArray⟩, .bool (g).init, .int .i64 (g).stamp, bg]] w fun e w' => e = .returned (.bool (sameP f g)) ∧ X w w' := by
  go_enter Tryz.func183, Tryz.ntmps183
  go_wp2
  all_goals go_ret
  all_goals refine ⟨ret_bool ?_, by (repeat (first | exact X.refl _ | assumption | refine X.ext ?_ _ | refine X.alloc ?_ _ | refine X.drew ?_))⟩
  all_goals simp [sameP, *]
set_option maxHeartbeats 400000 in
theorem samePlace_c (f g : Fi) (bf bg : Value) (w : World) : Calls Tryz.prog 126 #[.agg #[.int .i64 (f).root, .string ⟨(f).pkg.toArray⟩, .string ⟨(f).name.toArray⟩, .bool (f).init, .int .i64 (f).stamp, bf], .agg #[.int .i64 (g).root, .string ⟨(g).pkg.toArray⟩, .string ⟨(g).name.toArray⟩, .bool (g).init, .int .i64 (g).stamp, bg]] w fun e w' => e = .returned (.bool (sameP f g)) ∧ X w w' := by
  go_enter Tryz.func126, Tryz.ntmps126
  go_wp2
  all_goals go_ret
  all_goals refine ⟨ret_bool ?_, by (repeat (first | exact X.refl _ | assumption | refine X.ext ?_ _ | refine X.alloc ?_ _ | refine X.drew ?_))⟩
  all_goals simp [sameP, *]

set_option maxHeartbeats 400000 in
theorem fileAt_c (l : List Fi) (a : Option Addr) (n c B : Nat) (f : Fi) (bf : Value) (w : World) (hF : FilesAt w B a n l) :
    Calls Tryz.prog 148 #[.agg #[.slice a n c], .agg #[.int .i64 (f).root, .string ⟨(f).pkg.toArray⟩, .string ⟨(f).name.toArray⟩, .bool (f).init, .int .i64 (f).stamp, bf]] w fun e w' => e = .returned (.int .i64 (fidx l f)) ∧ X w w' := by
  obtain ⟨hl, hn⟩ := hF.len
  have Hl := Lib.hid hl
  clear hl
  go_enter Tryz.func148, Tryz.ntmps148
  go_wp2
  refine wp_name (fun W hW => ?_)
  obtain ⟨⟨hb0, hc0⟩, ⟨hb1, hc1⟩, hX⟩ := boxes2 hW
  clear hW
  replace hF := hF.mono (hX.fr _)
  go_loopw [5] (fun i wr => ∃ k : Nat, k ≤ n ∧ i = .int .i64 k ∧ anyN (fun k => sameP (nth l k) f) k = false ∧ ∃ x, wr = World.ext W x) (fun i _ => n - (intOf i).toNat)
  case atStart => exact ⟨0, by omega, rfl, rfl, X.refl _⟩
  case round =>
    obtain ⟨k, hk, rfl, hno, x, rfl⟩ := hrel
    by_cases hlt : k < n
    · obtain ⟨b, off, ba, bn, bc, rfl, _, hb, _, _, _, h0, h1, h2, h3, h4, h5⟩ := hF.at_ hlt
      go_wp2
      refine wp_region_grow (by kernel_rfl) (by kernel_rfl) ?_
      repeat (go_big_quiet_step ((go_at_call 183; refine grow_of (sameFile_c _ _ _ _ _))))
      refine wpQuiet_nil ?_
      rintro _ ⟨y, rfl⟩
      go_wp2
      · have hs : sameP (nth l k) f = true := by assumption
        go_ret
        exact ⟨ret_int (by rw [fidx, ← Hl.out, firstN_some hno hs hlt]), hX.ext _⟩
      · have hs : sameP (nth l k) f = false := by assumption
        go_roundw
        case rel => exact ⟨k + 1, by omega, by go_num, anyN_next hno hs, _, rfl⟩
        case measure => simp [intOf]; omega
    · obtain rfl : k = n := by omega
      go_wp2
      go_ret
      exact ⟨ret_int (by rw [fidx, ← Hl.out, firstN_none hno]), hX.ext _⟩
set_option maxHeartbeats 400000 in
theorem fileAt_i (l : List Fi) (a : Option Addr) (n c B : Nat) (f : Fi) (bf : Value) (w : World) (hF : FilesAt w B a n l) :
    Calls Tryz.prog 203 #[.agg #[.slice a n c], .agg #[.int .i64 (f).root, .string ⟨(f).pkg.toArray⟩, .string ⟨(f).name.toArray⟩, .bool (f).init, .int .i64 (f).stamp, bf]] w fun e w' => e = .returned (.int .i64 (fidx l f)) ∧ X w w' := by
  obtain ⟨hl, hn⟩ := hF.len
  have Hl := Lib.hid hl
  clear hl
  go_enter Tryz.func203, Tryz.ntmps203
  go_wp2
  refine wp_name (fun W hW => ?_)
  obtain ⟨⟨hb0, hc0⟩, ⟨hb1, hc1⟩, hX⟩ := boxes2 hW
  clear hW
  replace hF := hF.mono (hX.fr _)
  go_loopw [10] (fun i wr => ∃ k : Nat, k ≤ n ∧ i = .int .i64 k ∧ anyN (fun k => sameP (nth l k) f) k = false ∧ ∃ x, wr = World.ext W x) (fun i _ => n - (intOf i).toNat)
  case atStart => exact ⟨0, by omega, rfl, rfl, X.refl _⟩
  case round =>
    obtain ⟨k, hk, rfl, hno, x, rfl⟩ := hrel
    by_cases hlt : k < n
    · obtain ⟨b, off, ba, bn, bc, rfl, _, hb, _, _, _, h0, h1, h2, h3, h4, h5⟩ := hF.at_ hlt
      go_wp2_with (go_at_call 126; refine (samePlace_c _ _ _ _ _).mono ?_; rintro _ _ ⟨rfl, y, rfl⟩)
      · have hs : sameP f (nth l k) = true := by assumption
        rw [sameP_comm] at hs
        go_ret
        exact ⟨ret_int (by rw [fidx, ← Hl.out, firstN_some hno hs hlt]), by (repeat (first | exact X.refl _ | assumption | refine X.ext ?_ _ | refine X.alloc ?_ _ | refine X.drew ?_))⟩
      · have hs : sameP f (nth l k) = false := by assumption
        rw [sameP_comm] at hs
        go_roundw
        case rel => exact ⟨k + 1, by omega, by go_num, anyN_next hno hs, (by (repeat (first | exact X.refl _ | assumption | refine X.ext ?_ _ | refine X.alloc ?_ _ | refine X.drew ?_)))⟩
        case measure => simp [intOf]; omega
    · obtain rfl : k = n := by omega
      go_wp2
      go_ret
      exact ⟨ret_int (by rw [fidx, ← Hl.out, firstN_none hno]), hX.ext _⟩


theorem childOf_ne {p s : List UInt8} : (childOf p s).isEmpty = !(pkgB p && partB s && nameB (childL p s)) := by
  unfold childOf
  cases h : (pkgB p && partB s && nameB (childL p s))
  · simp
  · simp only [if_true, Bool.not_true]
    simp only [Bool.and_eq_true] at h
    exact nameB_ne h.2
set_option maxHeartbeats 1000000 in
theorem validFile_c (f : Fi) (ba : Option Addr) (bn bc B : Nat) (w : World) (hf : Okf f) (hS : StmtsAt w B ba bn f.body) : Calls Tryz.prog 114 #[.agg #[.int .i64 (f).root, .string ⟨(f).pkg.toArray⟩, .string ⟨(f).name.toArray⟩, .bool (f).init, .int .i64 (f).stamp, .slice ba bn bc]] w fun e w' => e = .returned (.bool (fileB f)) ∧ X w w' := by
  obtain ⟨root, pkg, name, init, stamp, body⟩ := f
  obtain ⟨h1, h2⟩ : pkg.length ≤ 1048576 ∧ name.length ≤ 1048576 := hf
  have hl := childL_length pkg name h1 h2
  cases hbd : bodyB body
  all_goals go_enter Tryz.func114, Tryz.ntmps114
  all_goals go_wp2_with (first | (go_at_call 40; refine (inRange_c _ _ _ _).mono ?_; rintro _ _ ⟨rfl, rfl⟩) | (go_at_call 149; refine (validPackage_c _ _ (by omega)).mono ?_; rintro _ _ ⟨rfl, hx⟩; first | obtain ⟨x, rfl⟩ := hx.of_ext | obtain ⟨x, rfl⟩ := hx) | (go_at_call 115; refine (validBody_c _ _ _ _ _ _ (hS.mono (X.fr (by (repeat (first | exact X.refl _ | assumption | refine X.ext ?_ _ | refine X.alloc ?_ _ | refine X.drew ?_))) _))).mono ?_; rintro _ _ ⟨rfl, hx⟩; first | obtain ⟨x, rfl⟩ := hx.of_ext | obtain ⟨x, rfl⟩ := hx) | (go_at_call 158; refine (validPart_c _ _ (by omega)).mono ?_; rintro _ _ ⟨rfl, rfl⟩) | (go_at_call 159; refine (child_c _ _ _ h1 h2).mono ?_; rintro _ _ ⟨rfl, rfl⟩) | (go_at_call 116; refine (validName_c _ _ hl).mono ?_; rintro _ _ ⟨rfl, hx⟩; first | obtain ⟨x, rfl⟩ := hx.of_ext | obtain ⟨x, rfl⟩ := hx))
  all_goals go_ret
  all_goals refine ⟨ret_bool ?_, by (repeat (first | exact X.refl _ | assumption | refine X.ext ?_ _ | refine X.alloc ?_ _ | refine X.drew ?_))⟩
  all_goals simp [fileB, *]
set_option maxHeartbeats 1000000 in
theorem fileOk_c (f : Fi) (ba : Option Addr) (bn bc B : Nat) (w : World) (hf : Okf f) (hS : StmtsAt w B ba bn f.body) (hG : Gm w) : Calls Tryz.prog 84 #[.agg #[.int .i64 (f).root, .string ⟨(f).pkg.toArray⟩, .string ⟨(f).name.toArray⟩, .bool (f).init, .int .i64 (f).stamp, .slice ba bn bc]] w fun e w' => e = .returned (.bool (fileB f)) ∧ X w w' := by
  obtain ⟨root, pkg, name, init, stamp, body⟩ := f
  have hch := childOf_ne (p := pkg) (s := name)
  obtain ⟨h1, h2⟩ : pkg.length ≤ 1048576 ∧ name.length ≤ 1048576 := hf
  have Hch := Lib.hid hch
  clear hch
  cases hbd : bodyB body
  all_goals go_enter Tryz.func84, Tryz.ntmps84
  all_goals go_wp2_with (first | (go_at_call 80; refine (within_c _ _ _ _).mono ?_; rintro _ _ ⟨rfl, rfl⟩) | (go_at_call 78; refine (packageOk_c _ _ (by omega) (hG.mono (by (repeat (first | exact X.refl _ | assumption | refine X.ext ?_ _ | refine X.alloc ?_ _ | refine X.drew ?_))))).mono ?_; rintro _ _ ⟨rfl, hx⟩; first | obtain ⟨x, rfl⟩ := hx.of_ext | obtain ⟨x, rfl⟩ := hx) | (go_at_call 85; refine (ValidBody_c _ _ _ _ _ _ (hS.mono (X.fr (by (repeat (first | exact X.refl _ | assumption | refine X.ext ?_ _ | refine X.alloc ?_ _ | refine X.drew ?_))) _)) (hG.mono (by (repeat (first | exact X.refl _ | assumption | refine X.ext ?_ _ | refine X.alloc ?_ _ | refine X.drew ?_))))).mono ?_; rintro _ _ ⟨rfl, hx⟩; first | obtain ⟨x, rfl⟩ := hx.of_ext | obtain ⟨x, rfl⟩ := hx) | (go_at_call 132; refine (ValidPart_c _ _ (by omega)).mono ?_; rintro _ _ ⟨rfl, rfl⟩) | (go_at_call 136; refine (ChildOf_c _ _ _ h1 h2 (hG.mono (by (repeat (first | exact X.refl _ | assumption | refine X.ext ?_ _ | refine X.alloc ?_ _ | refine X.drew ?_))))).mono ?_; rintro _ _ ⟨rfl, hx⟩; first | obtain ⟨x, rfl⟩ := hx.of_ext | obtain ⟨x, rfl⟩ := hx))
  all_goals go_ret
  all_goals refine ⟨ret_bool ?_, by (repeat (first | exact X.refl _ | assumption | refine X.ext ?_ _ | refine X.alloc ?_ _ | refine X.drew ?_))⟩
  all_goals first
    | (simp [fileB, *]; done)
    | (have h3 := Hch.out
       cases h4 : (pkgB pkg && partB name && nameB (childL pkg name))
       all_goals simp [fileB, *] at h3 ⊢)

def treeB (l : List Fi) : Bool := allN (fun k => fileB (nth l k) && !anyN (fun j => sameP (nth l j) (nth l k)) k) l.length && decide (l.length ≤ 12)
theorem fidx_lt {l : List Fi} {k : Nat} (hk : k < l.length) : decide (fidx l (nth l k) < (k : Int)) = anyN (fun j => sameP (nth l j) (nth l k)) k := by
  have hs : sameP (nth l k) (nth l k) = true := sameP_refl _
  cases h : anyN (fun j => sameP (nth l j) (nth l k)) k
  · have : fidx l (nth l k) = k := firstN_some (p := fun j => sameP (nth l j) (nth l k)) h hs hk
    rw [this]; simp
  · have h2 : fidx l (nth l k) < k := by
      rcases firstN_cases (fun j => sameP (nth l j) (nth l k)) l.length with ⟨h1, h2⟩ | ⟨j, hj, h1, h2, h3⟩
      · rw [show fidx l (nth l k) = -1 from h2]; omega
      · rw [show fidx l (nth l k) = j from h3]
        obtain ⟨i, hi, hp⟩ := anyN_iff.1 h
        rcases Nat.lt_or_ge j k with h4 | h4
        · omega
        · have := anyN_false.1 h2 i (by omega)
          rw [hp] at this; cases this
    simp [h2]
set_option maxHeartbeats 1000000 in
theorem validTree_c (l : List Fi) (a : Option Addr) (n c B : Nat) (w : World) (hF : FilesAt w B a n l) : Calls Tryz.prog 93 #[.agg #[.slice a n c]] w fun e w' => e = .returned (.bool (treeB l)) ∧ X w w' := by
  obtain ⟨hl, hn⟩ := hF.len
  have Hl := Lib.hid hl
  clear hl
  go_enter Tryz.func93, Tryz.ntmps93
  go_wp2
  refine wp_name (fun W hW => ?_)
  obtain ⟨⟨hb0, hc0⟩, hX⟩ := boxes1 hW
  clear hW
  replace hF := hF.mono (hX.fr _)
  go_loopw [3] (fun i wr => ∃ k : Nat, k ≤ n ∧ i = .int .i64 k ∧ allN (fun k => fileB (nth l k) && !anyN (fun j => sameP (nth l j) (nth l k)) k) k = true ∧ ∃ x, wr = World.ext W x) (fun i _ => n - (intOf i).toNat)
  case atStart => exact ⟨0, by omega, rfl, rfl, X.refl _⟩
  case round =>
    obtain ⟨k, hk, rfl, hall, x, rfl⟩ := hrel
    by_cases hlt : k < n
    · obtain ⟨b, off, ba, bn, bc, rfl, _, hb, hok, _, hS, h0, h1, h2, h3, h4, h5⟩ := hF.at_ hlt
      have hlt2 := fidx_lt (l := l) (k := k) (by have := Hl.out; omega)
      have Hlt2 := Lib.hid hlt2
      clear hlt2
      cases hv : fileB (nth l k)
      · go_wp2
        refine wp_region_grow (by kernel_rfl) (by kernel_rfl) ?_
        repeat (go_big_quiet_step ((go_at_call 114; refine grow_of (validFile_c _ _ _ _ _ _ hok (hS.mono (X.fr (by (repeat (first | exact X.refl _ | assumption | refine X.ext ?_ _ | refine X.alloc ?_ _ | refine X.drew ?_))) _))))))
        refine wpQuiet_nil ?_
        rintro _ ⟨y, rfl⟩
        go_wp2
        go_ret
        exact ⟨ret_bool (by rw [treeB, ← Hl.out, allN_not (k := k) (by simp [hv]) hlt, Bool.false_and]), hX.ext _⟩
      · go_wp2
        refine wp_region_grow (by kernel_rfl) (by kernel_rfl) ?_
        repeat (go_big_quiet_step ((first | (go_at_call 114; refine grow_of (validFile_c _ _ _ _ _ _ hok (hS.mono (X.fr (by (repeat (first | exact X.refl _ | assumption | refine X.ext ?_ _ | refine X.alloc ?_ _ | refine X.drew ?_))) _)))) | (go_at_call 148; refine grow_of (fileAt_c _ _ _ _ _ _ _ _ (hF.mono (X.fr (by (repeat (first | exact X.refl _ | assumption | refine X.ext ?_ _ | refine X.alloc ?_ _ | refine X.drew ?_))) _)))))))
        refine wpQuiet_nil ?_
        rintro _ ⟨y, rfl⟩
        go_wp2
        · have hs : fidx l (nth l k) < (k : Int) := by assumption
          go_ret
          exact ⟨ret_bool (by rw [treeB, ← Hl.out, allN_not (k := k) (by rw [hv, ← Hlt2.out]; simp [hs]) hlt, Bool.false_and]), hX.ext _⟩
        · have hs : (k : Int) ≤ fidx l (nth l k) := by assumption
          have hv2 : (fileB (nth l k) && !anyN (fun j => sameP (nth l j) (nth l k)) k) = true := by rw [hv, ← Hlt2.out]; simp; omega
          go_roundw
          case rel => exact ⟨k + 1, by omega, by go_num, allN_next hall hv2, _, rfl⟩
          case measure => simp [intOf]; omega
    · obtain rfl : k = n := by omega
      go_wp2
      go_ret
      exact ⟨ret_bool (by rw [treeB, ← Hl.out, hall, Bool.true_and]; exact decide_eq_decide.2 (by omega)), by (repeat (first | exact X.refl _ | assumption | refine X.ext ?_ _ | refine X.alloc ?_ _ | refine X.drew ?_))⟩


set_option maxHeartbeats 1000000 in
theorem ValidTree_c (l : List Fi) (a : Option Addr) (n c B : Nat) (w : World) (hF : FilesAt w B a n l) (hc : n ≤ c) (hG : Gm w) : Calls Tryz.prog 74 #[.agg #[.slice a n c]] w fun e w' => e = .returned (.bool (treeB l)) ∧ X w w' := by
  obtain ⟨hl, hn⟩ := hF.len
  have Hl := Lib.hid hl
  clear hl
  go_enter Tryz.func74, Tryz.ntmps74
  go_wp2
  refine wp_name (fun W hW => ?_)
  obtain ⟨⟨hb0, hc0⟩, hX⟩ := boxes1 hW
  clear hW
  replace hF := hF.mono (hX.fr _)
  replace hG := hG.mono hX
  go_loopw [10] (fun i wr => ∃ k : Nat, k ≤ n ∧ i = .int .i64 k ∧ allN (fun k => fileB (nth l k) && !anyN (fun j => sameP (nth l j) (nth l k)) k) k = true ∧ ∃ x, wr = World.ext W x) (fun i _ => n - (intOf i).toNat)
  case atStart => exact ⟨0, by omega, rfl, rfl, X.refl _⟩
  case round =>
    obtain ⟨k, hk, rfl, hall, x, rfl⟩ := hrel
    by_cases hlt : k < n
    · obtain ⟨b, off, ba, bn, bc, rfl, _, hb, hok, _, hS, h0, h1, h2, h3, h4, h5⟩ := hF.at_ hlt
      cases hv : fileB (nth l k)
      · go_wp2_with (go_at_call 84; refine (fileOk_c _ _ _ _ _ _ hok (hS.mono (X.fr (by (repeat (first | exact X.refl _ | assumption | refine X.ext ?_ _ | refine X.alloc ?_ _ | refine X.drew ?_))) _)) (hG.mono (by (repeat (first | exact X.refl _ | assumption | refine X.ext ?_ _ | refine X.alloc ?_ _ | refine X.drew ?_))))).mono ?_; rintro _ _ ⟨rfl, y, rfl⟩)
        go_ret
        exact ⟨ret_bool (by rw [treeB, ← Hl.out, allN_not (k := k) (by simp [hv]) hlt, Bool.false_and]), by (repeat (first | exact X.refl _ | assumption | refine X.ext ?_ _ | refine X.alloc ?_ _ | refine X.drew ?_))⟩
      · go_wp2_with (go_at_call 84; refine (fileOk_c _ _ _ _ _ _ hok (hS.mono (X.fr (by (repeat (first | exact X.refl _ | assumption | refine X.ext ?_ _ | refine X.alloc ?_ _ | refine X.drew ?_))) _)) (hG.mono (by (repeat (first | exact X.refl _ | assumption | refine X.ext ?_ _ | refine X.alloc ?_ _ | refine X.drew ?_))))).mono ?_; rintro _ W2 ⟨rfl, hx2⟩; obtain ⟨⟨hb1, hc1⟩, hX2⟩ := boxes1_X hx2; clear hx2; have hX1 : X W W2 := ((X.refl _).ext _).trans hX2; have hX02 : X w W2 := hX.trans hX1; obtain ⟨hb2, hc2⟩ := Box.mono ⟨hb0, hc0⟩ hX1)
        have hF2 := hF.mono (hX1.fr _)
        go_loopw [23] (fun i wr => ∃ j : Nat, j ≤ k ∧ i = .int .i64 j ∧ anyN (fun j => sameP (nth l j) (nth l k)) j = false ∧ ∃ x, wr = World.ext W2 x) (fun i _ => k - (intOf i).toNat)
        case atStart => exact ⟨0, by omega, rfl, rfl, X.refl _⟩
        case round =>
          obtain ⟨j, hj, rfl, hno, z, rfl⟩ := hrel
          by_cases hlt2 : j < k
          · obtain ⟨b', off', ba', bn', bc', ha', _, hb', _, _, _, g0, g1, g2, g3, g4, g5⟩ := hF2.at_ (k := j) (by omega)
            obtain ⟨rfl, rfl⟩ : b = b' ∧ off = off' := by simpa using ha'
            clear ha'
            go_wp2_with (go_at_call 126; refine (samePlace_c _ _ _ _ _).mono ?_; rintro _ _ ⟨rfl, y, rfl⟩)
            · have hs : sameP (nth l k) (nth l j) = true := by assumption
              rw [sameP_comm] at hs
              go_ret
              exact ⟨ret_bool (by rw [treeB, ← Hl.out, allN_not (k := k) (by rw [anyN_yes (k := j) hs hlt2, Bool.not_true, Bool.and_false]) hlt, Bool.false_and]), by (repeat (first | exact X.refl _ | assumption | refine X.ext ?_ _ | refine X.alloc ?_ _ | refine X.drew ?_))⟩
            · have hs : sameP (nth l k) (nth l j) = false := by assumption
              rw [sameP_comm] at hs
              go_roundw
              case rel => exact ⟨j + 1, by omega, by go_num, anyN_next hno hs, (by (repeat (first | exact X.refl _ | assumption | refine X.ext ?_ _ | refine X.alloc ?_ _ | refine X.drew ?_)))⟩
              case measure => simp [intOf]; omega
          · obtain rfl : j = k := by omega
            go_wp2
            go_roundw
            case rel => exact ⟨j + 1, by omega, by go_num, allN_next hall (by rw [hv, hno]; rfl), (hX1.ext _)⟩
            case measure => simp [intOf]; omega
    · obtain rfl : k = n := by omega
      go_wp2
      go_ret
      exact ⟨ret_bool (by rw [treeB, ← Hl.out, hall, Bool.true_and]; exact decide_eq_decide.2 (by omega)), by (repeat (first | exact X.refl _ | assumption | refine X.ext ?_ _ | refine X.alloc ?_ _ | refine X.drew ?_))⟩


/-! ### Directories -/
def underB (s p : List UInt8) : Bool := p.isEmpty || s == p || (decide (p.length < s.length) && s.take (p.length + 1) == p ++ [46])
def isUnder (s p : List UInt8) : Bool := nameB s && pkgB p && underB s p
def dirS (l : List Fi) (r : Int) (p : List UInt8) : Bool := anyN (fun k => (nth l k).root == r && !(nth l k).pkg.isEmpty && underB (nth l k).pkg p) l.length || p.isEmpty
def dirI (l : List Fi) (r : Int) (p : List UInt8) : Bool := anyN (fun k => (nth l k).root == r && isUnder (nth l k).pkg p) l.length || p.isEmpty
theorem under_prefix (s p : List UInt8) : underB s p = (p.isEmpty || s == p || Lib.hasPrefix s (p ++ [46])) := by
  unfold underB
  congr 1
  rw [Bool.eq_iff_iff]
  simp only [Lib.hasPrefix, Bool.and_eq_true, decide_eq_true_eq, beq_iff_eq, List.isPrefixOf_iff_prefix]
  constructor
  · rintro ⟨h1, h2⟩
    rw [← h2]; exact List.take_prefix _ _
  · rintro ⟨t, rfl⟩
    refine ⟨by simp, ?_⟩
    have h : (p ++ [46]).length = p.length + 1 := by simp
    rw [← h, List.take_left]
theorem underB_nil (s : List UInt8) : underB s [] = true := rfl
theorem underB_self (s : List UInt8) : underB s s = true := by simp [underB]
set_option maxHeartbeats 400000 in
theorem IsUnder_c (s p : List UInt8) (w : World) (hs : s.length ≤ 4194304) (hp : p.length ≤ 4194304) (hG : Gm w) : Calls Tryz.prog 30 #[.string ⟨(s).toArray⟩, .string ⟨(p).toArray⟩] w fun e w' => e = .returned (.bool (isUnder s p)) ∧ X w w' := by
  have Hu := Lib.hid (under_prefix s p)
  cases hv : nameB s <;> cases hq : pkgB p
  all_goals
    go_enter Tryz.func30, Tryz.ntmps30
    go_wp2_with (first | (go_at_call 77; refine (ValidName_c _ _ hs hG).mono ?_; rintro _ _ ⟨rfl, hx⟩; first | obtain ⟨x, rfl⟩ := hx.of_ext | obtain ⟨x, rfl⟩ := hx) | (go_at_call 78; refine (packageOk_c _ _ hp (hG.mono (by (repeat (first | exact X.refl _ | assumption | refine X.ext ?_ _ | refine X.alloc ?_ _ | refine X.drew ?_))))).mono ?_; rintro _ _ ⟨rfl, hx⟩; first | obtain ⟨x, rfl⟩ := hx.of_ext | obtain ⟨x, rfl⟩ := hx) | (go_at_call 79; refine (Tryz.strings_HasPrefix _ _ _).mono ?_; rintro _ _ ⟨rfl, rfl⟩))
    all_goals go_ret
    all_goals refine ⟨ret_bool ?_, by (repeat (first | exact X.refl _ | assumption | refine X.ext ?_ _ | refine X.alloc ?_ _ | refine X.drew ?_))⟩
    all_goals first
      | (simp [isUnder, Hu.out, *]; done)
      | (subst_vars; simp [isUnder, underB_nil, underB_self, hv, hq]; done)
set_option maxHeartbeats 400000 in
theorem hasDir_i (l : List Fi) (a : Option Addr) (n c B : Nat) (r : Int) (p : List UInt8) (w : World) (hF : FilesAt w B a n l) (hp : p.length ≤ 4194304) (hG : Gm w) :
    Calls Tryz.prog 204 #[.agg #[.slice a n c], .int .i64 r, .string ⟨(p).toArray⟩] w fun e w' => e = .returned (.bool (dirI l r p)) ∧ X w w' := by
  obtain ⟨hl, hn⟩ := hF.len
  have Hl := Lib.hid hl
  clear hl
  go_enter Tryz.func204, Tryz.ntmps204
  go_wp2
  refine wp_name (fun W hW => ?_)
  obtain ⟨⟨hb0, hc0⟩, hX⟩ := boxes1 hW
  clear hW
  replace hF := hF.mono (hX.fr _)
  replace hG := hG.mono hX
  go_loopw [12] (fun i wr => ∃ k : Nat, k ≤ n ∧ i = .int .i64 k ∧ anyN (fun k => (nth l k).root == r && isUnder (nth l k).pkg p) k = false ∧ ∃ x, wr = World.ext W x) (fun i _ => n - (intOf i).toNat)
  case atStart => exact ⟨0, by omega, rfl, rfl, X.refl _⟩
  case round =>
    obtain ⟨k, hk, rfl, hno, x, rfl⟩ := hrel
    by_cases hlt : k < n
    · obtain ⟨b, off, ba, bn, bc, rfl, _, hb, hok, _, hS, h0, h1, h2, h3, h4, h5⟩ := hF.at_ hlt
      obtain ⟨hok1, hok2⟩ := hok
      cases hu : isUnder (nth l k).pkg p
      all_goals go_wp2_with (go_at_call 30; refine (IsUnder_c _ _ _ (by omega) hp (hG.mono (by (repeat (first | exact X.refl _ | assumption | refine X.ext ?_ _ | refine X.alloc ?_ _ | refine X.drew ?_))))).mono ?_; rintro _ _ ⟨rfl, y, rfl⟩)
      all_goals first
        | (go_roundw
           case rel => exact ⟨k + 1, by omega, by go_num, anyN_next hno (by simp [*]; done), (by (repeat (first | exact X.refl _ | assumption | refine X.ext ?_ _ | refine X.alloc ?_ _ | refine X.drew ?_)))⟩
           case measure => simp [intOf]; omega)
        | (go_ret
           exact ⟨ret_bool (by rw [dirI, ← Hl.out, anyN_yes (k := k) (by simp [*]; done) hlt, Bool.true_or]), by (repeat (first | exact X.refl _ | assumption | refine X.ext ?_ _ | refine X.alloc ?_ _ | refine X.drew ?_))⟩)
    · obtain rfl : k = n := by omega
      go_wp2
      go_ret
      exact ⟨ret_bool (by rw [dirI, ← Hl.out, hno, Bool.false_or]), by (repeat (first | exact X.refl _ | assumption | refine X.ext ?_ _ | refine X.alloc ?_ _ | refine X.drew ?_))⟩
theorem pkgB_ne {p : List UInt8} (h : pkgB p = true) : nameB p = !p.isEmpty := by
  unfold pkgB at h
  cases he : p.isEmpty
  · rw [he] at h; simpa using h
  · rw [List.isEmpty_iff] at he; subst he; rfl
theorem treeB_file {l : List Fi} (h : treeB l = true) {k : Nat} (hk : k < l.length) : fileB (nth l k) = true := by
  unfold treeB at h
  simp only [Bool.and_eq_true] at h
  have := allN_iff.1 h.1 k hk
  simp only [Bool.and_eq_true] at this
  exact this.1
theorem fileB_pkg {f : Fi} (h : fileB f = true) : pkgB f.pkg = true := by
  unfold fileB at h
  simp only [Bool.and_eq_true] at h
  exact h.1.1.1.2
theorem dirI_eq {l : List Fi} {r : Int} {p : List UInt8} (h : treeB l = true) (hp : pkgB p = true) : dirI l r p = dirS l r p := by
  unfold dirI dirS
  congr 1
  refine anyN_congr fun k hk => ?_
  rw [isUnder, hp, Bool.and_true, pkgB_ne (fileB_pkg (treeB_file h hk)), Bool.and_assoc]

end Go.Proofs.YtgjfjjhmgbemcaaGreatDoor

namespace Go.Proofs.YtgjfjjhmgbemcaaGreatDoor
open Go.RowKit

def moduleB (f : Fi) : List UInt8 := if f.init then f.pkg else childL f.pkg f.name
def moduleOf (f : Fi) : List UInt8 := if fileB f then moduleB f else []
end Go.Proofs.YtgjfjjhmgbemcaaGreatDoor

namespace Go.Proofs.YtgjfjjhmgbemcaaGreatDoor
open Go.RowKit

theorem markStmtS_v (xs : List Value) (a : Option Addr) (n c B k : Nat) (v : Int) (w : World) (hv : v = (k : Int)) (hO : w.ownsRow B 148 5 (.slice a n c) n xs) (hn : n ≤ 1073741824) (hk : k ≤ 1073741824) :
    Calls Tryz.prog 53 #[.slice a n c, .int .i64 v] w fun e w' => e = .returned (.int .i64 ((k + 5 * n : Nat) : Int)) ∧ w'.ownsRow B 148 5 (.slice a n c) n ((stsM k n).flatMap scells) ∧ w.grownBy w' (Value.slice a n c).ownBlock := by
  subst hv
  exact markStmtS_c xs a n c B k w hO hn hk
/-- One body of files of the call's own. -/
def BodyO (w : World) (B : Nat) (x : Fi × Value) : Prop := ∃ ba bc, x.2 = .slice ba x.1.body.length bc ∧ w.ownsRow B 148 5 (.slice ba x.1.body.length bc) x.1.body.length (x.1.body.flatMap scells)
theorem BodyO.grown {w w' : World} {B g : Nat} {x : Fi × Value} {cs : Array Value} (h : BodyO w B x) (hg : w.grownBy w' (some g)) (hb : w.heap[g]? = some (.cells cs 44 (0, 0))) : BodyO w' B x := by
  obtain ⟨ba, bc, e, ho⟩ := h
  exact ⟨ba, bc, e, ho.kept hg (.inr (own_ne_at ho hb (by decide)))⟩
theorem BodyO.kept {w w' : World} {B : Nat} {x : Fi × Value} {row : Option Nat} (h : BodyO w B x) (hg : w.grownBy w' row) (hr : x.2.ownBlock = none ∨ x.2.ownBlock ≠ row) : BodyO w' B x := by
  obtain ⟨ba, bc, e, ho⟩ := h
  rw [e] at hr
  exact ⟨ba, bc, e, ho.kept hg hr⟩
/-- Files of the call's own, in blocks before E. -/
def FilesE (w : World) (B E : Nat) (a : Option Addr) (n c : Nat) (l : List Fi) : Prop :=
  ∃ vs : List (Fi × Value), l = vs.map (·.1) ∧ n = l.length ∧ w.ownsRow B 44 6 (.slice a n c) n (vs.flatMap fcells) ∧ Sep vs ∧ (∀ x ∈ vs, BodyO w B x) ∧
    (∀ b, (Value.slice a n c).ownBlock = some b → b < E) ∧ ∀ x ∈ vs, ∀ b, x.2.ownBlock = some b → b < E
theorem FilesO.e {w : World} {B n c : Nat} {a : Option Addr} {l : List Fi} (h : FilesO w B a n c l) : FilesE w B w.heap.size a n c l := by
  obtain ⟨vs, e, h1, h2, hs, h3⟩ := h
  exact ⟨vs, e, h1, h2, hs, h3, fun b hb => (h2.lt b hb).2, fun x hx b hb => by obtain ⟨ba, bc, e, ho⟩ := h3 x hx; rw [e] at hb; exact (ho.lt b hb).2⟩
theorem FilesE.fr {w w' : World} {B E n c : Nat} {a : Option Addr} {l : List Fi} (h : FilesE w B E a n c l) (hx : Fr B w w') : FilesE w' B E a n c l := by
  obtain ⟨vs, e, h1, h2, hs, h3, h4, h5⟩ := h
  exact ⟨vs, e, h1, own_fr h2 hx, hs, fun x hm => let ⟨ba, bc, e, ho⟩ := h3 x hm; ⟨ba, bc, e, own_fr ho hx⟩, h4, h5⟩
theorem FilesE.o {w : World} {B E n c : Nat} {a : Option Addr} {l : List Fi} (h : FilesE w B E a n c l) : FilesO w B a n c l := by
  obtain ⟨vs, e, h1, h2, hs, h3, _⟩ := h
  exact ⟨vs, e, h1, h2, hs, h3⟩
end Go.Proofs.YtgjfjjhmgbemcaaGreatDoor

namespace Go.Proofs.YtgjfjjhmgbemcaaGreatDoor
open Go.RowKit

def pathB (l : List Int) : Bool := allN (fun k => rangeB (nth l k) 0 2 && !anyN (fun j => nth l j == nth l k) k) l.length
structure Sp where
  kind : Int
  file : Int
  roots : List Int
deriving DecidableEq, Inhabited
def noneSp : Sp := ⟨0, -1, []⟩
def initF (r : Int) (m : List UInt8) : Fi := ⟨r, m, [], true, 0, []⟩
def fileF (r : Int) (p s : List UInt8) : Fi := ⟨r, p, s, false, 0, []⟩
def findGo (l : List Fi) (p s : List UInt8) : List Int → List Int → Sp
  | [], acc => if acc.isEmpty then noneSp else ⟨3, -1, acc⟩
  | r :: rs, acc =>
    if 0 ≤ fidx l (initF r (childL p s)) then ⟨2, fidx l (initF r (childL p s)), [r]⟩
    else if 0 ≤ fidx l (fileF r p s) then ⟨1, fidx l (fileF r p s), []⟩
    else findGo l p s rs (if dirS l r (childL p s) then acc ++ [r] else acc)
def findF (l : List Fi) (path : List Int) (p s : List UInt8) : Sp := findGo l p s path []
def findInF (l : List Fi) (path : List Int) (p s : List UInt8) : Sp :=
  if treeB l && pathB path && pkgB p && partB s && nameB (childL p s) then findF l path p s else noneSp

theorem Contains_c (l : List Int) (a : Option Addr) (n m c B : Nat) (x : Int) (w : World) (hI : IntsAt w B a n l) (hm : m ≤ n) :
    Calls Tryz.prog 138 #[.slice a m c, .int .i64 x] w fun e w' => e = .returned (.bool (anyN (fun k => nth l k == x) m)) ∧ w = w' := by
  rcases Nat.eq_zero_or_pos m with rfl | h0
  · exact (Tryz.slices_Contains_int_empty a c x w).mono fun e w' ⟨he, hw⟩ => ⟨he, hw.symm⟩
  · obtain ⟨b, off, rfl, _, _, _⟩ := hI.at_ (k := 0) (by omega)
    have hl := hI.1
    have hn := hI.2.1
    refine (Tryz.slices_Contains_int b off m c (l.take m) x w (by rw [List.length_take]; omega) (by omega) (fun j hj => ?_)).mono ?_
    · rw [List.length_take] at hj
      obtain ⟨b', off', hb, _, _, hc⟩ := hI.at_ (k := j) (by omega)
      simp only [Option.some.injEq, Addr.mk.injEq, and_true] at hb
      obtain ⟨rfl, rfl⟩ := hb
      rw [hc]
      have : nth l j = (l.take m).getD j 0 := by
        rw [show (l.take m).getD j 0 = nth (l.take m) j from rfl, nth_take (by omega)]
      rw [this]
    · rintro e w' ⟨rfl, rfl⟩
      refine ⟨?_, rfl⟩
      congr 2
      rw [List.take_take, Nat.min_self, Bool.eq_iff_iff, anyN_iff, List.contains_iff_mem]
      constructor
      · intro h
        obtain ⟨k, hk, he⟩ := List.mem_iff_getElem.1 h
        rw [List.length_take] at hk
        refine ⟨k, by omega, ?_⟩
        rw [List.getElem_take] at he
        rw [nth_eq (by omega), he]; simp
      · rintro ⟨k, hk, he⟩
        rw [List.mem_iff_getElem]
        refine ⟨k, by rw [List.length_take]; omega, ?_⟩
        rw [List.getElem_take, ← nth_eq (by omega)]; simpa using he

set_option maxHeartbeats 400000 in
theorem ValidPath_c (l : List Int) (a : Option Addr) (n c B : Nat) (w : World) (hI : IntsAt w B a n l) (hc : n ≤ c) :
    Calls Tryz.prog 86 #[.slice a n c] w fun e w' => e = .returned (.bool (pathB l)) ∧ w = w' := by
  have hn := hI.2.1
  go_enter Tryz.func86, Tryz.ntmps86
  go_wp2
  go_loop [7] (fun i => ∃ k : Nat, k ≤ n ∧ i = .int .i64 k ∧ allN (fun k => rangeB (nth l k) 0 2 && !anyN (fun j => nth l j == nth l k) k) k = true) (fun i => n - (intOf i).toNat)
  case atStart => exact ⟨0, by omega, rfl, rfl⟩
  case round =>
    obtain ⟨k, hk, rfl, hall⟩ := hrel
    by_cases hlt : k < n
    · obtain ⟨b, off, rfl, _, hb, hcell⟩ := hI.at_ hlt
      cases hr : rangeB (nth l k) 0 2 <;> cases hs : anyN (fun j => nth l j == nth l k) k
      all_goals go_wp2_with (first | (go_at_call 80; refine (within_c _ _ _ _).mono ?_; rintro _ _ ⟨rfl, rfl⟩) | (go_at_call 138; refine (Contains_c l _ n _ _ B _ _ hI hk).mono ?_; rintro _ _ ⟨rfl, rfl⟩))
      all_goals first
        | (go_round
           case rel => exact ⟨k + 1, by omega, by go_num, allN_next hall (by rw [hr, hs]; rfl)⟩
           case measure => simp [intOf]; omega)
        | (go_ret
           exact ⟨ret_bool (by rw [pathB, ← hI.1, allN_not (k := k) (by rw [hr, hs]; rfl) hlt]), rfl⟩)
    · obtain rfl : k = n := by omega
      go_wp2
      go_ret
      exact ⟨ret_bool (by rw [pathB, ← hI.1, hall]), rfl⟩
set_option maxHeartbeats 400000 in
theorem nothing_c (w : World) : Calls Tryz.prog 181 #[] w fun e w' => ∃ a c, e = .returned (.agg #[.int .i64 0, .int .i64 (-1), .slice a 0 c]) ∧ w'.ownsRow w.heap.size 3 1 (.slice a 0 c) 0 [] ∧ X w w' := by
  go_enter Tryz.func181, Tryz.ntmps181
  go_wp2
  refine bodyPost_ret (v := .agg #[.int .i64 0, .int .i64 (-1), .slice (some ⟨w.heap.size + 1, 0, none⟩) 0 0]) (by simp [results, Tryz.results181, go_sem]) rfl ⟨_, _, rfl, ?_, by (repeat (first | exact X.refl _ | assumption | refine X.ext ?_ _ | refine X.alloc ?_ _ | refine X.drew ?_))⟩
  have h := World.ownsRow_lit (base := w.heap.size) (e := 3) (size := 1) (w.alloc (.cells #[.int .i64 0, .int .i64 (-1), .slice (some ⟨w.heap.size + 1, 0, none⟩) 0 0] 173)) #[] 0 (by simp) (by unfold maxLen; omega) rfl
  simpa using h

theorem int_T : AppT Tryz.prog 75 3 1 8 := AppT.of (z := .int .i64 0) (by kernel_rfl) (by kernel_rfl) rfl (by omega)
theorem neq_nilFunc (w : World) : (binOp .neq 127 .nilFunc .nilFunc).run Tryz.prog w = .ok (.bool false) w := by kernel_rfl
def findI (l : List Fi) (path : List Int) (p s : List UInt8) : Sp := if pkgB p && partB s && nameB (childL p s) then findF l path p s else noneSp
set_option maxRecDepth 100000 in
set_option maxHeartbeats 1000000 in
theorem find_c (l : List Fi) (a : Option Addr) (n c B : Nat) (path : List Int) (pa : Option Addr) (pn pc Bp : Nat) (p s : List UInt8) (w : World) (hF : FilesAt w B a n l) (hI : IntsAt w Bp pa pn path) (hp : p.length ≤ 1048576) (hs : s.length ≤ 1048576) (hG : Gm w) (ht : treeB l = true) :
    Calls Tryz.prog 180 #[.agg #[.slice a n c], .slice pa pn pc, .string ⟨(p).toArray⟩, .string ⟨(s).toArray⟩, .nilFunc] w fun e w' => ∃ ra rc, e = .returned (.agg #[.int .i64 (findI l path p s).kind, .int .i64 (findI l path p s).file, .slice ra (findI l path p s).roots.length rc]) ∧
      w'.ownsRow w.heap.size 3 1 (.slice ra (findI l path p s).roots.length rc) (findI l path p s).roots.length (ints (findI l path p s).roots) ∧ X w w' := by
  have hpn := hI.2.1
  have hch := childL_length p s hp hs
  cases hv : (pkgB p && partB s && nameB (childL p s))
  · have hc0 : childOf p s = [] := by rw [childOf, hv]; rfl
    have he : findI l path p s = noneSp := by rw [findI, hv]; rfl
    rw [he]
    clear he
    go_enter Tryz.func180, Tryz.ntmps180
    go_wp2_with (first | (go_at_call 136; refine (ChildOf_c _ _ _ hp hs (hG.mono (by (repeat (first | exact X.refl _ | assumption | refine X.ext ?_ _ | refine X.alloc ?_ _ | refine X.drew ?_))))).mono ?_; rintro _ _ ⟨rfl, x, rfl⟩) | (go_at_call 181; refine (nothing_c _).mono ?_; rintro _ _ ⟨ra', rc', rfl, hown2, hx⟩; obtain ⟨z, rfl⟩ := hx.of_ext))
    refine bodyPost_ret (v := _) (by simp [results, Tryz.results180, go_sem]; rfl) rfl ?_
    refine ⟨_, _, rfl, ?_, by (repeat (first | exact X.refl _ | assumption | refine X.ext ?_ _ | refine X.alloc ?_ _ | refine X.drew ?_))⟩
    refine own_swap (w := w.alloc (.cells #[.slice a n c] 35)) (o := (.cells #[.int .i64 0, .int .i64 0, .slice none 0 0] 173)) ?_ (by simp)
    exact own_less hown2 (by rw [World.size_ext]; omega)
  · have hc0 : childOf p s = childL p s := by rw [childOf, hv]; rfl
    have he : findI l path p s = findF l path p s := by rw [findI, hv]; rfl
    simp only [Bool.and_eq_true] at hv
    have hne := nameB_ne hv.2
    have hpk : pkgB (childL p s) = true := by rw [pkgB, hv.2, Bool.or_true]
    rw [he]
    clear he hv
    go_enter Tryz.func180, Tryz.ntmps180
    go_wp2_with fail
    obtain ⟨W1, hW1⟩ : ∃ W1, W1 = w.alloc (.cells #[.slice a n c] 35) := ⟨_, rfl⟩
    obtain ⟨⟨hb0, hc1⟩, hX⟩ := boxes1 hW1
    have hsz : w.heap.size + 1 = W1.heap.size := by rw [hW1]; simp
    rw [← hW1, hsz]
    clear hsz hW1
    have hF1 := hF.mono (hX.fr _)
    have hI1 := hI.mono (hX.fr _)
    have hG1 := hG.mono hX
    have hnf := neq_nilFunc
    refine (ChildOf_c _ _ _ hp hs (hG.mono (by (repeat (first | exact X.refl _ | assumption | refine X.ext ?_ _ | refine X.alloc ?_ _ | refine X.drew ?_))))).mono ?_
    rintro _ _ ⟨rfl, x, rfl⟩
    rw [hc0]
    go_wp2
    refine wp_name (fun W hW => ?_)
    obtain ⟨x0, rfl, hown0⟩ := own_new_ext (size := 1) (n := 0) hW rfl (by omega)
    clear hW
    go_loopw [12, 29] (fun v i wr => ∃ (k : Nat) (acc : List Int) (x : Xt) (ra : Option Addr) (rc : Nat), k ≤ pn ∧ i = .int .i64 k ∧ v = .slice ra acc.length rc ∧ acc.length ≤ k ∧
        findGo l p s (path.drop k) acc = findF l path p s ∧ wr = World.ext (W1.alloc (.cells #[.int .i64 0, .int .i64 0, .slice none 0 0] 173)) x ∧
        (World.ext (W1.alloc (.cells #[.int .i64 0, .int .i64 0, .slice none 0 0] 173)) x).ownsRow (W1.alloc (.cells #[.int .i64 0, .int .i64 0, .slice none 0 0] 173)).heap.size 3 1 (.slice ra acc.length rc) acc.length (ints acc)) (fun _ i _ => pn - (intOf i).toNat)
    case atStart => exact ⟨0, [], x0, _, _, by omega, rfl, rfl, by simp, rfl, rfl, by simpa using hown0⟩
    case round =>
      obtain ⟨k, acc, x, ra, rc, hk, rfl, rfl, hacc, hgo, rfl, hown⟩ := hrel
      by_cases hlt : k < pn
      · obtain ⟨b, off, rfl, _, hb, hcell⟩ := hI1.at_ hlt
        rw [drop_nth (l := path) (k := k) (by have := hI.1; omega)] at hgo
        have Hgo := Lib.hid hgo
        clear hgo
        have Hd := Lib.hid (@dirI_eq l (nth path k) (childL p s) ht hpk)
        go_wp2_with fail
        refine (fileAt_i l _ _ _ B (initF (nth path k) (childL p s)) _ _ (hF1.mono (X.fr (by (repeat (first | exact X.refl _ | assumption | refine X.ext ?_ _ | refine X.alloc ?_ _ | refine X.drew ?_))) _))).mono ?_
        rintro _ _ ⟨rfl, hx⟩
        replace hown := own_fr hown (hx.fr _)
        obtain ⟨x, rfl⟩ := hx.of_ext
        clear hx
        go_wp2_with fail
        · have hi : 0 ≤ fidx l (initF (nth path k) (childL p s)) := by assumption
          have he : findF l path p s = ⟨2, fidx l (initF (nth path k) (childL p s)), [nth path k]⟩ := by rw [← Hgo.out, findGo, if_pos hi]
          refine bodyPost_ret (v := _) (by simp [results, Tryz.results180, go_sem]; rfl) rfl ?_
          rw [he]
          refine ⟨_, _, rfl, ?_, by (repeat (first | exact X.refl _ | assumption | refine X.ext ?_ _ | refine X.alloc ?_ _ | refine X.drew ?_))⟩
          exact own_lit (by simp [World.size_ext]) (by have := hX.size; simp [World.size_ext]; omega) rfl (by simp)
        · have hi : fidx l (initF (nth path k) (childL p s)) < 0 := by assumption
          have hi' : ¬ 0 ≤ fidx l (initF (nth path k) (childL p s)) := by omega
          have Hi := Lib.hid hi
          clear hi'
          refine (fileAt_i l _ _ _ B (fileF (nth path k) p s) _ _ (hF1.mono (X.fr (by (repeat (first | exact X.refl _ | assumption | refine X.ext ?_ _ | refine X.alloc ?_ _ | refine X.drew ?_))) _))).mono ?_
          rintro _ _ ⟨rfl, hx⟩
          replace hown := own_fr hown (hx.fr _)
          obtain ⟨x, rfl⟩ := hx.of_ext
          clear hx
          go_wp2_with fail
          · have hj : 0 ≤ fidx l (fileF (nth path k) p s) := by assumption
            have he : findF l path p s = ⟨1, fidx l (fileF (nth path k) p s), []⟩ := by rw [← Hgo.out, findGo, if_neg (Int.not_le.2 Hi.out), if_pos hj]
            refine bodyPost_ret (v := _) (by simp [results, Tryz.results180, go_sem]; rfl) rfl ?_
            rw [he]
            refine ⟨_, _, rfl, ?_, by (repeat (first | exact X.refl _ | assumption | refine X.ext ?_ _ | refine X.alloc ?_ _ | refine X.drew ?_))⟩
            exact own_lit (by simp [World.size_ext]) (by have := hX.size; simp [World.size_ext]; omega) rfl (by simp)
          · have hj : fidx l (fileF (nth path k) p s) < 0 := by assumption
            refine (hasDir_i l _ _ _ B _ _ _ (hF1.mono (X.fr (by (repeat (first | exact X.refl _ | assumption | refine X.ext ?_ _ | refine X.alloc ?_ _ | refine X.drew ?_))) _)) hch (hG1.mono (by (repeat (first | exact X.refl _ | assumption | refine X.ext ?_ _ | refine X.alloc ?_ _ | refine X.drew ?_))))).mono ?_
            rintro _ _ ⟨rfl, hx⟩
            replace hown := own_fr hown (hx.fr _)
            obtain ⟨x, rfl⟩ := hx.of_ext
            clear hx
            rw [Hd.out]
            go_wp2_with (at_builtin; refine wpList_append_lit int_T rfl _ _ rfl hown rfl rfl rfl ?_ ?_ ?_ ?_)
            · simp [Value.oneCell']
            · omega
            · omega
            · intro a' c' z' hown'
              have hd : dirS l (nth path k) (childL p s) = true := by assumption
              have he : findGo l p s (path.drop (k + 1)) (acc ++ [nth path k]) = findF l path p s := by rw [← Hgo.out, findGo, if_neg (Int.not_le.2 Hi.out), if_neg (Int.not_le.2 hj), if_pos hd]
              have He := Lib.hid he
              clear he
              go_wp2
              go_roundw
              case rel => exact ⟨k + 1, acc ++ [nth path k], z', a', c', by omega, by go_num, by simp, by simp; omega, He.out, rfl, by simpa [flat_snoc] using hown'⟩
              case measure => simp [intOf]; omega
            · have hd : ¬ dirS l (nth path k) (childL p s) = true := by simp [*]
              have he : findGo l p s (path.drop (k + 1)) acc = findF l path p s := by rw [← Hgo.out, findGo, if_neg (Int.not_le.2 Hi.out), if_neg (Int.not_le.2 hj), if_neg hd]
              go_roundw
              case rel => exact ⟨k + 1, acc, x, ra, rc, by omega, by go_num, rfl, by omega, he, rfl, hown⟩
              case measure => simp [intOf]; omega
      · obtain rfl : k = pn := by omega
        go_wp2_with (go_at_call 181; refine (nothing_c _).mono ?_; rintro _ _ ⟨ra', rc', rfl, hown2, hx⟩; obtain ⟨z, rfl⟩ := hx.of_ext)
        · have h0 : 0 < acc.length := by assumption
          have he : findF l path p s = ⟨3, -1, acc⟩ := by
            rw [← hgo, List.drop_eq_nil_of_le (by have := hI.1; omega), findGo, if_neg (by cases acc with | nil => simp at h0 | cons a b => simp)]
          refine bodyPost_ret (v := _) (by simp [results, Tryz.results180, go_sem]; rfl) rfl ?_
          rw [he]
          exact ⟨_, _, rfl, own_swap hown hX.size, by (repeat (first | exact X.refl _ | assumption | refine X.ext ?_ _ | refine X.alloc ?_ _ | refine X.drew ?_))⟩
        · have h0 : ¬ 0 < acc.length := by assumption
          have he : findF l path p s = noneSp := by
            rw [← hgo, List.drop_eq_nil_of_le (by have := hI.1; omega), findGo, if_pos (by cases acc with | nil => rfl | cons a b => simp at h0)]
          refine bodyPost_ret (v := _) (by simp [results, Tryz.results180, go_sem]; rfl) rfl ?_
          rw [he]
          refine ⟨_, _, rfl, own_swap (own_less hown2 (by rw [World.size_ext]; omega)) hX.size, by (repeat (first | exact X.refl _ | assumption | refine X.ext ?_ _ | refine X.alloc ?_ _ | refine X.drew ?_))⟩


/-- What a Spec in a call's result is: its roots lie in memory of the call's own. -/
def SpecAt (w : World) (B : Nat) (v : Value) (r : Sp) : Prop :=
  ∃ a c, v = .agg #[.int .i64 r.kind, .int .i64 r.file, .slice a r.roots.length c] ∧ w.ownsRow B 3 1 (.slice a r.roots.length c) r.roots.length (ints r.roots)
end Go.Proofs.YtgjfjjhmgbemcaaGreatDoor
