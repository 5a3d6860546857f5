/- Names: parts, names, packages, children: what the program's and the reference's functions on them return. No condition but lengths of texts. -/
import Derived.Test.YtjlooplpjliaiaaDoorProg
import Derived.Test.YtjlooplpjliaiaaDoorData
import Derived.Test.YtjlooplpjliaiaaDoorShelf
namespace Go.Proofs.YtjlooplpjliaiaaDoor
open Go.RowKit

/-! ### Plain -/
def lowB (c : UInt8) : Bool := decide (97 ≤ (c.toNat : Int)) && decide ((c.toNat : Int) ≤ 122)
def partB (s : List UInt8) : Bool := rangeB s.length 1 3 && allN (fun k => lowB (nth s k)) s.length
def splitL (c : UInt8) : List UInt8 → List (List UInt8)
  | [] => [[]]
  | b :: s => if b == c then [] :: splitL c s else match splitL c s with
    | [] => [[b]]
    | p :: r => (b :: p) :: r
/-- A text put ahead of the first piece. -/
def preL (q : List UInt8) : List (List UInt8) → List (List UInt8)
  | [] => [q]
  | p :: r => (q ++ p) :: r
theorem splitL_ne (c : UInt8) (s : List UInt8) : splitL c s ≠ [] := by
  cases s with
  | nil => simp [splitL]
  | cons b s => unfold splitL; split <;> (try split) <;> simp
theorem splitL_pos (c : UInt8) (s : List UInt8) : 0 < (splitL c s).length := List.length_pos_iff.2 (splitL_ne c s)
theorem splitL_hit {c : UInt8} {s : List UInt8} : splitL c (c :: s) = [] :: splitL c s := by simp [splitL]
theorem splitL_miss {b c : UInt8} {s : List UInt8} (h : (b == c) = false) : splitL c (b :: s) = preL [b] (splitL c s) := by
  rw [splitL, h]
  simp only [Bool.false_eq_true, if_false]
  cases h' : splitL c s with
  | nil => exact absurd h' (splitL_ne c s)
  | cons p r => rfl
theorem preL_preL (p q : List UInt8) (l : List (List UInt8)) : preL p (preL q l) = preL (p ++ q) l := by
  cases l <;> simp [preL]
theorem preL_nil {l : List (List UInt8)} (h : l ≠ []) : preL [] l = l := by
  cases l with
  | nil => exact absurd rfl h
  | cons p r => simp [preL]
theorem splitL_length_le (c : UInt8) (s : List UInt8) : (splitL c s).length ≤ s.length + 1 := by
  induction s with
  | nil => simp [splitL]
  | cons b s ih =>
    cases h : b == c
    · rw [splitL_miss h]
      have : (preL [b] (splitL c s)).length = (splitL c s).length := by
        cases h' : splitL c s with
        | nil => exact absurd h' (splitL_ne c s)
        | cons p r => rfl
      rw [this, List.length_cons]; omega
    · obtain rfl : b = c := by simpa using h
      rw [splitL_hit, List.length_cons, List.length_cons]; omega
theorem splitL_piece_le (c : UInt8) (s : List UInt8) : ∀ p ∈ splitL c s, p.length ≤ s.length := by
  induction s with
  | nil => simp [splitL]
  | cons b s ih =>
    intro p hp
    cases h : b == c
    · rw [splitL_miss h] at hp
      cases h' : splitL c s with
      | nil => exact absurd h' (splitL_ne c s)
      | cons q r =>
        rw [h'] at hp ih
        simp only [preL, List.mem_cons] at hp
        rcases hp with rfl | hp
        · have := ih q (by simp); simp; omega
        · have := ih p (by simp [hp]); simp; omega
    · obtain rfl : b = c := by simpa using h
      rw [splitL_hit] at hp
      rcases List.mem_cons.1 hp with rfl | hp
      · simp
      · have := ih p hp; simp; omega
theorem splitL_none {c : UInt8} : ∀ {l : List UInt8}, Lib.indexByte l c = -1 → splitL c l = [l]
  | [], _ => rfl
  | b :: l, h => by
    unfold Lib.indexByte at h
    split at h
    · omega
    · rename_i hb
      split at h
      · rename_i hl
        rw [splitL_miss (by simpa using hb), splitL_none (by simpa using hl)]; rfl
      · have := Lib.indexByte_ge l c; omega
theorem splitL_some {c : UInt8} : ∀ {l : List UInt8} {i : Nat}, Lib.indexByte l c = i → splitL c l = l.take i :: splitL c (l.drop (i + 1))
  | [], i, h => by unfold Lib.indexByte at h; omega
  | b :: l, i, h => by
    unfold Lib.indexByte at h
    split at h
    · rename_i hb
      obtain rfl : i = 0 := by omega
      obtain rfl : b = c := by simpa using hb
      rw [splitL_hit]; rfl
    · rename_i hb
      split at h
      · omega
      · rename_i h1
        have h2 := Lib.indexByte_ge l c
        have h3 : Lib.indexByte l c ≠ -1 := by simpa using h1
        obtain ⟨j, rfl⟩ : ∃ j, i = j + 1 := ⟨i - 1, by omega⟩
        rw [splitL_miss (by simpa using hb), splitL_some (i := j) (by omega)]
        rfl
theorem splitK_one (c : UInt8) : ∀ (fuel : Nat) (l : List UInt8), l.length < fuel → Lib.splitK [c] 0 (Lib.countFrom [c] fuel l) l = splitL c l
  | 0, l, h => by omega
  | fuel + 1, l, h => by
    unfold Lib.countFrom
    rw [Lib.index_one]
    by_cases hi : Lib.indexByte l c = -1
    · rw [if_pos (by simp [hi]), splitL_none hi]; rfl
    · rw [if_neg (by simp [hi])]
      obtain ⟨i, hi'⟩ : ∃ i : Nat, Lib.indexByte l c = i := ⟨(Lib.indexByte l c).toNat, by have := Lib.indexByte_ge l c; omega⟩
      have hlt := (Lib.indexByte_some hi').1
      have hlen : i < l.length := by
        rcases Nat.lt_or_ge i l.length with h | h
        · exact h
        · rw [List.getElem?_eq_none h] at hlt; cases hlt
      rw [splitL_some hi', hi', Nat.add_comm, Lib.splitK, Lib.index_one, hi', if_neg (by simp)]
      simp only [Int.toNat_natCast, Nat.add_zero, List.length_cons, List.length_nil, Nat.zero_add]
      rw [splitK_one c fuel (l.drop (i + 1)) (by rw [List.length_drop]; omega)]
theorem splitB_one (c : UInt8) (l : List UInt8) : (Lib.splitB ⟨#[c]⟩ 0 (Lib.countB ⟨l.toArray⟩ ⟨#[c]⟩) ⟨l.toArray⟩).map (·.data.toList) = splitL c l := by
  rw [Lib.splitB_data]
  show Lib.splitK [c] 0 (Lib.count l [c]) l = _
  exact splitK_one c (l.length + 1) l (by omega)

def nameB (s : List UInt8) : Bool := allN (fun k => partB (nth (splitL 46 s) k)) (splitL 46 s).length && decide ((splitL 46 s).length ≤ 3)
def pkgB (s : List UInt8) : Bool := s.isEmpty || nameB s
def childL (p s : List UInt8) : List UInt8 := if p.isEmpty then s else p ++ 46 :: s
def childOf (p s : List UInt8) : List UInt8 := if pkgB p && partB s && nameB (childL p s) then childL p s else []

/-! ### Walks -/
/-- The library's variable that strings.Index reads. -/
def Gm (w : World) : Prop := ∃ m : Int, w.cell? ⟨0, 0, none⟩ = some (.int .i64 m) ∧ 0 < w.heap.size
theorem Gm.mono {w w' : World} (h : Gm w) (hx : X w w') : Gm w' := by
  obtain ⟨m, h1, h2⟩ := h
  exact ⟨m, (hx.cell (p := ⟨_, 0, none⟩) h2).trans h1, Nat.lt_of_lt_of_le h2 hx.size⟩

theorem grow_same {P : Program} {f : FuncId} {args : Array Value} {w : World} {x : Xt} {v : Value} (h : Calls P f args (World.ext w x) fun e w' => e = .returned v ∧ World.ext w x = w') :
    Calls P f args (World.ext w x) fun e w'' => e = .returned v ∧ ∃ x, w'' = World.ext w x :=
  h.mono fun _ _ ⟨he, hx⟩ => ⟨he, _, hx.symm⟩

@[go_sem] theorem bs_get (s : List UInt8) (k : Nat) (h : k < (ByteArray.mk s.toArray).size) : (ByteArray.mk s.toArray)[k]'h = nth s k := by
  rw [nth_eq (show k < s.length from h)]
  rfl
@[go_sem] theorem bs_extract (s : List UInt8) (i j : Nat) : (ByteArray.mk s.toArray).extract i j = ByteArray.mk ((s.drop i).take (j - i)).toArray := by
  apply ByteArray.ext
  apply Array.ext'
  rw [Lib.extract_data]
@[go_sem] theorem bs_append (a b : List UInt8) : ByteArray.mk a.toArray ++ ByteArray.mk b.toArray = ByteArray.mk (a ++ b).toArray := by
  apply ByteArray.ext
  apply Array.ext'
  simp
theorem split_hit {ch : UInt8} {s : List UInt8} {k fr : Nat} {done : List (List UInt8)} (h : splitL ch s = done ++ preL ((s.drop fr).take (k - fr)) (splitL ch (s.drop k))) (hlt : k < s.length) (hc : nth s k = ch) :
    splitL ch s = (done ++ [(s.drop fr).take (k - fr)]) ++ preL ((s.drop (k + 1)).take (k + 1 - (k + 1))) (splitL ch (s.drop (k + 1))) := by
  rw [h, drop_nth hlt, hc, splitL_hit, Nat.sub_self, List.take_zero, preL_nil (splitL_ne _ _)]
  simp [preL]
theorem split_miss {ch : UInt8} {s : List UInt8} {k fr : Nat} {done : List (List UInt8)} (h : splitL ch s = done ++ preL ((s.drop fr).take (k - fr)) (splitL ch (s.drop k))) (hlt : k < s.length) (hf : fr ≤ k) (hc : nth s k ≠ ch) :
    splitL ch s = done ++ preL ((s.drop fr).take (k + 1 - fr)) (splitL ch (s.drop (k + 1))) := by
  rw [h, drop_nth hlt, splitL_miss (by simpa using hc), preL_preL]
  congr 2
  have h1 : k + 1 - fr = (k - fr) + 1 := by omega
  rw [h1, take_succ_nth (by rw [List.length_drop]; omega), nth_drop]
  congr 3; omega
theorem split_end {ch : UInt8} {s : List UInt8} {k fr : Nat} {done : List (List UInt8)} (h : splitL ch s = done ++ preL ((s.drop fr).take (k - fr)) (splitL ch (s.drop k))) (hk : k = s.length) :
    splitL ch s = done ++ [s.drop fr] := by
  subst hk
  rw [h]
  have : (List.drop fr s).take (s.length - fr) = s.drop fr := List.take_of_length_le (by rw [List.length_drop]; omega)
  simp [this, splitL, preL]
theorem take_rest (s : List UInt8) (k : Nat) : (s.drop k).take (s.length - k) = s.drop k := List.take_of_length_le (by rw [List.length_drop]; omega)
theorem ret_eq {a b : Value} (h : a = b) : Ending.returned a = .returned b := by rw [h]
theorem ret_bool {a b : Bool} (h : a = b) : Ending.returned (.bool a) = .returned (.bool b) := by rw [h]
theorem ret_int {k : IntKind} {a b : Int} (h : a = b) : Ending.returned (.int k a) = .returned (.int k b) := by rw [h]
theorem rangeB_no {n lo hi : Int} (h : n < lo ∨ hi < n) : rangeB n lo hi = false := by
  unfold rangeB; rw [Bool.and_eq_false_iff]; simp; omega
theorem rangeB_yes {n lo hi : Int} (h : lo ≤ n) (h2 : n ≤ hi) : rangeB n lo hi = true := rangeB_iff.2 ⟨h, h2⟩
theorem lowB_no {c : UInt8} (h : (c.toNat : Int) < 97 ∨ 122 < (c.toNat : Int)) : lowB c = false := by
  unfold lowB; rw [Bool.and_eq_false_iff]; simp; omega
theorem lowB_yes {c : UInt8} (h : 97 ≤ (c.toNat : Int)) (h2 : (c.toNat : Int) ≤ 122) : lowB c = true := by simp [lowB]; omega

set_option maxHeartbeats 400000 in
theorem within_c (n a b : Int) (w : World) : Calls Tryd.prog 73 #[.int .i64 n, .int .i64 a, .int .i64 b] w fun e w' => e = .returned (.bool (rangeB n a b)) ∧ w = w' := by
  by_cases h1 : a ≤ n <;> by_cases h2 : n ≤ b
  all_goals
    go_enter Tryd.func73, Tryd.ntmps73
    go_wp2
    go_ret
    simp [rangeB, *]
set_option maxHeartbeats 400000 in
theorem inRange_c (n a b : Int) (w : World) : Calls Tryd.prog 36 #[.int .i64 n, .int .i64 a, .int .i64 b] w fun e w' => e = .returned (.bool (rangeB n a b)) ∧ w = w' := by
  by_cases h1 : a ≤ n <;> by_cases h2 : n ≤ b
  all_goals
    go_enter Tryd.func36, Tryd.ntmps36
    go_wp2
    go_ret
    simp [rangeB, *]

set_option maxHeartbeats 400000 in
theorem ValidPart_c (s : List UInt8) (w : World) (hs : s.length ≤ 4194304) : Calls Tryd.prog 86 #[.string ⟨(s).toArray⟩] w fun e w' => e = .returned (.bool (partB s)) ∧ w = w' := by
  go_enter Tryd.func86, Tryd.ntmps86
  go_wp2
  go_loop [6] (fun i => ∃ k : Nat, k ≤ s.length ∧ i = .int .i64 k ∧ allN (fun k => lowB (nth s k)) k = true) (fun i => s.length - (intOf i).toNat)
  case atStart => exact ⟨0, by omega, rfl, rfl⟩
  case round =>
    obtain ⟨k, hk, rfl, hall⟩ := hrel
    by_cases hlt : k < s.length
    · by_cases h1 : 97 ≤ ((nth s k).toNat : Int) <;> by_cases h2 : ((nth s k).toNat : Int) ≤ 122
      all_goals go_wp2
      · go_round
        case rel => exact ⟨k + 1, by omega, by go_num, allN_next hall (lowB_yes h1 h2)⟩
        case measure => simp [intOf]; omega
      all_goals
        go_ret
        exact ⟨ret_bool (by rw [partB, allN_not (lowB_no (by omega)) hlt, Bool.and_false]), rfl⟩
    · obtain rfl : k = s.length := by omega
      go_wp2_with (go_at_call 73; refine (within_c _ _ _ _).mono ?_; rintro _ _ ⟨rfl, rfl⟩)
      go_ret
      exact ⟨ret_bool (by rw [partB, hall, Bool.and_true]), rfl⟩
set_option maxHeartbeats 400000 in
theorem validPart_c (s : List UInt8) (w : World) (hs : s.length ≤ 4194304) : Calls Tryd.prog 80 #[.string ⟨(s).toArray⟩] w fun e w' => e = .returned (.bool (partB s)) ∧ w = w' := by
  cases hr : rangeB s.length 1 3
  · go_enter Tryd.func80, Tryd.ntmps80
    go_wp2_with (go_at_call 36; refine (inRange_c _ _ _ _).mono ?_; rintro _ _ ⟨rfl, rfl⟩)
    go_ret
    exact ⟨ret_bool (by rw [partB, hr, Bool.false_and]), rfl⟩
  · go_enter Tryd.func80, Tryd.ntmps80
    go_wp2_with (go_at_call 36; refine (inRange_c _ _ _ _).mono ?_; rintro _ _ ⟨rfl, rfl⟩)
    go_loop [3] (fun i => ∃ k : Nat, k ≤ s.length ∧ i = .int .i64 k ∧ allN (fun k => lowB (nth s k)) k = true) (fun i => s.length - (intOf i).toNat)
    case atStart => exact ⟨0, by omega, rfl, rfl⟩
    case round =>
      obtain ⟨k, hk, rfl, hall⟩ := hrel
      by_cases hlt : k < s.length
      · by_cases h1 : 97 ≤ ((nth s k).toNat : Int) <;> by_cases h2 : ((nth s k).toNat : Int) ≤ 122
        all_goals go_wp2
        · go_round
          case rel => exact ⟨k + 1, by omega, by go_num, allN_next hall (lowB_yes h1 h2)⟩
          case measure => simp [intOf]; omega
        all_goals
          go_ret
          exact ⟨ret_bool (by rw [partB, allN_not (lowB_no (by omega)) hlt, Bool.and_false]), rfl⟩
      · obtain rfl : k = s.length := by omega
        go_wp2
        go_ret
        exact ⟨ret_bool (by rw [partB, hall, hr]; rfl), rfl⟩


theorem str_T : AppT Tryd.prog 106 9 1 16 := AppT.of (z := .string ⟨#[]⟩) (by kernel_rfl) (by kernel_rfl) rfl (by omega)
set_option maxHeartbeats 800000 in
theorem splitAt_c (s : List UInt8) (ch : UInt8) (w : World) (hs : s.length ≤ 4194304) : Calls Tryd.prog 96 #[.string ⟨(s).toArray⟩, .int .u8 (ch.toNat : Int)] w fun e w' =>
    ∃ a c, e = .returned (.slice a (splitL ch s).length c) ∧ w'.ownsRow w.heap.size 9 1 (.slice a (splitL ch s).length c) (splitL ch s).length (strs (splitL ch s)) ∧ X w w' := by
  go_enter Tryd.func96, Tryd.ntmps96
  go_wp2
  refine wp_name (fun W hW => ?_)
  obtain ⟨x0, rfl, hown0⟩ := own_new (size := 1) (n := 0) hW rfl (by omega)
  clear hW
  go_loopw [5, 6, 7] (fun v f i wr => ∃ (k fr : Nat) (done : List (List UInt8)) (x : Xt) (a : Option Addr) (c : Nat), fr ≤ k ∧ k ≤ s.length ∧ i = .int .i64 k ∧ f = .int .i64 fr ∧ v = .slice a done.length c ∧ wr = World.ext w x ∧
      (World.ext w x).ownsRow w.heap.size 9 1 (.slice a done.length c) done.length (strs done) ∧ splitL ch s = done ++ preL ((s.drop fr).take (k - fr)) (splitL ch (s.drop k)) ∧ done.length ≤ k) (fun _ _ i _ => s.length - (intOf i).toNat)
  case atStart => exact ⟨0, 0, [], x0, _, _, by omega, by omega, rfl, rfl, rfl, rfl, hown0, by simp [preL_nil (splitL_ne _ _)], by simp⟩
  case round =>
    obtain ⟨k, fr, done, x, a, c, hfk, hk, rfl, rfl, rfl, rfl, hown, hsp, hd⟩ := hrel
    by_cases hlt : k < s.length
    · cases hc : ((nth s k).toNat : Int) == (ch.toNat : Int)
      · have hc' : nth s k ≠ ch := by rintro rfl; simp at hc
        go_wp2
        go_roundw
        case rel => exact ⟨k + 1, fr, done, x, a, c, by omega, by omega, by go_num, rfl, rfl, rfl, hown, split_miss hsp hlt hfk hc', by omega⟩
        case measure => simp [intOf]; omega
      · have hc' : nth s k = ch := by have := beq_iff_eq.1 hc; exact UInt8.toNat_inj.1 (by omega)
        go_wp2_with (at_builtin; refine wpList_append_lit str_T rfl _ _ rfl hown rfl rfl rfl ?_ ?_ ?_ ?_)
        · simp [Value.oneCell']
        · omega
        · omega
        intro a' c' z hown'
        go_wp2
        go_roundw
        case rel => exact ⟨k + 1, k + 1, done ++ [(s.drop fr).take (k - fr)], z, a', c', by omega, by omega, by go_num, by go_num, by simp, rfl, by simpa [flat_snoc] using hown', split_hit hsp hlt hc', by simp; omega⟩
        case measure => simp [intOf]; omega
    · have hke : k = s.length := by omega
      have he := split_end hsp hke
      have hlen : (splitL ch s).length = done.length + 1 := by rw [he]; simp
      clear hke
      have Hlen := Lib.hid hlen
      have He := Lib.hid he
      clear hlen he
      go_wp2_with (at_builtin; refine wpList_append_lit str_T rfl _ _ rfl hown rfl rfl rfl ?_ ?_ ?_ ?_)
      · simp [Value.oneCell']
      · omega
      · omega
      intro a' c' z hown'
      go_wp2
      go_ret
      refine ⟨a', c', ?_, ?_, ⟨_, rfl⟩⟩
      · rw [Hlen.out]; rfl
      · rw [Hlen.out, He.out]; simpa [flat_snoc, take_rest] using hown'

theorem strs_eq (l : List (List UInt8)) : strs l = l.map fun x => .string ⟨(x).toArray⟩ := by
  induction l with
  | nil => rfl
  | cons x l ih => rw [List.map_cons, ← ih]; rfl
theorem Split_c (s : List UInt8) (ch : UInt8) (w : World) (hs : s.length ≤ 4194304) (hG : Gm w) : Calls Tryd.prog 98 #[.string ⟨(s).toArray⟩, .string ⟨#[ch]⟩] w fun e w' =>
    ∃ a c, e = .returned (.slice a (splitL ch s).length c) ∧ w'.ownsRow w.heap.size 9 1 (.slice a (splitL ch s).length c) (splitL ch s).length (strs (splitL ch s)) ∧ X w w' := by
  obtain ⟨m, hm, _⟩ := hG
  refine (Tryd.strings_Split ⟨s.toArray⟩ ⟨#[ch]⟩ m w (by show s.length < _; omega) hm (Nat.le_refl 1)).mono ?_
  rintro e w' ⟨rfl, rfl⟩
  have h1 := splitB_one ch s
  have h2 : (Lib.splitB ⟨#[ch]⟩ 0 (Lib.countB ⟨s.toArray⟩ ⟨#[ch]⟩) ⟨s.toArray⟩).length = Lib.countB ⟨s.toArray⟩ ⟨#[ch]⟩ + 1 := Lib.splitB_all ⟨#[ch]⟩ (Nat.le_refl 1) 0 _ _ rfl
  have h3 : (splitL ch s).length = Lib.countB ⟨s.toArray⟩ ⟨#[ch]⟩ + 1 := by rw [← h1, List.length_map, h2]
  have h4 : (Lib.splitB ⟨#[ch]⟩ 0 (Lib.countB ⟨s.toArray⟩ ⟨#[ch]⟩) ⟨s.toArray⟩).map Value.string = strs (splitL ch s) := by
    rw [← h1, strs_eq, List.map_map]
    rfl
  rw [h3, ← h4]
  have hle := splitL_length_le ch s
  refine ⟨_, _, rfl, ?_, (X.refl w).alloc _⟩
  exact World.ownsRow_lit w _ _ (Nat.le_refl _) (by unfold maxLen; omega) (by simp [h2])
set_option maxHeartbeats 400000 in
theorem validName_c (s : List UInt8) (w : World) (hs : s.length ≤ 4194304) : Calls Tryd.prog 77 #[.string ⟨(s).toArray⟩] w fun e w' => e = .returned (.bool (nameB s)) ∧ X w w' := by
  go_enter Tryd.func77, Tryd.ntmps77
  go_wp2_with fail
  refine (splitAt_c s 46 w hs).mono ?_
  rintro _ W ⟨a, c, rfl, hown, hX⟩
  have hl := splitL_length_le 46 s
  have hS := StrsAt.of_own hown (by omega) (fun p hp => Nat.le_trans (splitL_piece_le 46 s p hp) hs)
  generalize hn : (splitL 46 s).length = n at hS hl
  clear hown
  go_wp2
  have hn' := hS.2.1
  go_loop [4] (fun i => ∃ k : Nat, k ≤ n ∧ i = .int .i64 k ∧ allN (fun k => partB (nth (splitL 46 s) k)) k = true) (fun i => n - (intOf i).toNat)
  case atStart => exact ⟨0, by omega, rfl, rfl⟩
  case round =>
    obtain ⟨k, hk, rfl, hall⟩ := hrel
    by_cases hlt : k < n
    · obtain ⟨b, off, rfl, _, hb, hcell, hp⟩ := hS.at_ hlt
      cases hv : partB (nth (splitL 46 s) k)
      all_goals go_wp2_with (go_at_call 80; refine (validPart_c _ _ hp).mono ?_; rintro _ _ ⟨rfl, rfl⟩)
      · go_ret
        exact ⟨ret_bool (by rw [nameB, hn, allN_not hv hlt, Bool.false_and]), hX⟩
      · go_round
        case rel => exact ⟨k + 1, by omega, by go_num, allN_next hall hv⟩
        case measure => simp [intOf]; omega
    · obtain rfl : k = n := by omega
      go_wp2
      go_ret
      exact ⟨ret_bool (by rw [nameB, hn, hall, Bool.true_and]; exact decide_eq_decide.2 (by omega)), hX⟩
set_option maxHeartbeats 400000 in
theorem ValidName_c (s : List UInt8) (w : World) (hs : s.length ≤ 4194304) (hG : Gm w) : Calls Tryd.prog 83 #[.string ⟨(s).toArray⟩] w fun e w' => e = .returned (.bool (nameB s)) ∧ X w w' := by
  go_enter Tryd.func83, Tryd.ntmps83
  go_wp2_with fail
  refine (Split_c s 46 w hs hG).mono ?_
  rintro _ W ⟨a, c, rfl, hown, hX⟩
  have hl := splitL_length_le 46 s
  have hS := StrsAt.of_own hown (by omega) (fun p hp => Nat.le_trans (splitL_piece_le 46 s p hp) hs)
  generalize hn : (splitL 46 s).length = n at hS hl
  clear hown
  have hn' := hS.2.1
  go_wp2
  go_loop [10] (fun i => ∃ k : Nat, k ≤ n ∧ i = .int .i64 k ∧ allN (fun k => partB (nth (splitL 46 s) k)) k = true) (fun i => n - (intOf i).toNat)
  case atStart => exact ⟨0, by omega, rfl, rfl⟩
  case round =>
    obtain ⟨k, hk, rfl, hall⟩ := hrel
    by_cases hlt : k < n
    · obtain ⟨b, off, rfl, _, hb, hcell, hp⟩ := hS.at_ hlt
      cases hv : partB (nth (splitL 46 s) k)
      all_goals go_wp2_with (go_at_call 86; refine (ValidPart_c _ _ hp).mono ?_; rintro _ _ ⟨rfl, rfl⟩)
      · go_ret
        exact ⟨ret_bool (by rw [nameB, hn, allN_not hv hlt, Bool.false_and]), hX⟩
      · go_round
        case rel => exact ⟨k + 1, by omega, by go_num, allN_next hall hv⟩
        case measure => simp [intOf]; omega
    · obtain rfl : k = n := by omega
      go_wp2
      go_ret
      exact ⟨ret_bool (by rw [nameB, hn, hall, Bool.true_and]; exact decide_eq_decide.2 (by omega)), hX⟩
set_option maxHeartbeats 400000 in
theorem packageOk_c (s : List UInt8) (w : World) (hs : s.length ≤ 4194304) (hG : Gm w) : Calls Tryd.prog 85 #[.string ⟨(s).toArray⟩] w fun e w' => e = .returned (.bool (pkgB s)) ∧ X w w' := by
  cases he : s.isEmpty
  all_goals
    go_enter Tryd.func85, Tryd.ntmps85
    go_wp2_with (go_at_call 83; refine (ValidName_c _ _ hs hG).mono ?_; rintro _ _ ⟨rfl, hX⟩)
    go_ret
  · exact ⟨ret_bool (by rw [pkgB, he]; rfl), hX⟩
  · exact ⟨ret_bool (by rw [pkgB, he]; rfl), X.refl _⟩
set_option maxHeartbeats 400000 in
theorem validPackage_c (s : List UInt8) (w : World) (hs : s.length ≤ 4194304) : Calls Tryd.prog 79 #[.string ⟨(s).toArray⟩] w fun e w' => e = .returned (.bool (pkgB s)) ∧ X w w' := by
  cases he : s.isEmpty
  all_goals
    go_enter Tryd.func79, Tryd.ntmps79
    go_wp2_with (go_at_call 77; refine (validName_c _ _ hs).mono ?_; rintro _ _ ⟨rfl, hX⟩)
    go_ret
  · exact ⟨ret_bool (by rw [pkgB, he]; rfl), hX⟩
  · exact ⟨ret_bool (by rw [pkgB, he]; rfl), X.refl _⟩
set_option maxHeartbeats 400000 in
theorem child_c (p s : List UInt8) (w : World) (hp : p.length ≤ 1048576) (hs : s.length ≤ 1048576) : Calls Tryd.prog 81 #[.string ⟨(p).toArray⟩, .string ⟨(s).toArray⟩] w fun e w' => e = .returned (.string ⟨(childL p s).toArray⟩) ∧ w = w' := by
  cases he : p.isEmpty
  all_goals
    go_enter Tryd.func81, Tryd.ntmps81
    go_wp2
    go_ret
    exact ⟨by simp [childL, he], rfl⟩
theorem childL_length (p s : List UInt8) (hp : p.length ≤ 1048576) (hs : s.length ≤ 1048576) : (childL p s).length ≤ 4194304 := by
  unfold childL; split
  · omega
  · simp; omega
set_option maxHeartbeats 400000 in
theorem ChildOf_c (p s : List UInt8) (w : World) (hp : p.length ≤ 1048576) (hs : s.length ≤ 1048576) (hG : Gm w) : Calls Tryd.prog 87 #[.string ⟨(p).toArray⟩, .string ⟨(s).toArray⟩] w fun e w' => e = .returned (.string ⟨(childOf p s).toArray⟩) ∧ X w w' := by
  have hl := childL_length p s hp hs
  cases h1 : pkgB p
  · go_enter Tryd.func87, Tryd.ntmps87
    go_wp2_with (go_at_call 85; refine (packageOk_c _ _ (by omega) hG).mono ?_; rintro _ _ ⟨rfl, hX⟩)
    go_ret
    exact ⟨by simp [childOf, h1], hX⟩
  cases h2 : partB s
  · go_enter Tryd.func87, Tryd.ntmps87
    go_wp2_with (first | (go_at_call 85; refine (packageOk_c _ _ (by omega) hG).mono ?_; rintro _ _ ⟨rfl, hX⟩) | (go_at_call 86; refine (ValidPart_c _ _ (by omega)).mono ?_; rintro _ _ ⟨rfl, rfl⟩))
    go_ret
    exact ⟨by simp [childOf, h1, h2], hX⟩
  cases he : p.isEmpty
  · cases h3 : nameB (p ++ 46 :: s)
    all_goals
      go_enter Tryd.func87, Tryd.ntmps87
      go_wp2_with (first | (go_at_call 85; refine (packageOk_c _ _ (by omega) hG).mono ?_; rintro _ _ ⟨rfl, hX⟩; replace hG := hG.mono hX) | (go_at_call 86; refine (ValidPart_c _ _ (by omega)).mono ?_; rintro _ _ ⟨rfl, rfl⟩) | (go_at_call 83; refine (ValidName_c _ _ (by simp; omega) hG).mono ?_; rintro _ _ ⟨rfl, hX2⟩))
      go_ret
      exact ⟨by simp [childOf, childL, h1, h2, h3, he], hX.trans hX2⟩
  · cases h3 : nameB s
    all_goals
      go_enter Tryd.func87, Tryd.ntmps87
      go_wp2_with (first | (go_at_call 85; refine (packageOk_c _ _ (by omega) hG).mono ?_; rintro _ _ ⟨rfl, hX⟩; replace hG := hG.mono hX) | (go_at_call 86; refine (ValidPart_c _ _ (by omega)).mono ?_; rintro _ _ ⟨rfl, rfl⟩) | (go_at_call 83; refine (ValidName_c _ _ (by omega) hG).mono ?_; rintro _ _ ⟨rfl, hX2⟩))
      go_ret
      exact ⟨by simp [childOf, childL, h1, h2, h3, he], hX.trans hX2⟩

end Go.Proofs.YtjlooplpjliaiaaDoor
