/- Several texts in one: FoundW, FoundI, Edit, AcV. No condition but lengths. -/
import Derived.Test.YtgjfjjhmgbemcaaGreatDoorLg
import Derived.Test.YtgjfjjhmgbemcaaGreatDoorLc
import Derived.Deep.RegionHeld3
import Derived.Deep.RegionHeldLaw
import Derived.Test.YtgjfjjhmgbemcaaGreatDoorIe
import Derived.Test.YtgjfjjhmgbemcaaGreatDoorLj
import Derived.Test.YtgjfjjhmgbemcaaGreatDoorId
import Derived.Test.YtgjfjjhmgbemcaaGreatDoorLe
import Derived.Test.YtgjfjjhmgbemcaaGreatDoorIb
import Derived.Deep.CutRange
namespace Go.Proofs.YtgjfjjhmgbemcaaGreatDoor
open Go.RowKit

end Go.Proofs.YtgjfjjhmgbemcaaGreatDoor

namespace Go.Proofs.YtgjfjjhmgbemcaaGreatDoor
open Go.RowKit

theorem run_append_zero_k {P : Program} {w : World} (base : Nat) (t ty e : TypeId) (i : TypeInfo) (size : Nat) (ht : P.underlying t = some (.slice e)) (hi : P.info? e = some i)
    (v : Value) (n c : Nat) (sa : Option Addr) (xs : List Value) (hown : w.ownsRow base e size v n xs) :
    (Builtin.append_ #[t, t] ty #[v, .slice sa 0 c]).run P w = .ok v w := by
  rcases hown.2 with ⟨rfl, rfl⟩ | ⟨g, cap, cur, rfl, _, _, hnc, _⟩
  · cases sa <;> simp [Builtin.append_, run_underlying ht, sizeOf, typeInfo, hi, Builtin.lenOf, Builtin.firstCells, loadCells, loadCellsFrom]
  · cases sa <;> simp [Builtin.append_, run_underlying ht, sizeOf, typeInfo, hi, Builtin.lenOf, Builtin.firstCells, hnc, storeCells, loadCells, loadCellsFrom]
/-- append of a whole slice, wherever it lies, as one step of a region that draws its order. -/
theorem step_append_slK {P : Program} {ops : Array Oper} {o : Oper} {a : Act} {K : Act → World → Prop} {Q : Exit → Act → World → Prop} {E : Prop} {t e size bytes : Nat} (hT : AppT P t e size bytes) (hgd : o.guard = none) (s x : Operand)
    (ho : o.op = .call { callee := .builtin .append, args := #[s, x], argTypes := #[t, t] }) {w : World} {B B' : Nat} {v : Value} {n : Nat} {xs : List Value}
    (hown : w.ownsRow B e size v n xs) (hs : a.eval s = v) {sa : Option Addr} {m c : Nat} {news : List Value} (hx : a.eval x = .slice sa m c) (hsl : Sl w B' sa m news) (hl : news.length = m * size) (h1 : ∀ u ∈ news, u.oneCell' = true)
    (hb : (n + m) * bytes ≤ 140737488355328) (hn : n + m ≤ maxLen) (hBw : B ≤ w.heap.size)
    (h : ∀ a' c' w', w'.ownsRow B e size (.slice a' (n + m) c') (n + m) (xs ++ news) → w.grownBy w' v.ownBlock → (∀ g, v.ownBlock = some g → B ≤ g) → K (a.put o.dst (.slice a' (n + m) c')) w') :
    if Region.wanted o (yielded ops a.tmps) = true then Oper.wp P o a w K Q else E := by
  obtain ⟨i, z, hi, hz, hsize, hby, hzs⟩ := hT.hi
  rcases Nat.eq_zero_or_pos m with h0 | h0
  · subst h0
    have hnil : news = [] := by rw [Nat.zero_mul] at hl; exact List.length_eq_zero_iff.1 hl
    subst hnil
    obtain ⟨a', c', rfl⟩ := own_slice hown
    have hrun := run_append_zero_k (P := P) (w := w) B t o.type e i size hT.ht hi _ n c sa xs hown
    have hw : Region.wanted o (yielded ops a.tmps) = true := by simp [Region.wanted, hgd]
    rw [if_pos hw]
    unfold Oper.wp
    simp [execOp, ho, resolve, invoke, builtin, hs, hx, hrun, Result.andThen]
    exact h a' c' w (by simpa using hown) (World.grownBy.refl _ _) (fun g hg => (hown.lt g hg).1)
  · obtain ⟨b, off, rfl, _, hbl, hc⟩ := hsl h0
    refine step_append_lies w hgd s x t ho B e i z size bytes hT.ht hi hz hsize hby hzs hT.hsz v n xs hs hown ⟨b, off, none⟩ m c news hx hl (fun j u hu => ?_) h1 h0 hn hb hBw _ rfl (fun g cap w' h2 h3 _ _ => h _ _ w' h2 h3 (fun g hg => (hown.lt g hg).1))
    have hj : j < news.length := (List.getElem?_eq_some_iff.1 hu).1
    have hadd : (⟨b, off, none⟩ : Addr).add j = ⟨b, off + j, none⟩ := by unfold Addr.add; split <;> simp_all
    rw [hadd, hc j hj, ← hu, List.getElem?_eq_getElem hj]


end Go.Proofs.YtgjfjjhmgbemcaaGreatDoor

namespace Go.Proofs.YtgjfjjhmgbemcaaGreatDoor
open Go.RowKit

theorem edit_two {l : List Fi} {k : Nat} {st : Int} {b : List St} (hk : k < l.length) : (l.set k { nth l k with stamp := st }).set k { nth (l.set k { nth l k with stamp := st }) k with body := b } = l.set k (edF (nth l k) st b) := by
  rw [List.set_set, nth_setF hk, if_pos rfl]
  rfl
theorem okL_edit {l : List Fi} {k : Nat} {st : Int} {b : List St} (h : OkL l) (hk : k < l.length) (hb : b.length ≤ 2097152) (ho : ∀ s ∈ b, Oks s) : OkL (l.set k (edF (nth l k) st b)) := by
  refine ⟨by rw [List.length_set]; exact h.1, fun f hf => ?_⟩
  rcases List.mem_or_eq_of_mem_set hf with hf | rfl
  · exact h.2 f hf
  · exact ⟨(h.2 _ (nth_mem hk)).1, hb, ho⟩
set_option maxRecDepth 100000 in
set_option maxHeartbeats 2000000 in
theorem EditFile_i (l : List Fi) (a : Option Addr) (n c B : Nat) (i st : Int) (b : List St) (ba : Option Addr) (bn bc Bb : Nat) (w : World) (hF : FilesAt w B a n l) (hnc : n ≤ c) (hS : StmtsAt w Bb ba bn b) (hG : Gm w) :
    Calls Tryz.prog 162 #[.agg #[.slice a n c], .int .i64 i, .int .i64 st, .slice ba bn bc] w fun e w' => ∃ ra rc, e = .returned (.tuple #[.agg #[.slice ra (edL l i st b).length rc], .bool (edB l i st b)]) ∧ FilesO w' w.heap.size ra (edL l i st b).length rc (edL l i st b) ∧ X w w' := by
  obtain ⟨hl, hn⟩ := hF.len
  have okL := hF.okL
  have hS1 := hS.1
  have hS2 := hS.2.1
  have hS3 := hS.2.2.1
  have q1 : IntKind.i64.wrap ((n : Int) - 1) = (n : Int) - 1 := IntWalk.i64_in _ (by omega)
  cases h1 : treeB l <;> cases h2 : rangeB i 0 ((n : Int) - 1)
  case true.true =>
    obtain ⟨k, rfl⟩ : ∃ k : Nat, i = (k : Int) := ⟨i.toNat, by have := (rangeB_iff.1 h2).1; omega⟩
    have hk : k < n := by have := (rangeB_iff.1 h2).2; omega
    have hrb : edB l (k : Int) st b = (rangeB st 0 99 && bodyB b) := by rw [edB, h1, ← hl, h2]; simp
    have htv := treeB_edit (st := st) (b := b) h1 (show k < l.length by omega)
    have hokE := okL_edit (st := st) okL (show k < l.length by omega) (by omega) hS3
    have h2e := edit_two (st := st) (b := b) (show k < l.length by omega)
    have heL : edL l (k : Int) st b = if (rangeB st 0 99 && bodyB b) then l.set k (edF (nth l k) st b) else [] := by rw [edL, hrb]; rfl
    rw [heL, hrb]
    have hlE : (l.set k (edF (nth l k) st b)).length = n := by rw [List.length_set, hl]
    obtain ⟨V, hV⟩ : ∃ V, (rangeB st 0 99 && bodyB b) = V := ⟨_, rfl⟩
    obtain ⟨E, hE⟩ : ∃ E, l.set k (edF (nth l k) st b) = E := ⟨_, rfl⟩
    rw [hV, hE]
    rw [hE, hV] at htv
    rw [hE] at hokE hlE h2e
    have HlE := Lib.hid hlE
    have H2 := Lib.hid h2e
    have HS1 := Lib.hid hS1
    clear hl hrb heL hV hE hlE h2e hS1
    go_enter Tryz.func162, Tryz.ntmps162
    go_wp2_with fail
    refine calls_name (fun W0 hW0 => ?_)
    obtain ⟨hT, hR, hX0⟩ := bx2 hW0
    clear hW0
    refine (ValidTree_c l a n c B W0 (hF.mono (hX0.fr _)) hnc (hG.mono hX0)).mono ?_
    rintro _ w1 ⟨rfl, hx1⟩
    rw [h1]
    obtain ⟨lt1, ct1, _⟩ := (hT.x hx1).out
    have t0 := ct1 0
    clear ct1
    go_wp2_with (go_at_call 80; refine (within_c (k : Int) 0 _ _).mono ?_; rintro _ _ ⟨rfl, rfl⟩; rw [h2])
    refine (cloneTree_c l a n c B w1 (hF.mono ((hX0.trans hx1).fr _))).mono ?_
    rintro _ w2 ⟨ra, rc, rfl, hFO, hx2⟩
    obtain ⟨g, rfl, hBg, hgl⟩ : ∃ g, ra = some ⟨g, 0, none⟩ ∧ w1.heap.size ≤ g ∧ g < w2.heap.size := by
      obtain ⟨vs, _, _, hrow, _⟩ := hFO
      exact own_form hrow (by omega)
    obtain ⟨hrow, hrc⟩ : (∃ xs, w2.ownsRow w1.heap.size 44 6 (.slice (some ⟨g, 0, none⟩) n rc) n xs) ∧ n ≤ rc := by
      obtain ⟨vs, _, _, hrow, _⟩ := hFO
      exact ⟨⟨_, hrow⟩, own_cap hrow⟩
    obtain ⟨xs, hrow⟩ := hrow
    have hX2 := (hX0.trans hx1).trans hx2
    have hs1 : w.heap.size + 2 ≤ w1.heap.size := by have := hx1.size; have := hR.lt; omega
    have hs2 : w1.heap.size ≤ w2.heap.size := hx2.size
    have hf4 := (hrow).frozenAt (k * 6 + 4); obtain ⟨u4, hu4⟩ := own_here hrow (j := k * 6 + 4) (by omega)
    have hR2 := (hR.x hx1).x hx2
    have r1 : (0 : Int) ≤ (k : Int) := by omega
    have r2 : (k : Int) < (n : Int) := by omega
    go_wp2
    refine wp_name (fun W4 hW4 => ?_)
    have hFO4 : FilesO W4 w1.heap.size (some ⟨g, 0, none⟩) n rc (l.set k { nth l k with stamp := st }) := by
      rw [hW4]
      exact (filesO_stamp hFO hk).fr (X.fr (by (repeat (first | with_reducible exact X.refl _ | with_reducible assumption | with_reducible refine X.setCell ?_ (by first | (simp; done) | (simp; omega)) _ | with_reducible refine X.ext ?_ _ | with_reducible refine X.alloc ?_ _ | with_reducible refine X.drew ?_))) _)
    have hX4 : X w W4 := by
      rw [hW4]
      exact X.alloc (X.setCell hX2 (by simp; omega) _) _
    have hO4 : Bx W4 w2.heap.size #[.slice (some ⟨g, 0, none⟩) n rc] := by
      rw [hW4]
      have := Bx.new (w2.setCell ⟨g, k * 6 + 4, none⟩ (.int .i64 st)) #[.slice (some ⟨g, 0, none⟩) n rc] 35
      simpa using this
    have hR4 : Bx W4 (w.heap.size + 1) #[.slice none 0 0] := by
      rw [hW4]
      exact (hR2.far (p := ⟨g, k * 6 + 4, none⟩) (by simp; omega) _).x (by (repeat (first | with_reducible exact X.refl _ | with_reducible assumption | with_reducible refine X.setCell ?_ (by first | (simp; done) | (simp; omega)) _ | with_reducible refine X.ext ?_ _ | with_reducible refine X.alloc ?_ _ | with_reducible refine X.drew ?_)))
    clear hW4 hrow hf4 hu4 hFO hR2
    have h2e := H2.out
    obtain ⟨l4, hl4⟩ : ∃ l4, l.set k { nth l k with stamp := st } = l4 := ⟨_, rfl⟩
    rw [hl4] at h2e hFO4
    clear H2 hl4
    have H2 := Lib.hid h2e
    clear h2e
    obtain ⟨xs4, hrow4⟩ : ∃ xs, W4.ownsRow w1.heap.size 44 6 (.slice (some ⟨g, 0, none⟩) n rc) n xs := by
      obtain ⟨vs, _, _, hrow, _⟩ := hFO4
      exact ⟨_, hrow⟩
    have hf5 := (hrow4).frozenAt (k * 6 + 5); obtain ⟨u5, hu5⟩ := own_here hrow4 (j := k * 6 + 5) (by omega)
    have hgl4 := (hrow4.lt g rfl).2
    have hs4 := hO4.lt
    have hgt : w2.heap.size ≠ g := by omega
    have t5 := bxC hO4
    have HX4 := Lib.hid hX4
    clear hrow4
    go_region_held3 (fun W' => W'.cell? ⟨w2.heap.size, 0, none⟩ = some (.slice (some ⟨g, 0, none⟩) n rc)) (first | exact t5 | exact (World.cell?_ext _ _ _ _ hs4).trans t5 | exact (World.cell?_ext _ _ _ _ (by first | exact hs4 | (simp; omega))).trans (cell_set_far t5 hgt) | exact cell_set_far (by assumption) hgt | go_keep)
      (first
        | (go_at_call 153; refine (cloneBody_c b ba bn bc _ _ (hS.mono (X.fr (hX4.trans (by (repeat (first | exact X.refl _ | assumption | refine X.ext ?_ _ | refine X.alloc ?_ _ | refine X.drew ?_)))) _))).mono ?_; rintro _ w5 ⟨rb, rc5, rfl, hO5, hx5⟩; replace hx5 := X.trans (a := W4) (by (repeat (first | exact X.refl _ | assumption | refine X.ext ?_ _ | refine X.alloc ?_ _ | refine X.drew ?_))) hx5; obtain ⟨z5, rfl⟩ := hx5))
    go_wp2_with fail
    refine calls_name (fun W6 hW6 => ?_)
    have hX64 : X w W6 := by
      rw [hW6]
      exact X.ext (X.setCell HX4.out (by simp; omega) _) _
    have hFO6 : FilesO W6 w1.heap.size (some ⟨g, 0, none⟩) n rc E := by
      have h0 : (World.ext W4 z5).ownsRow W4.heap.size 148 5 (.slice rb b.length rc5) b.length (b.flatMap scells) := by
        have h1 := hO5
        rw [HS1.out] at h1
        exact h1
      have h3 := filesO_body hFO4 hk ((X.refl W4).ext z5) h0 (by omega)
      rw [H2.out, World.setCell_ext _ _ _ _ _ hgl4, ← HS1.out] at h3
      rw [hW6]
      exact h3
    have hO6 : Bx W6 w2.heap.size #[.slice (some ⟨g, 0, none⟩) n rc] := by
      rw [hW6]
      exact (hO4.far (p := ⟨g, k * 6 + 5, none⟩) (by simp; omega) _).x (by (repeat (first | with_reducible exact X.refl _ | with_reducible assumption | with_reducible refine X.setCell ?_ (by first | (simp; done) | (simp; omega)) _ | with_reducible refine X.ext ?_ _ | with_reducible refine X.alloc ?_ _ | with_reducible refine X.drew ?_)))
    have hR6 : Bx W6 (w.heap.size + 1) #[.slice none 0 0] := by
      rw [hW6]
      exact (hR4.far (p := ⟨g, k * 6 + 5, none⟩) (by simp; omega) _).x (by (repeat (first | with_reducible exact X.refl _ | with_reducible assumption | with_reducible refine X.setCell ?_ (by first | (simp; done) | (simp; omega)) _ | with_reducible refine X.ext ?_ _ | with_reducible refine X.alloc ?_ _ | with_reducible refine X.drew ?_)))
    clear hW6 hO5 hFO4 hR4 hO4 H2 HS1 hf5 hu5 t5 hgl4 hs4
    refine (ValidTree_c E _ n rc w1.heap.size W6 (hFO6.at hokE) hrc (hG.mono hX64)).mono ?_
    rintro _ w7 ⟨rfl, hx7⟩
    rw [htv]
    have hR7 := hR6.x hx7
    have hO7 := hO6.x hx7
    have hFO7 := hFO6.fr (hx7.fr _)
    have hX7 := hX64.trans hx7
    clear hR6 hO6 hFO6 hX64 hx7
    obtain ⟨lr, cr, fr⟩ := hR7.out
    have r0 := cr 0
    have t7 := bxC hO7
    have lt7 := hO7.lt
    clear cr
    cases V
    · go_wp2
      have hRf := (Bx.set hR7 0 (.slice none 0 0)).out.2.1 0
      refine bodyPost_ret (v := .tuple #[.agg #[.slice none 0 0], .bool false]) (by simp [results, Tryz.results162, go_sem, hRf]) rfl ?_
      exact ⟨none, 0, rfl, FilesO.nil _ _, X.setCell hX7 (by simp) _⟩
    · go_wp2
      have hRf := (Bx.set hR7 0 (.slice (some ⟨g, 0, none⟩) n rc)).out.2.1 0
      refine bodyPost_ret (v := .tuple #[.agg #[.slice (some ⟨g, 0, none⟩) n rc], .bool true]) (by simp [results, Tryz.results162, go_sem, hRf]) rfl ?_
      exact ⟨some ⟨g, 0, none⟩, rc, by rw [HlE.out], ((by rw [HlE.out]; exact (hFO7.fr (Fr.set (Fr.refl w1.heap.size _) (p := ⟨w.heap.size + 1, 0, none⟩) (.inr (by simp; omega)) _)).less (by omega))), X.setCell hX7 (by simp) _⟩
  all_goals
    have hrb : edB l i st b = false := by rw [edB, h1, ← hl, h2]; rfl
    rw [show edL l i st b = [] by rw [edL, hrb]; rfl, hrb]
    clear hl hrb hS1
    go_enter Tryz.func162, Tryz.ntmps162
    go_wp2_with fail
    refine calls_name (fun W0 hW0 => ?_)
    obtain ⟨hT, hR, hX0⟩ := bx2 hW0
    clear hW0
    refine (ValidTree_c l a n c B W0 (hF.mono (hX0.fr _)) hnc (hG.mono hX0)).mono ?_
    rintro _ w1 ⟨rfl, hx1⟩
    rw [h1]
    obtain ⟨lt1, ct1, _⟩ := (hT.x hx1).out
    have t0 := ct1 0
    clear ct1
    obtain ⟨lr1, cr1, fr1⟩ := (hR.x hx1).out
    have r0 := cr1 0
    clear cr1
    go_wp2_with (go_at_call 80; refine (within_c i 0 _ _).mono ?_; rintro _ _ ⟨rfl, rfl⟩; rw [h2])
    have hRf := (Bx.set (hR.x hx1) 0 (.slice none 0 0)).out.2.1 0
    refine bodyPost_ret (v := .tuple #[.agg #[.slice none 0 0], .bool false]) (by simp [results, Tryz.results162, go_sem, hRf]) rfl ?_
    exact ⟨none, 0, rfl, FilesO.nil _ _, X.setCell (hX0.trans hx1) (by simp) _⟩
set_option maxRecDepth 100000 in
set_option maxHeartbeats 4000000 in
theorem EditFile_s (l : List Fi) (a : Option Addr) (n c B : Nat) (i st : Int) (b : List St) (ba : Option Addr) (bn bc Bb : Nat) (w : World) (hF : FilesAt w B a n l) (hS : StmtsAt w Bb ba bn b) :
    Calls Tryz.prog 117 #[.agg #[.slice a n c], .int .i64 i, .int .i64 st, .slice ba bn bc] w fun e w' => ∃ ra rc, e = .returned (.tuple #[.agg #[.slice ra (edL l i st b).length rc], .bool (edB l i st b)]) ∧ FilesO w' w.heap.size ra (edL l i st b).length rc (edL l i st b) ∧ X w w' := by
  obtain ⟨hl, hn⟩ := hF.len
  have hS1 := hS.1
  have hS2 := hS.2.1
  have q1 : IntKind.i64.wrap ((n : Int) - 1) = (n : Int) - 1 := IntWalk.i64_in _ (by omega)
  cases h1 : treeB l <;> cases h2 : rangeB i 0 ((n : Int) - 1) <;> cases h3 : rangeB st 0 99 <;> cases h4 : bodyB b
  case true.true.true.true =>
    obtain ⟨k, rfl⟩ : ∃ k : Nat, i = (k : Int) := ⟨i.toNat, by have := (rangeB_iff.1 h2).1; omega⟩
    have hk : k < n := by have := (rangeB_iff.1 h2).2; omega
    have hrb : edB l (k : Int) st b = true := by rw [edB, h1, ← hl, h2, h3, h4]; rfl
    have h2e := edit_two (st := st) (b := b) (show k < l.length by omega)
    have heL : edL l (k : Int) st b = l.set k (edF (nth l k) st b) := by rw [edL, hrb]; rfl
    rw [heL, hrb]
    have hlE : (l.set k (edF (nth l k) st b)).length = n := by rw [List.length_set, hl]
    have hbl : (b.flatMap scells).length = bn * 5 := by rw [scells_len, hS1]
    obtain ⟨E, hE⟩ : ∃ E, l.set k (edF (nth l k) st b) = E := ⟨_, rfl⟩
    rw [hE]
    rw [hE] at hlE h2e
    have HlE := Lib.hid hlE
    have H2 := Lib.hid h2e
    have HS1 := Lib.hid hS1
    have Hbl := Lib.hid hbl
    clear hl hrb heL hE hlE h2e hS1 hbl
    go_enter Tryz.func117, Tryz.ntmps117
    go_wp2_with fail
    refine calls_name (fun W0 hW0 => ?_)
    obtain ⟨hT, hR, hX0⟩ := bx2 hW0
    clear hW0
    refine (validTree_c l a n c B W0 (hF.mono (hX0.fr _))).mono ?_
    rintro _ w0 ⟨rfl, hx0⟩
    rw [h1]
    have hT0 := hT.x hx0
    have hR0 := hR.x hx0
    have hX00 := hX0.trans hx0
    have t0 := bxC hT0
    have lt0 := hT0.lt
    have hlR := hR.lt
    clear hT hR hX0 hx0
    go_wp2_with (first
      | (go_at_call_of 40 st; refine (inRange_c st 0 _ _).mono ?_; rintro _ _ ⟨rfl, rfl⟩; rw [h3])
      | (go_at_call 40; refine (inRange_c (k : Int) 0 _ _).mono ?_; rintro _ _ ⟨rfl, rfl⟩; rw [h2]))
    refine (validBody_c b ba bn bc Bb w0 (hS.mono (hX00.fr _))).mono ?_
    rintro _ w1 ⟨rfl, hx1⟩
    rw [h4]
    have hT1 := hT0.x hx1
    have hR1 := hR0.x hx1
    have hX1 := hX00.trans hx1
    have hsR := hR0.lt
    clear t0 lt0 hT0 hR0 hX00
    have t0 := bxC hT1
    have lt0 := hT1.lt
    go_wp2_with fail
    refine (copyTree_c l a n c B w1 (hF.mono (hX1.fr _))).mono ?_
    rintro _ w2 ⟨ra, rc, rfl, hFO, hx2⟩
    obtain ⟨g, rfl, hBg, hgl⟩ : ∃ g, ra = some ⟨g, 0, none⟩ ∧ w1.heap.size ≤ g ∧ g < w2.heap.size := by
      obtain ⟨vs, _, _, hrow, _⟩ := hFO
      exact own_form hrow (by omega)
    obtain ⟨hrow, hrc⟩ : (∃ xs, w2.ownsRow w1.heap.size 44 6 (.slice (some ⟨g, 0, none⟩) n rc) n xs) ∧ n ≤ rc := by
      obtain ⟨vs, _, _, hrow, _⟩ := hFO
      exact ⟨⟨_, hrow⟩, own_cap hrow⟩
    obtain ⟨xs, hrow⟩ := hrow
    have hX2 := hX1.trans hx2
    have hs1 : w.heap.size + 2 ≤ w1.heap.size := by have := hx1.size; omega
    have hs2 : w1.heap.size ≤ w2.heap.size := hx2.size
    have hf4 := (hrow).frozenAt (k * 6 + 4); obtain ⟨u4, hu4⟩ := own_here hrow (j := k * 6 + 4) (by omega)
    have hR2 := hR1.x hx2
    have r1 : (0 : Int) ≤ (k : Int) := by omega
    have r2 : (k : Int) < (n : Int) := by omega
    clear t0 lt0 hT1 hR1 hX1 hx1 hx2 hsR hlR
    go_wp2
    refine wp_name (fun W4 hW4 => ?_)
    have hFO4 : FilesO W4 w1.heap.size (some ⟨g, 0, none⟩) n rc (l.set k { nth l k with stamp := st }) := by
      rw [hW4]
      exact (filesO_stamp hFO hk).fr (X.fr (by (repeat (first | with_reducible exact X.refl _ | with_reducible assumption | with_reducible refine X.setCell ?_ (by first | (simp; done) | (simp; omega)) _ | with_reducible refine X.ext ?_ _ | with_reducible refine X.alloc ?_ _ | with_reducible refine X.drew ?_))) _)
    have hX4 : X w W4 := by
      rw [hW4]
      exact X.alloc (X.setCell hX2 (by simp; omega) _) _
    have hO4 : Bx W4 w2.heap.size #[.slice (some ⟨g, 0, none⟩) n rc] := by
      rw [hW4]
      have := Bx.new (w2.setCell ⟨g, k * 6 + 4, none⟩ (.int .i64 st)) #[.slice (some ⟨g, 0, none⟩) n rc] 35
      simpa using this
    have hR4 : Bx W4 (w.heap.size + 1) #[.slice none 0 0] := by
      rw [hW4]
      exact (hR2.far (p := ⟨g, k * 6 + 4, none⟩) (by simp; omega) _).x (by (repeat (first | with_reducible exact X.refl _ | with_reducible assumption | with_reducible refine X.setCell ?_ (by first | (simp; done) | (simp; omega)) _ | with_reducible refine X.ext ?_ _ | with_reducible refine X.alloc ?_ _ | with_reducible refine X.drew ?_)))
    clear hW4 hrow hf4 hu4 hFO hR2
    have h2e := H2.out
    obtain ⟨l4, hl4⟩ : ∃ l4, l.set k { nth l k with stamp := st } = l4 := ⟨_, rfl⟩
    rw [hl4] at h2e hFO4
    clear H2 hl4
    have H2 := Lib.hid h2e
    clear h2e
    obtain ⟨xs4, hrow4⟩ : ∃ xs, W4.ownsRow w1.heap.size 44 6 (.slice (some ⟨g, 0, none⟩) n rc) n xs := by
      obtain ⟨vs, _, _, hrow, _⟩ := hFO4
      exact ⟨_, hrow⟩
    have hf5 := (hrow4).frozenAt (k * 6 + 5); obtain ⟨u5, hu5⟩ := own_here hrow4 (j := k * 6 + 5) (by omega)
    have hgl4 := (hrow4.lt g rfl).2
    have hs4 := hO4.lt
    have hgt : w2.heap.size ≠ g := by omega
    have t5 := bxC hO4
    have HX4 := Lib.hid hX4
    clear hrow4
    go_region_held3 (fun W' => W'.cell? ⟨w2.heap.size, 0, none⟩ = some (.slice (some ⟨g, 0, none⟩) n rc)) (first | exact t5 | exact (World.cell?_ext _ _ _ _ hs4).trans t5 | exact (World.cell?_ext _ _ _ _ (by first | exact hs4 | (simp; omega))).trans (cell_set_far t5 hgt) | exact cell_set_far (by assumption) hgt | go_keep)
      (first
        | (refine step_append_slK (B := W4.heap.size) (xs := []) (n := 0) stmt_T' rfl _ _ rfl (by first | exact hrow | exact own_lit (n := 0) (size := 5) (cs := #[]) rfl (X.size (by (repeat (first | with_reducible exact X.refl _ | with_reducible assumption | with_reducible refine X.setCell ?_ (by first | (simp; done) | (simp; omega)) _ | with_reducible refine X.ext ?_ _ | with_reducible refine X.alloc ?_ _ | with_reducible refine X.drew ?_)))) rfl (by omega)) rfl rfl (hS.mono (X.fr (HX4.out.trans (by (repeat (first | with_reducible exact X.refl _ | with_reducible assumption | with_reducible refine X.setCell ?_ (by first | (simp; done) | (simp; omega)) _ | with_reducible refine X.ext ?_ _ | with_reducible refine X.alloc ?_ _ | with_reducible refine X.drew ?_)))) _)).2.2.2 Hbl.out (scells_one b) (by omega) (by unfold maxLen; omega) (X.size (by (repeat (first | with_reducible exact X.refl _ | with_reducible assumption | with_reducible refine X.setCell ?_ (by first | (simp; done) | (simp; omega)) _ | with_reducible refine X.ext ?_ _ | with_reducible refine X.alloc ?_ _ | with_reducible refine X.drew ?_)))) ?_; intro rb rc5 w5 hO5 hx5 hgB; have hx5 : X W4 w5 := X.of_below ((X.below (w := W4) (by (repeat (first | with_reducible exact X.refl _ | with_reducible assumption | with_reducible refine X.setCell ?_ (by first | (simp; done) | (simp; omega)) _ | with_reducible refine X.ext ?_ _ | with_reducible refine X.alloc ?_ _ | with_reducible refine X.drew ?_)))).grown hx5 (X.size (by (repeat (first | with_reducible exact X.refl _ | with_reducible assumption | with_reducible refine X.setCell ?_ (by first | (simp; done) | (simp; omega)) _ | with_reducible refine X.ext ?_ _ | with_reducible refine X.alloc ?_ _ | with_reducible refine X.drew ?_)))) hgB); obtain ⟨z5, rfl⟩ := hx5))
    rw [List.nil_append, Nat.zero_add] at hO5
    refine act_name (fun W6 hW6 => ?_)
    have hX64 : X w W6 := by
      rw [hW6]
      exact X.ext (X.setCell HX4.out (by simp; omega) _) _
    have hFO6 : FilesO W6 w1.heap.size (some ⟨g, 0, none⟩) n rc E := by
      have h0 : (World.ext W4 z5).ownsRow W4.heap.size 148 5 (.slice rb b.length rc5) b.length (b.flatMap scells) := by
        have h1 := hO5
        rw [HS1.out] at h1
        exact h1
      have h3 := filesO_body hFO4 hk ((X.refl W4).ext z5) h0 (by omega)
      rw [H2.out, World.setCell_ext _ _ _ _ _ hgl4, ← HS1.out] at h3
      rw [hW6]
      exact h3
    have hO6 : Bx W6 w2.heap.size #[.slice (some ⟨g, 0, none⟩) n rc] := by
      rw [hW6]
      exact (hO4.far (p := ⟨g, k * 6 + 5, none⟩) (by simp; omega) _).x (by (repeat (first | with_reducible exact X.refl _ | with_reducible assumption | with_reducible refine X.setCell ?_ (by first | (simp; done) | (simp; omega)) _ | with_reducible refine X.ext ?_ _ | with_reducible refine X.alloc ?_ _ | with_reducible refine X.drew ?_)))
    have hR6 : Bx W6 (w.heap.size + 1) #[.slice none 0 0] := by
      rw [hW6]
      exact (hR4.far (p := ⟨g, k * 6 + 5, none⟩) (by simp; omega) _).x (by (repeat (first | with_reducible exact X.refl _ | with_reducible assumption | with_reducible refine X.setCell ?_ (by first | (simp; done) | (simp; omega)) _ | with_reducible refine X.ext ?_ _ | with_reducible refine X.alloc ?_ _ | with_reducible refine X.drew ?_)))
    clear hW6 hO5 hFO4 hR4 hO4 H2 HS1 hf5 hu5 t5 hgl4 hs4
    obtain ⟨lr, cr, fr⟩ := hR6.out
    have r0 := cr 0
    have t7 := bxC hO6
    have lt7 := hO6.lt
    clear cr
    go_wp2
    have hRf := (Bx.set hR6 0 (.slice (some ⟨g, 0, none⟩) n rc)).out.2.1 0
    refine bodyPost_ret (v := .tuple #[.agg #[.slice (some ⟨g, 0, none⟩) n rc], .bool true]) (by simp [results, Tryz.results117, go_sem, hRf]) rfl ?_
    exact ⟨some ⟨g, 0, none⟩, rc, by rw [HlE.out], ((by rw [HlE.out]; exact (hFO6.fr (Fr.set (Fr.refl w1.heap.size _) (p := ⟨w.heap.size + 1, 0, none⟩) (.inr (by simp; omega)) _)).less (by omega))), X.setCell hX64 (by simp) _⟩
  all_goals
    have hrb : edB l i st b = false := by rw [edB, h1, ← hl, h2, h3, h4]; rfl
    rw [show edL l i st b = [] by rw [edL, hrb]; rfl, hrb]
    clear hl hrb hS1
    go_enter Tryz.func117, Tryz.ntmps117
    go_wp2_with fail
    refine calls_name (fun W0 hW0 => ?_)
    obtain ⟨hT, hR, hX0⟩ := bx2 hW0
    clear hW0
    refine (validTree_c l a n c B W0 (hF.mono (hX0.fr _))).mono ?_
    rintro _ w1 ⟨rfl, hx1⟩
    rw [h1]
    have hR1 := hR.x hx1
    have hX1 := hX0.trans hx1
    obtain ⟨lt1, ct1, _⟩ := (hT.x hx1).out
    have t0 := ct1 0
    clear ct1
    obtain ⟨lr1, cr1, fr1⟩ := hR1.out
    have r0 := cr1 0
    clear cr1 hT hR hx1
    go_wp2_with (first
      | (go_at_call_of 40 st; refine (inRange_c st 0 _ _).mono ?_; rintro _ _ ⟨rfl, rfl⟩; rw [h3])
      | (go_at_call 40; refine (inRange_c i 0 _ _).mono ?_; rintro _ _ ⟨rfl, rfl⟩; rw [h2])
      | (go_at_call 115; refine (validBody_c b ba bn bc Bb w1 (hS.mono (hX1.fr _))).mono ?_; rintro _ w2 ⟨rfl, hx2⟩; rw [h4]; replace hR1 := hR1.x hx2; replace hX1 := hX1.trans hx2; obtain ⟨lr2, cr2, fr2⟩ := hR1.out; have r2 := cr2 0; clear cr2))
    have hRf := (Bx.set hR1 0 (.slice none 0 0)).out.2.1 0
    refine bodyPost_ret (v := .tuple #[.agg #[.slice none 0 0], .bool false]) (by simp [results, Tryz.results117, go_sem, hRf]) rfl ?_
    exact ⟨none, 0, rfl, FilesO.nil _ _, X.setCell hX1 (by simp) _⟩
end Go.Proofs.YtgjfjjhmgbemcaaGreatDoor

namespace Go.Proofs.YtgjfjjhmgbemcaaGreatDoor
open Go.RowKit

def actsB (l : List Ac) : Bool := allN (fun k => actB (nth l k)) l.length && decide ((l.length : Int) ≤ 20)
set_option maxRecDepth 100000 in
set_option maxHeartbeats 4000000 in
theorem validActs_s (l : List Ac) (a : Option Addr) (n c B : Nat) (w : World) (hA : ActsAt w B a n l) :
    Calls Tryz.prog 59 #[.slice a n c] w fun e w' => e = .returned (.bool (actsB l)) ∧ X w w' := by
  obtain ⟨hl, hn⟩ := hA.len
  have Hn := Lib.hid hl.symm
  clear hl
  go_enter Tryz.func59, Tryz.ntmps59
  go_wp2
  go_loopw [3, 4] (fun i _ wr => ∃ k : Nat, k ≤ n ∧ i = .int .i64 k ∧ allN (fun k => actB (nth l k)) k = true ∧ X w wr) (fun i _ _ => n - (intOf i).toNat)
  case atStart => exact ⟨0, by omega, rfl, rfl, X.refl _⟩
  case round =>
    obtain ⟨k, hk, rfl, hall, hX⟩ := hrel
    by_cases hlt : k < n
    · obtain ⟨b, off, ba, bn, bc, rfl, _, hb, hok, _, hS, g0, g1, g2, g3, g4, g5, g6, g7, g8⟩ := (hA.mono (hX.fr _)).at_ hlt
      have hk1 : (k : Int) < (n : Int) := by omega
      have hnl := hok.2
      go_upto_region 5 with fail
      refine wp_name (fun W9 hW9 => ?_)
      have hB9 : Bx W9 wr.heap.size (#[.int .i64 ((nth l k)).kind, .int .i64 ((nth l k)).file.root, .string ⟨((nth l k)).file.pkg.toArray⟩, .string ⟨((nth l k)).file.name.toArray⟩, .bool ((nth l k)).file.init, .int .i64 ((nth l k)).file.stamp, .slice ba bn bc, .int .i64 ((nth l k)).idx, .string ⟨((nth l k)).name.toArray⟩]) := by rw [hW9]; exact Bx.new _ _ _
      have hx9 : X wr W9 := by rw [hW9]; (repeat (first | with_reducible exact X.refl _ | with_reducible assumption | with_reducible refine X.setCell ?_ (by first | (simp; done) | (simp; omega)) _ | with_reducible refine X.ext ?_ _ | with_reducible refine X.alloc ?_ _ | with_reducible refine X.drew ?_))
      clear hW9 g0 g1 g2 g3 g4 g5 g6 g7 g8
      have hX9 := hX.trans hx9
      have hS9 := hS.mono (hx9.fr _)
      obtain ⟨ltb, cb, _⟩ := hB9.out
      have c0 := cb 0
      have c1 := cb 1
      have c2 := cb 2
      have c3 := cb 3
      have c4 := cb 4
      have c5 := cb 5
      have c6 := cb 6
      have c7 := cb 7
      have c8 := cb 8
      clear cb hB9
      by_cases h0 : (nth l k).kind = 0
      · have hab : actB (nth l k) = fileB (nth l k).file := by unfold actB; rw [if_pos h0]
        cases hv : fileB (nth l k).file
        all_goals
          rw [hv] at hab
          go_wp2_with ((go_at_call 114; refine (validFile_c (nth l k).file ba bn bc B _ hok.1 hS9).mono ?_; rintro _ w3 ⟨rfl, hx3⟩); rw [hv])
        · go_ret
          exact ⟨ret_bool (by rw [actsB, Hn.out, allN_not (k := k) hab hlt]; rfl), hX9.trans hx3⟩
        · go_roundw
          case rel => exact ⟨k + 1, by omega, by go_num, allN_next hall hab, hX9.trans hx3⟩
          case measure => simp [intOf]; omega
      by_cases h1 : (nth l k).kind = 1
      · have hab : actB (nth l k) = true := by unfold actB; rw [if_neg h0, if_pos h1]
        go_wp2
        go_roundw
        case rel => exact ⟨k + 1, by omega, by go_num, allN_next hall hab, hX9⟩
        case measure => simp [intOf]; omega
      by_cases h2 : (nth l k).kind = 2
      · have hab : actB (nth l k) = bodyB (nth l k).file.body := by unfold actB; rw [if_neg h0, if_neg h1, if_pos h2]
        cases hv : bodyB (nth l k).file.body
        all_goals
          rw [hv] at hab
          go_wp2_with ((go_at_call 115; refine (validBody_c (nth l k).file.body ba bn bc B _ hS9).mono ?_; rintro _ w3 ⟨rfl, hx3⟩); rw [hv])
        · go_ret
          exact ⟨ret_bool (by rw [actsB, Hn.out, allN_not (k := k) hab hlt]; rfl), hX9.trans hx3⟩
        · go_roundw
          case rel => exact ⟨k + 1, by omega, by go_num, allN_next hall hab, hX9.trans hx3⟩
          case measure => simp [intOf]; omega
      by_cases h3 : (nth l k).kind = 3
      · have hab : actB (nth l k) = nameB (nth l k).name := by unfold actB; rw [if_neg h0, if_neg h1, if_neg h2, if_pos h3]
        cases hv : nameB (nth l k).name
        all_goals
          rw [hv] at hab
          go_wp2_with ((go_at_call 116; refine (validName_c (nth l k).name _ (by omega)).mono ?_; rintro _ w3 ⟨rfl, hx3⟩); rw [hv])
        · go_ret
          exact ⟨ret_bool (by rw [actsB, Hn.out, allN_not (k := k) hab hlt]; rfl), hX9.trans hx3⟩
        · go_roundw
          case rel => exact ⟨k + 1, by omega, by go_num, allN_next hall hab, hX9.trans hx3⟩
          case measure => simp [intOf]; omega
      · have hab : actB (nth l k) = false := by unfold actB; rw [if_neg h0, if_neg h1, if_neg h2, if_neg h3]
        go_wp2
        go_ret
        exact ⟨ret_bool (by rw [actsB, Hn.out, allN_not (k := k) hab hlt]; rfl), hX9⟩
    · obtain rfl : k = n := by omega
      go_wp2
      go_ret
      exact ⟨ret_bool (by rw [actsB, Hn.out, hall, Bool.true_and]), hX⟩
set_option maxRecDepth 100000 in
set_option maxHeartbeats 4000000 in
theorem ValidActs_i (l : List Ac) (a : Option Addr) (n c B : Nat) (w : World) (hA : ActsAt w B a n l) (hG : Gm w) :
    Calls Tryz.prog 34 #[.slice a n c] w fun e w' => e = .returned (.bool (actsB l)) ∧ X w w' := by
  obtain ⟨hl, hn⟩ := hA.len
  have Hn := Lib.hid hl.symm
  clear hl
  go_enter Tryz.func34, Tryz.ntmps34
  go_wp2
  go_loopw [4, 5, 8] (fun _ _ i wr => ∃ k : Nat, k ≤ n ∧ i = .int .i64 k ∧ allN (fun k => actB (nth l k)) k = true ∧ X w wr) (fun _ _ i _ => n - (intOf i).toNat)
  case atStart => exact ⟨0, by omega, rfl, rfl, X.refl _⟩
  case round =>
    obtain ⟨k, hk, rfl, hall, hX⟩ := hrel
    by_cases hlt : k < n
    · obtain ⟨b, off, ba, bn, bc, rfl, _, hb, hok, _, hS, g0, g1, g2, g3, g4, g5, g6, g7, g8⟩ := (hA.mono (hX.fr _)).at_ hlt
      have hk1 : (k : Int) < (n : Int) := by omega
      have hnl := hok.2
      go_upto_region 5 with fail
      refine wp_name (fun W9 hW9 => ?_)
      have hB9 : Bx W9 wr.heap.size (#[.int .i64 ((nth l k)).kind, .int .i64 ((nth l k)).file.root, .string ⟨((nth l k)).file.pkg.toArray⟩, .string ⟨((nth l k)).file.name.toArray⟩, .bool ((nth l k)).file.init, .int .i64 ((nth l k)).file.stamp, .slice ba bn bc, .int .i64 ((nth l k)).idx, .string ⟨((nth l k)).name.toArray⟩]) := by rw [hW9]; exact Bx.new _ _ _
      have hx9 : X wr W9 := by rw [hW9]; (repeat (first | with_reducible exact X.refl _ | with_reducible assumption | with_reducible refine X.setCell ?_ (by first | (simp; done) | (simp; omega)) _ | with_reducible refine X.ext ?_ _ | with_reducible refine X.alloc ?_ _ | with_reducible refine X.drew ?_))
      clear hW9 g0 g1 g2 g3 g4 g5 g6 g7 g8
      have hX9 := hX.trans hx9
      have hS9 := hS.mono (hx9.fr _)
      have hG9 := hG.mono hX9
      obtain ⟨ltb, cb, _⟩ := hB9.out
      have c0 := cb 0
      have c1 := cb 1
      have c2 := cb 2
      have c3 := cb 3
      have c4 := cb 4
      have c5 := cb 5
      have c6 := cb 6
      have c7 := cb 7
      have c8 := cb 8
      clear cb hB9
      by_cases h0 : (nth l k).kind = 0
      · have hab : actB (nth l k) = fileB (nth l k).file := by unfold actB; rw [if_pos h0]
        cases hv : fileB (nth l k).file
        all_goals
          rw [hv] at hab
          go_wp2_with ((go_at_call 84; refine (fileOk_c (nth l k).file ba bn bc B _ hok.1 hS9 hG9).mono ?_; rintro _ w3 ⟨rfl, hx3⟩); rw [hv])
        · go_ret
          exact ⟨ret_bool (by rw [actsB, Hn.out, allN_not (k := k) hab hlt]; rfl), hX9.trans hx3⟩
        · go_roundw
          case rel => exact ⟨k + 1, by omega, by go_num, allN_next hall hab, hX9.trans hx3⟩
          case measure => simp [intOf]; omega
      by_cases h1 : (nth l k).kind = 1
      · have hab : actB (nth l k) = true := by unfold actB; rw [if_neg h0, if_pos h1]
        go_wp2
        go_roundw
        case rel => exact ⟨k + 1, by omega, by go_num, allN_next hall hab, hX9⟩
        case measure => simp [intOf]; omega
      by_cases h2 : (nth l k).kind = 2
      · have hab : actB (nth l k) = bodyB (nth l k).file.body := by unfold actB; rw [if_neg h0, if_neg h1, if_pos h2]
        cases hv : bodyB (nth l k).file.body
        all_goals
          rw [hv] at hab
          go_wp2_with ((go_at_call 85; refine (ValidBody_c (nth l k).file.body ba bn bc B _ hS9 hG9).mono ?_; rintro _ w3 ⟨rfl, hx3⟩); rw [hv])
        · go_ret
          exact ⟨ret_bool (by rw [actsB, Hn.out, allN_not (k := k) hab hlt]; rfl), hX9.trans hx3⟩
        · go_roundw
          case rel => exact ⟨k + 1, by omega, by go_num, allN_next hall hab, hX9.trans hx3⟩
          case measure => simp [intOf]; omega
      by_cases h3 : (nth l k).kind = 3
      · have hab : actB (nth l k) = nameB (nth l k).name := by unfold actB; rw [if_neg h0, if_neg h1, if_neg h2, if_pos h3]
        cases hv : nameB (nth l k).name
        all_goals
          rw [hv] at hab
          go_wp2_with ((go_at_call 77; refine (ValidName_c (nth l k).name _ (by omega) hG9).mono ?_; rintro _ w3 ⟨rfl, hx3⟩); rw [hv])
        · go_ret
          exact ⟨ret_bool (by rw [actsB, Hn.out, allN_not (k := k) hab hlt]; rfl), hX9.trans hx3⟩
        · go_roundw
          case rel => exact ⟨k + 1, by omega, by go_num, allN_next hall hab, hX9.trans hx3⟩
          case measure => simp [intOf]; omega
      · have hab : actB (nth l k) = false := by unfold actB; rw [if_neg h0, if_neg h1, if_neg h2, if_neg h3]
        go_wp2
        go_ret
        exact ⟨ret_bool (by rw [actsB, Hn.out, allN_not (k := k) hab hlt]; rfl), hX9⟩
    · obtain rfl : k = n := by omega
      go_wp2
      go_ret
      exact ⟨ret_bool (by rw [actsB, Hn.out, hall, Bool.true_and]), hX⟩

end Go.Proofs.YtgjfjjhmgbemcaaGreatDoor
