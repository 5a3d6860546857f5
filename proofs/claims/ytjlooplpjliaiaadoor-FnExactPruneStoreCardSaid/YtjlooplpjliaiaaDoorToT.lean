/- The laws' own copying of bodies, files and trees. No condition but lengths. -/
import Derived.Test.YtjlooplpjliaiaaDoorToW
namespace Go.Proofs.YtjlooplpjliaiaaDoor
open Go.RowKit

theorem info_stmt : (Tryd.prog.info? 88).map (fun i => (i.zero, i.size, i.bytes)) = some (some (.agg #[.int .i64 0, .string ⟨#[]⟩, .int .i64 0, .string ⟨#[]⟩, .int .i64 0]), 5, 56) := by kernel_rfl
theorem info_file : (Tryd.prog.info? 48).map (fun i => (i.zero, i.size, i.bytes)) = some (some (.agg #[.int .i64 0, .string ⟨#[]⟩, .string ⟨#[]⟩, .bool false, .int .i64 0, .slice none 0 0]), 6, 80) := by kernel_rfl
theorem tree_S : StrT Tryd.prog 30 1 := ⟨⟨_, Tryd.underlying30⟩, by kernel_rfl⟩
theorem file_S' : StrT Tryd.prog 48 6 := ⟨⟨_, Tryd.underlying48⟩, by kernel_rfl⟩

set_option maxRecDepth 100000 in
set_option maxHeartbeats 1000000 in
theorem toStmtS_c (l : List St) (a : Option Addr) (n c B : Nat) (w : World) (hS : StmtsAt w B a n l) :
    Calls Tryd.prog 53 #[.slice a n c] w fun e w' => ∃ ra, e = .returned (.slice ra n n) ∧ w'.ownsRow w.heap.size 88 5 (.slice ra n n) n (l.flatMap scells) ∧ X w w' := by
  have hn := hS.2.1
  have hl := hS.1
  obtain ⟨i0, hi, hz0, hz1, hz2⟩ := info_parts info_stmt
  have hz : (madeCells (Value.agg #[.int .i64 0, .string ⟨#[]⟩, .int .i64 0, .string ⟨#[]⟩, .int .i64 0]).cells (n * 5)).toList.length = l.length * 5 := by rw [Array.length_toList, size_madeCells, hl]
  have Hz := Lib.hid hz
  have Hl := Lib.hid hl
  clear hl hz
  generalize hZ : (madeCells (Value.agg #[.int .i64 0, .string ⟨#[]⟩, .int .i64 0, .string ⟨#[]⟩, .int .i64 0]).cells (n * 5)).toList = Z at *
  go_enter Tryd.func53, Tryd.ntmps53
  go_wp2_with (at_make; refine wpList_make_full _ rfl _ _ 43 rfl w.heap.size 88 i0 (.agg #[.int .i64 0, .string ⟨#[]⟩, .int .i64 0, .string ⟨#[]⟩, .int .i64 0]) 5 Tryd.underlying43 hi hz0 hz1 _ _ _ _ n rfl rfl rfl rfl (by rw [hz2]; omega) (by unfold maxLen; omega) (Nat.le_refl _) ?_; intro w1 hO1 hg1; rw [hZ] at hO1; clear hZ)
  have hX0 : X w w1 := X.of_grown hg1
  clear hg1
  go_loopw [4] (fun i wr => ∃ k : Nat, k ≤ n ∧ i = .int .i64 k ∧ X w wr ∧ wr.ownsRow w.heap.size 88 5 (.slice (some ⟨w.heap.size, 0, none⟩) n n) n (mixR scells 5 l Z k)) (fun i _ => n - (intOf i).toNat)
  case atStart => exact ⟨0, Nat.zero_le _, rfl, hX0, by rw [mixR_zero]; exact hO1⟩
  case round =>
    obtain ⟨k, hk, rfl, hX, hO⟩ := hrel
    clear hX0 hO1
    by_cases hlt : k < n
    · obtain ⟨b, off, rfl, _, hb, hok, g0, g1, g2, g3, g4⟩ := (hS.mono (hX.fr _)).at_ hlt
      go_wp2_with (go_at_call 82; refine (toStmt_c (nth l k) _).mono ?_; rintro _ w3 ⟨rfl, hx3⟩; have hO3 := own_fr hO (hx3.fr _); have hX3 := hX.trans hx3; have hg3 := (hO3.lt w.heap.size rfl).2; have hf0 := (hO3).frozenAt (k * 5); obtain ⟨u0, hu0⟩ := own_here hO3 (j := k * 5) (by omega); have hf1 := (hO3).frozenAt (k * 5 + 1); obtain ⟨u1, hu1⟩ := own_here hO3 (j := k * 5 + 1) (by omega); have hf2 := (hO3).frozenAt (k * 5 + 2); obtain ⟨u2, hu2⟩ := own_here hO3 (j := k * 5 + 2) (by omega); have hf3 := (hO3).frozenAt (k * 5 + 3); obtain ⟨u3, hu3⟩ := own_here hO3 (j := k * 5 + 3) (by omega); have hf4 := (hO3).frozenAt (k * 5 + 4); obtain ⟨u4, hu4⟩ := own_here hO3 (j := k * 5 + 4) (by omega))
      go_roundw
      case rel => exact ⟨k + 1, by omega, by go_num, by (repeat (first | with_reducible exact X.refl _ | with_reducible assumption | with_reducible refine X.setCell ?_ (by first | (simp; done) | (simp; omega)) _ | with_reducible refine X.ext ?_ _ | with_reducible refine X.alloc ?_ _ | with_reducible refine X.drew ?_)), by rw [← mix_set5 (g := scells) (fun _ => rfl) Hz.out (k := k) (by rw [← Hl.out]; exact hlt) _ _ _ _ _ rfl]; exact own_set5 hO3 (k * 5) _ _ _ _ _⟩
      case measure => simp [intOf]; omega
    · obtain rfl : k = n := by omega
      go_wp2
      go_ret
      refine ⟨_, rfl, ?_, hX⟩
      rw [Hl.out, mixR_all Hz.out] at hO
      rw [Hl.out]
      exact hO

set_option maxRecDepth 100000 in
set_option maxHeartbeats 1000000 in
theorem toFile_c (f : Fi) (ba : Option Addr) (bn bc B : Nat) (w : World) (hS : StmtsAt w B ba bn f.body) :
    Calls Tryd.prog 20 #[.agg #[.int .i64 (f).root, .string ⟨(f).pkg.toArray⟩, .string ⟨(f).name.toArray⟩, .bool (f).init, .int .i64 (f).stamp, .slice ba bn bc]] w fun e w' => ∃ ra, e = .returned (.agg #[.int .i64 (f).root, .string ⟨(f).pkg.toArray⟩, .string ⟨(f).name.toArray⟩, .bool (f).init, .int .i64 (f).stamp, .slice ra bn bn]) ∧ w'.ownsRow w.heap.size 88 5 (.slice ra bn bn) bn (f.body.flatMap scells) ∧ X w w' := by
  go_enter Tryd.func20, Tryd.ntmps20
  go_wp2_with fail
  refine calls_name (fun W hW => ?_)
  obtain ⟨_, hR, hT, hX0⟩ := bx3 hW
  have hsz : W.heap.size = w.heap.size + 3 := by rw [hW]; simp
  clear hW
  refine (toStmtS_c f.body ba bn bc _ W (hS.mono (hX0.fr _))).mono ?_
  rintro _ w3 ⟨ra, rfl, hO, hX3⟩
  have hXw := hX0.trans hX3
  replace hR := hR.x hX3
  replace hT := hT.x hX3
  obtain ⟨hbR, hcR, hfR⟩ := hR.out
  obtain ⟨hbT, hcT, hfT⟩ := hT.out
  have r0 := hcR 0
  have r1 := hcR 1
  have r2 := hcR 2
  have r3 := hcR 3
  have r4 := hcR 4
  have r5 := hcR 5
  have t0 := hcT 0
  have t1 := hcT 1
  have t2 := hcT 2
  have t3 := hcT 3
  have t4 := hcT 4
  have t5 := hcT 5
  clear hcR hcT
  go_wp2
  refine bodyPost_row Tryd.results20 rfl (Bx.set (Bx.set (Bx.set (Bx.set (Bx.set (Bx.set (Bx.far hR (by simp) _) 0 _) 1 _) 2 _) 3 _) 4 _) 5 _) file_S' rfl rfl ?_
  refine ⟨ra, rfl, own_less (own_fr hO (by (repeat (first | with_reducible exact Fr.refl _ _ | with_reducible assumption | with_reducible refine Fr.set ?_ (.inr (by first | (simp; done) | (simp; omega))) _)))) (by omega), by (repeat (first | with_reducible exact X.refl _ | with_reducible assumption | with_reducible refine X.setCell ?_ (by first | (simp; done) | (simp; omega)) _ | with_reducible refine X.ext ?_ _ | with_reducible refine X.alloc ?_ _ | with_reducible refine X.drew ?_))⟩

/-- No two bodies lie in one block. -/
def Sep (vs : List (Fi × Value)) : Prop := vs.Pairwise fun x y => x.2.ownBlock = none ∨ y.2.ownBlock = none ∨ y.2.ownBlock ≠ x.2.ownBlock
/-- Files that the call itself has made: the table and each body is a row of its own. -/
def FilesO (w : World) (B : Nat) (a : Option Addr) (n c : Nat) (l : List Fi) : Prop :=
  ∃ vs : List (Fi × Value), l = vs.map (·.1) ∧ n = l.length ∧ w.ownsRow B 48 6 (.slice a n c) n (vs.flatMap fcells) ∧ Sep vs ∧
    ∀ x ∈ vs, ∃ ba bc, x.2 = .slice ba x.1.body.length bc ∧ w.ownsRow B 88 5 (.slice ba x.1.body.length bc) x.1.body.length (x.1.body.flatMap scells)
theorem FilesO.fr {w w' : World} {B n c : Nat} {a : Option Addr} {l : List Fi} (h : FilesO w B a n c l) (hx : Fr B w w') : FilesO w' B a n c l := by
  obtain ⟨vs, e, h1, h2, hs, h3⟩ := h
  exact ⟨vs, e, h1, own_fr h2 hx, hs, fun x hm => let ⟨ba, bc, e, ho⟩ := h3 x hm; ⟨ba, bc, e, own_fr ho hx⟩⟩
theorem FilesO.less {w : World} {B B' n c : Nat} {a : Option Addr} {l : List Fi} (h : FilesO w B a n c l) (hB : B' ≤ B) : FilesO w B' a n c l := by
  obtain ⟨vs, e, h1, h2, hs, h3⟩ := h
  exact ⟨vs, e, h1, own_less h2 hB, hs, fun x hm => let ⟨ba, bc, e, ho⟩ := h3 x hm; ⟨ba, bc, e, own_less ho hB⟩⟩
/-- No text of the files is too long. -/
def OkL (l : List Fi) : Prop := l.length ≤ 2097152 ∧ ∀ f ∈ l, Okf f ∧ f.body.length ≤ 2097152 ∧ ∀ s ∈ f.body, Oks s
theorem FilesAt.okL {w : World} {B n : Nat} {a : Option Addr} {l : List Fi} (h : FilesAt w B a n l) : OkL l := by
  obtain ⟨vs, e, h1, h2, h3, _, h5⟩ := h
  refine ⟨by omega, fun f hf => ⟨h3 f hf, ?_⟩⟩
  rw [e] at hf
  obtain ⟨x, hx, rfl⟩ := List.mem_map.1 hf
  obtain ⟨ba, bn, bc, _, _, hS⟩ := h5 x hx
  exact ⟨by have := hS.1; have := hS.2.1; omega, hS.2.2.1⟩
theorem FilesO.at {w : World} {B n c : Nat} {a : Option Addr} {l : List Fi} (h : FilesO w B a n c l) (hk : OkL l) : FilesAt w B a n l := by
  obtain ⟨vs, e, h1, h2, _, h3⟩ := h
  refine ⟨vs, e, h1, by have := hk.1; omega, fun f hf => (hk.2 f hf).1, Sl.of_own h2, fun x hx => ?_⟩
  obtain ⟨ba, bc, e2, ho⟩ := h3 x hx
  have hm : x.1 ∈ l := by rw [e]; exact List.mem_map.2 ⟨x, hx, rfl⟩
  exact ⟨ba, _, bc, e2, own_cap ho, rfl, (hk.2 _ hm).2.1, (hk.2 _ hm).2.2, Sl.of_own ho⟩

set_option maxRecDepth 100000 in
set_option maxHeartbeats 1000000 in
theorem toFileS_c (l : List Fi) (a : Option Addr) (n c B : Nat) (w : World) (hF : FilesAt w B a n l) :
    Calls Tryd.prog 38 #[.slice a n c] w fun e w' => ∃ ra, e = .returned (.slice ra n n) ∧ FilesO w' w.heap.size ra n n l ∧ X w w' := by
  obtain ⟨hl, hn⟩ := hF.len
  obtain ⟨i0, hi, hz0, hz1, hz2⟩ := info_parts info_file
  have hz : (madeCells (Value.agg #[.int .i64 0, .string ⟨#[]⟩, .string ⟨#[]⟩, .bool false, .int .i64 0, .slice none 0 0]).cells (n * 6)).toList.length = n * 6 := by rw [Array.length_toList, size_madeCells]
  have Hz := Lib.hid hz
  have Hl := Lib.hid hl
  clear hl hz
  generalize hZ : (madeCells (Value.agg #[.int .i64 0, .string ⟨#[]⟩, .string ⟨#[]⟩, .bool false, .int .i64 0, .slice none 0 0]).cells (n * 6)).toList = Z at *
  go_enter Tryd.func38, Tryd.ntmps38
  go_wp2_with (at_make; refine wpList_make_full _ rfl _ _ 28 rfl w.heap.size 48 i0 (.agg #[.int .i64 0, .string ⟨#[]⟩, .string ⟨#[]⟩, .bool false, .int .i64 0, .slice none 0 0]) 6 Tryd.underlying28 hi hz0 hz1 _ _ _ _ n rfl rfl rfl rfl (by rw [hz2]; omega) (by unfold maxLen; omega) (Nat.le_refl _) ?_; intro w1 hO1 hg1; rw [hZ] at hO1; clear hZ)
  have hX0 : X w w1 := X.of_grown hg1
  clear hg1
  go_loopw [4] (fun i wr => ∃ (k : Nat) (vs : List (Fi × Value)), k ≤ n ∧ i = .int .i64 k ∧ X w wr ∧ vs.map (·.1) = l.take k ∧ wr.ownsRow w.heap.size 48 6 (.slice (some ⟨w.heap.size, 0, none⟩) n n) n (vs.flatMap fcells ++ Z.drop (k * 6)) ∧ Sep vs ∧
    ∀ x ∈ vs, ∃ ba bc, x.2 = .slice ba x.1.body.length bc ∧ wr.ownsRow w.heap.size 88 5 (.slice ba x.1.body.length bc) x.1.body.length (x.1.body.flatMap scells)) (fun i _ => n - (intOf i).toNat)
  case atStart => exact ⟨0, [], Nat.zero_le _, rfl, hX0, rfl, by rw [Nat.zero_mul]; exact hO1, List.Pairwise.nil, fun _ h => by cases h⟩
  case round =>
    obtain ⟨k, vs, hk, rfl, hX, hvs, hO, hsep, hbd⟩ := hrel
    have Hsep := Lib.hid hsep
    clear hsep
    clear hX0 hO1
    have Hvs := Lib.hid hvs
    clear hvs
    have Hbd := Lib.hid hbd
    clear hbd
    have hvl : vs.length = k := by have := congrArg List.length Hvs.out; rw [List.length_map, List.length_take, ← Hl.out] at this; omega
    have Hvl := Lib.hid hvl
    clear hvl
    by_cases hlt : k < n
    · obtain ⟨b, off, ba, bn, bc, rfl, _, hb, hok, hbc, hSb, g0, g1, g2, g3, g4, g5⟩ := (hF.mono (hX.fr _)).at_ hlt
      have hbn := hSb.1
      have Hbn := Lib.hid hbn
      clear hbn
      go_wp2_with (go_at_call 20; refine (toFile_c (nth l k) ba bn bc _ _ hSb).mono ?_; rintro _ w3 ⟨ra, rfl, hOb, hx3⟩; have hO3 := own_fr hO (hx3.fr _); have hX3 := hX.trans hx3; have hg3 := (hO3.lt w.heap.size rfl).2; have hf0 := (hO3).frozenAt (k * 6); obtain ⟨u0, hu0⟩ := own_here hO3 (j := k * 6) (by omega); have hf1 := (hO3).frozenAt (k * 6 + 1); obtain ⟨u1, hu1⟩ := own_here hO3 (j := k * 6 + 1) (by omega); have hf2 := (hO3).frozenAt (k * 6 + 2); obtain ⟨u2, hu2⟩ := own_here hO3 (j := k * 6 + 2) (by omega); have hf3 := (hO3).frozenAt (k * 6 + 3); obtain ⟨u3, hu3⟩ := own_here hO3 (j := k * 6 + 3) (by omega); have hf4 := (hO3).frozenAt (k * 6 + 4); obtain ⟨u4, hu4⟩ := own_here hO3 (j := k * 6 + 4) (by omega); have hf5 := (hO3).frozenAt (k * 6 + 5); obtain ⟨u5, hu5⟩ := own_here hO3 (j := k * 6 + 5) (by omega))
      have hgr : ∀ v0 v1 v2 v3 v4 v5, w3.grownBy ((((((w3.setCell ⟨w.heap.size, k * 6, none⟩ v0).setCell ⟨w.heap.size, k * 6 + 1, none⟩ v1).setCell ⟨w.heap.size, k * 6 + 2, none⟩ v2).setCell ⟨w.heap.size, k * 6 + 3, none⟩ v3).setCell ⟨w.heap.size, k * 6 + 4, none⟩ v4).setCell ⟨w.heap.size, k * 6 + 5, none⟩ v5) (some w.heap.size) :=
        fun v0 v1 v2 v3 v4 v5 => grown_next (grown_next (grown_next (grown_next (grown_next (grown_set _ _ _) _ _) _ _) _ _) _ _) _ _
      obtain ⟨cs3, hb3⟩ := own_block hO3
      go_roundw
      case rel => exact ⟨k + 1, vs ++ [(nth l k, .slice ra bn bn)], by omega, by go_num, by (repeat (first | with_reducible exact X.refl _ | with_reducible assumption | with_reducible refine X.setCell ?_ (by first | (simp; done) | (simp; omega)) _ | with_reducible refine X.ext ?_ _ | with_reducible refine X.alloc ?_ _ | with_reducible refine X.drew ?_)), by rw [List.map_append, Hvs.out, take_succ_nth (by rw [← Hl.out]; exact hlt)]; rfl, by
          have h6 := own_set6 hO3 (k * 6) (.int .i64 (nth l k).root) (.string ⟨((nth l k).pkg).toArray⟩) (.string ⟨((nth l k).name).toArray⟩) (.bool (nth l k).init) (.int .i64 (nth l k).stamp) (.slice ra bn bn)
          rw [fill6 (by rw [flat_length 6 fcells fcells6, Hvl.out]) (left_len Hz.out hlt), List.drop_drop] at h6
          rw [List.flatMap_append, List.append_assoc, Nat.succ_mul]
          exact h6, List.pairwise_append.2 ⟨Hsep.out, List.pairwise_singleton _ _, fun x hx y hy => by
            rw [List.mem_singleton.1 hy]
            obtain ⟨ba', bc', e, ho⟩ := Hbd.out x hx
            rw [e]
            exact row_far ho rfl hOb⟩, fun x hx => by
          rcases List.mem_append.1 hx with hx | hx
          · obtain ⟨ba', bc', e, ho⟩ := Hbd.out x hx
            have ho3 := own_fr ho (hx3.fr _)
            exact ⟨ba', bc', e, ho3.kept (hgr _ _ _ _ _ _) (.inr (own_ne_at ho3 hb3 (by decide)))⟩
          · rw [List.mem_singleton.1 hx]
            have ho3 := own_less hOb hX.size
            rw [Hbn.out] at ho3 ⊢
            exact ⟨ra, _, rfl, ho3.kept (hgr _ _ _ _ _ _) (.inr (own_ne_at ho3 hb3 (by decide)))⟩⟩
      case measure => simp [intOf]; omega
    · obtain rfl : k = n := by omega
      go_wp2
      go_ret
      refine ⟨_, rfl, ⟨vs, by rw [Hvs.out, List.take_of_length_le (by rw [← Hl.out]; omega)], Hl.out, ?_, Hsep.out, Hbd.out⟩, hX⟩
      rw [List.drop_eq_nil_of_le (by rw [Hz.out]; omega), List.append_nil] at hO
      exact hO

set_option maxRecDepth 100000 in
set_option maxHeartbeats 1000000 in
theorem toTree_c (l : List Fi) (a : Option Addr) (n c B : Nat) (w : World) (hF : FilesAt w B a n l) :
    Calls Tryd.prog 9 #[.agg #[.slice a n c]] w fun e w' => ∃ ra, e = .returned (.agg #[.slice ra n n]) ∧ FilesO w' w.heap.size ra n n l ∧ X w w' := by
  go_enter Tryd.func9, Tryd.ntmps9
  go_wp2_with fail
  refine calls_name (fun W hW => ?_)
  obtain ⟨_, hR, hT, hX0⟩ := bx3 hW
  have hsz : W.heap.size = w.heap.size + 3 := by rw [hW]; simp
  clear hW
  refine (toFileS_c l a n c B W (hF.mono (hX0.fr _))).mono ?_
  rintro _ w3 ⟨ra, rfl, hO, hX3⟩
  have hXw := hX0.trans hX3
  replace hR := hR.x hX3
  replace hT := hT.x hX3
  obtain ⟨hbR, hcR, hfR⟩ := hR.out
  obtain ⟨hbT, hcT, hfT⟩ := hT.out
  have r0 := hcR 0
  have t0 := hcT 0
  clear hcR hcT
  go_wp2
  refine bodyPost_row Tryd.results9 rfl (Bx.set (Bx.far hR (by simp) _) 0 _) tree_S rfl rfl ?_
  exact ⟨ra, rfl, (hO.fr (by (repeat (first | with_reducible exact Fr.refl _ _ | with_reducible assumption | with_reducible refine Fr.set ?_ (.inr (by first | (simp; done) | (simp; omega))) _)))).less (by omega), by (repeat (first | with_reducible exact X.refl _ | with_reducible assumption | with_reducible refine X.setCell ?_ (by first | (simp; done) | (simp; omega)) _ | with_reducible refine X.ext ?_ _ | with_reducible refine X.alloc ?_ _ | with_reducible refine X.drew ?_))⟩

end Go.Proofs.YtjlooplpjliaiaaDoor
