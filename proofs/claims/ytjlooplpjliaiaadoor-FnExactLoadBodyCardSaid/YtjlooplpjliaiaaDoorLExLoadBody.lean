/- The exact law of LoadBody: the walk. No condition but what a reading of the arguments says. -/
import Derived.Test.YtjlooplpjliaiaaDoorLoadI
import Derived.Test.YtjlooplpjliaiaaDoorCoM
import Derived.Test.YtjlooplpjliaiaaDoorExL
import Derived.Test.YtjlooplpjliaiaaDoorHeld
namespace Go.Proofs.YtjlooplpjliaiaaDoor
open Go.RowKit

set_option maxRecDepth 100000 in
set_option maxHeartbeats 1000000 in
theorem markFile_c (f : Fi) (ba : Option Addr) (bn bc B k : Nat) (w : World) (xs : List Value) (hO : w.ownsRow B 88 5 (.slice ba bn bc) bn xs) (hn : bn ≤ 1073741824) (hk : k ≤ 1073741824) :
    Calls Tryd.prog 24 #[.agg #[.int .i64 (f).root, .string ⟨(f).pkg.toArray⟩, .string ⟨(f).name.toArray⟩, .bool (f).init, .int .i64 (f).stamp, .slice ba bn bc], .int .i64 (k : Int)] w fun e w' => e = .returned (.int .i64 ((k + 5 * bn : Nat) : Int)) ∧ w.grownBy w' (Value.slice ba bn bc).ownBlock := by
  go_enter Tryd.func24, Tryd.ntmps24
  go_wp2_with fail
  refine calls_name (fun W hW => ?_)
  have hX0 : X w W := by rw [hW]; (repeat (first | with_reducible exact X.refl _ | with_reducible assumption | with_reducible refine X.setCell ?_ (by first | (simp; done) | (simp; omega)) _ | with_reducible refine X.ext ?_ _ | with_reducible refine X.alloc ?_ _ | with_reducible refine X.drew ?_))
  clear hW
  refine (markStmtS_c xs ba bn bc B k W (own_fr hO (hX0.fr _)) hn hk).mono ?_
  rintro _ w2 ⟨rfl, _, hg⟩
  go_wp2
  go_ret
  exact ⟨rfl, hX0.grown hg⟩
theorem pair_mark1 {w w' : World} {B1 E1 E2 n c rn rc : Nat} {b1 r1 : Option Addr} {bd : List St} {st : List Co} {xs : List Value} (hO : w.ownsRow E2 88 5 (.slice b1 n c) n xs) (hC : CosE w B1 E1 r1 rn rc st)
    (hd : E1 ≤ E2 ∨ (bd = [] ∧ ∀ g, (Value.slice b1 n c).ownBlock = some g → g < B1)) (hg : w.grownBy w' (Value.slice b1 n c).ownBlock) : CosE w' B1 E1 r1 rn rc st := by
  have hne : ∀ u : Value, (∀ b, u.ownBlock = some b → B1 ≤ b ∧ b < E1) → u.ownBlock = none ∨ u.ownBlock ≠ (Value.slice b1 n c).ownBlock := fun u hu => by
    cases h : u.ownBlock with
    | none => exact .inl rfl
    | some b =>
      refine .inr fun e => ?_
      have h1 := hu b h
      have h2 := hO.lt b e.symm
      rcases hd with hd | ⟨_, hd⟩
      · omega
      · have := hd b e.symm; omega
  obtain ⟨vs, e, h1, h2, hs, h3, h4, h5⟩ := hC
  refine ⟨vs, e, h1, h2.kept hg (hne _ fun b hb => ⟨(h2.lt b hb).1, h4 b hb⟩), hs, fun x hx => (h3 x hx).kept hg (hne _ fun b hb => ⟨?_, h5 x hx b hb⟩), h4, h5⟩
  obtain ⟨ba, bc, e, ho⟩ := h3 x hx
  rw [e] at hb
  exact (ho.lt b hb).1
theorem pair_mark2 {w w' : World} {B1 E1 E2 n c : Nat} {b1 : Option Addr} {bd : List St} {xs : List Value} (hO : w.ownsRow E2 88 5 (.slice b1 n c) n xs) (hd : E1 ≤ E2 ∨ (bd = [] ∧ ∀ g, (Value.slice b1 n c).ownBlock = some g → g < B1)) (hn : n = bd.length) (hK : Keep B1 E1 w w') : Sl w' 0 b1 n xs := by
  rcases hd with hd | ⟨hd, _⟩
  · exact (Sl.of_own (own_keep hO hK hd)).less (Nat.zero_le _)
  · subst hd
    exact fun h => absurd h (by rw [hn]; simp)
theorem loadV_body {l : List Co} {f : Fi} {mode : Int} (h : OkC l) (h2 : f.body.length ≤ 2097152) (h3 : ∀ s ∈ f.body, Oks s) : (loadV l f mode).1.length ≤ 2097152 ∧ ∀ s ∈ (loadV l f mode).1, Oks s := by
  unfold loadV
  split
  · show (bodyLd l f).length ≤ _ ∧ _
    rcases cix_cases l f with hc | ⟨k, hk, hc⟩
    · rw [(load_none hc).2.1]; exact ⟨h2, h3⟩
    · rw [(load_some hc).2.1]
      split
      · exact (h.2 _ (nth_mem hk)).2
      · exact ⟨h2, h3⟩
  · exact ⟨by simp, fun s hs => by cases hs⟩

set_option maxRecDepth 100000 in
set_option maxHeartbeats 8000000 in
theorem FnExactLoadBody_c (l : List Co) (a : Option Addr) (n c : Nat) (f : Fi) (ba : Option Addr) (bn bc : Nat) (i : Int) (w : World) (hR : CosR w a n l) (hm : f.pkg.length ≤ maxLen) (hk : f.name.length ≤ maxLen) (hSR : StmtsR w ba bn f.body) (hG : Gm w) :
    Calls Tryd.prog 4 #[.slice a n c, .agg #[.int .i64 (f).root, .string ⟨(f).pkg.toArray⟩, .string ⟨(f).name.toArray⟩, .bool (f).init, .int .i64 (f).stamp, .slice ba bn bc], .int .i64 i] w fun e w' => e = .returned (.bool true) ∧ Below w.heap.size w w' := by
  by_cases h3 : szCos l 1048576 < 0
  · go_enter Tryd.func4, Tryd.ntmps4
    go_wp2_with (go_at_call 16; refine (szCompiledS_c l a n c _ _ (hR.mono (by (repeat (first | with_reducible exact X.refl _ | with_reducible assumption | with_reducible refine X.setCell ?_ (by first | (simp; done) | (simp; omega)) _ | with_reducible refine X.ext ?_ _ | with_reducible refine X.alloc ?_ _ | with_reducible refine X.drew ?_)))) (by omega) (by omega)).mono ?_; rintro _ w1 ⟨rfl, hx1⟩)
    go_ret
    exact ⟨rfl, X.below (X.trans (by (repeat (first | with_reducible exact X.refl _ | with_reducible assumption | with_reducible refine X.setCell ?_ (by first | (simp; done) | (simp; omega)) _ | with_reducible refine X.ext ?_ _ | with_reducible refine X.alloc ?_ _ | with_reducible refine X.drew ?_))) hx1)⟩
  have hle := szCos_le l 1048576 (by omega)
  have hD := hR.at (m := 1048576) (by omega) (by omega)
  have hwt := szCos_wt (l := l) (m := 1048576) (by omega) (by omega)
  have H3 := Lib.hid h3
  by_cases h4 : szFi f (szCos l 1048576) < 0
  · go_enter Tryd.func4, Tryd.ntmps4
    go_wp2_with fail
    refine calls_name (fun W0 hW0 => ?_)
    have hB0 : Bx W0 w.heap.size #[.int .i64 f.root, .string ⟨(f.pkg).toArray⟩, .string ⟨(f.name).toArray⟩, .bool f.init, .int .i64 f.stamp, .slice ba bn bc] := by rw [hW0]; exact Bx.new _ _ _
    have hX0 : X w W0 := by rw [hW0]; (repeat (first | with_reducible exact X.refl _ | with_reducible assumption | with_reducible refine X.setCell ?_ (by first | (simp; done) | (simp; omega)) _ | with_reducible refine X.ext ?_ _ | with_reducible refine X.alloc ?_ _ | with_reducible refine X.drew ?_))
    clear hW0
    refine (szCompiledS_c l a n c _ W0 (hR.mono hX0) (by omega) (by omega)).mono ?_
    rintro _ w1 ⟨rfl, hx1⟩
    obtain ⟨t0, t1, t2, t3, t4, t5⟩ := keepT (hB0.x hx1)
    have hlT := (hB0.x hx1).lt
    go_wp2_with (go_at_call 17; refine (szFile_c f ba bn bc _ _ hm hk (hSR.mono (X.trans (hX0.trans hx1) (by (repeat (first | with_reducible exact X.refl _ | with_reducible assumption | with_reducible refine X.setCell ?_ (by first | (simp; done) | (simp; omega)) _ | with_reducible refine X.ext ?_ _ | with_reducible refine X.alloc ?_ _ | with_reducible refine X.drew ?_))))) (by omega) (by omega)).mono ?_; rintro _ w2 ⟨rfl, hx2⟩)
    go_ret
    exact ⟨rfl, X.below ((hX0.trans hx1).trans hx2)⟩
  have hfo := szFi_ok (f := f) (n := szCos l 1048576) (by omega)
  have hfS := hSR.at (by omega) (fun s hs => by have := hfo.2.2.2 s hs; omega)
  have hf : Okf f := ⟨by omega, by omega⟩
  have H4 := Lib.hid h4
  have Hle := Lib.hid hle
  have hbn := hfS.2.1
  have hbl := hfS.1
  have hnn := hD.len.2
  have hok := hD.okC
  have hwt2 := storeLd_wt l f i
  have hln2 := storeLd_len l f i
  have hsl : (loadV l f i).2.1.length ≤ n + 1 := by
    unfold loadV
    split
    · have := hD.len.1; dsimp only; omega
    · simp
  have hsw : wtC (loadV l f i).2.1 ≤ 12582912 + (7 + 5 * bn) := by
    unfold loadV
    split
    · dsimp only; omega
    · simp [wtC]
  have hbd := loadV_body (f := f) (mode := i) hok (by omega) hfS.2.2.1
  have hst := loadV_ok (f := f) i hok hf (by omega) hfS.2.2.1
  clear hwt2 hln2 hfo hle
  have Hbl := Lib.hid hbl
  clear hbl
  obtain ⟨⟨bd, st, had⟩, hV⟩ : ∃ V, loadV l f i = V := ⟨_, rfl⟩
  rw [hV] at hsl hsw hbd hst
  dsimp only at hsl hsw hbd hst
  have hsn := hst.1
  have hbn2 := hbd.1
  go_enter Tryd.func4, Tryd.ntmps4
  go_wp2_with fail
  refine calls_name (fun W0 hW0 => ?_)
  have hB0 : Bx W0 w.heap.size #[.int .i64 f.root, .string ⟨(f.pkg).toArray⟩, .string ⟨(f.name).toArray⟩, .bool f.init, .int .i64 f.stamp, .slice ba bn bc] := by rw [hW0]; exact Bx.new _ _ _
  have hX0 : X w W0 := by rw [hW0]; (repeat (first | with_reducible exact X.refl _ | with_reducible assumption | with_reducible refine X.setCell ?_ (by first | (simp; done) | (simp; omega)) _ | with_reducible refine X.ext ?_ _ | with_reducible refine X.alloc ?_ _ | with_reducible refine X.drew ?_))
  clear hW0
  refine (szCompiledS_c l a n c _ W0 (hR.mono hX0) (by omega) (by omega)).mono ?_
  rintro _ w1 ⟨rfl, hx1⟩
  obtain ⟨t0, t1, t2, t3, t4, t5⟩ := keepT (hB0.x hx1)
  have hlT := (hB0.x hx1).lt
  go_wp2_with fail
  refine (szFile_c f ba bn bc _ w1 hm hk (hSR.mono (hX0.trans hx1)) (by have := H3.out; omega) (by have := Hle.out; omega)).mono ?_
  rintro _ w2 ⟨rfl, hx2⟩
  have h4' := H4.out
  clear t0 t1 t2 t3 t4 t5 hlT hR hSR H3 Hle hm hk
  have hB2 := (hB0.x hx1).x hx2
  have hX2 := (hX0.trans hx1).trans hx2
  clear hx1 hx2 hX0 hB0
  obtain ⟨t0, t1, t2, t3, t4, t5⟩ := keepT hB2
  have hlT := hB2.lt
  have hD2 := hD.mono (hX2.fr _)
  have hS2 := hfS.mono (hX2.fr _)
  go_wp2
  go_region_held_law (fun w' => w'.cell? ⟨w.heap.size, 0, none⟩ = some (.int .i64 f.root) ∧ w'.cell? ⟨w.heap.size, 1, none⟩ = some (.string ⟨(f.pkg).toArray⟩) ∧ w'.cell? ⟨w.heap.size, 2, none⟩ = some (.string ⟨(f.name).toArray⟩) ∧ w'.cell? ⟨w.heap.size, 3, none⟩ = some (.bool f.init) ∧ w'.cell? ⟨w.heap.size, 4, none⟩ = some (.int .i64 f.stamp) ∧ w'.cell? ⟨w.heap.size, 5, none⟩ = some (.slice ba bn bc))
    (first | (refine keepT (hB2.x ?_); (repeat (first | with_reducible exact X.refl _ | with_reducible assumption | with_reducible refine X.alloc ?_ _ | with_reducible refine X.drew ?_)); done) | fail)
    (first
      | (go_at_call 19; refine (toCompiledS_c l a n c 0 _ (hD2.mono (X.fr (by (repeat (first | with_reducible exact X.refl _ | with_reducible assumption | with_reducible refine X.setCell ?_ (by first | (simp; done) | (simp; omega)) _ | with_reducible refine X.ext ?_ _ | with_reducible refine X.alloc ?_ _ | with_reducible refine X.drew ?_))) _))).mono ?_; rintro _ wa ⟨sa, rfl, hOa, hxa⟩; have hXa : X w2 wa := X.trans (by (repeat (first | with_reducible exact X.refl _ | with_reducible assumption | with_reducible refine X.setCell ?_ (by first | (simp; done) | (simp; omega)) _ | with_reducible refine X.ext ?_ _ | with_reducible refine X.alloc ?_ _ | with_reducible refine X.drew ?_))) hxa)
      | (go_at_call 20; refine (toFile_c f ba bn bc 0 _ (hS2.mono (X.fr (by (repeat (first | with_reducible exact X.refl _ | with_reducible assumption | with_reducible refine X.setCell ?_ (by first | (simp; done) | (simp; omega)) _ | with_reducible refine X.ext ?_ _ | with_reducible refine X.alloc ?_ _ | with_reducible refine X.drew ?_))) _))).mono ?_; rintro _ wb ⟨fa, rfl, hOb, hxb⟩; have hXab : X wa wb := X.trans (by (repeat (first | with_reducible exact X.refl _ | with_reducible assumption | with_reducible refine X.setCell ?_ (by first | (simp; done) | (simp; omega)) _ | with_reducible refine X.ext ?_ _ | with_reducible refine X.alloc ?_ _ | with_reducible refine X.drew ?_))) hxb; have hXb : X w2 wb := X.trans hXa hXab)
      | (go_at_call 18; refine (LoadBody_s l sa n n _ f i fa bn bn _ _ (((hOa.at hok).mono (hXab.fr _)).mono (X.fr (by (repeat (first | with_reducible exact X.refl _ | with_reducible assumption | with_reducible refine X.setCell ?_ (by first | (simp; done) | (simp; omega)) _ | with_reducible refine X.ext ?_ _ | with_reducible refine X.alloc ?_ _ | with_reducible refine X.drew ?_))) _)) hf (StmtsAt.mono ⟨Hbl.out, hbn, hfS.2.2.1, Sl.of_own hOb⟩ (X.fr (by (repeat (first | with_reducible exact X.refl _ | with_reducible assumption | with_reducible refine X.setCell ?_ (by first | (simp; done) | (simp; omega)) _ | with_reducible refine X.ext ?_ _ | with_reducible refine X.alloc ?_ _ | with_reducible refine X.drew ?_))) _))).mono ?_; rw [hV]; dsimp only; rintro _ w3 ⟨b3, c3, r3, rc3, rfl, hb3, hs3, hx3⟩; have hX3 : X w2 w3 := X.trans hXb (X.trans (by (repeat (first | with_reducible exact X.refl _ | with_reducible assumption | with_reducible refine X.setCell ?_ (by first | (simp; done) | (simp; omega)) _ | with_reducible refine X.ext ?_ _ | with_reducible refine X.alloc ?_ _ | with_reducible refine X.drew ?_))) hx3)))
  all_goals
    clear hXa hXab hXb hOa hOb t0 t1 t2 t3 t4 t5 hlT hD2 hS2
    have hXw3 := hX2.trans hX3
    go_wp2_with fail
    refine calls_name (fun W4 hW4 => ?_)
    have hp4 : X w3 W4 := by rw [hW4]; (repeat (first | with_reducible exact X.refl _ | with_reducible assumption | with_reducible refine X.setCell ?_ (by first | (simp; done) | (simp; omega)) _ | with_reducible refine X.ext ?_ _ | with_reducible refine X.alloc ?_ _ | with_reducible refine X.drew ?_))
    clear hW4
    refine (toCompiledS_c l a n c 0 W4 (hD.mono (X.fr (hXw3.trans hp4) _))).mono ?_
    rintro _ w4 ⟨ra4, rfl, hO4, hx4⟩
    have hB4 := (hB2.x hX3).x (hp4.trans hx4)
    have hXw4 := hXw3.trans (hp4.trans hx4)
    obtain ⟨t0, t1, t2, t3, t4, t5⟩ := keepT hB4
    have hlT := hB4.lt
    have hsW4 : w.heap.size < W4.heap.size := Nat.lt_of_lt_of_le hB2.lt (Nat.le_trans hX3.size hp4.size)
    have hs34 : w3.heap.size ≤ W4.heap.size := hp4.size
    have hs4 : W4.heap.size ≤ w4.heap.size := hx4.size
    go_wp2_with fail
    refine calls_name (fun W5 hW5 => ?_)
    have hp5 : X w4 W5 := by rw [hW5]; (repeat (first | with_reducible exact X.refl _ | with_reducible assumption | with_reducible refine X.setCell ?_ (by first | (simp; done) | (simp; omega)) _ | with_reducible refine X.ext ?_ _ | with_reducible refine X.alloc ?_ _ | with_reducible refine X.drew ?_))
    clear hW5
    have hs45 : w4.heap.size ≤ W5.heap.size := hp5.size
    refine (toFile_c f ba bn bc 0 W5 (hfS.mono (X.fr (hXw4.trans hp5) _))).mono ?_
    rintro _ w5 ⟨fa5, rfl, hO5, hx5⟩
    have hs5 : W5.heap.size ≤ w5.heap.size := hx5.size
    have hXw5 := hXw4.trans (hp5.trans hx5)
    clear t0 t1 t2 t3 t4 t5 hlT
    go_wp2_with fail
    refine calls_name (fun W6 hW6 => ?_)
    have hB6 : Bx W6 w5.heap.size #[.int .i64 f.root, .string ⟨(f.pkg).toArray⟩, .string ⟨(f.name).toArray⟩, .bool f.init, .int .i64 f.stamp, .slice fa5 bn bn] := by rw [hW6]; first | exact Bx.new _ _ _ | exact Bx.set (Bx.set (Bx.set (Bx.set (Bx.set (Bx.set (Bx.new _ _ _) 0 _) 1 _) 2 _) 3 _) 4 _) 5 _
    have hp6 : X w5 W6 := by rw [hW6]; (repeat (first | with_reducible exact X.refl _ | with_reducible assumption | with_reducible refine X.setCell ?_ (by first | (simp; done) | (simp; omega)) _ | with_reducible refine X.ext ?_ _ | with_reducible refine X.alloc ?_ _ | with_reducible refine X.drew ?_))
    clear hW6
    have hs56 : w5.heap.size ≤ W6.heap.size := hp6.size
    have hX46 : X w4 W6 := (hp5.trans hx5).trans hp6
    refine (LoadBody_i l ra4 n n _ f i fa5 bn bn _ W6 ((hO4.at hok).mono (hX46.fr _)) hf (StmtsAt.mono ⟨Hbl.out, hbn, hfS.2.2.1, Sl.of_own hO5⟩ (hp6.fr _)) (hG.mono (hXw5.trans hp6))).mono ?_
    rw [hV]
    rintro _ w6 ⟨b6, c6, r6, rc6, B1, E1, E2, rfl, hO6, hC6, hz1, hz2, hz3, hz4, hd6, hx6⟩
    dsimp only at hO6 hC6 hd6 ⊢
    have hX36 : X w3 w6 := ((hp4.trans hx4).trans hX46).trans hx6
    have hX46' : X w4 w6 := hX46.trans hx6
    have hX56 : X w5 w6 := hp6.trans hx6
    have hXw6 := hXw3.trans hX36
    have hA6 := hC6.o.at hst
    have hS6 : StmtsAt w6 E2 b6 bd.length bd := ⟨rfl, hbd.1, hbd.2, Sl.of_own hO6⟩
    clear hp4 hx4 hp5 hx5 hX46
    -- comparing
    go_wp2_with fail
    refine calls_name (fun W7 hW7 => ?_)
    have hp7 : X w6 W7 := by rw [hW7]; (repeat (first | with_reducible exact X.refl _ | with_reducible assumption | with_reducible refine X.setCell ?_ (by first | (simp; done) | (simp; omega)) _ | with_reducible refine X.ext ?_ _ | with_reducible refine X.alloc ?_ _ | with_reducible refine X.drew ?_))
    clear hW7
    refine (eqStmtS_c bd bd b6 b3 _ _ c6 c3 _ _ W7 (hS6.mono (hp7.fr _)) (hb3.mono (X.fr (hX36.trans hp7) _))).mono ?_
    rintro _ w7 ⟨rfl, hx7⟩
    rw [decide_eq_true (rfl : bd = bd)]
    replace hx7 := hp7.trans hx7
    clear hp7
    go_wp2_with fail
    refine calls_name (fun W8 hW8 => ?_)
    have hp8 : X w7 W8 := by rw [hW8]; (repeat (first | with_reducible exact X.refl _ | with_reducible assumption | with_reducible refine X.setCell ?_ (by first | (simp; done) | (simp; omega)) _ | with_reducible refine X.ext ?_ _ | with_reducible refine X.alloc ?_ _ | with_reducible refine X.drew ?_))
    clear hW8
    refine (eqCompiledS_c st st r6 r3 _ _ rc6 rc3 _ _ W8 (hA6.mono (X.fr (hx7.trans hp8) _)) (hs3.mono (X.fr (hX36.trans (hx7.trans hp8)) _))).mono ?_
    rintro _ w8 ⟨rfl, hx8⟩
    rw [decide_eq_true (rfl : st = st)]
    replace hx8 := (hx7.trans hp8).trans hx8
    clear hp8 hx7
    go_wp2_with fail
    refine calls_name (fun W9 hW9 => ?_)
    have hp9 : X w8 W9 := by rw [hW9]; (repeat (first | with_reducible exact X.refl _ | with_reducible assumption | with_reducible refine X.setCell ?_ (by first | (simp; done) | (simp; omega)) _ | with_reducible refine X.ext ?_ _ | with_reducible refine X.alloc ?_ _ | with_reducible refine X.drew ?_))
    clear hW9
    refine (toCompiledS_c l a n c 0 W9 (hD.mono (X.fr (hXw6.trans (hx8.trans hp9)) _))).mono ?_
    rintro _ w9 ⟨ra9, rfl, hO9, hx9⟩
    replace hx9 := (hx8.trans hp9).trans hx9
    clear hp9 hx8
    go_wp2_with fail
    refine calls_name (fun W10 hW10 => ?_)
    have hp10 : X w9 W10 := by rw [hW10]; (repeat (first | with_reducible exact X.refl _ | with_reducible assumption | with_reducible refine X.setCell ?_ (by first | (simp; done) | (simp; omega)) _ | with_reducible refine X.ext ?_ _ | with_reducible refine X.alloc ?_ _ | with_reducible refine X.drew ?_))
    clear hW10
    refine (eqCompiledS_c l l ra4 ra9 _ _ n n _ _ W10 ((hO4.at hok).mono (X.fr (hX46'.trans (hx9.trans hp10)) _)) ((hO9.at hok).mono (hp10.fr _))).mono ?_
    rintro _ w10 ⟨rfl, hx10⟩
    rw [decide_eq_true (rfl : l = l)]
    replace hx10 := (hx9.trans hp10).trans hx10
    clear hp10 hx9
    have hB10 := (hB4.x hX46').x hx10
    have hF10 := (hB6.x hx6).x hx10
    obtain ⟨t0, t1, t2, t3, t4, t5⟩ := keepT hB10
    obtain ⟨u0, u1, u2, u3, u4, u5⟩ := keepT hF10
    have hlT := hB10.lt
    have hlU := hF10.lt
    have hS10 := hfS.mono (X.fr (hXw6.trans hx10) _)
    have hSf10 : StmtsAt w10 W5.heap.size fa5 bn f.body := StmtsAt.mono ⟨Hbl.out, hbn, hfS.2.2.1, Sl.of_own hO5⟩ (X.fr (hX56.trans hx10) _)
    go_wp2
    go_region_held_law (fun w' => (w'.cell? ⟨w.heap.size, 0, none⟩ = some (.int .i64 f.root) ∧ w'.cell? ⟨w.heap.size, 1, none⟩ = some (.string ⟨(f.pkg).toArray⟩) ∧ w'.cell? ⟨w.heap.size, 2, none⟩ = some (.string ⟨(f.name).toArray⟩) ∧ w'.cell? ⟨w.heap.size, 3, none⟩ = some (.bool f.init) ∧ w'.cell? ⟨w.heap.size, 4, none⟩ = some (.int .i64 f.stamp) ∧ w'.cell? ⟨w.heap.size, 5, none⟩ = some (.slice ba bn bc)) ∧ w'.cell? ⟨w5.heap.size, 0, none⟩ = some (.int .i64 f.root) ∧ w'.cell? ⟨w5.heap.size, 1, none⟩ = some (.string ⟨(f.pkg).toArray⟩) ∧ w'.cell? ⟨w5.heap.size, 2, none⟩ = some (.string ⟨(f.name).toArray⟩) ∧ w'.cell? ⟨w5.heap.size, 3, none⟩ = some (.bool f.init) ∧ w'.cell? ⟨w5.heap.size, 4, none⟩ = some (.int .i64 f.stamp) ∧ w'.cell? ⟨w5.heap.size, 5, none⟩ = some (.slice fa5 bn bn))
      (first | (refine ⟨keepT (hB10.x ?_), keepT (hF10.x ?_)⟩; all_goals (repeat (first | with_reducible exact X.refl _ | with_reducible assumption | with_reducible refine X.alloc ?_ _ | with_reducible refine X.drew ?_)); done) | fail)
      (first
        | (go_at_call 20; refine (toFile_c f ba bn bc 0 _ (hS10.mono (X.fr (by (repeat (first | with_reducible exact X.refl _ | with_reducible assumption | with_reducible refine X.setCell ?_ (by first | (simp; done) | (simp; omega)) _ | with_reducible refine X.ext ?_ _ | with_reducible refine X.alloc ?_ _ | with_reducible refine X.drew ?_))) _))).mono ?_; rintro _ wb ⟨fb, rfl, hOb, hxb⟩; have hXb : X w10 wb := X.trans (by (repeat (first | with_reducible exact X.refl _ | with_reducible assumption | with_reducible refine X.setCell ?_ (by first | (simp; done) | (simp; omega)) _ | with_reducible refine X.ext ?_ _ | with_reducible refine X.alloc ?_ _ | with_reducible refine X.drew ?_))) hxb)
        | (go_at_call 23; refine (eqFile_c f f fa5 fb bn bn bn bn _ _ _ (hSf10.mono (X.fr (by (repeat (first | with_reducible exact X.refl _ | with_reducible assumption | with_reducible refine X.setCell ?_ (by first | (simp; done) | (simp; omega)) _ | with_reducible refine X.ext ?_ _ | with_reducible refine X.alloc ?_ _ | with_reducible refine X.drew ?_))) _)) (StmtsAt.mono ⟨Hbl.out, hbn, hfS.2.2.1, Sl.of_own hOb⟩ (X.fr (by (repeat (first | with_reducible exact X.refl _ | with_reducible assumption | with_reducible refine X.setCell ?_ (by first | (simp; done) | (simp; omega)) _ | with_reducible refine X.ext ?_ _ | with_reducible refine X.alloc ?_ _ | with_reducible refine X.drew ?_))) _))).mono ?_; rintro _ w11 ⟨rfl, hx11⟩; rw [decide_eq_true (rfl : f = f)]; have hX11 : X w10 w11 := X.trans hXb (X.trans (by (repeat (first | with_reducible exact X.refl _ | with_reducible assumption | with_reducible refine X.setCell ?_ (by first | (simp; done) | (simp; omega)) _ | with_reducible refine X.ext ?_ _ | with_reducible refine X.alloc ?_ _ | with_reducible refine X.drew ?_))) hx11)))
  all_goals
    clear t0 t1 t2 t3 t4 t5 u0 u1 u2 u3 u4 u5 hlT hlU hS10 hSf10 hXb hOb hB10 hF10
    go_wp2_with fail
    refine calls_name (fun W12 hW12 => ?_)
    have hp12 : X w11 W12 := by rw [hW12]; (repeat (first | with_reducible exact X.refl _ | with_reducible assumption | with_reducible refine X.setCell ?_ (by first | (simp; done) | (simp; omega)) _ | with_reducible refine X.ext ?_ _ | with_reducible refine X.alloc ?_ _ | with_reducible refine X.drew ?_))
    clear hW12
    have hX6' : X w6 W12 := (hx10.trans hX11).trans hp12
    clear hx10 hX11 hp12
    have fw := hXw6.trans hX6'
    refine (markCompiledS_e l ra4 n n W4.heap.size w4.heap.size 1 W12 (hO4.e.fr (X.fr (hX46'.trans hX6') _)) (by omega) (by omega)).mono ?_
    rintro _ v1 ⟨rfl, _, hK1⟩
    have q0 : Below w.heap.size w v1 := hK1.below (by omega) fw.below
    have q3 : Below w3.heap.size w3 v1 := hK1.below (by omega) (X.below (hX36.trans hX6'))
    have o5 := own_keep (own_fr hO5 (X.fr (hX56.trans hX6') _)) hK1 (by omega)
    have o6 := own_keep (own_fr hO6 (X.fr hX6' _)) hK1 (by omega)
    have m6 := (hC6.fr (X.fr hX6' _)).fr (hK1.fr.mono (by omega))
    have B0 := ((hB4.x hX46').x hX6').keep hK1 (.inl (by omega))
    have B6 := ((hB6.x hx6).x hX6').keep hK1 (.inr (by omega))
    clear hK1 fw hX6' hX36 hX46' hX56 hXw6 hC6 hA6 hS6 hx6 hB6 hB4 hO4 hO6
    obtain ⟨u0, u1, u2, u3, u4, u5⟩ := keepT B6
    have hlU := B6.lt
    go_wp2_with fail
    refine (markFile_c f fa5 bn bn W5.heap.size (1 + wtC l) v1 _ o5 (by omega) (by omega)).mono ?_
    rintro _ v2 ⟨rfl, hg2⟩
    have hK2 : Keep W5.heap.size w5.heap.size v1 v2 := keep_row hO5 hg2
    replace q0 := hK2.below (by omega) q0
    replace q3 := hK2.below (by omega) q3
    replace o6 := own_keep o6 hK2 (by omega)
    replace m6 := m6.fr (hK2.fr.mono (by omega))
    replace B0 := B0.keep hK2 (.inl (by omega))
    clear u0 u1 u2 u3 u4 u5 hlU B6 o5 hg2 hK2
    go_wp2_with fail
    refine (eqStmtS_c bd bd b6 b3 _ _ c6 c3 _ _ v2 ⟨rfl, hbd.1, hbd.2, Sl.of_own o6⟩ (hb3.mono (below_fr0 q3))).mono ?_
    rintro _ v3 ⟨rfl, hx3⟩
    rw [decide_eq_true (rfl : bd = bd)]
    replace q0 := below_x q0 hx3
    replace q3 := below_x q3 hx3
    replace B0 := B0.x hx3
    replace o6 := own_fr o6 (X.fr hx3 _)
    replace m6 := m6.fr (X.fr hx3 _)
    clear hx3
    go_wp2_with fail
    refine (eqCompiledS_c st st r6 r3 _ _ rc6 rc3 _ _ v3 (m6.o.at hst) (hs3.mono (below_fr0 q3))).mono ?_
    rintro _ v4 ⟨rfl, hx4⟩
    rw [decide_eq_true (rfl : st = st)]
    replace q0 := below_x q0 hx4
    replace q3 := below_x q3 hx4
    replace B0 := B0.x hx4
    replace o6 := own_fr o6 (X.fr hx4 _)
    replace m6 := m6.fr (X.fr hx4 _)
    clear hx4
    go_wp2_with fail
    refine (markStmtS_v _ b6 _ c6 E2 1 _ v4 rfl o6 (by omega) (by omega)).mono ?_
    rintro _ v5 ⟨rfl, o7, hg5⟩
    have hK5 : Keep E2 v4.heap.size v4 v5 := Keep.of_grown hg5 (fun g hg => o6.lt g hg)
    replace q0 := hK5.below (by omega) q0
    replace q3 := hK5.below (by omega) q3
    replace B0 := B0.keep hK5 (.inl (by omega))
    replace m6 := pair_mark1 o6 m6 hd6 hg5
    clear o6 hg5 hK5
    go_wp2_with fail
    refine (markCompiledS_e st r6 _ rc6 B1 E1 (1 + 5 * bd.length) v5 m6 (by omega) (by omega)).mono ?_
    rintro _ v6 ⟨rfl, m7, hK6⟩
    have s7 := pair_mark2 o7 hd6 rfl hK6
    replace q0 := hK6.below (by omega) q0
    replace q3 := hK6.below (by omega) q3
    replace B0 := B0.keep hK6 (.inl (by omega))
    clear o7 hK6 m6
    go_wp2_with fail
    refine (heldStmtS_v b6 _ c6 0 1 _ v6 rfl s7 (by omega) (by omega)).mono ?_
    rintro _ v7 ⟨rfl, hx7⟩
    replace q0 := below_x q0 hx7
    replace q3 := below_x q3 hx7
    replace B0 := B0.x hx7
    replace m7 := m7.fr (X.fr hx7 _)
    replace s7 := s7.mono (X.fr hx7 _)
    clear hx7
    go_wp2_with fail
    refine (heldCompiledS_c st r6 _ rc6 _ (1 + 5 * bd.length) v7 m7 (by omega) (by omega)).mono ?_
    rintro _ v8 ⟨rfl, hx8⟩
    replace q0 := below_x q0 hx8
    replace q3 := below_x q3 hx8
    replace B0 := B0.x hx8
    replace m7 := m7.fr (X.fr hx8 _)
    replace s7 := s7.mono (X.fr hx8 _)
    clear hx8
    obtain ⟨t0, t1, t2, t3, t4, t5⟩ := keepT B0
    have hlT := B0.lt
    have hD8 := hD.mono (below_fr0 q0)
    have hS8 := hfS.mono (below_fr0 q0)
    have hG8 := hG.belowW q0
    go_wp2
    go_region_held_law (fun w' => w'.cell? ⟨w.heap.size, 0, none⟩ = some (.int .i64 f.root) ∧ w'.cell? ⟨w.heap.size, 1, none⟩ = some (.string ⟨(f.pkg).toArray⟩) ∧ w'.cell? ⟨w.heap.size, 2, none⟩ = some (.string ⟨(f.name).toArray⟩) ∧ w'.cell? ⟨w.heap.size, 3, none⟩ = some (.bool f.init) ∧ w'.cell? ⟨w.heap.size, 4, none⟩ = some (.int .i64 f.stamp) ∧ w'.cell? ⟨w.heap.size, 5, none⟩ = some (.slice ba bn bc))
      (first | (refine keepT (B0.x ?_); (repeat (first | with_reducible exact X.refl _ | with_reducible assumption | with_reducible refine X.alloc ?_ _ | with_reducible refine X.drew ?_)); done) | fail)
      (first
        | (go_at_call 19; refine (toCompiledS_c l a n c 0 _ (hD8.mono (X.fr (by (repeat (first | with_reducible exact X.refl _ | with_reducible assumption | with_reducible refine X.setCell ?_ (by first | (simp; done) | (simp; omega)) _ | with_reducible refine X.ext ?_ _ | with_reducible refine X.alloc ?_ _ | with_reducible refine X.drew ?_))) _))).mono ?_; rintro _ wa ⟨sa9, rfl, hOa, hxa⟩; have hXa : X v8 wa := X.trans (by (repeat (first | with_reducible exact X.refl _ | with_reducible assumption | with_reducible refine X.setCell ?_ (by first | (simp; done) | (simp; omega)) _ | with_reducible refine X.ext ?_ _ | with_reducible refine X.alloc ?_ _ | with_reducible refine X.drew ?_))) hxa)
        | (go_at_call 20; refine (toFile_c f ba bn bc 0 _ (hS8.mono (X.fr (by (repeat (first | with_reducible exact X.refl _ | with_reducible assumption | with_reducible refine X.setCell ?_ (by first | (simp; done) | (simp; omega)) _ | with_reducible refine X.ext ?_ _ | with_reducible refine X.alloc ?_ _ | with_reducible refine X.drew ?_))) _))).mono ?_; rintro _ wb ⟨fa9, rfl, hOb, hxb⟩; have hXab : X wa wb := X.trans (by (repeat (first | with_reducible exact X.refl _ | with_reducible assumption | with_reducible refine X.setCell ?_ (by first | (simp; done) | (simp; omega)) _ | with_reducible refine X.ext ?_ _ | with_reducible refine X.alloc ?_ _ | with_reducible refine X.drew ?_))) hxb; have hXb : X v8 wb := X.trans hXa hXab)
        | (go_at_call 21; refine (LoadBody_i l sa9 n n _ f i fa9 bn bn _ _ (((hOa.at hok).mono (hXab.fr _)).mono (X.fr (by (repeat (first | with_reducible exact X.refl _ | with_reducible assumption | with_reducible refine X.setCell ?_ (by first | (simp; done) | (simp; omega)) _ | with_reducible refine X.ext ?_ _ | with_reducible refine X.alloc ?_ _ | with_reducible refine X.drew ?_))) _)) hf (StmtsAt.mono ⟨Hbl.out, hbn, hfS.2.2.1, Sl.of_own hOb⟩ (X.fr (by (repeat (first | with_reducible exact X.refl _ | with_reducible assumption | with_reducible refine X.setCell ?_ (by first | (simp; done) | (simp; omega)) _ | with_reducible refine X.ext ?_ _ | with_reducible refine X.alloc ?_ _ | with_reducible refine X.drew ?_))) _)) (hG8.mono (X.trans hXb (by (repeat (first | with_reducible exact X.refl _ | with_reducible assumption | with_reducible refine X.setCell ?_ (by first | (simp; done) | (simp; omega)) _ | with_reducible refine X.ext ?_ _ | with_reducible refine X.alloc ?_ _ | with_reducible refine X.drew ?_)))))).mono ?_; rw [hV]; rintro _ v9 ⟨b9, c9, r9, rc9, B9, E9, E9', rfl, hO9', hC9, _, _, _, _, _, hx9⟩; dsimp only at hO9' hC9 ⊢; have hX9 : X v8 v9 := X.trans hXb (X.trans (by (repeat (first | with_reducible exact X.refl _ | with_reducible assumption | with_reducible refine X.setCell ?_ (by first | (simp; done) | (simp; omega)) _ | with_reducible refine X.ext ?_ _ | with_reducible refine X.alloc ?_ _ | with_reducible refine X.drew ?_))) hx9)))
  all_goals
    clear hXa hXab hXb hOa hOb t0 t1 t2 t3 t4 t5 hlT hD8 hS8 hG8 hx9
    replace q0 := below_x q0 hX9
    replace q3 := below_x q3 hX9
    replace B0 := B0.x hX9
    replace m7 := m7.fr (X.fr hX9 _)
    replace s7 := s7.mono (X.fr hX9 _)
    clear hX9
    go_wp2_with fail
    refine (eqStmtS_c bd bd b9 b3 _ _ c9 c3 _ _ v9 ⟨rfl, hbd.1, hbd.2, Sl.of_own hO9'⟩ (hb3.mono (below_fr0 q3))).mono ?_
    rintro _ v10 ⟨rfl, hx10⟩
    rw [decide_eq_true (rfl : bd = bd)]
    replace hC9 := hC9.fr (hx10.fr _)
    replace q0 := below_x q0 hx10
    replace q3 := below_x q3 hx10
    replace B0 := B0.x hx10
    replace m7 := m7.fr (X.fr hx10 _)
    replace s7 := s7.mono (X.fr hx10 _)
    clear hx10
    go_wp2_with fail
    refine (eqCompiledS_c st st r9 r3 _ _ rc9 rc3 _ _ v10 (hC9.o.at hst) (hs3.mono (below_fr0 q3))).mono ?_
    rintro _ v11 ⟨rfl, hx11⟩
    rw [decide_eq_true (rfl : st = st)]
    replace q0 := below_x q0 hx11
    replace q3 := below_x q3 hx11
    replace B0 := B0.x hx11
    replace m7 := m7.fr (X.fr hx11 _)
    replace s7 := s7.mono (X.fr hx11 _)
    clear hx11
    go_wp2_with fail
    refine (heldStmtS_v b6 _ c6 0 1 _ v11 rfl s7 (by omega) (by omega)).mono ?_
    rintro _ v12 ⟨rfl, hx12⟩
    replace q0 := below_x q0 hx12
    replace q3 := below_x q3 hx12
    replace B0 := B0.x hx12
    replace m7 := m7.fr (X.fr hx12 _)
    replace s7 := s7.mono (X.fr hx12 _)
    clear hx12
    go_wp2_with fail
    refine (heldCompiledS_c st r6 _ rc6 _ (1 + 5 * bd.length) v12 m7 (by omega) (by omega)).mono ?_
    rintro _ v13 ⟨rfl, hx13⟩
    go_wp2
    go_ret
    exact ⟨rfl, below_x q0 hx13⟩

end Go.Proofs.YtjlooplpjliaiaaDoor
