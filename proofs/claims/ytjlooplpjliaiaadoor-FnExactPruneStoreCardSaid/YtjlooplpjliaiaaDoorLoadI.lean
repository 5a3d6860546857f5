/- LoadBody of the program: the walk. No condition but lengths. -/
import Derived.Test.YtjlooplpjliaiaaDoorLoadT
namespace Go.Proofs.YtjlooplpjliaiaaDoor
open Go.RowKit

/-- What LoadBody of the program leaves: a body and a store of the call's own, in blocks of their own. -/
def LoadPost (w w' : World) (e : Ending) (V : List St × List Co × Bool) : Prop := ∃ b1 c1 r1 rc B1 E1 E2,
  e = .returned (.tuple #[.slice b1 V.1.length c1, .slice r1 V.2.1.length rc, .bool V.2.2]) ∧ w'.ownsRow E2 88 5 (.slice b1 V.1.length c1) V.1.length (V.1.flatMap scells) ∧ CosE w' B1 E1 r1 V.2.1.length rc V.2.1 ∧
    w.heap.size ≤ B1 ∧ w.heap.size ≤ E2 ∧ E2 ≤ w'.heap.size ∧ B1 ≤ E1 ∧ (E1 ≤ E2 ∨ (V.1 = [] ∧ ∀ g, (Value.slice b1 V.1.length c1).ownBlock = some g → g < B1)) ∧ X w w'
theorem LoadPost.mk {w Wc w' : World} {bd : List St} {st : List Co} {had : Bool} {b1 r1 : Option Addr} {c1 rc nb ns B1 : Nat} (hb : nb = bd.length) (hs : ns = st.length) (hC : CosO Wc B1 r1 ns rc st) (hO : w'.ownsRow Wc.heap.size 88 5 (.slice b1 nb c1) nb (bd.flatMap scells)) (hx : X Wc w') (hX : X w Wc) (hB : w.heap.size ≤ B1) (hB1 : B1 ≤ Wc.heap.size) :
    LoadPost w w' (.returned (.tuple #[.slice b1 nb c1, .slice r1 ns rc, .bool had])) (bd, st, had) := by
  subst hb hs
  exact ⟨b1, c1, r1, rc, B1, Wc.heap.size, Wc.heap.size, rfl, hO, hC.e.fr (hx.fr _), hB, hX.size, hx.size, hB1, .inl (Nat.le_refl _), hX.trans hx⟩
theorem LoadPost.nil {w W1 : World} (hX : X w W1) : LoadPost w ((W1.alloc (.cells #[] 88)).alloc (.cells #[] 65)) (.returned (.tuple #[.slice (some ⟨W1.heap.size, 0, none⟩) 0 0, .slice (some ⟨W1.heap.size + 1, 0, none⟩) 0 0, .bool false])) ([], [], false) := by
  have h1 := hX.size
  refine ⟨_, 0, _, 0, W1.heap.size + 1, W1.heap.size + 2, W1.heap.size, rfl, own_fr (own_lit (n := 0) rfl (Nat.le_refl _) rfl (by omega)) (X.fr ((X.refl _).alloc _) _), ⟨[], rfl, rfl, own_lit (n := 0) (by simp) (by simp) rfl (by omega), List.Pairwise.nil, (fun _ h => by cases h), (fun b hb => by simp [Value.ownBlock] at hb; omega), fun _ h => by cases h⟩, by omega, by omega, by simp; omega, by omega, .inr ⟨rfl, fun g hg => by simp [Value.ownBlock] at hg; omega⟩, (hX.alloc _).alloc _⟩
theorem moduleOf_ok {f : Fi} (h : fileB f = true) (ba : Option Addr) (bn bc B : Nat) (w : World) (hf : Okf f) (hS : StmtsAt w B ba bn f.body) (hG : Gm w) :
    Calls Tryd.prog 58 #[.agg #[.int .i64 (f).root, .string ⟨(f).pkg.toArray⟩, .string ⟨(f).name.toArray⟩, .bool (f).init, .int .i64 (f).stamp, .slice ba bn bc]] w fun e w' => e = .returned (.string ⟨(moduleB f).toArray⟩) ∧ X w w' := by
  have := ModuleOf_c f ba bn bc B w hf hS hG
  rwa [moduleOf_eq h] at this

set_option maxRecDepth 100000 in
set_option maxHeartbeats 4000000 in
theorem LoadBody_i (l : List Co) (a : Option Addr) (n c B : Nat) (f : Fi) (mode : Int) (ba : Option Addr) (bn bc B2 : Nat) (w : World) (hD : CosAt w B a n l) (hf : Okf f) (hS : StmtsAt w B2 ba bn f.body) (hG : Gm w) :
    Calls Tryd.prog 21 #[.slice a n c, .agg #[.int .i64 (f).root, .string ⟨(f).pkg.toArray⟩, .string ⟨(f).name.toArray⟩, .bool (f).init, .int .i64 (f).stamp, .slice ba bn bc], .int .i64 mode] w fun e w' => LoadPost w w' e (loadV l f mode) := by
  cases q1 : storeB l <;> cases q2 : fileB f <;> cases q3 : rangeB mode 0 2
  case true.true.true =>
    have Hv0 := Lib.hid (loadV_good (l := l) (f := f) (mode := mode) (by simp [loadOk, *]))
    have hl12 := storeB_12 q1
    have hok := hD.okC
    have hn12 : n ≤ 12 := by have := hD.len.1; omega
    have Hnl := Lib.hid hD.len.1
    have Hbn := Lib.hid hS.1
    clear hl12
    go_enter Tryd.func21, Tryd.ntmps21
    go_wp2_with fail
    refine calls_name (fun W0 hW0 => ?_)
    have hT : Bx W0 w.heap.size #[.int .i64 f.root, .string ⟨(f.pkg).toArray⟩, .string ⟨(f.name).toArray⟩, .bool f.init, .int .i64 f.stamp, .slice ba bn bc] := by rw [hW0]; exact Bx.new _ _ _
    have hX0 : X w W0 := by rw [hW0]; (repeat (first | with_reducible exact X.refl _ | with_reducible assumption | with_reducible refine X.setCell ?_ (by first | (simp; done) | (simp; omega)) _ | with_reducible refine X.ext ?_ _ | with_reducible refine X.alloc ?_ _ | with_reducible refine X.drew ?_))
    clear hW0
    refine (ValidStore_c l a n c B W0 (hD.mono (hX0.fr _)) (hG.mono hX0)).mono ?_
    rintro _ w1 ⟨rfl, hx1⟩
    rw [q1]
    replace hT := hT.x hx1
    replace hX0 := hX0.trans hx1
    clear hx1
    obtain ⟨t0, t1, t2, t3, t4, t5⟩ := keepT hT
    have hlT := hT.lt
    go_wp2_with fail
    refine (fileOk_c f ba bn bc B2 w1 hf (hS.mono (hX0.fr _)) (hG.mono hX0)).mono ?_
    rintro _ w2 ⟨rfl, hx2⟩
    rw [q2]
    replace hT := hT.x hx2
    replace hX0 := hX0.trans hx2
    clear hx2 t0 t1 t2 t3 t4 t5 hlT
    go_wp2_with fail
    refine (modeOk_c' mode w2).mono ?_
    rintro _ w3 ⟨rfl, hx3⟩
    rw [q3]
    replace hT := hT.x hx3
    replace hX0 := hX0.trans hx3
    clear hx3
    go_wp2_with fail
    refine (cloneStore_c l a n c B w3 (hD.mono (hX0.fr _))).mono ?_
    rintro _ W ⟨sa, sc, rfl, hO, hx4⟩
    have hTl3 := hT.lt
    replace hT := hT.x hx4
    have hXW := hX0.trans hx4
    have hw3 : w.heap.size ≤ w3.heap.size := hX0.size
    have hw4 : w3.heap.size ≤ W.heap.size := hx4.size
    have hX03 := hX0
    have hX34 := hx4
    clear hx4 hX0
    have hDW := hO.at hok
    have hSW := hS.mono (hXW.fr B2)
    have hGW := hG.mono hXW
    have hO0 := hO
    obtain ⟨vs, hvl, -, hrow, hsep, hbd⟩ := hO
    have hvn : vs.length = n := by rw [Hnl.out, hvl, List.length_map]
    have hfar := bodyC_lt hbd
    have Hv := Lib.hid (And.intro (And.intro hvl hvn) (And.intro hsep (And.intro hbd hfar)))
    clear hvl hsep hbd hfar hvn
    obtain ⟨t0, t1, t2, t3, t4, t5⟩ := keepT hT
    have hlT := hT.lt
    go_wp2
    refine wp_region_grow0 (by kernel_rfl) (by kernel_rfl) ?_
    repeat (go_big_quiet_step (((first | (go_at_call 58; refine grow_of (moduleOf_ok q2 ba bn bc B2 _ hf (hSW.mono (X.fr (by (repeat (first | exact X.refl _ | assumption | refine X.ext ?_ _ | refine X.alloc ?_ _ | refine X.drew ?_))) _)) (hGW.mono (by (repeat (first | exact X.refl _ | assumption | refine X.ext ?_ _ | refine X.alloc ?_ _ | refine X.drew ?_)))))) | (go_at_call 57; refine grow_of (compiledAt_i l sa n sc _ f.root (moduleB f) f.init _ (hDW.mono (X.fr (by (repeat (first | exact X.refl _ | assumption | refine X.ext ?_ _ | refine X.alloc ?_ _ | refine X.drew ?_))) _))))))))
    refine wpQuiet_nil ?_
    rintro _ ⟨y, rfl⟩
    rcases cix_cases l f with hc | ⟨k, hkl, hc⟩
    · have hc2 : cidx l f.root (moduleB f) f.init n = -1 := by rw [Hnl.out]; exact hc
      obtain ⟨r1, r2, r3⟩ := load_none hc
      have Hr := Lib.hid (And.intro r1 (And.intro r2 (r3 mode)))
      rw [hc2]
      clear hc hc2 r1 r2 r3
      go_wp2
      refine wp_region_grow (by kernel_rfl) (by kernel_rfl) ?_
      repeat (go_big_quiet_step ((fail)))
      refine wpQuiet_nil ?_
      rintro _ ⟨y, rfl⟩
      go_wp2_with fail
      refine calls_name (fun W3 hW3 => ?_)
      have hX3 : X W W3 := by rw [hW3]; (repeat (first | exact X.refl _ | assumption | refine X.ext ?_ _ | refine X.alloc ?_ _ | refine X.drew ?_))
      clear hW3
      refine (CompileFile_c f mode ba bn bc B2 W3 hf (hSW.mono (hX3.fr _)) q2 q3 (hGW.mono hX3)).mono ?_
      rintro _ w5 ⟨rb, rcb, rfl, hO3, hx3⟩
      generalize hcf : compB f mode = cf at *
      have Hcb := Lib.hid (show cf.body = f.body by rw [← hcf]; rfl)
      clear hcf
      have hX4 : X W w5 := hX3.trans hx3
      obtain ⟨t0', t1', t2', t3', t4', t5'⟩ := keepT (hT.x hX4)
      have hlT3 : w.heap.size < w5.heap.size := Nat.lt_of_lt_of_le hlT hX4.size
      have hrow3 := own_fr hrow (hX4.fr _)
      have hs3 : w3.heap.size ≤ w5.heap.size := Nat.le_trans hw4 hX4.size
      by_cases h12 : n < 12
      · have hTg : ∀ {w4 w5' : World}, X w5 w4 → w4.grownBy w5' (Value.slice sa n sc).ownBlock → Bx w5' w.heap.size #[.int .i64 f.root, .string ⟨(f.pkg).toArray⟩, .string ⟨(f.name).toArray⟩, .bool f.init, .int .i64 f.stamp, .slice ba bn bc] := fun hx hg => Bx.grown ((hT.x hX4).x hx) hg (fun g hg => by have := (hrow.lt g hg).1; omega)
        go_wp2_with (at_builtin; refine wpList_append_g (B := w3.heap.size) co_T rfl _ _ rfl (own_fr hrow3 (X.fr (by (repeat (first | with_reducible exact X.refl _ | with_reducible assumption | with_reducible refine X.setCell ?_ (by first | (simp; done) | (simp; omega)) _ | with_reducible refine X.ext ?_ _ | with_reducible refine X.alloc ?_ _ | with_reducible refine X.drew ?_))) _)) rfl (g := w5.heap.size + 1) rfl (by simp) rfl (by simp [Value.oneCell']) (by omega) (by omega) (by simp; omega) ?_; intro a' c' w' hrow' hg'; have hga := X.grown ((X.refl _).alloc _) hg'; obtain ⟨t0'', t1'', t2'', t3'', t4'', t5''⟩ := keepT (hTg ((X.refl w5).alloc _) hga))
        obtain ⟨⟨hvl, hvn⟩, hsep, hbd, hfar⟩ := Hv.out
        have hO3' : w5.ownsRow W3.heap.size 88 5 (.slice rb bn rcb) bn (cf.body.flatMap scells) := by rw [Hcb.out]; exact own_less hO3 (Nat.le_refl _)
        have hX35 : X w3 w5 := hX34.trans hX4
        have hXW' : X w3 w' := X.of_below ((X.below (w := w3) (X.trans hX35 ((X.refl w5).alloc _))).grown hga (X.size (X.trans hX35 ((X.refl w5).alloc _))) (fun g hg => (hrow.lt g hg).1))
        have hC := CosV.snocX (E := W3.heap.size) ((X.refl w5).alloc _) hrow3 hsep (fun x hx => (hbd x hx).fr (X.fr hX4 _)) (fun x hx b hb => Nat.lt_of_lt_of_le (hfar x hx b hb) hX3.size) hvn hO3' (by rw [Hcb.out, ← Hbn.out]) (Nat.le_trans hw4 hX3.size) hrow' hga
        rw [← hvl] at hC
        have hw' : w5.heap.size ≤ w'.heap.size := Nat.le_trans (X.size ((X.refl w5).alloc _)) hga.size
        refine calls_name (fun Wc hWc => ?_)
        rw [← hWc] at hC hXW' hw'
        clear hWc hrow' hg' hga
        have hXc := hX03.trans hXW'
        refine (cloneBody_c f.body ba bn bc B2 Wc (hS.mono (hXc.fr _))).mono ?_
        rintro _ w7 ⟨b1, c1, rfl, hO7, hx7⟩
        go_wp2
        refine bodyPost_ret (v := (.tuple #[.slice b1 bn c1, .slice a' (n + 1) c', .bool false])) (by simp [results, Tryd.results21, go_sem]) rfl ?_
        obtain ⟨r1, r2, r3⟩ := Hr.out
        rw [← Hnl.out, if_pos h12] at r3
        rw [Hv0.out, r1, r2, r3]
        exact LoadPost.mk Hbn.out (by rw [List.length_append, List.length_singleton, ← Hnl.out]) hC hO7 hx7 hXc hw3 (Nat.le_trans hs3 hw')
      · go_wp2_with fail
        refine calls_name (fun Wc hWc => ?_)
        have hXc : X W Wc := by rw [hWc]; exact hX4.alloc _
        clear hWc
        refine (cloneBody_c f.body ba bn bc B2 Wc (hSW.mono (hXc.fr _))).mono ?_
        rintro _ w7 ⟨b1, c1, rfl, hO7, hx7⟩
        go_wp2
        refine bodyPost_ret (v := (.tuple #[.slice b1 bn c1, .slice sa n sc, .bool false])) (by simp [results, Tryd.results21, go_sem]) rfl ?_
        obtain ⟨r1, r2, r3⟩ := Hr.out
        rw [← Hnl.out, if_neg h12] at r3
        rw [Hv0.out, r1, r2, r3]
        exact LoadPost.mk Hbn.out Hnl.out (hO0.fr (hXc.fr _)) hO7 hx7 (hXW.trans hXc) hw3 (Nat.le_trans hw4 hXc.size)
    · have hc2 : cidx l f.root (moduleB f) f.init n = (k : Int) := by rw [Hnl.out]; exact hc
      obtain ⟨r1, r2, r3⟩ := load_some hc
      have Hr := Lib.hid (And.intro r1 (And.intro r2 (r3 mode)))
      have hkn : k < n := by rw [Hnl.out]; exact hkl
      rw [hc2]
      clear hc hc2 r1 r2 r3 hkl
      obtain ⟨g, rfl, hgW, hgw⟩ := own_form hrow (by omega)
      obtain ⟨ka, kn, kc, hgl, hkc, hSk, g0, g1, g2, g3, g4, g5, g6, g7⟩ := hDW.at0 hkn
      have Hkn := Lib.hid hSk.1
      have hgT : w.heap.size ≠ g := by omega
      cases hu : usableB (nth l k) f
      · have hus : ∀ w', X W w' → Calls Tryd.prog 59 #[.agg #[.int .i64 ((nth l k)).root, .string ⟨((nth l k)).mod.toArray⟩, .bool ((nth l k)).init, .int .i64 ((nth l k)).mode, .int .i64 ((nth l k)).stamp, .int .i64 ((nth l k)).size, .int .i64 ((nth l k)).hash, .slice ka kn kc], .agg #[.int .i64 (f).root, .string ⟨(f).pkg.toArray⟩, .string ⟨(f).name.toArray⟩, .bool (f).init, .int .i64 (f).stamp, .slice ba bn bc]] w' fun e w'' => e = .returned (.bool false) ∧ X w' w'' := fun w' hx => by
          have := usable_i (nth l k) (.slice ka kn kc) f ba bn bc B2 w' (hSW.mono (hx.fr _)) (fileB_body q2) (hGW.mono hx)
          rwa [hu] at this
        go_wp2
        refine wp_region_grow (by kernel_rfl) (by kernel_rfl) ?_
        repeat (go_big_quiet_step (((go_at_call 59; refine grow_of (hus _ (by (repeat (first | exact X.refl _ | assumption | refine X.ext ?_ _ | refine X.alloc ?_ _ | refine X.drew ?_))))))))
        refine wpQuiet_nil ?_
        rintro _ ⟨y, rfl⟩
        go_wp2_with fail
        refine calls_name (fun W3 hW3 => ?_)
        have hX3 : X W W3 := by rw [hW3]; (repeat (first | exact X.refl _ | assumption | refine X.ext ?_ _ | refine X.alloc ?_ _ | refine X.drew ?_))
        clear hW3
        refine (CompileFile_c f mode ba bn bc B2 W3 hf (hSW.mono (hX3.fr _)) q2 q3 (hGW.mono hX3)).mono ?_
        rintro _ w5 ⟨rb, rcb, rfl, hO3, hx3⟩
        generalize hcf : compB f mode = cf at *
        have Hcb := Lib.hid (show cf.body = f.body by rw [← hcf]; rfl)
        clear hcf
        have hX4 : X W w5 := hX3.trans hx3
        obtain ⟨t0', t1', t2', t3', t4', t5'⟩ := keepT (hT.x hX4)
        have hlT3 : w.heap.size < w5.heap.size := Nat.lt_of_lt_of_le hlT hX4.size
        have hrow3 := own_fr hrow (hX4.fr _)
        have hgl3 : g < w5.heap.size := Nat.lt_of_lt_of_le hgl hX4.size
        have hf0 := (hrow3).frozenAt (k * 8); obtain ⟨u0, hu0⟩ := own_here hrow3 (j := k * 8) (by omega)
        have hf1 := (hrow3).frozenAt (k * 8 + 1); obtain ⟨u1, hu1⟩ := own_here hrow3 (j := k * 8 + 1) (by omega)
        have hf2 := (hrow3).frozenAt (k * 8 + 2); obtain ⟨u2, hu2⟩ := own_here hrow3 (j := k * 8 + 2) (by omega)
        have hf3 := (hrow3).frozenAt (k * 8 + 3); obtain ⟨u3, hu3⟩ := own_here hrow3 (j := k * 8 + 3) (by omega)
        have hf4 := (hrow3).frozenAt (k * 8 + 4); obtain ⟨u4, hu4⟩ := own_here hrow3 (j := k * 8 + 4) (by omega)
        have hf5 := (hrow3).frozenAt (k * 8 + 5); obtain ⟨u5, hu5⟩ := own_here hrow3 (j := k * 8 + 5) (by omega)
        have hf6 := (hrow3).frozenAt (k * 8 + 6); obtain ⟨u6, hu6⟩ := own_here hrow3 (j := k * 8 + 6) (by omega)
        have hf7 := (hrow3).frozenAt (k * 8 + 7); obtain ⟨u7, hu7⟩ := own_here hrow3 (j := k * 8 + 7) (by omega)
        go_wp2_with fail
        refine calls_name (fun Wc hWc => ?_)
        obtain ⟨⟨hvl, hvn⟩, hsep, hbd, hfar⟩ := Hv.out
        have hO3' : w5.ownsRow W3.heap.size 88 5 (.slice rb bn rcb) bn (cf.body.flatMap scells) := by rw [Hcb.out]; exact hO3
        have hC := CosV.set (E := W3.heap.size) hrow3 hsep (fun x hx => (hbd x hx).fr (X.fr hX4 _)) (fun x hx b hb => Nat.lt_of_lt_of_le (hfar x hx b hb) hX3.size) hvn hkn hO3' (by rw [Hcb.out, ← Hbn.out]) (Nat.le_trans hw4 hX3.size)
        rw [← hvl] at hC
        have hXW' := X.sets8 (o0 := k * 8) (o1 := k * 8 + 1) (o2 := k * 8 + 2) (o3 := k * 8 + 3) (o4 := k * 8 + 4) (o5 := k * 8 + 5) (o6 := k * 8 + 6) (o7 := k * 8 + 7) (v0 := .int .i64 cf.root) (v1 := .string ⟨(cf.mod).toArray⟩) (v2 := .bool cf.init) (v3 := .int .i64 cf.mode) (v4 := .int .i64 cf.stamp) (v5 := .int .i64 cf.size) (v6 := .int .i64 cf.hash) (v7 := .slice rb bn rcb) (hXW.trans hX4) (Nat.le_trans hw3 hgW)
        have hC' : CosO Wc w3.heap.size (some ⟨g, 0, none⟩) n sc (l.set k cf) := by rw [hWc]; exact hC.fr (X.fr ((X.refl _).alloc _) _)
        have hXc : X w Wc := by rw [hWc]; exact hXW'.alloc _
        have hs5 : w5.heap.size ≤ Wc.heap.size := by rw [hWc]; simp [World.setCell]
        clear hWc hC hXW'
        refine (cloneBody_c f.body ba bn bc B2 Wc (hS.mono (hXc.fr _))).mono ?_
        rintro _ w7 ⟨b1, c1, rfl, hO7, hx7⟩
        go_wp2
        refine bodyPost_ret (v := (.tuple #[.slice b1 bn c1, .slice (some ⟨g, 0, none⟩) n sc, .bool false])) (by simp [results, Tryd.results21, go_sem]) rfl ?_
        obtain ⟨r1, r2, r3⟩ := Hr.out
        rw [hu, if_neg (by simp)] at r2 r3
        rw [hu] at r1
        rw [Hv0.out, r1, r2, r3]
        exact LoadPost.mk Hbn.out (by rw [List.length_set]; exact Hnl.out) hC' hO7 hx7 hXc hw3 (Nat.le_trans hw4 (Nat.le_trans hX4.size hs5))
      · have hus : ∀ w', X W w' → Calls Tryd.prog 59 #[.agg #[.int .i64 ((nth l k)).root, .string ⟨((nth l k)).mod.toArray⟩, .bool ((nth l k)).init, .int .i64 ((nth l k)).mode, .int .i64 ((nth l k)).stamp, .int .i64 ((nth l k)).size, .int .i64 ((nth l k)).hash, .slice ka kn kc], .agg #[.int .i64 (f).root, .string ⟨(f).pkg.toArray⟩, .string ⟨(f).name.toArray⟩, .bool (f).init, .int .i64 (f).stamp, .slice ba bn bc]] w' fun e w'' => e = .returned (.bool true) ∧ X w' w'' := fun w' hx => by
          have := usable_i (nth l k) (.slice ka kn kc) f ba bn bc B2 w' (hSW.mono (hx.fr _)) (fileB_body q2) (hGW.mono hx)
          rwa [hu] at this
        go_wp2
        refine wp_region_grow (by kernel_rfl) (by kernel_rfl) ?_
        repeat (go_big_quiet_step (((go_at_call 59; refine grow_of (hus _ (by (repeat (first | exact X.refl _ | assumption | refine X.ext ?_ _ | refine X.alloc ?_ _ | refine X.drew ?_))))))))
        refine wpQuiet_nil ?_
        rintro _ ⟨y, rfl⟩
        go_wp2_with fail
        refine calls_name (fun Wc hWc => ?_)
        have hXc : X W Wc := by rw [hWc]; (repeat (first | exact X.refl _ | assumption | refine X.ext ?_ _ | refine X.alloc ?_ _ | refine X.drew ?_))
        clear hWc
        refine (cloneBody_c (nth l k).body ka kn kc _ Wc (hSk.mono (hXc.fr _))).mono ?_
        rintro _ w7 ⟨b1, c1, rfl, hO7, hx7⟩
        go_wp2
        refine bodyPost_ret (v := (.tuple #[.slice b1 kn c1, .slice (some ⟨g, 0, none⟩) n sc, .bool true])) (by simp [results, Tryd.results21, go_sem]) rfl ?_
        obtain ⟨r1, r2, r3⟩ := Hr.out
        rw [hu, if_pos rfl] at r2 r3
        rw [hu] at r1
        rw [Hv0.out, r1, r2, r3]
        exact LoadPost.mk Hkn.out Hnl.out (hO0.fr (hXc.fr _)) hO7 hx7 (hXW.trans hXc) hw3 (Nat.le_trans hw4 hXc.size)
  all_goals
    have Hv0 := Lib.hid (loadV_bad (l := l) (f := f) (mode := mode) (by simp [loadOk, *]))
    go_enter Tryd.func21, Tryd.ntmps21
    go_wp2_with (first
      | (go_at_call 54; refine (ValidStore_c l a n c B _ (hD.mono (X.fr (by (repeat (first | with_reducible exact X.refl _ | with_reducible assumption | with_reducible refine X.setCell ?_ (by first | (simp; done) | (simp; omega)) _ | with_reducible refine X.ext ?_ _ | with_reducible refine X.alloc ?_ _ | with_reducible refine X.drew ?_))) _)) (hG.mono (by (repeat (first | with_reducible exact X.refl _ | with_reducible assumption | with_reducible refine X.setCell ?_ (by first | (simp; done) | (simp; omega)) _ | with_reducible refine X.ext ?_ _ | with_reducible refine X.alloc ?_ _ | with_reducible refine X.drew ?_))))).mono ?_; rintro _ _ ⟨rfl, hx⟩; obtain ⟨x, rfl⟩ := hx; rw [q1])
      | (go_at_call 55; refine (fileOk_c f ba bn bc B2 _ hf (hS.mono (X.fr (by (repeat (first | with_reducible exact X.refl _ | with_reducible assumption | with_reducible refine X.setCell ?_ (by first | (simp; done) | (simp; omega)) _ | with_reducible refine X.ext ?_ _ | with_reducible refine X.alloc ?_ _ | with_reducible refine X.drew ?_))) _)) (hG.mono (by (repeat (first | with_reducible exact X.refl _ | with_reducible assumption | with_reducible refine X.setCell ?_ (by first | (simp; done) | (simp; omega)) _ | with_reducible refine X.ext ?_ _ | with_reducible refine X.alloc ?_ _ | with_reducible refine X.drew ?_))))).mono ?_; rintro _ _ ⟨rfl, hx⟩; obtain ⟨x, rfl⟩ := hx.of_ext; rw [q2])
      | (go_at_call 40; refine (modeOk_c' mode _).mono ?_; rintro _ _ ⟨rfl, hx⟩; obtain ⟨x, rfl⟩ := hx.of_ext; rw [q3]))
    have hX1 : X w (World.ext (w.alloc (.cells #[.int .i64 f.root, .string ⟨(f.pkg).toArray⟩, .string ⟨(f.name).toArray⟩, .bool f.init, .int .i64 f.stamp, .slice ba bn bc] 48)) x) := by (repeat (first | with_reducible exact X.refl _ | with_reducible assumption | with_reducible refine X.setCell ?_ (by first | (simp; done) | (simp; omega)) _ | with_reducible refine X.ext ?_ _ | with_reducible refine X.alloc ?_ _ | with_reducible refine X.drew ?_))
    generalize World.ext (w.alloc (.cells #[.int .i64 f.root, .string ⟨(f.pkg).toArray⟩, .string ⟨(f.name).toArray⟩, .bool f.init, .int .i64 f.stamp, .slice ba bn bc] 48)) x = W1 at *
    refine bodyPost_ret (v := (.tuple #[.slice (some ⟨W1.heap.size, 0, none⟩) 0 0, .slice (some ⟨W1.heap.size + 1, 0, none⟩) 0 0, .bool false])) (by simp [results, Tryd.results21, go_sem]) rfl ?_
    rw [Hv0.out]
    exact LoadPost.nil hX1

end Go.Proofs.YtjlooplpjliaiaaDoor
