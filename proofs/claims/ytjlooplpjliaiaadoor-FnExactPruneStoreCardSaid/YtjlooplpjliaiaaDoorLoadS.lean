/- LoadBody of the reference: the walks. No condition but lengths. -/
import Derived.Test.YtjlooplpjliaiaaDoorLoad
namespace Go.Proofs.YtjlooplpjliaiaaDoor
open Go.RowKit

set_option maxRecDepth 100000 in
set_option maxHeartbeats 4000000 in
theorem loadBody_s (l : List Co) (n sc : Nat) (sa : Option Addr) (f : Fi) (mode : Int) (ba : Option Addr) (bn bc B : Nat) (W w : World) (hX : X W w) (hO : CosO w W.heap.size sa n sc l) (hk : OkC l) (hn12 : n ≤ 12) (hf : Okf f) (hS : StmtsAt W B ba bn f.body) (hv : fileB f = true) :
    Calls Tryd.prog 50 #[.slice sa n sc, .agg #[.int .i64 (f).root, .string ⟨(f).pkg.toArray⟩, .string ⟨(f).name.toArray⟩, .bool (f).init, .int .i64 (f).stamp, .slice ba bn bc], .int .i64 mode] w fun e w' => ∃ b1 c1 r1 rc, e = .returned (.tuple #[.slice b1 (bodyLd l f).length c1, .slice r1 (storeLd l f mode).length rc, .bool (hadB l f)]) ∧ StmtsAt w' 0 b1 (bodyLd l f).length (bodyLd l f) ∧
      CosO w' W.heap.size r1 (storeLd l f mode).length rc (storeLd l f mode) ∧ X W w' := by
  have hD := hO.at hk
  have hnl := hD.len.1
  have hO0 := hO
  obtain ⟨vs, hvl, -, hrow, hsep, hbd⟩ := hO
  have hvn : vs.length = n := by rw [hnl, hvl, List.length_map]
  have hfar := bodyC_lt hbd
  have Hv := Lib.hid (And.intro (And.intro hvl hvn) (And.intro hsep (And.intro hbd hfar)))
  clear hvl hsep hbd hfar hvn
  have hbn := hS.1
  have Hbn := Lib.hid hbn
  have Hnl := Lib.hid hnl
  have hWw := hX.size
  clear hbn hnl
  go_enter Tryd.func50, Tryd.ntmps50
  go_wp2
  refine wp_name (fun W1 hW1 => ?_)
  have hT : Bx W1 w.heap.size #[.int .i64 f.root, .string ⟨(f.pkg).toArray⟩, .string ⟨(f.name).toArray⟩, .bool f.init, .int .i64 f.stamp, .slice ba bn bc] := by rw [hW1]; exact Bx.new _ _ _
  have hX1 : X w W1 := by rw [hW1]; (repeat (first | with_reducible exact X.refl _ | with_reducible assumption | with_reducible refine X.setCell ?_ (by first | (simp; done) | (simp; omega)) _ | with_reducible refine X.ext ?_ _ | with_reducible refine X.alloc ?_ _ | with_reducible refine X.drew ?_))
  have hlT : w.heap.size < W1.heap.size := hT.lt
  clear hW1
  obtain ⟨t0, t1, t2, t3, t4, t5⟩ := keepT hT
  have hD1 := hD.mono (hX1.fr _)
  have hS1 := hS.mono ((hX.trans hX1).fr B)
  have hrow1 := own_fr hrow (hX1.fr _)
  have hXW1 := hX.trans hX1
  refine wp_region_grow0 (by kernel_rfl) (by kernel_rfl) ?_
  repeat (go_big_quiet_step (((first | (go_at_call 62; refine grow_of (moduleName_c f _ _ hf)) | (go_at_call 65; refine grow_of (compiledAt_s l sa n sc _ f.root (moduleB f) f.init _ (hD1.mono (X.fr (by (repeat (first | exact X.refl _ | assumption | refine X.ext ?_ _ | refine X.alloc ?_ _ | refine X.drew ?_))) _))))))))
  refine wpQuiet_nil ?_
  rintro _ ⟨y, rfl⟩
  rcases cix_cases l f with hc | ⟨k, hkl, hc⟩
  · have hc2 : cidx l f.root (moduleB f) f.init n = -1 := by rw [Hnl.out]; exact hc
    obtain ⟨r1, r2, r3⟩ := load_none hc
    have Hr := Lib.hid (And.intro r1 (And.intro r2 (r3 mode)))
    rw [hc2]
    clear hc hc2 r1 r2 r3
    go_wp2
    refine wp_region_grow (by kernel_rfl) (by kernel_rfl) ?_
    repeat (go_big_quiet_step ((fail)))
    refine wpQuiet_nil ?_
    rintro _ ⟨y, rfl⟩
    go_wp2_with fail
    refine calls_name (fun W3 hW3 => ?_)
    have hX3 : X W1 W3 := by rw [hW3]; (repeat (first | exact X.refl _ | assumption | refine X.ext ?_ _ | refine X.alloc ?_ _ | refine X.drew ?_))
    clear hW3
    refine (compiled_c f mode ba bn bc B W3 hf (hS1.mono (hX3.fr _)) (fileB_body hv)).mono ?_
    rintro _ w3 ⟨rb, rcb, rfl, hO3, hx3⟩
    generalize hcf : compB f mode = cf at *
    have Hcb := Lib.hid (show cf.body = f.body by rw [← hcf]; rfl)
    clear hcf
    have hX4 : X W1 w3 := hX3.trans hx3
    obtain ⟨t0', t1', t2', t3', t4', t5'⟩ := keepT (hT.x hX4)
    have hlT3 : w.heap.size < w3.heap.size := Nat.lt_of_lt_of_le hlT hX4.size
    have hrow3 := own_fr hrow1 (hX4.fr _)
    have hs3 : W.heap.size ≤ w3.heap.size := Nat.le_trans hWw (Nat.le_trans hX1.size hX4.size)
    by_cases h12 : n < 12
    · have hTg : ∀ {w4 w5 : World}, X w3 w4 → w4.grownBy w5 (Value.slice sa n sc).ownBlock → Bx w5 w.heap.size #[.int .i64 f.root, .string ⟨(f.pkg).toArray⟩, .string ⟨(f.name).toArray⟩, .bool f.init, .int .i64 f.stamp, .slice ba bn bc] := fun hx hg => Bx.grown ((hT.x hX4).x hx) hg (fun g hg => by have := (hrow.lt g hg).2; omega)
      go_wp2_with (at_builtin; refine wpList_append_g (B := W.heap.size) co_T rfl _ _ rfl (own_fr hrow3 (X.fr (by (repeat (first | with_reducible exact X.refl _ | with_reducible assumption | with_reducible refine X.setCell ?_ (by first | (simp; done) | (simp; omega)) _ | with_reducible refine X.ext ?_ _ | with_reducible refine X.alloc ?_ _ | with_reducible refine X.drew ?_))) _)) rfl (g := w3.heap.size + 1) rfl (by simp) rfl (by simp [Value.oneCell']) (by omega) (by omega) (by simp; omega) ?_; intro a' c' w' hrow' hg'; have hga := X.grown ((X.refl _).alloc _) hg'; obtain ⟨t0'', t1'', t2'', t3'', t4'', t5''⟩ := keepT (hTg ((X.refl w3).alloc _) hga))
      refine bodyPost_ret (v := (.tuple #[.slice ba bn bc, .slice a' (n + 1) c', .bool false])) (by simp [results, Tryd.results50, go_sem]) rfl ?_
      obtain ⟨⟨hvl, hvn⟩, hsep, hbd, hfar⟩ := Hv.out
      obtain ⟨r1, r2, r3⟩ := Hr.out
      rw [← Hnl.out, if_pos h12] at r3
      rw [r1, r2, r3, List.length_append, List.length_singleton, ← Hnl.out, ← Hbn.out]
      have hXW' : X W w' := X.of_below ((X.below (w := W) (X.trans (hXW1.trans hX4) ((X.refl w3).alloc _))).grown hga (X.size (X.trans (hXW1.trans hX4) ((X.refl w3).alloc _))) (fun g hg => by have := (hrow3.lt g hg).1; omega))
      have hO3' : w3.ownsRow W3.heap.size 88 5 (.slice rb bn rcb) bn (cf.body.flatMap scells) := by rw [Hcb.out]; exact hO3
      have hC := CosV.snocX (E := W3.heap.size) ((X.refl w3).alloc _) hrow3 hsep (fun x hx => (hbd x hx).fr (X.fr (hX1.trans hX4) _)) (fun x hx b hb => Nat.lt_of_lt_of_le (hfar x hx b hb) (X.size (hX1.trans hX3))) hvn hO3' (by rw [Hcb.out, ← Hbn.out]) (Nat.le_trans hWw (X.size (hX1.trans hX3))) hrow' hga
      rw [← hvl] at hC
      exact ⟨ba, bc, a', c', rfl, (hS.mono (hXW'.fr _)).less (Nat.zero_le _), hC, hXW'⟩
    · go_wp2
      refine bodyPost_ret (v := (.tuple #[.slice ba bn bc, .slice sa n sc, .bool false])) (by simp [results, Tryd.results50, go_sem]) rfl ?_
      obtain ⟨r1, r2, r3⟩ := Hr.out
      rw [← Hnl.out, if_neg h12] at r3
      rw [r1, r2, r3, ← Hnl.out, ← Hbn.out]
      have hx5 : X W1 (w3.alloc (.cells #[.int .i64 cf.root, .string ⟨(cf.mod).toArray⟩, .bool cf.init, .int .i64 cf.mode, .int .i64 cf.stamp, .int .i64 cf.size, .int .i64 cf.hash, .slice rb bn rcb] 65)) := hX4.alloc _
      exact ⟨ba, bc, sa, sc, rfl, (hS.mono (X.fr (hXW1.trans hx5) _)).less (Nat.zero_le _), hO0.fr (X.fr (hX1.trans hx5) _), hXW1.trans hx5⟩
  · have hc2 : cidx l f.root (moduleB f) f.init n = (k : Int) := by rw [Hnl.out]; exact hc
    obtain ⟨r1, r2, r3⟩ := load_some hc
    have Hr := Lib.hid (And.intro r1 (And.intro r2 (r3 mode)))
    have hkn : k < n := by rw [Hnl.out]; exact hkl
    rw [hc2]
    clear hc hc2 r1 r2 r3 hkl
    obtain ⟨g, rfl, hgW, hgw⟩ := own_form hrow (by omega)
    obtain ⟨ka, kn, kc, hgl, hkc, hSk, g0, g1, g2, g3, g4, g5, g6, g7⟩ := hD1.at0 hkn
    have Hkn := Lib.hid hSk.1
    cases hu : usableB (nth l k) f
    · have hus : ∀ w', X W1 w' → Calls Tryd.prog 66 #[.agg #[.int .i64 ((nth l k)).root, .string ⟨((nth l k)).mod.toArray⟩, .bool ((nth l k)).init, .int .i64 ((nth l k)).mode, .int .i64 ((nth l k)).stamp, .int .i64 ((nth l k)).size, .int .i64 ((nth l k)).hash, .slice ka kn kc], .agg #[.int .i64 (f).root, .string ⟨(f).pkg.toArray⟩, .string ⟨(f).name.toArray⟩, .bool (f).init, .int .i64 (f).stamp, .slice ba bn bc]] w' fun e w'' => e = .returned (.bool false) ∧ X w' w'' := fun w' hx => by
        have := usable_s (nth l k) (.slice ka kn kc) f ba bn bc B w' (hS1.mono (hx.fr _)) (fileB_body hv)
        rwa [hu] at this
      go_wp2
      refine wp_region_grow (by kernel_rfl) (by kernel_rfl) ?_
      repeat (go_big_quiet_step (((go_at_call 66; refine grow_of (hus _ (by (repeat (first | exact X.refl _ | assumption | refine X.ext ?_ _ | refine X.alloc ?_ _ | refine X.drew ?_))))))))
      refine wpQuiet_nil ?_
      rintro _ ⟨y, rfl⟩
      go_wp2_with fail
      refine calls_name (fun W3 hW3 => ?_)
      have hX3 : X W1 W3 := by rw [hW3]; (repeat (first | exact X.refl _ | assumption | refine X.ext ?_ _ | refine X.alloc ?_ _ | refine X.drew ?_))
      clear hW3
      refine (compiled_c f mode ba bn bc B W3 hf (hS1.mono (hX3.fr _)) (fileB_body hv)).mono ?_
      rintro _ w3 ⟨rb, rcb, rfl, hO3, hx3⟩
      generalize hcf : compB f mode = cf at *
      have Hcb := Lib.hid (show cf.body = f.body by rw [← hcf]; rfl)
      clear hcf
      have hX4 : X W1 w3 := hX3.trans hx3
      obtain ⟨t0', t1', t2', t3', t4', t5'⟩ := keepT (hT.x hX4)
      have hlT3 : w.heap.size < w3.heap.size := Nat.lt_of_lt_of_le hlT hX4.size
      have hrow3 := own_fr hrow1 (hX4.fr _)
      have hgl3 : g < w3.heap.size := Nat.lt_of_lt_of_le hgl hX4.size
      have hne : w.heap.size ≠ g := by omega
      have hf0 := (hrow3).frozenAt (k * 8); obtain ⟨u0, hu0⟩ := own_here hrow3 (j := k * 8) (by omega)
      have hf1 := (hrow3).frozenAt (k * 8 + 1); obtain ⟨u1, hu1⟩ := own_here hrow3 (j := k * 8 + 1) (by omega)
      have hf2 := (hrow3).frozenAt (k * 8 + 2); obtain ⟨u2, hu2⟩ := own_here hrow3 (j := k * 8 + 2) (by omega)
      have hf3 := (hrow3).frozenAt (k * 8 + 3); obtain ⟨u3, hu3⟩ := own_here hrow3 (j := k * 8 + 3) (by omega)
      have hf4 := (hrow3).frozenAt (k * 8 + 4); obtain ⟨u4, hu4⟩ := own_here hrow3 (j := k * 8 + 4) (by omega)
      have hf5 := (hrow3).frozenAt (k * 8 + 5); obtain ⟨u5, hu5⟩ := own_here hrow3 (j := k * 8 + 5) (by omega)
      have hf6 := (hrow3).frozenAt (k * 8 + 6); obtain ⟨u6, hu6⟩ := own_here hrow3 (j := k * 8 + 6) (by omega)
      have hf7 := (hrow3).frozenAt (k * 8 + 7); obtain ⟨u7, hu7⟩ := own_here hrow3 (j := k * 8 + 7) (by omega)
      go_wp2
      refine bodyPost_ret (v := (.tuple #[.slice ba bn bc, .slice (some ⟨g, 0, none⟩) n sc, .bool false])) (by simp [results, Tryd.results50, go_sem]) rfl ?_
      obtain ⟨⟨hvl, hvn⟩, hsep, hbd, hfar⟩ := Hv.out
      obtain ⟨r1, r2, r3⟩ := Hr.out
      rw [hu, if_neg (by simp)] at r2 r3
      rw [hu] at r1
      rw [r1, r2, r3, List.length_set, ← Hnl.out, ← Hbn.out]
      have hO3' : w3.ownsRow W3.heap.size 88 5 (.slice rb bn rcb) bn (cf.body.flatMap scells) := by rw [Hcb.out]; exact hO3
      have hC := CosV.set (E := W3.heap.size) hrow3 hsep (fun x hx => (hbd x hx).fr (X.fr (hX1.trans hX4) _)) (fun x hx b hb => Nat.lt_of_lt_of_le (hfar x hx b hb) (X.size (hX1.trans hX3))) hvn hkn hO3' (by rw [Hcb.out, ← Hbn.out]) (Nat.le_trans hWw (X.size (hX1.trans hX3)))
      rw [← hvl] at hC
      have hXW' := X.sets8 (o0 := k * 8) (o1 := k * 8 + 1) (o2 := k * 8 + 2) (o3 := k * 8 + 3) (o4 := k * 8 + 4) (o5 := k * 8 + 5) (o6 := k * 8 + 6) (o7 := k * 8 + 7) (v0 := .int .i64 cf.root) (v1 := .string ⟨(cf.mod).toArray⟩) (v2 := .bool cf.init) (v3 := .int .i64 cf.mode) (v4 := .int .i64 cf.stamp) (v5 := .int .i64 cf.size) (v6 := .int .i64 cf.hash) (v7 := .slice rb bn rcb) (hXW1.trans hX4) hgW
      exact ⟨ba, bc, some ⟨g, 0, none⟩, sc, rfl, (hS.mono (X.fr (hXW'.alloc _) _)).less (Nat.zero_le _), hC.fr (X.fr ((X.refl _).alloc _) _), hXW'.alloc _⟩
    · have hus : ∀ w', X W1 w' → Calls Tryd.prog 66 #[.agg #[.int .i64 ((nth l k)).root, .string ⟨((nth l k)).mod.toArray⟩, .bool ((nth l k)).init, .int .i64 ((nth l k)).mode, .int .i64 ((nth l k)).stamp, .int .i64 ((nth l k)).size, .int .i64 ((nth l k)).hash, .slice ka kn kc], .agg #[.int .i64 (f).root, .string ⟨(f).pkg.toArray⟩, .string ⟨(f).name.toArray⟩, .bool (f).init, .int .i64 (f).stamp, .slice ba bn bc]] w' fun e w'' => e = .returned (.bool true) ∧ X w' w'' := fun w' hx => by
        have := usable_s (nth l k) (.slice ka kn kc) f ba bn bc B w' (hS1.mono (hx.fr _)) (fileB_body hv)
        rwa [hu] at this
      go_wp2
      refine wp_region_grow (by kernel_rfl) (by kernel_rfl) ?_
      repeat (go_big_quiet_step (((go_at_call 66; refine grow_of (hus _ (by (repeat (first | exact X.refl _ | assumption | refine X.ext ?_ _ | refine X.alloc ?_ _ | refine X.drew ?_))))))))
      refine wpQuiet_nil ?_
      rintro _ ⟨y, rfl⟩
      go_wp2
      refine bodyPost_ret (v := (.tuple #[.slice ka kn kc, .slice (some ⟨g, 0, none⟩) n sc, .bool true])) (by simp [results, Tryd.results50, go_sem]) rfl ?_
      obtain ⟨r1, r2, r3⟩ := Hr.out
      rw [hu, if_pos rfl] at r2 r3
      rw [hu] at r1
      rw [r1, r2, r3, ← Hnl.out, ← Hkn.out]
      exact ⟨ka, kc, _, sc, rfl, (hSk.mono (X.fr (by (repeat (first | exact X.refl _ | assumption | refine X.ext ?_ _ | refine X.alloc ?_ _ | refine X.drew ?_))) _)).less (Nat.zero_le _), hO0.fr (X.fr (hX1.trans (by (repeat (first | exact X.refl _ | assumption | refine X.ext ?_ _ | refine X.alloc ?_ _ | refine X.drew ?_)))) _), hXW1.trans (by (repeat (first | exact X.refl _ | assumption | refine X.ext ?_ _ | refine X.alloc ?_ _ | refine X.drew ?_)))⟩

end Go.Proofs.YtjlooplpjliaiaaDoor
