/- Several texts in one: Load, LoadS, LoadT, LoadI. No condition but lengths. -/
import Derived.Test.YtebnjkjllinabaaDoorGe
import Derived.Test.YtebnjkjllinabaaDoorGc
import Derived.Test.YtebnjkjllinabaaDoorGd
namespace Go.Proofs.YtebnjkjllinabaaDoor
open Go.RowKit

def cix (l : List Co) (f : Fi) : Int := cidx l f.root (moduleB f) f.init l.length
def hadB (l : List Co) (f : Fi) : Bool := decide (0 ≤ cix l f) && usableB (nth l (cix l f).toNat) f
def bodyLd (l : List Co) (f : Fi) : List St := if hadB l f then (nth l (cix l f).toNat).body else f.body
def storeLd (l : List Co) (f : Fi) (mode : Int) : List Co :=
  if hadB l f then l else if 0 ≤ cix l f then l.set (cix l f).toNat (compB f mode) else if l.length < 12 then l ++ [compB f mode] else l
def loadOk (l : List Co) (f : Fi) (mode : Int) : Bool := storeB l && fileB f && rangeB mode 0 2
def loadV (l : List Co) (f : Fi) (mode : Int) : List St × List Co × Bool := if loadOk l f mode then (bodyLd l f, storeLd l f mode, hadB l f) else ([], [], false)
theorem cix_cases (l : List Co) (f : Fi) : cix l f = -1 ∨ ∃ k, k < l.length ∧ cix l f = (k : Int) := by
  rcases firstN_cases (fun j => sameC (nth l j) f.root (moduleB f) f.init) l.length with ⟨_, h⟩ | ⟨k, hk, _, _, h⟩
  · exact .inl h
  · exact .inr ⟨k, hk, h⟩
theorem load_none {l : List Co} {f : Fi} (h : cix l f = -1) : hadB l f = false ∧ bodyLd l f = f.body ∧ ∀ mode, storeLd l f mode = if l.length < 12 then l ++ [compB f mode] else l := by
  have h1 : hadB l f = false := by simp [hadB, h]
  refine ⟨h1, by simp [bodyLd, h1], fun mode => ?_⟩
  rw [storeLd, h1, if_neg (by simp), if_neg (by omega)]
theorem load_some {l : List Co} {f : Fi} {k : Nat} (h : cix l f = (k : Int)) : hadB l f = usableB (nth l k) f ∧ (bodyLd l f = if usableB (nth l k) f then (nth l k).body else f.body) ∧ ∀ mode, storeLd l f mode = if usableB (nth l k) f then l else l.set k (compB f mode) := by
  have h1 : hadB l f = usableB (nth l k) f := by simp [hadB, h]
  refine ⟨h1, by simp [bodyLd, h1, h], fun mode => ?_⟩
  rw [storeLd, h1, if_pos (show 0 ≤ cix l f by omega), h]
  rfl
theorem storeB_12 {l : List Co} (h : storeB l = true) : l.length ≤ 12 := by
  unfold storeB at h
  simp at h
  exact h.2

theorem CosAt.at0 {w : World} {B g n : Nat} {l : List Co} (h : CosAt w B (some ⟨g, 0, none⟩) n l) {k : Nat} (hk : k < n) :
    ∃ ba bn bc, g < w.heap.size ∧ bn ≤ bc ∧ StmtsAt w B ba bn (nth l k).body ∧
      w.cell? ⟨g, k * 8, none⟩ = some (.int .i64 (nth l k).root) ∧ w.cell? ⟨g, k * 8 + 1, none⟩ = some (.string ⟨((nth l k).mod).toArray⟩) ∧ w.cell? ⟨g, k * 8 + 2, none⟩ = some (.bool (nth l k).init) ∧
      w.cell? ⟨g, k * 8 + 3, none⟩ = some (.int .i64 (nth l k).mode) ∧ w.cell? ⟨g, k * 8 + 4, none⟩ = some (.int .i64 (nth l k).stamp) ∧ w.cell? ⟨g, k * 8 + 5, none⟩ = some (.int .i64 (nth l k).size) ∧
      w.cell? ⟨g, k * 8 + 6, none⟩ = some (.int .i64 (nth l k).hash) ∧ w.cell? ⟨g, k * 8 + 7, none⟩ = some (.slice ba bn bc) := by
  obtain ⟨b, off, ba, bn, bc, ha, _, hb, _, hbc, hS, g0, g1, g2, g3, g4, g5, g6, g7⟩ := h.at_ hk
  injection ha with ha
  injection ha with h1 h2
  subst h1 h2
  rw [Nat.zero_add] at g0 g1 g2 g3 g4 g5 g6 g7
  exact ⟨ba, bn, bc, hb, hbc, hS, g0, g1, g2, g3, g4, g5, g6, g7⟩
theorem ccells_set8 {vs : List (Co × Value)} {k : Nat} (hk : k < vs.length) (y : Co × Value) (v0 v1 v2 v3 v4 v5 v6 v7 : Value) (hv : ccells y = [v0, v1, v2, v3, v4, v5, v6, v7]) :
    ((((((((vs.flatMap ccells).set (k * 8) v0).set (k * 8 + 1) v1).set (k * 8 + 2) v2).set (k * 8 + 3) v3).set (k * 8 + 4) v4).set (k * 8 + 5) v5).set (k * 8 + 6) v6).set (k * 8 + 7) v7 = (vs.set k y).flatMap ccells := by
  have hA : ((vs.take k).flatMap ccells).length = k * 8 := by rw [flat_length 8 ccells ccells8, List.length_take, Nat.min_eq_left (by omega)]
  have hz : vs.flatMap ccells = (vs.take k).flatMap ccells ++ (ccells (nth vs k) ++ (vs.drop (k + 1)).flatMap ccells) := by
    rw [← List.flatMap_cons, ← drop_nth hk, ← List.flatMap_append, List.take_append_drop]
  have hs : vs.set k y = vs.take k ++ y :: vs.drop (k + 1) := by
    rw [List.set_eq_take_append_cons_drop, if_pos hk]
  rw [hs, List.flatMap_append, List.flatMap_cons, hv, hz]
  generalize (vs.take k).flatMap ccells = A at *
  generalize (vs.drop (k + 1)).flatMap ccells = R at *
  have h0 := set_off (A := A) (Z := ccells (nth vs k) ++ R) 0 v0
  rw [Nat.add_zero] at h0
  rw [← hA, h0, set_off, set_off, set_off, set_off, set_off, set_off, set_off]
  rfl
theorem ne_far {v u : Value} {E : Nat} (h : ∀ b, v.ownBlock = some b → b < E) (h' : ∀ b, u.ownBlock = some b → E ≤ b) : v.ownBlock = none ∨ u.ownBlock = none ∨ u.ownBlock ≠ v.ownBlock := by
  cases hv : v.ownBlock with
  | none => exact .inl rfl
  | some b =>
    cases hu : u.ownBlock with
    | none => exact .inr (.inl rfl)
    | some b' =>
      refine .inr (.inr fun e => ?_)
      have h1 := h b hv
      have h2 := h' b' hu
      injection e with e
      omega
theorem ne_sym {v u : Value} (h : v.ownBlock = none ∨ u.ownBlock = none ∨ u.ownBlock ≠ v.ownBlock) : u.ownBlock = none ∨ v.ownBlock = none ∨ v.ownBlock ≠ u.ownBlock := by
  rcases h with h | h | h
  · exact .inr (.inl h)
  · exact .inl h
  · exact .inr (.inr (Ne.symm h))
theorem bodyC_lt {w : World} {B : Nat} {vs : List (Co × Value)} (h : ∀ x ∈ vs, BodyC w B x) : ∀ x ∈ vs, ∀ b, x.2.ownBlock = some b → b < w.heap.size := by
  intro x hx b hb
  obtain ⟨ba, bc, e, ho⟩ := h x hx
  rw [e] at hb
  exact (ho.lt b hb).2
theorem sepC_set {vs : List (Co × Value)} {E k : Nat} (h : SepC vs) (hb : ∀ x ∈ vs, ∀ b, x.2.ownBlock = some b → b < E) {y : Co × Value} (hy : ∀ b, y.2.ownBlock = some b → E ≤ b) : SepC (vs.set k y) := by
  unfold SepC at h ⊢
  rw [List.pairwise_iff_getElem] at h ⊢
  intro i j hi hj hij
  rw [List.length_set] at hi hj
  rw [List.getElem_set, List.getElem_set]
  split
  · rw [if_neg (by omega)]
    exact ne_sym (ne_far (hb _ (List.getElem_mem hj)) hy)
  · split
    · exact ne_far (hb _ (List.getElem_mem hi)) hy
    · exact h i j hi hj hij
theorem sepC_snoc {vs : List (Co × Value)} {E : Nat} (h : SepC vs) (hb : ∀ x ∈ vs, ∀ b, x.2.ownBlock = some b → b < E) {y : Co × Value} (hy : ∀ b, y.2.ownBlock = some b → E ≤ b) : SepC (vs ++ [y]) :=
  List.pairwise_append.2 ⟨h, List.pairwise_singleton _ _, fun x hx z hz => by rw [List.mem_singleton.1 hz]; exact ne_far (hb x hx) hy⟩
/-- Another element in a store of the call's own. -/
theorem CosV.set {w : World} {B E n c g k : Nat} {vs : List (Co × Value)} {cf : Co} {rb : Option Addr} {bn rcb : Nat} (hrow : w.ownsRow B 49 8 (.slice (some ⟨g, 0, none⟩) n c) n (vs.flatMap ccells)) (hsep : SepC vs) (hbd : ∀ x ∈ vs, BodyC w B x)
    (hfar : ∀ x ∈ vs, ∀ b, x.2.ownBlock = some b → b < E) (hvn : vs.length = n) (hk : k < n) (hO : w.ownsRow E 66 5 (.slice rb bn rcb) bn (cf.body.flatMap scells)) (hbn : bn = cf.body.length) (hBE : B ≤ E) :
    CosO ((((((((w.setCell ⟨g, k * 8, none⟩ (.int .i64 cf.root)).setCell ⟨g, k * 8 + 1, none⟩ (.string ⟨(cf.mod).toArray⟩)).setCell ⟨g, k * 8 + 2, none⟩ (.bool cf.init)).setCell ⟨g, k * 8 + 3, none⟩ (.int .i64 cf.mode)).setCell ⟨g, k * 8 + 4, none⟩ (.int .i64 cf.stamp)).setCell ⟨g, k * 8 + 5, none⟩ (.int .i64 cf.size)).setCell ⟨g, k * 8 + 6, none⟩ (.int .i64 cf.hash)).setCell ⟨g, k * 8 + 7, none⟩ (.slice rb bn rcb))
      B (some ⟨g, 0, none⟩) n c ((vs.map (·.1)).set k cf) := by
  subst hbn
  obtain ⟨cs, hb⟩ := own_block hrow
  refine ⟨vs.set k (cf, .slice rb cf.body.length rcb), by rw [List.map_set], by rw [List.length_set, List.length_map, hvn], ?_, sepC_set hsep hfar (fun b hb => (hO.lt b hb).1), fun x hx => ?_⟩
  · have h8 := own_set8 hrow (k * 8) (.int .i64 cf.root) (.string ⟨(cf.mod).toArray⟩) (.bool cf.init) (.int .i64 cf.mode) (.int .i64 cf.stamp) (.int .i64 cf.size) (.int .i64 cf.hash) (.slice rb cf.body.length rcb)
    rw [ccells_set8 (by omega) (cf, .slice rb cf.body.length rcb) _ _ _ _ _ _ _ _ rfl] at h8
    exact h8
  · have hx' : BodyC w B x := by
      rcases List.mem_or_eq_of_mem_set hx with hx | rfl
      · exact hbd x hx
      · exact ⟨rb, rcb, rfl, own_less hO hBE⟩
    exact hx'.grown (grown_set8 _ _ _ _ _ _ _ _ _ _ _) hb
/-- One element more in a store of the call's own. -/
theorem CosV.snoc {w w' : World} {B E n c c' : Nat} {a a' : Option Addr} {vs : List (Co × Value)} {cf : Co} {rb : Option Addr} {bn rcb : Nat} (hrow : w.ownsRow B 49 8 (.slice a n c) n (vs.flatMap ccells)) (hsep : SepC vs) (hbd : ∀ x ∈ vs, BodyC w B x)
    (hfar : ∀ x ∈ vs, ∀ b, x.2.ownBlock = some b → b < E) (hvn : vs.length = n) (hO : w.ownsRow E 66 5 (.slice rb bn rcb) bn (cf.body.flatMap scells)) (hbn : bn = cf.body.length) (hBE : B ≤ E)
    (hrow' : w'.ownsRow B 49 8 (.slice a' (n + 1) c') (n + 1) (vs.flatMap ccells ++ ccells (cf, .slice rb bn rcb))) (hg : w.grownBy w' (Value.slice a n c).ownBlock) :
    CosO w' B a' (n + 1) c' (vs.map (·.1) ++ [cf]) := by
  subst hbn
  refine ⟨vs ++ [(cf, .slice rb cf.body.length rcb)], by rw [List.map_append]; rfl, by rw [List.length_append, List.length_map, hvn]; rfl, by rw [List.flatMap_append]; simpa using hrow', sepC_snoc hsep hfar (fun b hb => (hO.lt b hb).1), fun x hx => ?_⟩
  have hx' : BodyC w B x := by
    rcases List.mem_append.1 hx with hx | hx
    · exact hbd x hx
    · rw [List.mem_singleton.1 hx]
      exact ⟨rb, rcb, rfl, own_less hO hBE⟩
  refine hx'.kept hg ?_
  obtain ⟨ba, bc, e, ho⟩ := hx'
  rw [e]
  exact row_ne ho hrow (by decide)
theorem CosV.snocX {w3 w w' : World} {B E n c c' : Nat} {a a' : Option Addr} {vs : List (Co × Value)} {cf : Co} {rb : Option Addr} {bn rcb : Nat} (hx : X w3 w) (hrow : w3.ownsRow B 49 8 (.slice a n c) n (vs.flatMap ccells)) (hsep : SepC vs) (hbd : ∀ x ∈ vs, BodyC w3 B x)
    (hfar : ∀ x ∈ vs, ∀ b, x.2.ownBlock = some b → b < E) (hvn : vs.length = n) (hO : w3.ownsRow E 66 5 (.slice rb bn rcb) bn (cf.body.flatMap scells)) (hbn : bn = cf.body.length) (hBE : B ≤ E)
    (hrow' : w'.ownsRow B 49 8 (.slice a' (n + 1) c') (n + 1) (vs.flatMap ccells ++ ccells (cf, .slice rb bn rcb))) (hg : w.grownBy w' (Value.slice a n c).ownBlock) :
    CosO w' B a' (n + 1) c' (vs.map (·.1) ++ [cf]) :=
  CosV.snoc (own_fr hrow (hx.fr _)) hsep (fun x hm => (hbd x hm).fr (hx.fr _)) hfar hvn (own_fr hO (hx.fr _)) hbn hBE hrow' hg
theorem X.sets8 {w w' : World} {g o0 o1 o2 o3 o4 o5 o6 o7 : Nat} {v0 v1 v2 v3 v4 v5 v6 v7 : Value} (h : X w w') (hg : w.heap.size ≤ g) :
    X w ((((((((w'.setCell ⟨g, o0, none⟩ v0).setCell ⟨g, o1, none⟩ v1).setCell ⟨g, o2, none⟩ v2).setCell ⟨g, o3, none⟩ v3).setCell ⟨g, o4, none⟩ v4).setCell ⟨g, o5, none⟩ v5).setCell ⟨g, o6, none⟩ v6).setCell ⟨g, o7, none⟩ v7) :=
  ((((((((h.setCell hg _).setCell hg _).setCell hg _).setCell hg _).setCell hg _).setCell hg _).setCell hg _).setCell hg _)
theorem own_lessC {w : World} {B B' n c : Nat} {a : Option Addr} {l : List Co} (h : CosO w B a n c l) (hB : B' ≤ B) : CosO w B' a n c l := h.less hB

end Go.Proofs.YtebnjkjllinabaaDoor

namespace Go.Proofs.YtebnjkjllinabaaDoor
open Go.RowKit

set_option maxRecDepth 100000 in
set_option maxHeartbeats 4000000 in
theorem loadBody_s (l : List Co) (n sc : Nat) (sa : Option Addr) (f : Fi) (mode : Int) (ba : Option Addr) (bn bc B : Nat) (W w : World) (hX : X W w) (hO : CosO w W.heap.size sa n sc l) (hk : OkC l) (hn12 : n ≤ 12) (hf : Okf f) (hS : StmtsAt W B ba bn f.body) (hv : fileB f = true) :
    Calls Tryd.prog 59 #[.slice sa n sc, .agg #[.int .i64 (f).root, .string ⟨(f).pkg.toArray⟩, .string ⟨(f).name.toArray⟩, .bool (f).init, .int .i64 (f).stamp, .slice ba bn bc], .int .i64 mode] w fun e w' => ∃ b1 c1 r1 rc, e = .returned (.tuple #[.slice b1 (bodyLd l f).length c1, .slice r1 (storeLd l f mode).length rc, .bool (hadB l f)]) ∧ StmtsAt w' 0 b1 (bodyLd l f).length (bodyLd l f) ∧
      CosO w' W.heap.size r1 (storeLd l f mode).length rc (storeLd l f mode) ∧ X W w' := by
  have hD := hO.at hk
  have hnl := hD.len.1
  have hO0 := hO
  obtain ⟨vs, hvl, -, hrow, hsep, hbd⟩ := hO
  have hvn : vs.length = n := by rw [hnl, hvl, List.length_map]
  have hfar := bodyC_lt hbd
  have Hv := Lib.hid (And.intro (And.intro hvl hvn) (And.intro hsep (And.intro hbd hfar)))
  clear hvl hsep hbd hfar hvn
  have hbn := hS.1
  have Hbn := Lib.hid hbn
  have Hnl := Lib.hid hnl
  have hWw := hX.size
  clear hbn hnl
  go_enter Tryd.func59, Tryd.ntmps59
  go_wp2
  refine wp_name (fun W1 hW1 => ?_)
  have hT : Bx W1 w.heap.size #[.int .i64 f.root, .string ⟨(f.pkg).toArray⟩, .string ⟨(f.name).toArray⟩, .bool f.init, .int .i64 f.stamp, .slice ba bn bc] := by rw [hW1]; exact Bx.new _ _ _
  have hX1 : X w W1 := by rw [hW1]; (repeat (first | with_reducible exact X.refl _ | with_reducible assumption | with_reducible refine X.setCell ?_ (by first | (simp; done) | (simp; omega)) _ | with_reducible refine X.ext ?_ _ | with_reducible refine X.alloc ?_ _ | with_reducible refine X.drew ?_))
  have hlT : w.heap.size < W1.heap.size := hT.lt
  clear hW1
  obtain ⟨t0, t1, t2, t3, t4, t5⟩ := keepT hT
  have hD1 := hD.mono (hX1.fr _)
  have hS1 := hS.mono ((hX.trans hX1).fr B)
  have hrow1 := own_fr hrow (hX1.fr _)
  have hXW1 := hX.trans hX1
  refine wp_region_grow0 (by kernel_rfl) (by kernel_rfl) ?_
  repeat (go_big_quiet_step (((first | (go_at_call 51; refine grow_of (moduleName_c f _ _ hf)) | (go_at_call 63; refine grow_of (compiledAt_s l sa n sc _ f.root (moduleB f) f.init _ (hD1.mono (X.fr (by (repeat (first | exact X.refl _ | assumption | refine X.ext ?_ _ | refine X.alloc ?_ _ | refine X.drew ?_))) _))))))))
  refine wpQuiet_nil ?_
  rintro _ ⟨y, rfl⟩
  rcases cix_cases l f with hc | ⟨k, hkl, hc⟩
  · have hc2 : cidx l f.root (moduleB f) f.init n = -1 := by rw [Hnl.out]; exact hc
    obtain ⟨r1, r2, r3⟩ := load_none hc
    have Hr := Lib.hid (And.intro r1 (And.intro r2 (r3 mode)))
    rw [hc2]
    clear hc hc2 r1 r2 r3
    go_wp2
    refine wp_region_grow (by kernel_rfl) (by kernel_rfl) ?_
    repeat (go_big_quiet_step ((fail)))
    refine wpQuiet_nil ?_
    rintro _ ⟨y, rfl⟩
    go_wp2_with fail
    refine calls_name (fun W3 hW3 => ?_)
    have hX3 : X W1 W3 := by rw [hW3]; (repeat (first | exact X.refl _ | assumption | refine X.ext ?_ _ | refine X.alloc ?_ _ | refine X.drew ?_))
    clear hW3
    refine (compiled_c f mode ba bn bc B W3 hf (hS1.mono (hX3.fr _)) (fileB_body hv)).mono ?_
    rintro _ w3 ⟨rb, rcb, rfl, hO3, hx3⟩
    generalize hcf : compB f mode = cf at *
    have Hcb := Lib.hid (show cf.body = f.body by rw [← hcf]; rfl)
    clear hcf
    have hX4 : X W1 w3 := hX3.trans hx3
    obtain ⟨t0', t1', t2', t3', t4', t5'⟩ := keepT (hT.x hX4)
    have hlT3 : w.heap.size < w3.heap.size := Nat.lt_of_lt_of_le hlT hX4.size
    have hrow3 := own_fr hrow1 (hX4.fr _)
    have hs3 : W.heap.size ≤ w3.heap.size := Nat.le_trans hWw (Nat.le_trans hX1.size hX4.size)
    by_cases h12 : n < 12
    · have hTg : ∀ {w4 w5 : World}, X w3 w4 → w4.grownBy w5 (Value.slice sa n sc).ownBlock → Bx w5 w.heap.size #[.int .i64 f.root, .string ⟨(f.pkg).toArray⟩, .string ⟨(f.name).toArray⟩, .bool f.init, .int .i64 f.stamp, .slice ba bn bc] := fun hx hg => Bx.grown ((hT.x hX4).x hx) hg (fun g hg => by have := (hrow.lt g hg).2; omega)
      go_wp2_with (at_builtin; refine wpList_append_g (B := W.heap.size) co_T rfl _ _ rfl (own_fr hrow3 (X.fr (by (repeat (first | with_reducible exact X.refl _ | with_reducible assumption | with_reducible refine X.setCell ?_ (by first | (simp; done) | (simp; omega)) _ | with_reducible refine X.ext ?_ _ | with_reducible refine X.alloc ?_ _ | with_reducible refine X.drew ?_))) _)) rfl (g := w3.heap.size + 1) rfl (by simp) rfl (by simp [Value.oneCell']) (by omega) (by omega) (by simp; omega) ?_; intro a' c' w' hrow' hg'; have hga := X.grown ((X.refl _).alloc _) hg'; obtain ⟨t0'', t1'', t2'', t3'', t4'', t5''⟩ := keepT (hTg ((X.refl w3).alloc _) hga))
      refine bodyPost_ret (v := (.tuple #[.slice ba bn bc, .slice a' (n + 1) c', .bool false])) (by simp [results, Tryd.results59, go_sem]) rfl ?_
      obtain ⟨⟨hvl, hvn⟩, hsep, hbd, hfar⟩ := Hv.out
      obtain ⟨r1, r2, r3⟩ := Hr.out
      rw [← Hnl.out, if_pos h12] at r3
      rw [r1, r2, r3, List.length_append, List.length_singleton, ← Hnl.out, ← Hbn.out]
      have hXW' : X W w' := X.of_below ((X.below (w := W) (X.trans (hXW1.trans hX4) ((X.refl w3).alloc _))).grown hga (X.size (X.trans (hXW1.trans hX4) ((X.refl w3).alloc _))) (fun g hg => by have := (hrow3.lt g hg).1; omega))
      have hO3' : w3.ownsRow W3.heap.size 66 5 (.slice rb bn rcb) bn (cf.body.flatMap scells) := by rw [Hcb.out]; exact hO3
      have hC := CosV.snocX (E := W3.heap.size) ((X.refl w3).alloc _) hrow3 hsep (fun x hx => (hbd x hx).fr (X.fr (hX1.trans hX4) _)) (fun x hx b hb => Nat.lt_of_lt_of_le (hfar x hx b hb) (X.size (hX1.trans hX3))) hvn hO3' (by rw [Hcb.out, ← Hbn.out]) (Nat.le_trans hWw (X.size (hX1.trans hX3))) hrow' hga
      rw [← hvl] at hC
      exact ⟨ba, bc, a', c', rfl, (hS.mono (hXW'.fr _)).less (Nat.zero_le _), hC, hXW'⟩
    · go_wp2
      refine bodyPost_ret (v := (.tuple #[.slice ba bn bc, .slice sa n sc, .bool false])) (by simp [results, Tryd.results59, go_sem]) rfl ?_
      obtain ⟨r1, r2, r3⟩ := Hr.out
      rw [← Hnl.out, if_neg h12] at r3
      rw [r1, r2, r3, ← Hnl.out, ← Hbn.out]
      have hx5 : X W1 (w3.alloc (.cells #[.int .i64 cf.root, .string ⟨(cf.mod).toArray⟩, .bool cf.init, .int .i64 cf.mode, .int .i64 cf.stamp, .int .i64 cf.size, .int .i64 cf.hash, .slice rb bn rcb] 49)) := hX4.alloc _
      exact ⟨ba, bc, sa, sc, rfl, (hS.mono (X.fr (hXW1.trans hx5) _)).less (Nat.zero_le _), hO0.fr (X.fr (hX1.trans hx5) _), hXW1.trans hx5⟩
  · have hc2 : cidx l f.root (moduleB f) f.init n = (k : Int) := by rw [Hnl.out]; exact hc
    obtain ⟨r1, r2, r3⟩ := load_some hc
    have Hr := Lib.hid (And.intro r1 (And.intro r2 (r3 mode)))
    have hkn : k < n := by rw [Hnl.out]; exact hkl
    rw [hc2]
    clear hc hc2 r1 r2 r3 hkl
    obtain ⟨g, rfl, hgW, hgw⟩ := own_form hrow (by omega)
    obtain ⟨ka, kn, kc, hgl, hkc, hSk, g0, g1, g2, g3, g4, g5, g6, g7⟩ := hD1.at0 hkn
    have Hkn := Lib.hid hSk.1
    cases hu : usableB (nth l k) f
    · have hus : ∀ w', X W1 w' → Calls Tryd.prog 64 #[.agg #[.int .i64 ((nth l k)).root, .string ⟨((nth l k)).mod.toArray⟩, .bool ((nth l k)).init, .int .i64 ((nth l k)).mode, .int .i64 ((nth l k)).stamp, .int .i64 ((nth l k)).size, .int .i64 ((nth l k)).hash, .slice ka kn kc], .agg #[.int .i64 (f).root, .string ⟨(f).pkg.toArray⟩, .string ⟨(f).name.toArray⟩, .bool (f).init, .int .i64 (f).stamp, .slice ba bn bc]] w' fun e w'' => e = .returned (.bool false) ∧ X w' w'' := fun w' hx => by
        have := usable_s (nth l k) (.slice ka kn kc) f ba bn bc B w' (hS1.mono (hx.fr _)) (fileB_body hv)
        rwa [hu] at this
      go_wp2
      refine wp_region_grow (by kernel_rfl) (by kernel_rfl) ?_
      repeat (go_big_quiet_step (((go_at_call 64; refine grow_of (hus _ (by (repeat (first | exact X.refl _ | assumption | refine X.ext ?_ _ | refine X.alloc ?_ _ | refine X.drew ?_))))))))
      refine wpQuiet_nil ?_
      rintro _ ⟨y, rfl⟩
      go_wp2_with fail
      refine calls_name (fun W3 hW3 => ?_)
      have hX3 : X W1 W3 := by rw [hW3]; (repeat (first | exact X.refl _ | assumption | refine X.ext ?_ _ | refine X.alloc ?_ _ | refine X.drew ?_))
      clear hW3
      refine (compiled_c f mode ba bn bc B W3 hf (hS1.mono (hX3.fr _)) (fileB_body hv)).mono ?_
      rintro _ w3 ⟨rb, rcb, rfl, hO3, hx3⟩
      generalize hcf : compB f mode = cf at *
      have Hcb := Lib.hid (show cf.body = f.body by rw [← hcf]; rfl)
      clear hcf
      have hX4 : X W1 w3 := hX3.trans hx3
      obtain ⟨t0', t1', t2', t3', t4', t5'⟩ := keepT (hT.x hX4)
      have hlT3 : w.heap.size < w3.heap.size := Nat.lt_of_lt_of_le hlT hX4.size
      have hrow3 := own_fr hrow1 (hX4.fr _)
      have hgl3 : g < w3.heap.size := Nat.lt_of_lt_of_le hgl hX4.size
      have hne : w.heap.size ≠ g := by omega
      have hf0 := (hrow3).frozenAt (k * 8); obtain ⟨u0, hu0⟩ := own_here hrow3 (j := k * 8) (by omega)
      have hf1 := (hrow3).frozenAt (k * 8 + 1); obtain ⟨u1, hu1⟩ := own_here hrow3 (j := k * 8 + 1) (by omega)
      have hf2 := (hrow3).frozenAt (k * 8 + 2); obtain ⟨u2, hu2⟩ := own_here hrow3 (j := k * 8 + 2) (by omega)
      have hf3 := (hrow3).frozenAt (k * 8 + 3); obtain ⟨u3, hu3⟩ := own_here hrow3 (j := k * 8 + 3) (by omega)
      have hf4 := (hrow3).frozenAt (k * 8 + 4); obtain ⟨u4, hu4⟩ := own_here hrow3 (j := k * 8 + 4) (by omega)
      have hf5 := (hrow3).frozenAt (k * 8 + 5); obtain ⟨u5, hu5⟩ := own_here hrow3 (j := k * 8 + 5) (by omega)
      have hf6 := (hrow3).frozenAt (k * 8 + 6); obtain ⟨u6, hu6⟩ := own_here hrow3 (j := k * 8 + 6) (by omega)
      have hf7 := (hrow3).frozenAt (k * 8 + 7); obtain ⟨u7, hu7⟩ := own_here hrow3 (j := k * 8 + 7) (by omega)
      go_wp2
      refine bodyPost_ret (v := (.tuple #[.slice ba bn bc, .slice (some ⟨g, 0, none⟩) n sc, .bool false])) (by simp [results, Tryd.results59, go_sem]) rfl ?_
      obtain ⟨⟨hvl, hvn⟩, hsep, hbd, hfar⟩ := Hv.out
      obtain ⟨r1, r2, r3⟩ := Hr.out
      rw [hu, if_neg (by simp)] at r2 r3
      rw [hu] at r1
      rw [r1, r2, r3, List.length_set, ← Hnl.out, ← Hbn.out]
      have hO3' : w3.ownsRow W3.heap.size 66 5 (.slice rb bn rcb) bn (cf.body.flatMap scells) := by rw [Hcb.out]; exact hO3
      have hC := CosV.set (E := W3.heap.size) hrow3 hsep (fun x hx => (hbd x hx).fr (X.fr (hX1.trans hX4) _)) (fun x hx b hb => Nat.lt_of_lt_of_le (hfar x hx b hb) (X.size (hX1.trans hX3))) hvn hkn hO3' (by rw [Hcb.out, ← Hbn.out]) (Nat.le_trans hWw (X.size (hX1.trans hX3)))
      rw [← hvl] at hC
      have hXW' := X.sets8 (o0 := k * 8) (o1 := k * 8 + 1) (o2 := k * 8 + 2) (o3 := k * 8 + 3) (o4 := k * 8 + 4) (o5 := k * 8 + 5) (o6 := k * 8 + 6) (o7 := k * 8 + 7) (v0 := .int .i64 cf.root) (v1 := .string ⟨(cf.mod).toArray⟩) (v2 := .bool cf.init) (v3 := .int .i64 cf.mode) (v4 := .int .i64 cf.stamp) (v5 := .int .i64 cf.size) (v6 := .int .i64 cf.hash) (v7 := .slice rb bn rcb) (hXW1.trans hX4) hgW
      exact ⟨ba, bc, some ⟨g, 0, none⟩, sc, rfl, (hS.mono (X.fr (hXW'.alloc _) _)).less (Nat.zero_le _), hC.fr (X.fr ((X.refl _).alloc _) _), hXW'.alloc _⟩
    · have hus : ∀ w', X W1 w' → Calls Tryd.prog 64 #[.agg #[.int .i64 ((nth l k)).root, .string ⟨((nth l k)).mod.toArray⟩, .bool ((nth l k)).init, .int .i64 ((nth l k)).mode, .int .i64 ((nth l k)).stamp, .int .i64 ((nth l k)).size, .int .i64 ((nth l k)).hash, .slice ka kn kc], .agg #[.int .i64 (f).root, .string ⟨(f).pkg.toArray⟩, .string ⟨(f).name.toArray⟩, .bool (f).init, .int .i64 (f).stamp, .slice ba bn bc]] w' fun e w'' => e = .returned (.bool true) ∧ X w' w'' := fun w' hx => by
        have := usable_s (nth l k) (.slice ka kn kc) f ba bn bc B w' (hS1.mono (hx.fr _)) (fileB_body hv)
        rwa [hu] at this
      go_wp2
      refine wp_region_grow (by kernel_rfl) (by kernel_rfl) ?_
      repeat (go_big_quiet_step (((go_at_call 64; refine grow_of (hus _ (by (repeat (first | exact X.refl _ | assumption | refine X.ext ?_ _ | refine X.alloc ?_ _ | refine X.drew ?_))))))))
      refine wpQuiet_nil ?_
      rintro _ ⟨y, rfl⟩
      go_wp2
      refine bodyPost_ret (v := (.tuple #[.slice ka kn kc, .slice (some ⟨g, 0, none⟩) n sc, .bool true])) (by simp [results, Tryd.results59, go_sem]) rfl ?_
      obtain ⟨r1, r2, r3⟩ := Hr.out
      rw [hu, if_pos rfl] at r2 r3
      rw [hu] at r1
      rw [r1, r2, r3, ← Hnl.out, ← Hkn.out]
      exact ⟨ka, kc, _, sc, rfl, (hSk.mono (X.fr (by (repeat (first | exact X.refl _ | assumption | refine X.ext ?_ _ | refine X.alloc ?_ _ | refine X.drew ?_))) _)).less (Nat.zero_le _), hO0.fr (X.fr (hX1.trans (by (repeat (first | exact X.refl _ | assumption | refine X.ext ?_ _ | refine X.alloc ?_ _ | refine X.drew ?_)))) _), hXW1.trans (by (repeat (first | exact X.refl _ | assumption | refine X.ext ?_ _ | refine X.alloc ?_ _ | refine X.drew ?_)))⟩

end Go.Proofs.YtebnjkjllinabaaDoor

namespace Go.Proofs.YtebnjkjllinabaaDoor
open Go.RowKit

theorem compB_okC {f : Fi} (mode : Int) (h1 : Okf f) (h2 : f.body.length ≤ 2097152) (h3 : ∀ s ∈ f.body, Oks s) : (compB f mode).mod.length ≤ 4194304 ∧ (compB f mode).body.length ≤ 2097152 ∧ ∀ s ∈ (compB f mode).body, Oks s := by
  refine ⟨?_, h2, h3⟩
  show (moduleB f).length ≤ 4194304
  have := childL_length f.pkg f.name h1.1 h1.2
  have := h1.1
  unfold moduleB
  split <;> omega
theorem okC_set {l : List Co} (h : OkC l) {c : Co} (hc : c.mod.length ≤ 4194304 ∧ c.body.length ≤ 2097152 ∧ ∀ s ∈ c.body, Oks s) (k : Nat) : OkC (l.set k c) :=
  ⟨by rw [List.length_set]; exact h.1, fun x hx => by
    rcases List.mem_or_eq_of_mem_set hx with hx | rfl
    · exact h.2 x hx
    · exact hc⟩
theorem okC_snoc {l : List Co} (h : OkC l) (hl : l.length < 2097152) {c : Co} (hc : c.mod.length ≤ 4194304 ∧ c.body.length ≤ 2097152 ∧ ∀ s ∈ c.body, Oks s) : OkC (l ++ [c]) :=
  ⟨by rw [List.length_append, List.length_singleton]; omega, fun x hx => by
    rcases List.mem_append.1 hx with hx | hx
    · exact h.2 x hx
    · rw [List.mem_singleton.1 hx]; exact hc⟩
theorem okC_nil : OkC [] := ⟨by simp, fun c hc => by cases hc⟩
theorem storeLd_ok {l : List Co} {f : Fi} (mode : Int) (h : OkC l) (hc : (compB f mode).mod.length ≤ 4194304 ∧ (compB f mode).body.length ≤ 2097152 ∧ ∀ s ∈ (compB f mode).body, Oks s) : OkC (storeLd l f mode) := by
  unfold storeLd
  split
  · exact h
  · split
    · exact okC_set h hc _
    · split
      · exact okC_snoc h (by omega) hc
      · exact h
theorem loadV_ok {l : List Co} {f : Fi} (mode : Int) (h : OkC l) (h1 : Okf f) (h2 : f.body.length ≤ 2097152) (h3 : ∀ s ∈ f.body, Oks s) : OkC (loadV l f mode).2.1 := by
  unfold loadV
  split
  · exact storeLd_ok mode h (compB_okC mode h1 h2 h3)
  · exact okC_nil
theorem storeLd_len (l : List Co) (f : Fi) (mode : Int) : (storeLd l f mode).length ≤ l.length + 1 := by
  unfold storeLd
  split
  · omega
  · split
    · rw [List.length_set]; omega
    · split
      · rw [List.length_append, List.length_singleton]; omega
      · omega
theorem wtC_set (l : List Co) (k : Nat) (c : Co) : wtC (l.set k c) ≤ wtC l + (7 + 5 * c.body.length) := by
  induction l generalizing k with
  | nil => simp [wtC]
  | cons x l ih =>
    cases k with
    | zero => simp only [List.set_cons_zero, wtC]; omega
    | succ k => simp only [List.set_cons_succ, wtC]; have := ih k; omega
theorem storeLd_wt (l : List Co) (f : Fi) (mode : Int) : wtC (storeLd l f mode) ≤ wtC l + (7 + 5 * f.body.length) := by
  unfold storeLd
  split
  · omega
  · split
    · exact wtC_set l _ _
    · split
      · rw [wtC_append]; simp [wtC, compB_len]
      · omega
theorem loadV_bad {l : List Co} {f : Fi} {mode : Int} (h : loadOk l f mode = false) : loadV l f mode = ([], [], false) := by rw [loadV, h]; rfl
theorem loadV_good {l : List Co} {f : Fi} {mode : Int} (h : loadOk l f mode = true) : loadV l f mode = (bodyLd l f, storeLd l f mode, hadB l f) := by rw [loadV, if_pos h]

theorem cosAt_nil (w : World) (B : Nat) : CosAt w B none 0 [] := ⟨[], rfl, rfl, by simp, (fun _ h => by cases h), fun h => absurd h (by simp), fun _ h => by cases h⟩
set_option maxRecDepth 100000 in
set_option maxHeartbeats 4000000 in
theorem LoadBody_s (l : List Co) (a : Option Addr) (n c B : Nat) (f : Fi) (mode : Int) (ba : Option Addr) (bn bc B2 : Nat) (w : World) (hD : CosAt w B a n l) (hf : Okf f) (hS : StmtsAt w B2 ba bn f.body) :
    Calls Tryd.prog 22 #[.slice a n c, .agg #[.int .i64 (f).root, .string ⟨(f).pkg.toArray⟩, .string ⟨(f).name.toArray⟩, .bool (f).init, .int .i64 (f).stamp, .slice ba bn bc], .int .i64 mode] w fun e w' => ∃ b1 c1 r1 rc, e = .returned (.tuple #[.slice b1 (loadV l f mode).1.length c1, .slice r1 (loadV l f mode).2.1.length rc, .bool (loadV l f mode).2.2]) ∧ StmtsAt w' 0 b1 (loadV l f mode).1.length (loadV l f mode).1 ∧
      CosAt w' 0 r1 (loadV l f mode).2.1.length (loadV l f mode).2.1 ∧ X w w' := by
  cases q1 : storeB l <;> cases q2 : fileB f <;> cases q3 : rangeB mode 0 2
  case true.true.true =>
    rw [loadV_good (by simp [loadOk, *])]
    dsimp only
    have hl12 := storeB_12 q1
    have hok := hD.okC
    have hn12 : n ≤ 12 := by have := hD.len.1; omega
    have hok2 := storeLd_ok (l := l) mode hok (compB_okC mode hf (by have := hS.1; have := hS.2.1; omega) hS.2.2.1)
    clear hl12
    go_enter Tryd.func22, Tryd.ntmps22
    go_wp2_with fail
    refine calls_name (fun W0 hW0 => ?_)
    have hT : Bx W0 w.heap.size #[.int .i64 f.root, .string ⟨(f.pkg).toArray⟩, .string ⟨(f.name).toArray⟩, .bool f.init, .int .i64 f.stamp, .slice ba bn bc] := by rw [hW0]; exact Bx.new _ _ _
    have hX0 : X w W0 := by rw [hW0]; (repeat (first | with_reducible exact X.refl _ | with_reducible assumption | with_reducible refine X.setCell ?_ (by first | (simp; done) | (simp; omega)) _ | with_reducible refine X.ext ?_ _ | with_reducible refine X.alloc ?_ _ | with_reducible refine X.drew ?_))
    clear hW0
    refine (validStore_c l a n c B W0 (hD.mono (hX0.fr _))).mono ?_
    rintro _ w1 ⟨rfl, hx1⟩
    rw [q1]
    obtain ⟨t0, t1, t2, t3, t4, t5⟩ := keepT (hT.x hx1)
    have hlT := (hT.x hx1).lt
    go_wp2_with fail
    refine (validFile_c f ba bn bc B2 w1 hf (hS.mono ((hX0.trans hx1).fr _))).mono ?_
    rintro _ W ⟨rfl, hx2⟩
    rw [q2]
    have hTW := (hT.x hx1).x hx2
    have hXW := (hX0.trans hx1).trans hx2
    clear t0 t1 t2 t3 t4 t5 hlT
    obtain ⟨t0, t1, t2, t3, t4, t5⟩ := keepT hTW
    have hlT := hTW.lt
    clear hx1 hx2 hX0
    go_wp2_with (go_at_call 38; refine (inRange_c mode 0 2 _).mono ?_; rintro _ _ ⟨rfl, rfl⟩; rw [q3])
    have hDW := hD.mono (hXW.fr B)
    have hSW := hS.mono (hXW.fr B2)
    go_region_held_law (fun w' => w'.cell? ⟨w.heap.size, 0, none⟩ = some (.int .i64 f.root) ∧ w'.cell? ⟨w.heap.size, 1, none⟩ = some (.string ⟨(f.pkg).toArray⟩) ∧ w'.cell? ⟨w.heap.size, 2, none⟩ = some (.string ⟨(f.name).toArray⟩) ∧ w'.cell? ⟨w.heap.size, 3, none⟩ = some (.bool f.init) ∧ w'.cell? ⟨w.heap.size, 4, none⟩ = some (.int .i64 f.stamp) ∧ w'.cell? ⟨w.heap.size, 5, none⟩ = some (.slice ba bn bc))
      (first | (refine keepT (hTW.x ?_); (repeat (first | with_reducible exact X.refl _ | with_reducible assumption | with_reducible refine X.alloc ?_ _ | with_reducible refine X.drew ?_)); done) | fail)
      (first
        | (go_at_call 52; refine (copyStore_c l a n c B _ (hDW.mono (X.fr (by (repeat (first | with_reducible exact X.refl _ | with_reducible assumption | with_reducible refine X.setCell ?_ (by first | (simp; done) | (simp; omega)) _ | with_reducible refine X.ext ?_ _ | with_reducible refine X.alloc ?_ _ | with_reducible refine X.drew ?_))) _))).mono ?_; rintro _ wm ⟨sa, sc, rfl, hO, hxm⟩; replace hO := own_lessC hO (X.size (w := W) (by (repeat (first | with_reducible exact X.refl _ | with_reducible assumption | with_reducible refine X.setCell ?_ (by first | (simp; done) | (simp; omega)) _ | with_reducible refine X.ext ?_ _ | with_reducible refine X.alloc ?_ _ | with_reducible refine X.drew ?_)))); have hXm : X W wm := X.trans (by (repeat (first | with_reducible exact X.refl _ | with_reducible assumption | with_reducible refine X.setCell ?_ (by first | (simp; done) | (simp; omega)) _ | with_reducible refine X.ext ?_ _ | with_reducible refine X.alloc ?_ _ | with_reducible refine X.drew ?_))) hxm)
        | (go_at_call 59; refine (loadBody_s l n sc sa f mode ba bn bc B2 W _ hXm hO hok hn12 hf hSW q2).mono ?_; rintro _ wn ⟨b1, c1, r1, rc, rfl, hBd, hCs, hXn⟩))
    all_goals
      have hBd' := hBd.2.2.2
      have hn1 := hBd.2.1
      have ho1 := hBd.2.2.1
      have Hlb := Lib.hid (show ((bodyLd l f).flatMap scells).length = (bodyLd l f).length * 5 from scells_len _)
      generalize e1 : bodyLd l f = bd at *
      generalize e2 : storeLd l f mode = st at *
      generalize e3 : hadB l f = had at *
      have He := Lib.hid (And.intro e1 (And.intro e2 e3))
      clear e1 e2 e3
      go_wp2_with (at_builtin; refine wpList_append_sl stmt_T' rfl _ _ rfl (own_lit (B := wn.heap.size) (n := 0) (size := 5) rfl (Nat.le_refl _) rfl (by omega)) rfl rfl (hBd'.mono (X.fr (by (repeat (first | with_reducible exact X.refl _ | with_reducible assumption | with_reducible refine X.setCell ?_ (by first | (simp; done) | (simp; omega)) _ | with_reducible refine X.ext ?_ _ | with_reducible refine X.alloc ?_ _ | with_reducible refine X.drew ?_))) _)) Hlb.out (scells_one bd) (by omega) (by unfold maxLen; omega) (by simp) ?_; intro a' c' w' hO' hg'; rw [List.nil_append, Nat.zero_add] at hO'; rw [Nat.zero_add]; have hX' : X wn w' := X.of_litR hg' (by simp [Value.ownBlock]))
      refine bodyPost_ret (v := (.tuple #[.slice a' bd.length c', .slice r1 st.length rc, .bool had])) (by simp [results, Tryd.results22, go_sem]) rfl ?_
      rw [He.out.1, He.out.2.1, He.out.2.2]
      exact ⟨a', c', r1, rc, rfl, ⟨rfl, hn1, ho1, (Sl.of_own hO').less (Nat.zero_le _)⟩, ((hCs.fr (hX'.fr _)).at hok2).less (Nat.zero_le _), (hXW.trans hXn).trans hX'⟩
  all_goals
    rw [loadV_bad (by simp [loadOk, *])]
    go_enter Tryd.func22, Tryd.ntmps22
    go_wp2_with (first
      | (go_at_call 50; refine (validStore_c l a n c B _ (hD.mono (X.fr (by (repeat (first | with_reducible exact X.refl _ | with_reducible assumption | with_reducible refine X.setCell ?_ (by first | (simp; done) | (simp; omega)) _ | with_reducible refine X.ext ?_ _ | with_reducible refine X.alloc ?_ _ | with_reducible refine X.drew ?_))) _))).mono ?_; rintro _ _ ⟨rfl, hx⟩; obtain ⟨x, rfl⟩ := hx; rw [q1])
      | (go_at_call 58; refine (validFile_c f ba bn bc B2 _ hf (hS.mono (X.fr (by (repeat (first | with_reducible exact X.refl _ | with_reducible assumption | with_reducible refine X.setCell ?_ (by first | (simp; done) | (simp; omega)) _ | with_reducible refine X.ext ?_ _ | with_reducible refine X.alloc ?_ _ | with_reducible refine X.drew ?_))) _))).mono ?_; rintro _ _ ⟨rfl, hx⟩; obtain ⟨x, rfl⟩ := hx.of_ext; rw [q2])
      | (go_at_call 38; refine (inRange_c mode 0 2 _).mono ?_; rintro _ _ ⟨rfl, rfl⟩; rw [q3]))
    refine bodyPost_ret (v := (.tuple #[.slice none 0 0, .slice none 0 0, .bool false])) (by simp [results, Tryd.results22, go_sem]) rfl ?_
    exact ⟨none, 0, none, 0, rfl, ⟨rfl, by simp, (fun _ h => by cases h), fun h => absurd h (by simp)⟩, cosAt_nil _ _, by (repeat (first | with_reducible exact X.refl _ | with_reducible assumption | with_reducible refine X.setCell ?_ (by first | (simp; done) | (simp; omega)) _ | with_reducible refine X.ext ?_ _ | with_reducible refine X.alloc ?_ _ | with_reducible refine X.drew ?_))⟩

end Go.Proofs.YtebnjkjllinabaaDoor

namespace Go.Proofs.YtebnjkjllinabaaDoor
open Go.RowKit

/-- What LoadBody of the program leaves: a body and a store of the call's own, in blocks of their own. -/
def LoadPost (w w' : World) (e : Ending) (V : List St × List Co × Bool) : Prop := ∃ b1 c1 r1 rc B1 E1 E2,
  e = .returned (.tuple #[.slice b1 V.1.length c1, .slice r1 V.2.1.length rc, .bool V.2.2]) ∧ w'.ownsRow E2 66 5 (.slice b1 V.1.length c1) V.1.length (V.1.flatMap scells) ∧ CosE w' B1 E1 r1 V.2.1.length rc V.2.1 ∧
    w.heap.size ≤ B1 ∧ w.heap.size ≤ E2 ∧ E2 ≤ w'.heap.size ∧ B1 ≤ E1 ∧ (E1 ≤ E2 ∨ (V.1 = [] ∧ ∀ g, (Value.slice b1 V.1.length c1).ownBlock = some g → g < B1)) ∧ X w w'
theorem LoadPost.mk {w Wc w' : World} {bd : List St} {st : List Co} {had : Bool} {b1 r1 : Option Addr} {c1 rc nb ns B1 : Nat} (hb : nb = bd.length) (hs : ns = st.length) (hC : CosO Wc B1 r1 ns rc st) (hO : w'.ownsRow Wc.heap.size 66 5 (.slice b1 nb c1) nb (bd.flatMap scells)) (hx : X Wc w') (hX : X w Wc) (hB : w.heap.size ≤ B1) (hB1 : B1 ≤ Wc.heap.size) :
    LoadPost w w' (.returned (.tuple #[.slice b1 nb c1, .slice r1 ns rc, .bool had])) (bd, st, had) := by
  subst hb hs
  exact ⟨b1, c1, r1, rc, B1, Wc.heap.size, Wc.heap.size, rfl, hO, hC.e.fr (hx.fr _), hB, hX.size, hx.size, hB1, .inl (Nat.le_refl _), hX.trans hx⟩
theorem LoadPost.nil {w W1 : World} (hX : X w W1) : LoadPost w ((W1.alloc (.cells #[] 66)).alloc (.cells #[] 49)) (.returned (.tuple #[.slice (some ⟨W1.heap.size, 0, none⟩) 0 0, .slice (some ⟨W1.heap.size + 1, 0, none⟩) 0 0, .bool false])) ([], [], false) := by
  have h1 := hX.size
  refine ⟨_, 0, _, 0, W1.heap.size + 1, W1.heap.size + 2, W1.heap.size, rfl, own_fr (own_lit (n := 0) rfl (Nat.le_refl _) rfl (by omega)) (X.fr ((X.refl _).alloc _) _), ⟨[], rfl, rfl, own_lit (n := 0) (by simp) (by simp) rfl (by omega), List.Pairwise.nil, (fun _ h => by cases h), (fun b hb => by simp [Value.ownBlock] at hb; omega), fun _ h => by cases h⟩, by omega, by omega, by simp; omega, by omega, .inr ⟨rfl, fun g hg => by simp [Value.ownBlock] at hg; omega⟩, (hX.alloc _).alloc _⟩
theorem moduleOf_ok {f : Fi} (h : fileB f = true) (ba : Option Addr) (bn bc B : Nat) (w : World) (hf : Okf f) (hS : StmtsAt w B ba bn f.body) (hG : Gm w) :
    Calls Tryd.prog 23 #[.agg #[.int .i64 (f).root, .string ⟨(f).pkg.toArray⟩, .string ⟨(f).name.toArray⟩, .bool (f).init, .int .i64 (f).stamp, .slice ba bn bc]] w fun e w' => e = .returned (.string ⟨(moduleB f).toArray⟩) ∧ X w w' := by
  have := ModuleOf_c f ba bn bc B w hf hS hG
  rwa [moduleOf_eq h] at this

set_option maxRecDepth 100000 in
set_option maxHeartbeats 4000000 in
theorem LoadBody_i (l : List Co) (a : Option Addr) (n c B : Nat) (f : Fi) (mode : Int) (ba : Option Addr) (bn bc B2 : Nat) (w : World) (hD : CosAt w B a n l) (hf : Okf f) (hS : StmtsAt w B2 ba bn f.body) (hG : Gm w) :
    Calls Tryd.prog 19 #[.slice a n c, .agg #[.int .i64 (f).root, .string ⟨(f).pkg.toArray⟩, .string ⟨(f).name.toArray⟩, .bool (f).init, .int .i64 (f).stamp, .slice ba bn bc], .int .i64 mode] w fun e w' => LoadPost w w' e (loadV l f mode) := by
  cases q1 : storeB l <;> cases q2 : fileB f <;> cases q3 : rangeB mode 0 2
  case true.true.true =>
    have Hv0 := Lib.hid (loadV_good (l := l) (f := f) (mode := mode) (by simp [loadOk, *]))
    have hl12 := storeB_12 q1
    have hok := hD.okC
    have hn12 : n ≤ 12 := by have := hD.len.1; omega
    have Hnl := Lib.hid hD.len.1
    have Hbn := Lib.hid hS.1
    clear hl12
    go_enter Tryd.func19, Tryd.ntmps19
    go_wp2_with fail
    refine calls_name (fun W0 hW0 => ?_)
    have hT : Bx W0 w.heap.size #[.int .i64 f.root, .string ⟨(f.pkg).toArray⟩, .string ⟨(f.name).toArray⟩, .bool f.init, .int .i64 f.stamp, .slice ba bn bc] := by rw [hW0]; exact Bx.new _ _ _
    have hX0 : X w W0 := by rw [hW0]; (repeat (first | with_reducible exact X.refl _ | with_reducible assumption | with_reducible refine X.setCell ?_ (by first | (simp; done) | (simp; omega)) _ | with_reducible refine X.ext ?_ _ | with_reducible refine X.alloc ?_ _ | with_reducible refine X.drew ?_))
    clear hW0
    refine (ValidStore_c l a n c B W0 (hD.mono (hX0.fr _)) (hG.mono hX0)).mono ?_
    rintro _ w1 ⟨rfl, hx1⟩
    rw [q1]
    replace hT := hT.x hx1
    replace hX0 := hX0.trans hx1
    clear hx1
    obtain ⟨t0, t1, t2, t3, t4, t5⟩ := keepT hT
    have hlT := hT.lt
    go_wp2_with fail
    refine (fileOk_c f ba bn bc B2 w1 hf (hS.mono (hX0.fr _)) (hG.mono hX0)).mono ?_
    rintro _ w2 ⟨rfl, hx2⟩
    rw [q2]
    replace hT := hT.x hx2
    replace hX0 := hX0.trans hx2
    clear hx2 t0 t1 t2 t3 t4 t5 hlT
    go_wp2_with fail
    refine (modeOk_c' mode w2).mono ?_
    rintro _ w3 ⟨rfl, hx3⟩
    rw [q3]
    replace hT := hT.x hx3
    replace hX0 := hX0.trans hx3
    clear hx3
    go_wp2_with fail
    refine (cloneStore_c l a n c B w3 (hD.mono (hX0.fr _))).mono ?_
    rintro _ W ⟨sa, sc, rfl, hO, hx4⟩
    have hTl3 := hT.lt
    replace hT := hT.x hx4
    have hXW := hX0.trans hx4
    have hw3 : w.heap.size ≤ w3.heap.size := hX0.size
    have hw4 : w3.heap.size ≤ W.heap.size := hx4.size
    have hX03 := hX0
    have hX34 := hx4
    clear hx4 hX0
    have hDW := hO.at hok
    have hSW := hS.mono (hXW.fr B2)
    have hGW := hG.mono hXW
    have hO0 := hO
    obtain ⟨vs, hvl, -, hrow, hsep, hbd⟩ := hO
    have hvn : vs.length = n := by rw [Hnl.out, hvl, List.length_map]
    have hfar := bodyC_lt hbd
    have Hv := Lib.hid (And.intro (And.intro hvl hvn) (And.intro hsep (And.intro hbd hfar)))
    clear hvl hsep hbd hfar hvn
    obtain ⟨t0, t1, t2, t3, t4, t5⟩ := keepT hT
    have hlT := hT.lt
    go_wp2
    refine wp_region_grow0 (by kernel_rfl) (by kernel_rfl) ?_
    repeat (go_big_quiet_step (((first | (go_at_call 23; refine grow_of (moduleOf_ok q2 ba bn bc B2 _ hf (hSW.mono (X.fr (by (repeat (first | exact X.refl _ | assumption | refine X.ext ?_ _ | refine X.alloc ?_ _ | refine X.drew ?_))) _)) (hGW.mono (by (repeat (first | exact X.refl _ | assumption | refine X.ext ?_ _ | refine X.alloc ?_ _ | refine X.drew ?_)))))) | (go_at_call 43; refine grow_of (compiledAt_i l sa n sc _ f.root (moduleB f) f.init _ (hDW.mono (X.fr (by (repeat (first | exact X.refl _ | assumption | refine X.ext ?_ _ | refine X.alloc ?_ _ | refine X.drew ?_))) _))))))))
    refine wpQuiet_nil ?_
    rintro _ ⟨y, rfl⟩
    rcases cix_cases l f with hc | ⟨k, hkl, hc⟩
    · have hc2 : cidx l f.root (moduleB f) f.init n = -1 := by rw [Hnl.out]; exact hc
      obtain ⟨r1, r2, r3⟩ := load_none hc
      have Hr := Lib.hid (And.intro r1 (And.intro r2 (r3 mode)))
      rw [hc2]
      clear hc hc2 r1 r2 r3
      go_wp2
      refine wp_region_grow (by kernel_rfl) (by kernel_rfl) ?_
      repeat (go_big_quiet_step ((fail)))
      refine wpQuiet_nil ?_
      rintro _ ⟨y, rfl⟩
      go_wp2_with fail
      refine calls_name (fun W3 hW3 => ?_)
      have hX3 : X W W3 := by rw [hW3]; (repeat (first | exact X.refl _ | assumption | refine X.ext ?_ _ | refine X.alloc ?_ _ | refine X.drew ?_))
      clear hW3
      refine (CompileFile_c f mode ba bn bc B2 W3 hf (hSW.mono (hX3.fr _)) q2 q3 (hGW.mono hX3)).mono ?_
      rintro _ w5 ⟨rb, rcb, rfl, hO3, hx3⟩
      generalize hcf : compB f mode = cf at *
      have Hcb := Lib.hid (show cf.body = f.body by rw [← hcf]; rfl)
      clear hcf
      have hX4 : X W w5 := hX3.trans hx3
      obtain ⟨t0', t1', t2', t3', t4', t5'⟩ := keepT (hT.x hX4)
      have hlT3 : w.heap.size < w5.heap.size := Nat.lt_of_lt_of_le hlT hX4.size
      have hrow3 := own_fr hrow (hX4.fr _)
      have hs3 : w3.heap.size ≤ w5.heap.size := Nat.le_trans hw4 hX4.size
      by_cases h12 : n < 12
      · have hTg : ∀ {w4 w5' : World}, X w5 w4 → w4.grownBy w5' (Value.slice sa n sc).ownBlock → Bx w5' w.heap.size #[.int .i64 f.root, .string ⟨(f.pkg).toArray⟩, .string ⟨(f.name).toArray⟩, .bool f.init, .int .i64 f.stamp, .slice ba bn bc] := fun hx hg => Bx.grown ((hT.x hX4).x hx) hg (fun g hg => by have := (hrow.lt g hg).1; omega)
        go_wp2_with (at_builtin; refine wpList_append_g (B := w3.heap.size) co_T rfl _ _ rfl (own_fr hrow3 (X.fr (by (repeat (first | with_reducible exact X.refl _ | with_reducible assumption | with_reducible refine X.setCell ?_ (by first | (simp; done) | (simp; omega)) _ | with_reducible refine X.ext ?_ _ | with_reducible refine X.alloc ?_ _ | with_reducible refine X.drew ?_))) _)) rfl (g := w5.heap.size + 1) rfl (by simp) rfl (by simp [Value.oneCell']) (by omega) (by omega) (by simp; omega) ?_; intro a' c' w' hrow' hg'; have hga := X.grown ((X.refl _).alloc _) hg'; obtain ⟨t0'', t1'', t2'', t3'', t4'', t5''⟩ := keepT (hTg ((X.refl w5).alloc _) hga))
        obtain ⟨⟨hvl, hvn⟩, hsep, hbd, hfar⟩ := Hv.out
        have hO3' : w5.ownsRow W3.heap.size 66 5 (.slice rb bn rcb) bn (cf.body.flatMap scells) := by rw [Hcb.out]; exact own_less hO3 (Nat.le_refl _)
        have hX35 : X w3 w5 := hX34.trans hX4
        have hXW' : X w3 w' := X.of_below ((X.below (w := w3) (X.trans hX35 ((X.refl w5).alloc _))).grown hga (X.size (X.trans hX35 ((X.refl w5).alloc _))) (fun g hg => (hrow.lt g hg).1))
        have hC := CosV.snocX (E := W3.heap.size) ((X.refl w5).alloc _) hrow3 hsep (fun x hx => (hbd x hx).fr (X.fr hX4 _)) (fun x hx b hb => Nat.lt_of_lt_of_le (hfar x hx b hb) hX3.size) hvn hO3' (by rw [Hcb.out, ← Hbn.out]) (Nat.le_trans hw4 hX3.size) hrow' hga
        rw [← hvl] at hC
        have hw' : w5.heap.size ≤ w'.heap.size := Nat.le_trans (X.size ((X.refl w5).alloc _)) hga.size
        refine calls_name (fun Wc hWc => ?_)
        rw [← hWc] at hC hXW' hw'
        clear hWc hrow' hg' hga
        have hXc := hX03.trans hXW'
        refine (cloneBody_c f.body ba bn bc B2 Wc (hS.mono (hXc.fr _))).mono ?_
        rintro _ w7 ⟨b1, c1, rfl, hO7, hx7⟩
        go_wp2
        refine bodyPost_ret (v := (.tuple #[.slice b1 bn c1, .slice a' (n + 1) c', .bool false])) (by simp [results, Tryd.results19, go_sem]) rfl ?_
        obtain ⟨r1, r2, r3⟩ := Hr.out
        rw [← Hnl.out, if_pos h12] at r3
        rw [Hv0.out, r1, r2, r3]
        exact LoadPost.mk Hbn.out (by rw [List.length_append, List.length_singleton, ← Hnl.out]) hC hO7 hx7 hXc hw3 (Nat.le_trans hs3 hw')
      · go_wp2_with fail
        refine calls_name (fun Wc hWc => ?_)
        have hXc : X W Wc := by rw [hWc]; exact hX4.alloc _
        clear hWc
        refine (cloneBody_c f.body ba bn bc B2 Wc (hSW.mono (hXc.fr _))).mono ?_
        rintro _ w7 ⟨b1, c1, rfl, hO7, hx7⟩
        go_wp2
        refine bodyPost_ret (v := (.tuple #[.slice b1 bn c1, .slice sa n sc, .bool false])) (by simp [results, Tryd.results19, go_sem]) rfl ?_
        obtain ⟨r1, r2, r3⟩ := Hr.out
        rw [← Hnl.out, if_neg h12] at r3
        rw [Hv0.out, r1, r2, r3]
        exact LoadPost.mk Hbn.out Hnl.out (hO0.fr (hXc.fr _)) hO7 hx7 (hXW.trans hXc) hw3 (Nat.le_trans hw4 hXc.size)
    · have hc2 : cidx l f.root (moduleB f) f.init n = (k : Int) := by rw [Hnl.out]; exact hc
      obtain ⟨r1, r2, r3⟩ := load_some hc
      have Hr := Lib.hid (And.intro r1 (And.intro r2 (r3 mode)))
      have hkn : k < n := by rw [Hnl.out]; exact hkl
      rw [hc2]
      clear hc hc2 r1 r2 r3 hkl
      obtain ⟨g, rfl, hgW, hgw⟩ := own_form hrow (by omega)
      obtain ⟨ka, kn, kc, hgl, hkc, hSk, g0, g1, g2, g3, g4, g5, g6, g7⟩ := hDW.at0 hkn
      have Hkn := Lib.hid hSk.1
      have hgT : w.heap.size ≠ g := by omega
      cases hu : usableB (nth l k) f
      · have hus : ∀ w', X W w' → Calls Tryd.prog 55 #[.agg #[.int .i64 ((nth l k)).root, .string ⟨((nth l k)).mod.toArray⟩, .bool ((nth l k)).init, .int .i64 ((nth l k)).mode, .int .i64 ((nth l k)).stamp, .int .i64 ((nth l k)).size, .int .i64 ((nth l k)).hash, .slice ka kn kc], .agg #[.int .i64 (f).root, .string ⟨(f).pkg.toArray⟩, .string ⟨(f).name.toArray⟩, .bool (f).init, .int .i64 (f).stamp, .slice ba bn bc]] w' fun e w'' => e = .returned (.bool false) ∧ X w' w'' := fun w' hx => by
          have := usable_i (nth l k) (.slice ka kn kc) f ba bn bc B2 w' (hSW.mono (hx.fr _)) (fileB_body q2) (hGW.mono hx)
          rwa [hu] at this
        go_wp2
        refine wp_region_grow (by kernel_rfl) (by kernel_rfl) ?_
        repeat (go_big_quiet_step (((go_at_call 55; refine grow_of (hus _ (by (repeat (first | exact X.refl _ | assumption | refine X.ext ?_ _ | refine X.alloc ?_ _ | refine X.drew ?_))))))))
        refine wpQuiet_nil ?_
        rintro _ ⟨y, rfl⟩
        go_wp2_with fail
        refine calls_name (fun W3 hW3 => ?_)
        have hX3 : X W W3 := by rw [hW3]; (repeat (first | exact X.refl _ | assumption | refine X.ext ?_ _ | refine X.alloc ?_ _ | refine X.drew ?_))
        clear hW3
        refine (CompileFile_c f mode ba bn bc B2 W3 hf (hSW.mono (hX3.fr _)) q2 q3 (hGW.mono hX3)).mono ?_
        rintro _ w5 ⟨rb, rcb, rfl, hO3, hx3⟩
        generalize hcf : compB f mode = cf at *
        have Hcb := Lib.hid (show cf.body = f.body by rw [← hcf]; rfl)
        clear hcf
        have hX4 : X W w5 := hX3.trans hx3
        obtain ⟨t0', t1', t2', t3', t4', t5'⟩ := keepT (hT.x hX4)
        have hlT3 : w.heap.size < w5.heap.size := Nat.lt_of_lt_of_le hlT hX4.size
        have hrow3 := own_fr hrow (hX4.fr _)
        have hgl3 : g < w5.heap.size := Nat.lt_of_lt_of_le hgl hX4.size
        have hf0 := (hrow3).frozenAt (k * 8); obtain ⟨u0, hu0⟩ := own_here hrow3 (j := k * 8) (by omega)
        have hf1 := (hrow3).frozenAt (k * 8 + 1); obtain ⟨u1, hu1⟩ := own_here hrow3 (j := k * 8 + 1) (by omega)
        have hf2 := (hrow3).frozenAt (k * 8 + 2); obtain ⟨u2, hu2⟩ := own_here hrow3 (j := k * 8 + 2) (by omega)
        have hf3 := (hrow3).frozenAt (k * 8 + 3); obtain ⟨u3, hu3⟩ := own_here hrow3 (j := k * 8 + 3) (by omega)
        have hf4 := (hrow3).frozenAt (k * 8 + 4); obtain ⟨u4, hu4⟩ := own_here hrow3 (j := k * 8 + 4) (by omega)
        have hf5 := (hrow3).frozenAt (k * 8 + 5); obtain ⟨u5, hu5⟩ := own_here hrow3 (j := k * 8 + 5) (by omega)
        have hf6 := (hrow3).frozenAt (k * 8 + 6); obtain ⟨u6, hu6⟩ := own_here hrow3 (j := k * 8 + 6) (by omega)
        have hf7 := (hrow3).frozenAt (k * 8 + 7); obtain ⟨u7, hu7⟩ := own_here hrow3 (j := k * 8 + 7) (by omega)
        go_wp2_with fail
        refine calls_name (fun Wc hWc => ?_)
        obtain ⟨⟨hvl, hvn⟩, hsep, hbd, hfar⟩ := Hv.out
        have hO3' : w5.ownsRow W3.heap.size 66 5 (.slice rb bn rcb) bn (cf.body.flatMap scells) := by rw [Hcb.out]; exact hO3
        have hC := CosV.set (E := W3.heap.size) hrow3 hsep (fun x hx => (hbd x hx).fr (X.fr hX4 _)) (fun x hx b hb => Nat.lt_of_lt_of_le (hfar x hx b hb) hX3.size) hvn hkn hO3' (by rw [Hcb.out, ← Hbn.out]) (Nat.le_trans hw4 hX3.size)
        rw [← hvl] at hC
        have hXW' := X.sets8 (o0 := k * 8) (o1 := k * 8 + 1) (o2 := k * 8 + 2) (o3 := k * 8 + 3) (o4 := k * 8 + 4) (o5 := k * 8 + 5) (o6 := k * 8 + 6) (o7 := k * 8 + 7) (v0 := .int .i64 cf.root) (v1 := .string ⟨(cf.mod).toArray⟩) (v2 := .bool cf.init) (v3 := .int .i64 cf.mode) (v4 := .int .i64 cf.stamp) (v5 := .int .i64 cf.size) (v6 := .int .i64 cf.hash) (v7 := .slice rb bn rcb) (hXW.trans hX4) (Nat.le_trans hw3 hgW)
        have hC' : CosO Wc w3.heap.size (some ⟨g, 0, none⟩) n sc (l.set k cf) := by rw [hWc]; exact hC.fr (X.fr ((X.refl _).alloc _) _)
        have hXc : X w Wc := by rw [hWc]; exact hXW'.alloc _
        have hs5 : w5.heap.size ≤ Wc.heap.size := by rw [hWc]; simp [World.setCell]
        clear hWc hC hXW'
        refine (cloneBody_c f.body ba bn bc B2 Wc (hS.mono (hXc.fr _))).mono ?_
        rintro _ w7 ⟨b1, c1, rfl, hO7, hx7⟩
        go_wp2
        refine bodyPost_ret (v := (.tuple #[.slice b1 bn c1, .slice (some ⟨g, 0, none⟩) n sc, .bool false])) (by simp [results, Tryd.results19, go_sem]) rfl ?_
        obtain ⟨r1, r2, r3⟩ := Hr.out
        rw [hu, if_neg (by simp)] at r2 r3
        rw [hu] at r1
        rw [Hv0.out, r1, r2, r3]
        exact LoadPost.mk Hbn.out (by rw [List.length_set]; exact Hnl.out) hC' hO7 hx7 hXc hw3 (Nat.le_trans hw4 (Nat.le_trans hX4.size hs5))
      · have hus : ∀ w', X W w' → Calls Tryd.prog 55 #[.agg #[.int .i64 ((nth l k)).root, .string ⟨((nth l k)).mod.toArray⟩, .bool ((nth l k)).init, .int .i64 ((nth l k)).mode, .int .i64 ((nth l k)).stamp, .int .i64 ((nth l k)).size, .int .i64 ((nth l k)).hash, .slice ka kn kc], .agg #[.int .i64 (f).root, .string ⟨(f).pkg.toArray⟩, .string ⟨(f).name.toArray⟩, .bool (f).init, .int .i64 (f).stamp, .slice ba bn bc]] w' fun e w'' => e = .returned (.bool true) ∧ X w' w'' := fun w' hx => by
          have := usable_i (nth l k) (.slice ka kn kc) f ba bn bc B2 w' (hSW.mono (hx.fr _)) (fileB_body q2) (hGW.mono hx)
          rwa [hu] at this
        go_wp2
        refine wp_region_grow (by kernel_rfl) (by kernel_rfl) ?_
        repeat (go_big_quiet_step (((go_at_call 55; refine grow_of (hus _ (by (repeat (first | exact X.refl _ | assumption | refine X.ext ?_ _ | refine X.alloc ?_ _ | refine X.drew ?_))))))))
        refine wpQuiet_nil ?_
        rintro _ ⟨y, rfl⟩
        go_wp2_with fail
        refine calls_name (fun Wc hWc => ?_)
        have hXc : X W Wc := by rw [hWc]; (repeat (first | exact X.refl _ | assumption | refine X.ext ?_ _ | refine X.alloc ?_ _ | refine X.drew ?_))
        clear hWc
        refine (cloneBody_c (nth l k).body ka kn kc _ Wc (hSk.mono (hXc.fr _))).mono ?_
        rintro _ w7 ⟨b1, c1, rfl, hO7, hx7⟩
        go_wp2
        refine bodyPost_ret (v := (.tuple #[.slice b1 kn c1, .slice (some ⟨g, 0, none⟩) n sc, .bool true])) (by simp [results, Tryd.results19, go_sem]) rfl ?_
        obtain ⟨r1, r2, r3⟩ := Hr.out
        rw [hu, if_pos rfl] at r2 r3
        rw [hu] at r1
        rw [Hv0.out, r1, r2, r3]
        exact LoadPost.mk Hkn.out Hnl.out (hO0.fr (hXc.fr _)) hO7 hx7 (hXW.trans hXc) hw3 (Nat.le_trans hw4 hXc.size)
  all_goals
    have Hv0 := Lib.hid (loadV_bad (l := l) (f := f) (mode := mode) (by simp [loadOk, *]))
    go_enter Tryd.func19, Tryd.ntmps19
    go_wp2_with (first
      | (go_at_call 13; refine (ValidStore_c l a n c B _ (hD.mono (X.fr (by (repeat (first | with_reducible exact X.refl _ | with_reducible assumption | with_reducible refine X.setCell ?_ (by first | (simp; done) | (simp; omega)) _ | with_reducible refine X.ext ?_ _ | with_reducible refine X.alloc ?_ _ | with_reducible refine X.drew ?_))) _)) (hG.mono (by (repeat (first | with_reducible exact X.refl _ | with_reducible assumption | with_reducible refine X.setCell ?_ (by first | (simp; done) | (simp; omega)) _ | with_reducible refine X.ext ?_ _ | with_reducible refine X.alloc ?_ _ | with_reducible refine X.drew ?_))))).mono ?_; rintro _ _ ⟨rfl, hx⟩; obtain ⟨x, rfl⟩ := hx; rw [q1])
      | (go_at_call 53; refine (fileOk_c f ba bn bc B2 _ hf (hS.mono (X.fr (by (repeat (first | with_reducible exact X.refl _ | with_reducible assumption | with_reducible refine X.setCell ?_ (by first | (simp; done) | (simp; omega)) _ | with_reducible refine X.ext ?_ _ | with_reducible refine X.alloc ?_ _ | with_reducible refine X.drew ?_))) _)) (hG.mono (by (repeat (first | with_reducible exact X.refl _ | with_reducible assumption | with_reducible refine X.setCell ?_ (by first | (simp; done) | (simp; omega)) _ | with_reducible refine X.ext ?_ _ | with_reducible refine X.alloc ?_ _ | with_reducible refine X.drew ?_))))).mono ?_; rintro _ _ ⟨rfl, hx⟩; obtain ⟨x, rfl⟩ := hx.of_ext; rw [q2])
      | (go_at_call 34; refine (modeOk_c' mode _).mono ?_; rintro _ _ ⟨rfl, hx⟩; obtain ⟨x, rfl⟩ := hx.of_ext; rw [q3]))
    have hX1 : X w (World.ext (w.alloc (.cells #[.int .i64 f.root, .string ⟨(f.pkg).toArray⟩, .string ⟨(f.name).toArray⟩, .bool f.init, .int .i64 f.stamp, .slice ba bn bc] 43)) x) := by (repeat (first | with_reducible exact X.refl _ | with_reducible assumption | with_reducible refine X.setCell ?_ (by first | (simp; done) | (simp; omega)) _ | with_reducible refine X.ext ?_ _ | with_reducible refine X.alloc ?_ _ | with_reducible refine X.drew ?_))
    generalize World.ext (w.alloc (.cells #[.int .i64 f.root, .string ⟨(f.pkg).toArray⟩, .string ⟨(f.name).toArray⟩, .bool f.init, .int .i64 f.stamp, .slice ba bn bc] 43)) x = W1 at *
    refine bodyPost_ret (v := (.tuple #[.slice (some ⟨W1.heap.size, 0, none⟩) 0 0, .slice (some ⟨W1.heap.size + 1, 0, none⟩) 0 0, .bool false])) (by simp [results, Tryd.results19, go_sem]) rfl ?_
    rw [Hv0.out]
    exact LoadPost.nil hX1

end Go.Proofs.YtebnjkjllinabaaDoor
