/- LoadBody as plain data; one element more, or another one, in a store of the call's own. No condition but lengths. -/
import Derived.Test.YtjlooplpjliaiaaDoorCloneS
import Derived.Test.YtjlooplpjliaiaaDoorCoT
import Derived.Test.YtjlooplpjliaiaaDoorUsable
import Derived.Test.YtjlooplpjliaiaaDoorStoreI
namespace Go.Proofs.YtjlooplpjliaiaaDoor
open Go.RowKit

def cix (l : List Co) (f : Fi) : Int := cidx l f.root (moduleB f) f.init l.length
def hadB (l : List Co) (f : Fi) : Bool := decide (0 ≤ cix l f) && usableB (nth l (cix l f).toNat) f
def bodyLd (l : List Co) (f : Fi) : List St := if hadB l f then (nth l (cix l f).toNat).body else f.body
def storeLd (l : List Co) (f : Fi) (mode : Int) : List Co :=
  if hadB l f then l else if 0 ≤ cix l f then l.set (cix l f).toNat (compB f mode) else if l.length < 12 then l ++ [compB f mode] else l
def loadOk (l : List Co) (f : Fi) (mode : Int) : Bool := storeB l && fileB f && rangeB mode 0 2
def loadV (l : List Co) (f : Fi) (mode : Int) : List St × List Co × Bool := if loadOk l f mode then (bodyLd l f, storeLd l f mode, hadB l f) else ([], [], false)
theorem cix_cases (l : List Co) (f : Fi) : cix l f = -1 ∨ ∃ k, k < l.length ∧ cix l f = (k : Int) := by
  rcases firstN_cases (fun j => sameC (nth l j) f.root (moduleB f) f.init) l.length with ⟨_, h⟩ | ⟨k, hk, _, _, h⟩
  · exact .inl h
  · exact .inr ⟨k, hk, h⟩
theorem load_none {l : List Co} {f : Fi} (h : cix l f = -1) : hadB l f = false ∧ bodyLd l f = f.body ∧ ∀ mode, storeLd l f mode = if l.length < 12 then l ++ [compB f mode] else l := by
  have h1 : hadB l f = false := by simp [hadB, h]
  refine ⟨h1, by simp [bodyLd, h1], fun mode => ?_⟩
  rw [storeLd, h1, if_neg (by simp), if_neg (by omega)]
theorem load_some {l : List Co} {f : Fi} {k : Nat} (h : cix l f = (k : Int)) : hadB l f = usableB (nth l k) f ∧ (bodyLd l f = if usableB (nth l k) f then (nth l k).body else f.body) ∧ ∀ mode, storeLd l f mode = if usableB (nth l k) f then l else l.set k (compB f mode) := by
  have h1 : hadB l f = usableB (nth l k) f := by simp [hadB, h]
  refine ⟨h1, by simp [bodyLd, h1, h], fun mode => ?_⟩
  rw [storeLd, h1, if_pos (show 0 ≤ cix l f by omega), h]
  rfl
theorem storeB_12 {l : List Co} (h : storeB l = true) : l.length ≤ 12 := by
  unfold storeB at h
  simp at h
  exact h.2

theorem CosAt.at0 {w : World} {B g n : Nat} {l : List Co} (h : CosAt w B (some ⟨g, 0, none⟩) n l) {k : Nat} (hk : k < n) :
    ∃ ba bn bc, g < w.heap.size ∧ bn ≤ bc ∧ StmtsAt w B ba bn (nth l k).body ∧
      w.cell? ⟨g, k * 8, none⟩ = some (.int .i64 (nth l k).root) ∧ w.cell? ⟨g, k * 8 + 1, none⟩ = some (.string ⟨((nth l k).mod).toArray⟩) ∧ w.cell? ⟨g, k * 8 + 2, none⟩ = some (.bool (nth l k).init) ∧
      w.cell? ⟨g, k * 8 + 3, none⟩ = some (.int .i64 (nth l k).mode) ∧ w.cell? ⟨g, k * 8 + 4, none⟩ = some (.int .i64 (nth l k).stamp) ∧ w.cell? ⟨g, k * 8 + 5, none⟩ = some (.int .i64 (nth l k).size) ∧
      w.cell? ⟨g, k * 8 + 6, none⟩ = some (.int .i64 (nth l k).hash) ∧ w.cell? ⟨g, k * 8 + 7, none⟩ = some (.slice ba bn bc) := by
  obtain ⟨b, off, ba, bn, bc, ha, _, hb, _, hbc, hS, g0, g1, g2, g3, g4, g5, g6, g7⟩ := h.at_ hk
  injection ha with ha
  injection ha with h1 h2
  subst h1 h2
  rw [Nat.zero_add] at g0 g1 g2 g3 g4 g5 g6 g7
  exact ⟨ba, bn, bc, hb, hbc, hS, g0, g1, g2, g3, g4, g5, g6, g7⟩
theorem ccells_set8 {vs : List (Co × Value)} {k : Nat} (hk : k < vs.length) (y : Co × Value) (v0 v1 v2 v3 v4 v5 v6 v7 : Value) (hv : ccells y = [v0, v1, v2, v3, v4, v5, v6, v7]) :
    ((((((((vs.flatMap ccells).set (k * 8) v0).set (k * 8 + 1) v1).set (k * 8 + 2) v2).set (k * 8 + 3) v3).set (k * 8 + 4) v4).set (k * 8 + 5) v5).set (k * 8 + 6) v6).set (k * 8 + 7) v7 = (vs.set k y).flatMap ccells := by
  have hA : ((vs.take k).flatMap ccells).length = k * 8 := by rw [flat_length 8 ccells ccells8, List.length_take, Nat.min_eq_left (by omega)]
  have hz : vs.flatMap ccells = (vs.take k).flatMap ccells ++ (ccells (nth vs k) ++ (vs.drop (k + 1)).flatMap ccells) := by
    rw [← List.flatMap_cons, ← drop_nth hk, ← List.flatMap_append, List.take_append_drop]
  have hs : vs.set k y = vs.take k ++ y :: vs.drop (k + 1) := by
    rw [List.set_eq_take_append_cons_drop, if_pos hk]
  rw [hs, List.flatMap_append, List.flatMap_cons, hv, hz]
  generalize (vs.take k).flatMap ccells = A at *
  generalize (vs.drop (k + 1)).flatMap ccells = R at *
  have h0 := set_off (A := A) (Z := ccells (nth vs k) ++ R) 0 v0
  rw [Nat.add_zero] at h0
  rw [← hA, h0, set_off, set_off, set_off, set_off, set_off, set_off, set_off]
  rfl
theorem ne_far {v u : Value} {E : Nat} (h : ∀ b, v.ownBlock = some b → b < E) (h' : ∀ b, u.ownBlock = some b → E ≤ b) : v.ownBlock = none ∨ u.ownBlock = none ∨ u.ownBlock ≠ v.ownBlock := by
  cases hv : v.ownBlock with
  | none => exact .inl rfl
  | some b =>
    cases hu : u.ownBlock with
    | none => exact .inr (.inl rfl)
    | some b' =>
      refine .inr (.inr fun e => ?_)
      have h1 := h b hv
      have h2 := h' b' hu
      injection e with e
      omega
theorem ne_sym {v u : Value} (h : v.ownBlock = none ∨ u.ownBlock = none ∨ u.ownBlock ≠ v.ownBlock) : u.ownBlock = none ∨ v.ownBlock = none ∨ v.ownBlock ≠ u.ownBlock := by
  rcases h with h | h | h
  · exact .inr (.inl h)
  · exact .inl h
  · exact .inr (.inr (Ne.symm h))
theorem bodyC_lt {w : World} {B : Nat} {vs : List (Co × Value)} (h : ∀ x ∈ vs, BodyC w B x) : ∀ x ∈ vs, ∀ b, x.2.ownBlock = some b → b < w.heap.size := by
  intro x hx b hb
  obtain ⟨ba, bc, e, ho⟩ := h x hx
  rw [e] at hb
  exact (ho.lt b hb).2
theorem sepC_set {vs : List (Co × Value)} {E k : Nat} (h : SepC vs) (hb : ∀ x ∈ vs, ∀ b, x.2.ownBlock = some b → b < E) {y : Co × Value} (hy : ∀ b, y.2.ownBlock = some b → E ≤ b) : SepC (vs.set k y) := by
  unfold SepC at h ⊢
  rw [List.pairwise_iff_getElem] at h ⊢
  intro i j hi hj hij
  rw [List.length_set] at hi hj
  rw [List.getElem_set, List.getElem_set]
  split
  · rw [if_neg (by omega)]
    exact ne_sym (ne_far (hb _ (List.getElem_mem hj)) hy)
  · split
    · exact ne_far (hb _ (List.getElem_mem hi)) hy
    · exact h i j hi hj hij
theorem sepC_snoc {vs : List (Co × Value)} {E : Nat} (h : SepC vs) (hb : ∀ x ∈ vs, ∀ b, x.2.ownBlock = some b → b < E) {y : Co × Value} (hy : ∀ b, y.2.ownBlock = some b → E ≤ b) : SepC (vs ++ [y]) :=
  List.pairwise_append.2 ⟨h, List.pairwise_singleton _ _, fun x hx z hz => by rw [List.mem_singleton.1 hz]; exact ne_far (hb x hx) hy⟩
/-- Another element in a store of the call's own. -/
theorem CosV.set {w : World} {B E n c g k : Nat} {vs : List (Co × Value)} {cf : Co} {rb : Option Addr} {bn rcb : Nat} (hrow : w.ownsRow B 65 8 (.slice (some ⟨g, 0, none⟩) n c) n (vs.flatMap ccells)) (hsep : SepC vs) (hbd : ∀ x ∈ vs, BodyC w B x)
    (hfar : ∀ x ∈ vs, ∀ b, x.2.ownBlock = some b → b < E) (hvn : vs.length = n) (hk : k < n) (hO : w.ownsRow E 88 5 (.slice rb bn rcb) bn (cf.body.flatMap scells)) (hbn : bn = cf.body.length) (hBE : B ≤ E) :
    CosO ((((((((w.setCell ⟨g, k * 8, none⟩ (.int .i64 cf.root)).setCell ⟨g, k * 8 + 1, none⟩ (.string ⟨(cf.mod).toArray⟩)).setCell ⟨g, k * 8 + 2, none⟩ (.bool cf.init)).setCell ⟨g, k * 8 + 3, none⟩ (.int .i64 cf.mode)).setCell ⟨g, k * 8 + 4, none⟩ (.int .i64 cf.stamp)).setCell ⟨g, k * 8 + 5, none⟩ (.int .i64 cf.size)).setCell ⟨g, k * 8 + 6, none⟩ (.int .i64 cf.hash)).setCell ⟨g, k * 8 + 7, none⟩ (.slice rb bn rcb))
      B (some ⟨g, 0, none⟩) n c ((vs.map (·.1)).set k cf) := by
  subst hbn
  obtain ⟨cs, hb⟩ := own_block hrow
  refine ⟨vs.set k (cf, .slice rb cf.body.length rcb), by rw [List.map_set], by rw [List.length_set, List.length_map, hvn], ?_, sepC_set hsep hfar (fun b hb => (hO.lt b hb).1), fun x hx => ?_⟩
  · have h8 := own_set8 hrow (k * 8) (.int .i64 cf.root) (.string ⟨(cf.mod).toArray⟩) (.bool cf.init) (.int .i64 cf.mode) (.int .i64 cf.stamp) (.int .i64 cf.size) (.int .i64 cf.hash) (.slice rb cf.body.length rcb)
    rw [ccells_set8 (by omega) (cf, .slice rb cf.body.length rcb) _ _ _ _ _ _ _ _ rfl] at h8
    exact h8
  · have hx' : BodyC w B x := by
      rcases List.mem_or_eq_of_mem_set hx with hx | rfl
      · exact hbd x hx
      · exact ⟨rb, rcb, rfl, own_less hO hBE⟩
    exact hx'.grown (grown_set8 _ _ _ _ _ _ _ _ _ _ _) hb
/-- One element more in a store of the call's own. -/
theorem CosV.snoc {w w' : World} {B E n c c' : Nat} {a a' : Option Addr} {vs : List (Co × Value)} {cf : Co} {rb : Option Addr} {bn rcb : Nat} (hrow : w.ownsRow B 65 8 (.slice a n c) n (vs.flatMap ccells)) (hsep : SepC vs) (hbd : ∀ x ∈ vs, BodyC w B x)
    (hfar : ∀ x ∈ vs, ∀ b, x.2.ownBlock = some b → b < E) (hvn : vs.length = n) (hO : w.ownsRow E 88 5 (.slice rb bn rcb) bn (cf.body.flatMap scells)) (hbn : bn = cf.body.length) (hBE : B ≤ E)
    (hrow' : w'.ownsRow B 65 8 (.slice a' (n + 1) c') (n + 1) (vs.flatMap ccells ++ ccells (cf, .slice rb bn rcb))) (hg : w.grownBy w' (Value.slice a n c).ownBlock) :
    CosO w' B a' (n + 1) c' (vs.map (·.1) ++ [cf]) := by
  subst hbn
  refine ⟨vs ++ [(cf, .slice rb cf.body.length rcb)], by rw [List.map_append]; rfl, by rw [List.length_append, List.length_map, hvn]; rfl, by rw [List.flatMap_append]; simpa using hrow', sepC_snoc hsep hfar (fun b hb => (hO.lt b hb).1), fun x hx => ?_⟩
  have hx' : BodyC w B x := by
    rcases List.mem_append.1 hx with hx | hx
    · exact hbd x hx
    · rw [List.mem_singleton.1 hx]
      exact ⟨rb, rcb, rfl, own_less hO hBE⟩
  refine hx'.kept hg ?_
  obtain ⟨ba, bc, e, ho⟩ := hx'
  rw [e]
  exact row_ne ho hrow (by decide)
theorem CosV.snocX {w3 w w' : World} {B E n c c' : Nat} {a a' : Option Addr} {vs : List (Co × Value)} {cf : Co} {rb : Option Addr} {bn rcb : Nat} (hx : X w3 w) (hrow : w3.ownsRow B 65 8 (.slice a n c) n (vs.flatMap ccells)) (hsep : SepC vs) (hbd : ∀ x ∈ vs, BodyC w3 B x)
    (hfar : ∀ x ∈ vs, ∀ b, x.2.ownBlock = some b → b < E) (hvn : vs.length = n) (hO : w3.ownsRow E 88 5 (.slice rb bn rcb) bn (cf.body.flatMap scells)) (hbn : bn = cf.body.length) (hBE : B ≤ E)
    (hrow' : w'.ownsRow B 65 8 (.slice a' (n + 1) c') (n + 1) (vs.flatMap ccells ++ ccells (cf, .slice rb bn rcb))) (hg : w.grownBy w' (Value.slice a n c).ownBlock) :
    CosO w' B a' (n + 1) c' (vs.map (·.1) ++ [cf]) :=
  CosV.snoc (own_fr hrow (hx.fr _)) hsep (fun x hm => (hbd x hm).fr (hx.fr _)) hfar hvn (own_fr hO (hx.fr _)) hbn hBE hrow' hg
theorem X.sets8 {w w' : World} {g o0 o1 o2 o3 o4 o5 o6 o7 : Nat} {v0 v1 v2 v3 v4 v5 v6 v7 : Value} (h : X w w') (hg : w.heap.size ≤ g) :
    X w ((((((((w'.setCell ⟨g, o0, none⟩ v0).setCell ⟨g, o1, none⟩ v1).setCell ⟨g, o2, none⟩ v2).setCell ⟨g, o3, none⟩ v3).setCell ⟨g, o4, none⟩ v4).setCell ⟨g, o5, none⟩ v5).setCell ⟨g, o6, none⟩ v6).setCell ⟨g, o7, none⟩ v7) :=
  ((((((((h.setCell hg _).setCell hg _).setCell hg _).setCell hg _).setCell hg _).setCell hg _).setCell hg _).setCell hg _)
theorem own_lessC {w : World} {B B' n c : Nat} {a : Option Addr} {l : List Co} (h : CosO w B a n c l) (hB : B' ≤ B) : CosO w B' a n c l := h.less hB

end Go.Proofs.YtjlooplpjliaiaaDoor
