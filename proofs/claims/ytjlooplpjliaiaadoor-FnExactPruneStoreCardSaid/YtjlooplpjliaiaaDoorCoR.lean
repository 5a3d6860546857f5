/- Stores of whatever length: how they lie, their sizes, an argument that holds one. No condition. -/
import Derived.Test.YtjlooplpjliaiaaDoorCo
import Derived.Test.YtjlooplpjliaiaaDoorSz
namespace Go.Proofs.YtjlooplpjliaiaaDoor
open Go.ChangeShapes Go.WideShapes Go.ChangeAt Go.RowKit Go.Deep

def CosR (w : World) (a : Option Addr) (n : Nat) (l : List Co) : Prop :=
  ∃ vs : List (Co × Value), l = vs.map (·.1) ∧ n = l.length ∧ n ≤ maxLen ∧ (∀ c ∈ l, c.mod.length ≤ maxLen) ∧ Sl w 0 a n (vs.flatMap ccells) ∧
    ∀ x ∈ vs, ∃ ba bn bc, x.2 = .slice ba bn bc ∧ bn ≤ bc ∧ StmtsR w ba bn x.1.body
theorem CosR.mono {w w' : World} {a : Option Addr} {n : Nat} {l : List Co} (h : CosR w a n l) (hx : X w w') : CosR w' a n l := by
  obtain ⟨vs, e, h1, h2, h3, h4, h5⟩ := h
  exact ⟨vs, e, h1, h2, h3, h4.mono (hx.fr _), fun x hm => let ⟨ba, bn, bc, e, hc, hs⟩ := h5 x hm; ⟨ba, bn, bc, e, hc, hs.mono hx⟩⟩
theorem CosR.at_ {w : World} {a : Option Addr} {n : Nat} {l : List Co} (h : CosR w a n l) {k : Nat} (hk : k < n) :
    ∃ b off ba bn bc, a = some ⟨b, off, none⟩ ∧ b < w.heap.size ∧ (nth l k).mod.length ≤ maxLen ∧ bn ≤ bc ∧ StmtsR w ba bn (nth l k).body ∧
      w.cell? ⟨b, off + k * 8, none⟩ = some (.int .i64 (nth l k).root) ∧ w.cell? ⟨b, off + k * 8 + 1, none⟩ = some (.string ⟨((nth l k).mod).toArray⟩) ∧ w.cell? ⟨b, off + k * 8 + 2, none⟩ = some (.bool (nth l k).init) ∧
      w.cell? ⟨b, off + k * 8 + 3, none⟩ = some (.int .i64 (nth l k).mode) ∧ w.cell? ⟨b, off + k * 8 + 4, none⟩ = some (.int .i64 (nth l k).stamp) ∧ w.cell? ⟨b, off + k * 8 + 5, none⟩ = some (.int .i64 (nth l k).size) ∧
      w.cell? ⟨b, off + k * 8 + 6, none⟩ = some (.int .i64 (nth l k).hash) ∧ w.cell? ⟨b, off + k * 8 + 7, none⟩ = some (.slice ba bn bc) := by
  obtain ⟨vs, rfl, h1, h2, h3, h4, h5⟩ := h
  have hl : k < vs.length := by simpa [h1] using hk
  obtain ⟨b, off, ha, _, hb, hc⟩ := h4.elem (s := 8) (fun _ => rfl) (by simpa using h1) hk
  obtain ⟨ba, bn, bc, e, hbc, hs⟩ := h5 _ (nth_mem hl)
  rw [nth_map_fstC hl]
  refine ⟨b, off, ba, bn, bc, ha, hb, ?_, hbc, hs, hc 0 (by omega), hc 1 (by omega), hc 2 (by omega), hc 3 (by omega), hc 4 (by omega), hc 5 (by omega), hc 6 (by omega), ?_⟩
  · exact h3 _ (List.mem_map_of_mem (nth_mem hl))
  · rw [← e]; exact hc 7 (by omega)

/-! ### Sizes -/
def szCo (c : Co) (n : Int) : Int := if n - (c.mod.length : Int) < 0 then -1 else szSts c.body (n - (c.mod.length : Int))
def szCos (l : List Co) (n : Int) : Int := if n - (l.length : Int) < 0 then -1 else szL szCo l (n - (l.length : Int))
theorem szCo_le (c : Co) (n : Int) (h : 0 ≤ szCo c n) : szCo c n ≤ n := by
  unfold szCo at h ⊢
  split at h <;> rename_i h1
  · omega
  · rw [if_neg h1]
    have := szSts_le _ _ h
    omega
theorem szCos_le (l : List Co) (n : Int) (h : 0 ≤ szCos l n) : szCos l n ≤ n := by
  unfold szCos at h ⊢
  split at h <;> rename_i h1
  · omega
  · rw [if_neg h1]
    have := (szL_le szCo_le h).1
    omega
theorem szCos_ok {l : List Co} {n : Int} (h : 0 ≤ szCos l n) : (l.length : Int) ≤ n ∧ ∀ c ∈ l, (c.mod.length : Int) ≤ n ∧ (c.body.length : Int) ≤ n ∧ ∀ s ∈ c.body, (s.mod.length : Int) ≤ n ∧ (s.name.length : Int) ≤ n := by
  unfold szCos at h
  split at h <;> rename_i h1
  · omega
  · refine ⟨by omega, fun c hc => ?_⟩
    obtain ⟨m, hm, h2⟩ := (szL_le szCo_le h).2 c hc
    unfold szCo at h2
    split at h2 <;> rename_i h3
    · omega
    · obtain ⟨h4, h5⟩ := szSts_ok h2
      exact ⟨by omega, by omega, fun s hs => by have := h5 s hs; omega⟩
theorem szCos_neg {l : List Co} {n : Int} (h : szCos l n < 0) : szCos l n = -1 := by
  unfold szCos at h ⊢
  by_cases h0 : n - (l.length : Int) < 0
  · rw [if_pos h0]
  · rw [if_neg h0] at h ⊢
    exact szL_neg (by omega) h
theorem CosR.at {w : World} {a : Option Addr} {n : Nat} {l : List Co} (h : CosR w a n l) {m : Int} (hm : m ≤ 1048576) (hz : 0 ≤ szCos l m) : CosAt w 0 a n l := by
  obtain ⟨z1, z2⟩ := szCos_ok hz
  obtain ⟨vs, e, h1, _, _, h4, h5⟩ := h
  refine ⟨vs, e, h1, by omega, fun c hc => by have := (z2 c hc).1; omega, h4, fun x hx => ?_⟩
  obtain ⟨ba, bn, bc, e2, hbc, hS⟩ := h5 x hx
  obtain ⟨_, b3, b4⟩ := z2 x.1 (by rw [e]; exact List.mem_map.2 ⟨x, hx, rfl⟩)
  exact ⟨ba, bn, bc, e2, hbc, hS.at (by omega) (fun s hs => by have := b4 s hs; omega)⟩
theorem szCo_wt {c : Co} {n : Int} (h : 0 ≤ szCo c n) : szCo c n ≤ n - c.body.length := by
  unfold szCo at h ⊢
  split at h <;> rename_i h1
  · omega
  · rw [if_neg h1]
    have := szSts_wt h
    omega
theorem szLC_wt : ∀ {l : List Co} {n : Int}, 0 ≤ szL szCo l n → (wtC l : Int) ≤ 5 * (n - szL szCo l n) + 7 * l.length
  | [], n, _ => by simp [wtC, szL]
  | f :: l, n, h => by
    unfold szL at h ⊢
    by_cases h0 : szCo f n < 0
    · rw [if_pos h0] at h; omega
    · rw [if_neg h0] at h ⊢
      have h1 := szLC_wt h
      have h2 := szCo_wt (c := f) (n := n) (by omega)
      simp only [wtC, List.length_cons]
      omega
/-- The marks of a store that is not too large stay small. -/
theorem szCos_wt {l : List Co} {m : Int} (hm : m ≤ 1048576) (h : 0 ≤ szCos l m) : wtC l ≤ 12582912 := by
  unfold szCos at h
  split at h <;> rename_i h1
  · omega
  · have := szLC_wt h
    omega

/-! ### Arguments -/
section
variable {H : Type} {enc : TypeId × Value → H} {P : Program} {w : World} {held : Bool}
def CoTy (P : Program) (e : TypeId) : Prop := P.cellsOf e = 8 ∧ ∃ (f0 f1 f2 f3 f4 f5 f6 f7 : Field) (u : TypeId), P.underlying e = some (.struct #[f0, f1, f2, f3, f4, f5, f6, f7]) ∧ FieldAt P f0 0 (.int .i64) ∧ FieldAt P f1 1 .string ∧ FieldAt P f2 2 .bool ∧ FieldAt P f3 3 (.int .i64) ∧ FieldAt P f4 4 (.int .i64) ∧
  FieldAt P f5 5 (.int .i64) ∧ FieldAt P f6 6 (.int .i64) ∧ FieldAt P f7 7 (.slice u) ∧ StsTy P f7.type
def CosTy (P : Program) (t : TypeId) : Prop := ∃ e, P.underlying t = some (.slice e) ∧ CoTy P e
theorem elem_co {e : TypeId} (he : CoTy P e) {fuel : Nat} {cs : List Value} {y : DataW H × List MemPlace} (h : DataW.trod enc P w 0 (fun _ => true) held fuel e cs = some y) :
    ∃ x : Co × Value, cs = ccells x ∧ x.1.mod.length ≤ maxLen ∧ ∃ ba bn bc, x.2 = .slice ba bn bc ∧ bn ≤ bc ∧ StmtsR w ba bn x.1.body := by
  obtain ⟨hC, f0, f1, f2, f3, f4, f5, f6, f7, u, hu, h0, h1, h2, h3, h4, h5, h6, h7, hb⟩ := he
  obtain ⟨xs, n, _, _, hlen, hxl, hf⟩ := DataW.trod_struct hu h
  rw [hC] at hlen
  have hx8 : xs.length = 8 := hxl
  match cs, hlen with
  | [c0, c1, c2, c3, c4, c5, c6, c7], _ =>
    obtain ⟨r, e0, _, _⟩ := DataW.trod_int h0.2.1 (field_of h0 (i := 0) (by omega) (by simp) (hf 0 f0 rfl))
    obtain ⟨pk, e1, _, b1⟩ := DataW.trod_string h1.2.1 (field_of h1 (i := 1) (by omega) (by simp) (hf 1 f1 rfl))
    obtain ⟨it, e2, _⟩ := DataW.trod_bool h2.2.1 (field_of h2 (i := 2) (by omega) (by simp) (hf 2 f2 rfl))
    obtain ⟨mo, e3, _, _⟩ := DataW.trod_int h3.2.1 (field_of h3 (i := 3) (by omega) (by simp) (hf 3 f3 rfl))
    obtain ⟨st, e4, _, _⟩ := DataW.trod_int h4.2.1 (field_of h4 (i := 4) (by omega) (by simp) (hf 4 f4 rfl))
    obtain ⟨sz, e5, _, _⟩ := DataW.trod_int h5.2.1 (field_of h5 (i := 5) (by omega) (by simp) (hf 5 f5 rfl))
    obtain ⟨hs, e6, _, _⟩ := DataW.trod_int h6.2.1 (field_of h6 (i := 6) (by omega) (by simp) (hf 6 f6 rfl))
    obtain ⟨ba, bn, bc, l, e7, hbc, hS⟩ := open_stmts hb (field_of h7 (i := 7) (by omega) (by simp) (hf 7 f7 rfl))
    simp only [List.getElem_cons_zero, List.getElem_cons_succ, List.cons.injEq, and_true] at e0 e1 e2 e3 e4 e5 e6 e7
    subst e0 e1 e2 e3 e4 e5 e6 e7
    exact ⟨(⟨r, pk.data.toList, it, mo, st, sz, hs, l⟩, .slice ba bn bc), rfl, b1, ba, bn, bc, rfl, hbc, hS⟩
theorem open_cos {t : TypeId} (ht : CosTy P t) {fuel : Nat} {cs : List Value} {y : DataW H × List MemPlace} (h : DataW.trod enc P w 0 (fun _ => true) held fuel t cs = some y) :
    ∃ a n c l, cs = [.slice a n c] ∧ n ≤ c ∧ CosR w a n l := by
  obtain ⟨e, hu, he⟩ := ht
  rcases open_slice hu h with ⟨rfl, _⟩ | ⟨a, len, cap, m, n, D, Pl, rfl, _, hl, hm, hmm, _, hi⟩
  · exact ⟨none, 0, 0, [], rfl, Nat.le_refl _, [], rfl, rfl, Nat.zero_le _, fun _ h => (by cases h), fun h => absurd h (by omega), fun _ h => (by cases h)⟩
  · simp only [if_true] at hmm
    obtain ⟨l, hll, hp⟩ := list_of (n := len) (p := fun i (x : Co × Value) => (∀ j (hj : j < 8), w.cell? (a.add (i * 8 + j)) = some ((ccells x)[j]'hj)) ∧ x.1.mod.length ≤ maxLen ∧ ∃ ba bn bc, x.2 = .slice ba bn bc ∧ bn ≤ bc ∧ StmtsR w ba bn x.1.body) (fun i hil => by
      obtain ⟨cs', hc, ht'⟩ := hi i (by omega)
      rw [he.1] at hc
      obtain ⟨x, rfl, hb⟩ := elem_co he ht'
      obtain ⟨_, hcl, hat⟩ := World.cells?_some hc
      refine ⟨x, fun j hj => ?_, hb⟩
      rw [← Go.Deep.add_add]
      have := hat j hj
      rw [this]
      exact List.getElem?_eq_getElem _)
    refine ⟨some a, len, cap, l.map (·.1), rfl, hl, l, rfl, by rw [List.length_map]; exact hll.symm, by omega, fun f hf => ?_, sl_of hll.symm (s := 8) (fun _ => rfl) (by omega) (fun i hil j hj => (hp i hil).1 j hj), fun x hx => ?_⟩
    · obtain ⟨x, hx, rfl⟩ := List.mem_map.1 hf
      obtain ⟨k, hk, rfl⟩ := List.getElem_of_mem hx
      have := (hp k (by omega)).2.1
      rwa [nth_eq hk] at this
    · obtain ⟨k, hk, rfl⟩ := List.getElem_of_mem hx
      have := (hp k (by omega)).2.2
      rwa [nth_eq hk] at this
/-- A store as an argument. -/
theorem arg_cos {t : TypeId} (ht : CosTy P t) {r : Reach} {b0 : Nat} {v : Value} {d : DataW H} {p : List MemPlace} (hv : Value.okWide P w r b0 t v) (h : DataW.Trod enc P w 0 (fun _ => true) held t v d p) :
    ∃ a n c l, v = .slice a n c ∧ n ≤ c ∧ CosR w a n l := by
  have ht' := ht
  obtain ⟨e, hu, _⟩ := ht'
  obtain ⟨a0, len, cap, rfl⟩ := okWide_slice hu hv
  obtain ⟨fuel, hf⟩ := h
  obtain ⟨a, n, c, l, e, hnc, hR⟩ := open_cos ht hf
  simp [Value.cells] at e
  obtain ⟨rfl, rfl, rfl⟩ := e
  exact ⟨_, _, _, l, rfl, hnc, hR⟩
end

end Go.Proofs.YtjlooplpjliaiaaDoor
