/- Several texts in one: Inv, InvG. No condition but lengths. -/
import Derived.Deep.RegionHeld3
namespace Go.Proofs.YtgjfjjhmgbemcaaGreatDoor

theorem act_name {R : Act → World → Prop} {a : Act} {w : World} (h : ∀ W, W = w → R a W) : R a w := h w rfl
def updF {α : Type} (f : Nat → α) (i : Nat) (x : α) : Nat → α := fun j => if j = i then x else f j
theorem updF_same {α : Type} (f : Nat → α) (i : Nat) (x : α) : updF f i x i = x := if_pos rfl
theorem updF_ne {α : Type} (f : Nat → α) {i j : Nat} (x : α) (h : j ≠ i) : updF f i x j = f j := if_neg h
def dstAt (ops : Array Oper) (j : Nat) : Option Nat := (ops[j]?).bind (·.dst)
/-- The region's form: no guard, each operation waits for earlier ones alone, and no two write one slot. -/
def invB (ops : Array Oper) (n : Nat) : Bool :=
  (List.range ops.size).all fun i => match ops[i]? with
    | none => true
    | some o => o.guard.isNone && o.after.all (fun e => !Region.binds .any e || decide (e.on < i)) &&
      (match o.dst with | none => true | some d => decide (d < n) && (List.range ops.size).all (fun j => decide (j = i) || decide (dstAt ops j ≠ some d)))
def putL (l : List (Nat × Nat)) (v : Nat → Value) (t : Array Value) : Array Value := l.foldl (fun t p => t.setIfInBounds p.1 (v p.2)) t
def dstL (ops : Array Oper) : List (Nat × Nat) := (List.range ops.size).filterMap fun j => (dstAt ops j).map fun d => (d, j)
/-- What an operation sees of the slots. -/
structure Seen (ops : Array Oper) (a0 : Act) (L : Nat → Bool) (v : Nat → Value) (a : Act) : Prop where
  defers : a.defers = a0.defers
  size : a.tmps.size = a0.tmps.size
  on : ∀ j d, dstAt ops j = some d → L j = true → a.tmps[d]? = some (v j)
  off : ∀ d, (∀ j, dstAt ops j = some d → L j = false) → a.tmps[d]? = a0.tmps[d]?
theorem invB_at {ops : Array Oper} {n i : Nat} {o : Oper} (h : invB ops n = true) (hi : ops[i]? = some o) :
    o.guard = none ∧ (∀ e ∈ o.after, Region.binds .any e = true → e.on < i) ∧ (∀ d, o.dst = some d → d < n ∧ ∀ j, dstAt ops j = some d → j = i) := by
  have hlt : i < ops.size := by
    rcases Nat.lt_or_ge i ops.size with h | h
    · exact h
    · rw [Array.getElem?_eq_none h] at hi; cases hi
  unfold invB at h
  rw [List.all_eq_true] at h
  have h1 := h i (List.mem_range.2 hlt)
  rw [hi] at h1
  simp only [Bool.and_eq_true] at h1
  obtain ⟨⟨g, e⟩, d⟩ := h1
  refine ⟨by simpa using g, ?_, ?_⟩
  · intro x hx hb
    rw [Array.all_eq_true'] at e
    have := e x hx
    rw [hb] at this
    simpa using this
  · intro d0 hd
    rw [hd] at d
    simp only [Bool.and_eq_true, decide_eq_true_eq, List.all_eq_true, List.mem_range, Bool.or_eq_true] at d
    refine ⟨d.1, fun j hj => ?_⟩
    have hj2 : j < ops.size := by
      rcases Nat.lt_or_ge j ops.size with h | h
      · exact h
      · unfold dstAt at hj; rw [Array.getElem?_eq_none h] at hj; cases hj
    rcases d.2 j hj2 with h | h
    · exact h
    · exact absurd hj h
theorem Seen.eval_on {ops : Array Oper} {a0 a : Act} {L : Nat → Bool} {v : Nat → Value} (h : Seen ops a0 L v a) (j d : Nat) (hd : dstAt ops j = some d) (hL : L j = true) : a.eval (.tmp d) = v j := by
  have := h.on j d hd hL
  show a.tmps.getD d undef = _
  rw [Array.getD_eq_getD_getElem?, this]
  rfl
theorem Seen.eval_off {ops : Array Oper} {a0 a : Act} {L : Nat → Bool} {v : Nat → Value} (h : Seen ops a0 L v a) (d : Nat) (hd : (dstL ops).all (fun p => decide (p.1 ≠ d)) = true) : a.eval (.tmp d) = a0.eval (.tmp d) := by
  have := h.off d (fun j hj => by
    exfalso
    rw [List.all_eq_true] at hd
    have hj2 : j < ops.size := by
      rcases Nat.lt_or_ge j ops.size with h | h
      · exact h
      · unfold dstAt at hj; rw [Array.getElem?_eq_none h] at hj; cases hj
    have := hd (d, j) (by
      unfold dstL
      rw [List.mem_filterMap]
      exact ⟨j, List.mem_range.2 hj2, by rw [hj]; rfl⟩)
    simp at this)
  show a.tmps.getD d undef = a0.tmps.getD d undef
  rw [Array.getD_eq_getD_getElem?, Array.getD_eq_getD_getElem?, this]
theorem Seen.get {ops : Array Oper} {a0 a : Act} {L : Nat → Bool} {v : Nat → Value} (h : Seen ops a0 L v a) (j d : Nat) (hd : dstAt ops j = some d) (hL : L j = true) {u : Value} (hu : v j = u) : a.tmps[d]?.getD undef = u := by
  rw [h.on j d hd hL, ← hu]
  rfl
theorem Seen.old {ops : Array Oper} {a0 a : Act} {L : Nat → Bool} {v : Nat → Value} (h : Seen ops a0 L v a) (d : Nat) (hd : (dstL ops).all (fun p => decide (p.1 ≠ d)) = true) {u : Value} (hu : a0.tmps[d]? = some u) : a.tmps[d]?.getD undef = u := by
  have := h.eval_off d hd
  show a.tmps[d]?.getD undef = u
  have e : a.tmps.getD d undef = a0.tmps.getD d undef := this
  rw [Array.getD_eq_getD_getElem?, Array.getD_eq_getD_getElem?, hu] at e
  exact e
theorem Seen.put {ops : Array Oper} {a0 a : Act} {L : Nat → Bool} {v : Nat → Value} {i : Nat} {o : Oper} (h : Seen ops a0 L v a) (hi : ops[i]? = some o) (hb : invB ops a0.tmps.size = true) (hL : L i = false) (u : Value) :
    Seen ops a0 (updF L i true) (updF v i u) (a.put o.dst u) := by
  obtain ⟨_, _, hd⟩ := invB_at hb hi
  have hdi : dstAt ops i = o.dst := by unfold dstAt; rw [hi]; rfl
  cases ho : o.dst with
  | none =>
    refine ⟨h.defers, h.size, fun j d hj hLj => ?_, fun d hj => ?_⟩
    · have hne : j ≠ i := by rintro rfl; rw [hdi, ho] at hj; cases hj
      rw [updF_ne _ _ hne] at hLj ⊢
      exact h.on j d hj hLj
    · refine h.off d fun j hj2 => ?_
      have hne : j ≠ i := by rintro rfl; rw [hdi, ho] at hj2; cases hj2
      have := hj j hj2
      rwa [updF_ne _ _ hne] at this
  | some d0 =>
    obtain ⟨hlt, hu⟩ := hd d0 ho
    refine ⟨h.defers, by show (a.tmps.setIfInBounds d0 u).size = _; rw [Array.size_setIfInBounds, h.size], fun j d hj hLj => ?_, fun d hj => ?_⟩
    · show (a.tmps.setIfInBounds d0 u)[d]? = _
      by_cases hji : j = i
      · subst hji
        rw [hdi, ho] at hj
        injection hj with hj
        subst hj
        rw [updF_same, Array.getElem?_setIfInBounds_self_of_lt (by rw [h.size]; exact hlt)]
      · rw [updF_ne _ _ hji] at hLj ⊢
        have hne : d0 ≠ d := by rintro rfl; exact hji (hu j hj)
        rw [Array.getElem?_setIfInBounds_ne hne]
        exact h.on j d hj hLj
    · show (a.tmps.setIfInBounds d0 u)[d]? = _
      have hne : d0 ≠ d := by
        rintro rfl
        have := hj i (by rw [hdi, ho])
        rw [updF_same] at this
        cases this
      rw [Array.getElem?_setIfInBounds_ne hne]
      refine h.off d fun j hj2 => ?_
      have := hj j hj2
      by_cases hji : j = i
      · subst hji; rw [updF_same] at this; cases this
      · rwa [updF_ne _ _ hji] at this
theorem putL_off (l : List (Nat × Nat)) (v : Nat → Value) {d : Nat} : ∀ t : Array Value, (∀ p ∈ l, p.1 ≠ d) → (putL l v t)[d]? = t[d]? := by
  induction l with
  | nil => intro t _; rfl
  | cons p l ih =>
    intro t h
    show (putL l v (t.setIfInBounds p.1 (v p.2)))[d]? = _
    rw [ih _ (fun q hq => h q (List.mem_cons_of_mem _ hq)), Array.getElem?_setIfInBounds_ne (h p List.mem_cons_self)]
theorem putL_on (l : List (Nat × Nat)) (v : Nat → Value) {d j : Nat} : ∀ t : Array Value, d < t.size → (d, j) ∈ l → (∀ k, (d, k) ∈ l → k = j) → (putL l v t)[d]? = some (v j) := by
  induction l with
  | nil => intro t _ h; cases h
  | cons p l ih =>
    intro t ht h hu
    show (putL l v (t.setIfInBounds p.1 (v p.2)))[d]? = _
    by_cases hm : (d, j) ∈ l
    · exact ih _ (by rw [Array.size_setIfInBounds]; exact ht) hm (fun k hk => hu k (List.mem_cons_of_mem _ hk))
    · rcases List.mem_cons.1 h with rfl | h
      · rw [putL_off l v _ (fun q hq hqd => hm (by
          obtain ⟨q1, q2⟩ := q
          simp only at hqd
          subst hqd
          have := hu q2 (List.mem_cons_of_mem _ hq)
          subst this
          exact hq))]
        exact Array.getElem?_setIfInBounds_self_of_lt ht
      · exact absurd h hm
theorem mem_dstL {ops : Array Oper} {d j : Nat} : (d, j) ∈ dstL ops ↔ dstAt ops j = some d := by
  unfold dstL
  rw [List.mem_filterMap]
  constructor
  · rintro ⟨k, _, hk⟩
    cases hd : dstAt ops k with
    | none => rw [hd] at hk; cases hk
    | some d' =>
      rw [hd] at hk
      simp only [Option.map_some, Option.some.injEq, Prod.mk.injEq] at hk
      obtain ⟨rfl, rfl⟩ := hk
      exact hd
  · intro h
    have hj2 : j < ops.size := by
      rcases Nat.lt_or_ge j ops.size with h' | h'
      · exact h'
      · unfold dstAt at h; rw [Array.getElem?_eq_none h'] at h; cases h
    exact ⟨j, List.mem_range.2 hj2, by rw [h]; rfl⟩
theorem Seen.all {ops : Array Oper} {a0 a : Act} {L : Nat → Bool} {v : Nat → Value} (h : Seen ops a0 L v a) (hb : invB ops a0.tmps.size = true) (hL : ∀ i, i < ops.size → L i = true) : a = ⟨putL (dstL ops) v a0.tmps, a0.defers⟩ := by
  obtain ⟨t, ds⟩ := a
  have h1 : ds = a0.defers := h.defers
  have h2 : t = putL (dstL ops) v a0.tmps := by
    refine Array.ext_getElem? fun d => ?_
    by_cases hd : ∃ j, dstAt ops j = some d
    · obtain ⟨j, hj⟩ := hd
      have hj2 : j < ops.size := by
        rcases Nat.lt_or_ge j ops.size with h' | h'
        · exact h'
        · unfold dstAt at hj; rw [Array.getElem?_eq_none h'] at hj; cases hj
      have e1 : t[d]? = some (v j) := h.on j d hj (hL j hj2)
      have ho : (ops[j]).dst = some d := by
        unfold dstAt at hj
        rw [Array.getElem?_eq_getElem hj2] at hj
        exact hj
      obtain ⟨_, _, hd2⟩ := invB_at hb (Array.getElem?_eq_getElem hj2)
      obtain ⟨hlt, hu⟩ := hd2 d ho
      rw [e1, putL_on (dstL ops) v _ hlt (mem_dstL.2 hj) (fun k hk => by rw [hu k (mem_dstL.1 hk)])]
    · have e1 : t[d]? = a0.tmps[d]? := h.off d fun j hj => absurd ⟨j, hj⟩ hd
      rw [e1, putL_off (dstL ops) v _ (fun p hp hpd => hd ⟨p.2, by rw [← hpd]; exact mem_dstL.1 hp⟩)]
  rw [h1, h2]

section
variable {P : Program} {ops : Array Oper} {Q : Exit → Act → World → Prop}
/-- The step of one operation: what it leaves keeps the relation. -/
def StepI (P : Program) (ops : Array Oper) (Q : Exit → Act → World → Prop) (I : (Nat → Bool) → (Nat → Value) → World → Prop) (a0 : Act) (i : Nat) : Prop :=
  ∀ o, ops[i]? = some o → ∀ (L : Nat → Bool) (v : Nat → Value) (a : Act) (w : World), I L v w → Seen ops a0 L v a → L i = false → (∀ e ∈ o.after, Region.binds .any e = true → L e.on = true) →
    ∀ K : Act → World → Prop, (∀ u w', I (updF L i true) (updF v i u) w' → K (a.put o.dst u) w') → Oper.wp P o a w K Q
theorem wpOp_step' {i : Nat} {o : Oper} {K : Act → World → Prop} {a : Act} {w : World} (ho : ops[i]? = some o) (hg : o.guard = none) (h : Oper.wp P o a w K Q) : wpOp P ops Q i K a w := by
  unfold wpOp
  rw [ho]
  have hw : Region.wanted o (yielded ops a.tmps) = true := by unfold Region.wanted; rw [hg]
  show if Region.wanted o (yielded ops a.tmps) = true then _ else _
  rw [if_pos hw]
  exact .inl h
theorem wpAny_inv {I : (Nat → Bool) → (Nat → Value) → World → Prop} {a0 : Act} (hb : invB ops a0.tmps.size = true) (hs : ∀ i, i < ops.size → StepI P ops Q I a0 i)
    (he : ∀ v w, I (fun i => decide (i < ops.size)) v w → Q .normal ⟨putL (dstL ops) v a0.tmps, a0.defers⟩ w) :
    ∀ (fuel : Nat) (A : Array Bool) (v : Nat → Value) (a : Act) (w : World), A.size = ops.size → A.toList.count false ≤ fuel → I (fun i => A.getD i false) v w → Seen ops a0 (fun i => A.getD i false) v a → wpAny P .any ops Q fuel A a w := by
  have hfin : ∀ (A : Array Bool) (v : Nat → Value) (a : Act) (w : World), A.size = ops.size → I (fun i => A.getD i false) v w → Seen ops a0 (fun i => A.getD i false) v a → Region.ready .any ops A = [] → Q .normal a w := by
    intro A v a w hA hI hS hr
    have hall : ∀ n i, i < n → i < ops.size → A.getD i false = true := by
      intro n
      induction n with
      | zero => intro i hi; omega
      | succ n ih =>
        intro i hi hio
        by_cases hin : i < n
        · exact ih i hin hio
        · obtain rfl : i = n := by omega
          rcases hc : A.getD i false with _ | _
          · exfalso
            have hmem : i ∈ Region.ready .any ops A := by
              rw [mem_ready]
              refine ⟨?_, ops[i], Array.getElem?_eq_getElem hio, fun e he hbd => ?_⟩
              · have hlt : i < A.size := by omega
                simp [hlt] at hc ⊢
                exact hc
              · obtain ⟨_, he2, _⟩ := invB_at hb (Array.getElem?_eq_getElem hio)
                have := he2 e he hbd
                exact ih e.on this (by omega)
            rw [hr] at hmem
            cases hmem
          · rfl
    have hL : (fun i => A.getD i false) = (fun i => decide (i < ops.size)) := by
      funext i
      by_cases hio : i < ops.size
      · rw [hall (i + 1) i (by omega) hio, decide_eq_true hio]
      · rw [decide_eq_false hio]
        have : ¬ i < A.size := by omega
        simp [this]
    rw [hS.all hb (fun i hi => hall (i + 1) i (by omega) hi)]
    rw [hL] at hI
    exact he v w hI
  intro fuel
  induction fuel with
  | zero =>
    intro A v a w hA hc hI hS
    have hr : Region.ready .any ops A = [] := by
      rw [List.eq_nil_iff_forall_not_mem]
      intro i hi
      have h0 := (mem_ready.1 hi).1
      obtain ⟨_, o, ho, _⟩ := mem_ready.1 hi
      have hlt : i < A.size := by
        rcases Nat.lt_or_ge i ops.size with h | h
        · omega
        · rw [Array.getElem?_eq_none h] at ho; cases ho
      have h1 : A[i] = false := by simpa [hlt] using h0
      have h2 : false ∈ A.toList := by rw [← h1]; exact Array.getElem_mem_toList hlt
      have := List.count_pos_iff.2 h2
      omega
    exact ⟨hr, hfin A v a w hA hI hS hr⟩
  | succ fuel ih =>
    intro A v a w hA hc hI hS
    refine ⟨hfin A v a w hA hI hS, fun i hi => ?_⟩
    obtain ⟨h0, o, ho, hall⟩ := mem_ready.1 hi
    have hio : i < ops.size := by
      rcases Nat.lt_or_ge i ops.size with h | h
      · exact h
      · rw [Array.getElem?_eq_none h] at ho; cases ho
    have hlt : i < A.size := by omega
    have h1 : A[i] = false := by simpa [hlt] using h0
    have hLi : A.getD i false = false := by simp [hlt, h1]
    obtain ⟨hg, _, _⟩ := invB_at hb ho
    have hcount : (A.setIfInBounds i true).toList.count false ≤ fuel := by
      rw [Array.toList_setIfInBounds]
      have h2 : (A.toList.set i true).count false + 1 = A.toList.count false := by
        have hl : i < A.toList.length := by simpa using hlt
        have e1 := List.count_set (l := A.toList) (a := true) (b := false) hl
        have h1' : A.toList[i] = false := by simpa using h1
        rw [h1'] at e1
        have h2 : false ∈ A.toList := by rw [← h1']; exact List.getElem_mem hl
        have := List.count_pos_iff.2 h2
        rw [e1]
        simp only [beq_self_eq_true, if_true, show (true == false) = false from rfl, Bool.false_eq_true, if_false]
        omega
      omega
    have hLup : (fun j => (A.setIfInBounds i true).getD j false) = updF (fun j => A.getD j false) i true := by
      funext j
      by_cases hji : j = i
      · subst hji
        rw [updF_same]
        simp [hlt]
      · rw [updF_ne _ _ hji]
        exact getD_set_ne false (Ne.symm hji)
    refine wpOp_step' ho hg ?_
    refine hs i hio o ho _ v a w hI hS hLi hall _ (fun u w' hI' => ?_)
    refine ih (A.setIfInBounds i true) (updF v i u) _ w' (by rw [Array.size_setIfInBounds]; exact hA) hcount ?_ ?_
    · rw [hLup]; exact hI'
    · rw [hLup]; exact hS.put ho hb hLi u
theorem wp_region_inv {id : Nat} {a0 : Act} {w : World} (I : (Nat → Bool) → (Nat → Value) → World → Prop) (hm : P.follows .mixedOrders = true) (hb : invB ops a0.tmps.size = true)
    (h0 : ∀ v, I (fun _ => false) v w.drew) (hs : ∀ i, i < ops.size → StepI P ops Q I a0 i) {l : List (Nat × Nat)} (hl : dstL ops = l) {n : Nat} (hn : ops.size = n)
    (he : ∀ v w, I (fun i => decide (i < n)) v w → Q .normal ⟨putL l v a0.tmps, a0.defers⟩ w) : (Code.region id ops true).wp P Q a0 w := by
  subst hl hn
  have hL : (fun i => (Array.replicate ops.size false).getD i false) = (fun _ => false) := by
    funext i
    by_cases h : i < ops.size <;> simp [h]
  refine wp_region_any hm (wpAny_inv hb hs he ops.size _ (fun _ => undef) a0 _ (by simp) (by simp) (by rw [hL]; exact h0 _) ?_)
  rw [hL]
  exact ⟨rfl, rfl, fun _ _ _ h => (by cases h), fun d _ => rfl⟩
end

end Go.Proofs.YtgjfjjhmgbemcaaGreatDoor

namespace Go.Proofs.YtgjfjjhmgbemcaaGreatDoor

def invBG (ops : Array Oper) (n : Nat) : Bool :=
  (List.range ops.size).all fun i => match ops[i]? with
    | none => true
    | some o => o.after.all (fun e => !Region.binds .any e || decide (e.on < i)) &&
      (match o.dst with | none => true | some d => decide (d < n) && (List.range ops.size).all (fun j => decide (j = i) || decide (dstAt ops j ≠ some d)))
theorem invBG_at {ops : Array Oper} {n i : Nat} {o : Oper} (h : invBG ops n = true) (hi : ops[i]? = some o) :
    True ∧ (∀ e ∈ o.after, Region.binds .any e = true → e.on < i) ∧ (∀ d, o.dst = some d → d < n ∧ ∀ j, dstAt ops j = some d → j = i) := by
  have hlt : i < ops.size := by
    rcases Nat.lt_or_ge i ops.size with h | h
    · exact h
    · rw [Array.getElem?_eq_none h] at hi; cases hi
  unfold invBG at h
  rw [List.all_eq_true] at h
  have h1 := h i (List.mem_range.2 hlt)
  rw [hi] at h1
  simp only [Bool.and_eq_true] at h1
  obtain ⟨e, d⟩ := h1
  refine ⟨trivial, ?_, ?_⟩
  · intro x hx hb
    rw [Array.all_eq_true'] at e
    have := e x hx
    rw [hb] at this
    simpa using this
  · intro d0 hd
    rw [hd] at d
    simp only [Bool.and_eq_true, decide_eq_true_eq, List.all_eq_true, List.mem_range, Bool.or_eq_true] at d
    refine ⟨d.1, fun j hj => ?_⟩
    have hj2 : j < ops.size := by
      rcases Nat.lt_or_ge j ops.size with h | h
      · exact h
      · unfold dstAt at hj; rw [Array.getElem?_eq_none h] at hj; cases hj
    rcases d.2 j hj2 with h | h
    · exact h
    · exact absurd hj h
theorem Seen.putG {ops : Array Oper} {a0 a : Act} {L : Nat → Bool} {v : Nat → Value} {i : Nat} {o : Oper} (h : Seen ops a0 L v a) (hi : ops[i]? = some o) (hb : invBG ops a0.tmps.size = true) (hL : L i = false) (u : Value) :
    Seen ops a0 (updF L i true) (updF v i u) (a.put o.dst u) := by
  obtain ⟨_, _, hd⟩ := invBG_at hb hi
  have hdi : dstAt ops i = o.dst := by unfold dstAt; rw [hi]; rfl
  cases ho : o.dst with
  | none =>
    refine ⟨h.defers, h.size, fun j d hj hLj => ?_, fun d hj => ?_⟩
    · have hne : j ≠ i := by rintro rfl; rw [hdi, ho] at hj; cases hj
      rw [updF_ne _ _ hne] at hLj ⊢
      exact h.on j d hj hLj
    · refine h.off d fun j hj2 => ?_
      have hne : j ≠ i := by rintro rfl; rw [hdi, ho] at hj2; cases hj2
      have := hj j hj2
      rwa [updF_ne _ _ hne] at this
  | some d0 =>
    obtain ⟨hlt, hu⟩ := hd d0 ho
    refine ⟨h.defers, by show (a.tmps.setIfInBounds d0 u).size = _; rw [Array.size_setIfInBounds, h.size], fun j d hj hLj => ?_, fun d hj => ?_⟩
    · show (a.tmps.setIfInBounds d0 u)[d]? = _
      by_cases hji : j = i
      · subst hji
        rw [hdi, ho] at hj
        injection hj with hj
        subst hj
        rw [updF_same, Array.getElem?_setIfInBounds_self_of_lt (by rw [h.size]; exact hlt)]
      · rw [updF_ne _ _ hji] at hLj ⊢
        have hne : d0 ≠ d := by rintro rfl; exact hji (hu j hj)
        rw [Array.getElem?_setIfInBounds_ne hne]
        exact h.on j d hj hLj
    · show (a.tmps.setIfInBounds d0 u)[d]? = _
      have hne : d0 ≠ d := by
        rintro rfl
        have := hj i (by rw [hdi, ho])
        rw [updF_same] at this
        cases this
      rw [Array.getElem?_setIfInBounds_ne hne]
      refine h.off d fun j hj2 => ?_
      have := hj j hj2
      by_cases hji : j = i
      · subst hji; rw [updF_same] at this; cases this
      · rwa [updF_ne _ _ hji] at this
theorem Seen.allG {ops : Array Oper} {a0 a : Act} {L : Nat → Bool} {v : Nat → Value} (h : Seen ops a0 L v a) (hb : invBG ops a0.tmps.size = true) (hL : ∀ i, i < ops.size → L i = true) : a = ⟨putL (dstL ops) v a0.tmps, a0.defers⟩ := by
  obtain ⟨t, ds⟩ := a
  have h1 : ds = a0.defers := h.defers
  have h2 : t = putL (dstL ops) v a0.tmps := by
    refine Array.ext_getElem? fun d => ?_
    by_cases hd : ∃ j, dstAt ops j = some d
    · obtain ⟨j, hj⟩ := hd
      have hj2 : j < ops.size := by
        rcases Nat.lt_or_ge j ops.size with h' | h'
        · exact h'
        · unfold dstAt at hj; rw [Array.getElem?_eq_none h'] at hj; cases hj
      have e1 : t[d]? = some (v j) := h.on j d hj (hL j hj2)
      have ho : (ops[j]).dst = some d := by
        unfold dstAt at hj
        rw [Array.getElem?_eq_getElem hj2] at hj
        exact hj
      obtain ⟨_, _, hd2⟩ := invBG_at hb (Array.getElem?_eq_getElem hj2)
      obtain ⟨hlt, hu⟩ := hd2 d ho
      rw [e1, putL_on (dstL ops) v _ hlt (mem_dstL.2 hj) (fun k hk => by rw [hu k (mem_dstL.1 hk)])]
    · have e1 : t[d]? = a0.tmps[d]? := h.off d fun j hj => absurd ⟨j, hj⟩ hd
      rw [e1, putL_off (dstL ops) v _ (fun p hp hpd => hd ⟨p.2, by rw [← hpd]; exact mem_dstL.1 hp⟩)]
  rw [h1, h2]

section
variable {P : Program} {ops : Array Oper} {Q : Exit → Act → World → Prop}
/-- The step of one operation: what it leaves keeps the relation. -/
def StepG (P : Program) (ops : Array Oper) (Q : Exit → Act → World → Prop) (I : (Nat → Bool) → (Nat → Value) → World → Prop) (a0 : Act) (i : Nat) : Prop :=
  ∀ o, ops[i]? = some o → ∀ (L : Nat → Bool) (v : Nat → Value) (a : Act) (w : World), I L v w → Seen ops a0 L v a → L i = false → (∀ e ∈ o.after, Region.binds .any e = true → L e.on = true) →
    ∀ K : Act → World → Prop, (∀ u w', I (updF L i true) (updF v i u) w' → K (a.put o.dst u) w') → if Region.wanted o (yielded ops a.tmps) = true then Oper.wp P o a w K Q else K (a.put o.dst undef) w
theorem wpOp_stepG {i : Nat} {o : Oper} {K : Act → World → Prop} {a : Act} {w : World} (ho : ops[i]? = some o) (h : if Region.wanted o (yielded ops a.tmps) = true then Oper.wp P o a w K Q else K (a.put o.dst undef) w) : wpOp P ops Q i K a w := by
  unfold wpOp
  rw [ho]
  show if Region.wanted o (yielded ops a.tmps) = true then _ else _
  by_cases hw : Region.wanted o (yielded ops a.tmps) = true
  · rw [if_pos hw] at h ⊢
    exact .inl h
  · rw [if_neg hw] at h ⊢
    exact h
theorem wantY {c A B : Prop} [Decidable c] (hc : c) (h : A) : if c then A else B := by rw [if_pos hc]; exact h
theorem wantN {c A B : Prop} [Decidable c] (hc : ¬ c) (h : B) : if c then A else B := by rw [if_neg hc]; exact h
theorem Seen.yield {ops : Array Oper} {a0 a : Act} {L : Nat → Bool} {v : Nat → Value} (h : Seen ops a0 L v a) (j d : Nat) (hd : dstAt ops j = some d) (hL : L j = true) {b : Bool} (hv : v j = .bool b) : yielded ops a.tmps j = some b := by
  have h1 := h.on j d hd hL
  unfold dstAt at hd
  unfold yielded
  rw [hd]
  show (match a.tmps[d]? with | some (.bool b) => some b | _ => none) = some b
  rw [h1, hv]
theorem wanted_of {ops : Array Oper} {o : Oper} {t : Array Value} {j : Nat} {want b : Bool} (hg : o.guard = some (j, want)) (hy : yielded ops t j = some b) : Region.wanted o (yielded ops t) = (b == want) := by
  unfold Region.wanted
  rw [hg]
  show (yielded ops t j == some want) = _
  rw [hy]
  cases b <;> cases want <;> rfl
theorem wpAny_invG {I : (Nat → Bool) → (Nat → Value) → World → Prop} {a0 : Act} (hb : invBG ops a0.tmps.size = true) (hs : ∀ i, i < ops.size → StepG P ops Q I a0 i)
    (he : ∀ v w, I (fun i => decide (i < ops.size)) v w → Q .normal ⟨putL (dstL ops) v a0.tmps, a0.defers⟩ w) :
    ∀ (fuel : Nat) (A : Array Bool) (v : Nat → Value) (a : Act) (w : World), A.size = ops.size → A.toList.count false ≤ fuel → I (fun i => A.getD i false) v w → Seen ops a0 (fun i => A.getD i false) v a → wpAny P .any ops Q fuel A a w := by
  have hfin : ∀ (A : Array Bool) (v : Nat → Value) (a : Act) (w : World), A.size = ops.size → I (fun i => A.getD i false) v w → Seen ops a0 (fun i => A.getD i false) v a → Region.ready .any ops A = [] → Q .normal a w := by
    intro A v a w hA hI hS hr
    have hall : ∀ n i, i < n → i < ops.size → A.getD i false = true := by
      intro n
      induction n with
      | zero => intro i hi; omega
      | succ n ih =>
        intro i hi hio
        by_cases hin : i < n
        · exact ih i hin hio
        · obtain rfl : i = n := by omega
          rcases hc : A.getD i false with _ | _
          · exfalso
            have hmem : i ∈ Region.ready .any ops A := by
              rw [mem_ready]
              refine ⟨?_, ops[i], Array.getElem?_eq_getElem hio, fun e he hbd => ?_⟩
              · have hlt : i < A.size := by omega
                simp [hlt] at hc ⊢
                exact hc
              · obtain ⟨_, he2, _⟩ := invBG_at hb (Array.getElem?_eq_getElem hio)
                have := he2 e he hbd
                exact ih e.on this (by omega)
            rw [hr] at hmem
            cases hmem
          · rfl
    have hL : (fun i => A.getD i false) = (fun i => decide (i < ops.size)) := by
      funext i
      by_cases hio : i < ops.size
      · rw [hall (i + 1) i (by omega) hio, decide_eq_true hio]
      · rw [decide_eq_false hio]
        have : ¬ i < A.size := by omega
        simp [this]
    rw [hS.allG hb (fun i hi => hall (i + 1) i (by omega) hi)]
    rw [hL] at hI
    exact he v w hI
  intro fuel
  induction fuel with
  | zero =>
    intro A v a w hA hc hI hS
    have hr : Region.ready .any ops A = [] := by
      rw [List.eq_nil_iff_forall_not_mem]
      intro i hi
      have h0 := (mem_ready.1 hi).1
      obtain ⟨_, o, ho, _⟩ := mem_ready.1 hi
      have hlt : i < A.size := by
        rcases Nat.lt_or_ge i ops.size with h | h
        · omega
        · rw [Array.getElem?_eq_none h] at ho; cases ho
      have h1 : A[i] = false := by simpa [hlt] using h0
      have h2 : false ∈ A.toList := by rw [← h1]; exact Array.getElem_mem_toList hlt
      have := List.count_pos_iff.2 h2
      omega
    exact ⟨hr, hfin A v a w hA hI hS hr⟩
  | succ fuel ih =>
    intro A v a w hA hc hI hS
    refine ⟨hfin A v a w hA hI hS, fun i hi => ?_⟩
    obtain ⟨h0, o, ho, hall⟩ := mem_ready.1 hi
    have hio : i < ops.size := by
      rcases Nat.lt_or_ge i ops.size with h | h
      · exact h
      · rw [Array.getElem?_eq_none h] at ho; cases ho
    have hlt : i < A.size := by omega
    have h1 : A[i] = false := by simpa [hlt] using h0
    have hLi : A.getD i false = false := by simp [hlt, h1]
    obtain ⟨hg, _, _⟩ := invBG_at hb ho
    have hcount : (A.setIfInBounds i true).toList.count false ≤ fuel := by
      rw [Array.toList_setIfInBounds]
      have h2 : (A.toList.set i true).count false + 1 = A.toList.count false := by
        have hl : i < A.toList.length := by simpa using hlt
        have e1 := List.count_set (l := A.toList) (a := true) (b := false) hl
        have h1' : A.toList[i] = false := by simpa using h1
        rw [h1'] at e1
        have h2 : false ∈ A.toList := by rw [← h1']; exact List.getElem_mem hl
        have := List.count_pos_iff.2 h2
        rw [e1]
        simp only [beq_self_eq_true, if_true, show (true == false) = false from rfl, Bool.false_eq_true, if_false]
        omega
      omega
    have hLup : (fun j => (A.setIfInBounds i true).getD j false) = updF (fun j => A.getD j false) i true := by
      funext j
      by_cases hji : j = i
      · subst hji
        rw [updF_same]
        simp [hlt]
      · rw [updF_ne _ _ hji]
        exact getD_set_ne false (Ne.symm hji)
    refine wpOp_stepG ho ?_
    refine hs i hio o ho _ v a w hI hS hLi hall _ (fun u w' hI' => ?_)
    refine ih (A.setIfInBounds i true) (updF v i u) _ w' (by rw [Array.size_setIfInBounds]; exact hA) hcount ?_ ?_
    · rw [hLup]; exact hI'
    · rw [hLup]; exact hS.putG ho hb hLi u
theorem wp_region_invG {id : Nat} {a0 : Act} {w : World} (I : (Nat → Bool) → (Nat → Value) → World → Prop) (hm : P.follows .mixedOrders = true) (hb : invBG ops a0.tmps.size = true)
    (h0 : ∀ v, I (fun _ => false) v w.drew) (hs : ∀ i, i < ops.size → StepG P ops Q I a0 i) {l : List (Nat × Nat)} (hl : dstL ops = l) {n : Nat} (hn : ops.size = n)
    (he : ∀ v w, I (fun i => decide (i < n)) v w → Q .normal ⟨putL l v a0.tmps, a0.defers⟩ w) : (Code.region id ops true).wp P Q a0 w := by
  subst hl hn
  have hL : (fun i => (Array.replicate ops.size false).getD i false) = (fun _ => false) := by
    funext i
    by_cases h : i < ops.size <;> simp [h]
  refine wp_region_any hm (wpAny_invG hb hs he ops.size _ (fun _ => undef) a0 _ (by simp) (by simp) (by rw [hL]; exact h0 _) ?_)
  rw [hL]
  exact ⟨rfl, rfl, fun _ _ _ h => (by cases h), fun d _ => rfl⟩
end

end Go.Proofs.YtgjfjjhmgbemcaaGreatDoor
