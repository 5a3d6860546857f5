/- What the law of hashes rests on: plain, no program in sight. No condition. -/
import Derived.Test.YtebnjkjllinabaaDoorGg
namespace Go.Proofs.YtebnjkjllinabaaDoor
open Go.RowKit

theorem fileB_bodyB {f : Fi} (h : fileB f = true) : bodyB f.body = true := by
  unfold fileB at h
  simp only [Bool.and_eq_true] at h
  simp only [*]
theorem find_uniq {l : List Co} {f : Fi} {c : Co} (h : storeB l = true) (hc : c ∈ l) (hs : sameC c f.root (moduleB f) f.init = true) {k : Nat} (hk : k < l.length) (hs2 : sameC (nth l k) f.root (moduleB f) f.init = true) : c = nth l k := by
  obtain ⟨_, a2, _⟩ := storeB_iff.1 h
  obtain ⟨j, hj, rfl⟩ := List.getElem_of_mem hc
  rw [List.pairwise_iff_getElem] at a2
  have key : ∀ i j (hi : i < l.length) (hj : j < l.length), i < j → sameC l[i] f.root (moduleB f) f.init = true → sameC l[j] f.root (moduleB f) f.init = true → False := fun i j hi hj hij h1 h2 => by
    have := a2 i j hi hj hij
    obtain ⟨x1, x2, x3⟩ := sameC_iff.1 h1
    obtain ⟨y1, y2, y3⟩ := sameC_iff.1 h2
    have : sameK l[i] l[j] = true := sameK_iff.2 ⟨by rw [x1, y1], by rw [x2, y2], by rw [x3, y3]⟩
    rw [a2 i j hi hj hij] at this
    cases this
  rw [nth_eq hk] at hs2 ⊢
  rcases Nat.lt_trichotomy j k with h1 | h1 | h1
  · exact (key j k hj hk h1 hs hs2).elim
  · subst h1; rfl
  · exact (key k j hk hj h1 hs2 hs).elim
theorem hash_law {l : List Co} {f : Fi} {mode : Int} (h : loadOk l f mode = true) :
    (∀ c ∈ l, sameC c f.root (moduleB f) f.init = true → c.mode = 2 → hadB l f = true ∧ bodyLd l f = c.body) ∧
    (∀ c ∈ l, sameC c f.root (moduleB f) f.init = true → c.mode = 0 → hadB l f = true → szN (bodyLd l f) = szN f.body) ∧
    ((∀ c ∈ l, sameC c f.root (moduleB f) f.init = true → ¬ c.mode = 2 ∧ ¬ (c.mode = 0 ∧ hadB l f = true)) → hashZ (bodyLd l f) = hashZ f.body) ∧
    bodyB (bodyLd l f) = true ∧ bodyB f.body = true := by
  unfold loadOk at h
  simp only [Bool.and_eq_true] at h
  obtain ⟨⟨h1, h2⟩, h3⟩ := h
  have hb := fileB_bodyB h2
  obtain ⟨a1, a2, a3⟩ := storeB_iff.1 h1
  rcases cix_cases l f with hc | ⟨k, hk, hc⟩
  · obtain ⟨r1, r2, r3⟩ := load_none hc
    rw [r1, r2]
    have hno := List.find?_eq_none.1 (findC_none.2 hc)
    exact ⟨fun c hcm hs => absurd hs (hno c hcm), fun c hcm hs => absurd hs (hno c hcm), fun _ => rfl, hb, hb⟩
  · obtain ⟨r1, r2, r3⟩ := load_some hc
    obtain ⟨_, hkey, _⟩ := findC_some hk hc
    have hu : ∀ c ∈ l, sameC c f.root (moduleB f) f.init = true → c = nth l k := fun c hcm hs => find_uniq h1 hcm hs hk hkey
    have hok := a1 _ (nth_mem hk)
    unfold okCo at hok
    simp only [Bool.and_eq_true, beq_iff_eq] at hok
    obtain ⟨⟨⟨⟨⟨⟨_, _⟩, hmo⟩, _⟩, hbo⟩, hsz⟩, hha⟩ := hok
    rw [r1, r2]
    have hdm := nth_mem hk
    generalize nth l k = d at *
    cases hus : usableB d f
    · rw [if_neg (by simp)]
      refine ⟨fun c hcm hs hm => ?_, fun _ _ _ _ h => Bool.noConfusion h, fun _ => rfl, hb, hb⟩
      rw [hu c hcm hs] at hm
      unfold usableB at hus
      rw [hm] at hus
      simp at hus
    · rw [if_pos rfl]
      refine ⟨fun c hcm hs hm => ⟨rfl, by rw [hu c hcm hs]⟩, fun c hcm hs hm _ => ?_, fun hall => ?_, hbo, hb⟩
      · rw [hu c hcm hs] at hm
        unfold usableB at hus
        rw [hm] at hus
        simp at hus
        have := hus.2
        rw [hsz] at this
        exact_mod_cast this
      · have hd : d ∈ l := hdm
        have := hall d hd hkey
        unfold usableB at hus
        have h0 : ¬ d.mode = 0 := fun e => this.2 ⟨e, rfl⟩
        have h1 : d.mode = 1 := by
          unfold rangeB at hmo
          simp at hmo
          omega
        rw [h1] at hus
        simp at hus
        rw [← hus, hha]
end Go.Proofs.YtebnjkjllinabaaDoor
