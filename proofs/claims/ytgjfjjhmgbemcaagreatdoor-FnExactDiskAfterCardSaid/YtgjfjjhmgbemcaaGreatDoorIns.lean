/- Lists of texts in the reference: whether a text is there, insertion. No condition but lengths. -/
import Derived.Test.YtgjfjjhmgbemcaaGreatDoorSorted
import Derived.Test.YtgjfjjhmgbemcaaGreatDoorIe
import Derived.Maps.AppendAt
namespace Go.Proofs.YtgjfjjhmgbemcaaGreatDoor
open Go.RowKit

/-- append of a literal onto an owned slice: what is left lies where it lay, or in a new block. -/
theorem wpList_append_gat {P : Program} {ops : Array Oper} {rest : List Oper} {o : Oper} {a : Act} {Q : Exit → Act → World → Prop} {t e size bytes : Nat} (hT : AppT P t e size bytes) (hgd : o.guard = none) (s x : Operand)
    (ho : o.op = .call { callee := .builtin .append, args := #[s, x], argTypes := #[t, t] }) {w : World} {B b : Nat} {n c : Nat} {xs : List Value} {cs : Array Value}
    (hown : w.ownsRow B e size (.slice (some ⟨b, 0, none⟩) n c) n xs) (hs : a.eval s = .slice (some ⟨b, 0, none⟩) n c) {g : Nat} (hx : a.eval x = .slice (some ⟨g, 0, none⟩) 1 1) (hg : g = w.heap.size) (hcs : cs.size = size) (h1 : ∀ u ∈ cs.toList, u.oneCell' = true)
    (hb : (n + 1) * bytes ≤ 140737488355328) (hn : n + 1 ≤ 9223372036854775807) (hBw : B ≤ w.heap.size)
    (h : ∀ g' c' w', w'.ownsRow B e size (.slice (some ⟨g', 0, none⟩) (n + 1) c') (n + 1) (xs ++ cs.toList) → (w.alloc (.cells cs e)).grownBy w' (some b) → (g' = b ∨ w.heap.size < g') → wpList P ops Q rest (a.put o.dst (.slice (some ⟨g', 0, none⟩) (n + 1) c')) w') :
    wpList P ops Q (o :: rest) a (w.alloc (.cells cs e)) := by
  subst hg
  obtain ⟨i, z, hi, hz, hsize, hby, hzs⟩ := hT.hi
  refine wpList_append_own_at _ hgd s x t ho B e i z size bytes hT.ht hi hz hsize hby hzs hT.hsz _ n xs hs (hown.alloc _) ⟨w.heap.size, 0, none⟩ 1 1 cs.toList hx (by simp [hcs])
    (fun j u hu => ?_) h1 (by unfold maxLen; omega) hb (by simp; omega) ?_
  · have hadd : (⟨w.heap.size, 0, none⟩ : Addr).add j = ⟨w.heap.size, j, none⟩ := by unfold Addr.add; split <;> simp_all
    rw [hadd, World.cell?_alloc_new]
    simpa using hu
  · intro v' w' hown' hgr _ hat
    obtain ⟨a', c', rfl⟩ := own_slice hown'
    obtain ⟨g', rfl, _, _⟩ := own_form hown' (by omega)
    refine h g' c' w' hown' hgr ?_
    rcases hat with e | e
    · left
      injection e
    · right
      have e2 : some g' = some (w.heap.size + 1) := by rw [← World.size_alloc w (.cells cs _)]; exact e
      injection e2 with e2
      omega
/-- append of a whole slice onto an owned one that is not empty: what is left lies where it lay, or in a new block. -/
theorem wpList_append_slat {P : Program} {ops : Array Oper} {rest : List Oper} {o : Oper} {a : Act} {Q : Exit → Act → World → Prop} {t e size bytes : Nat} (hT : AppT P t e size bytes) (hgd : o.guard = none) (s x : Operand)
    (ho : o.op = .call { callee := .builtin .append, args := #[s, x], argTypes := #[t, t] }) {w : World} {B B' b n c0 : Nat} {xs : List Value}
    (hown : w.ownsRow B e size (.slice (some ⟨b, 0, none⟩) n c0) n xs) (h0 : 0 < n) (hs : a.eval s = .slice (some ⟨b, 0, none⟩) n c0) {sa : Option Addr} {m c : Nat} {news : List Value} (hx : a.eval x = .slice sa m c) (hsl : Sl w B' sa m news) (hl : news.length = m * size) (h1 : ∀ u ∈ news, u.oneCell' = true)
    (hb : (n + m) * bytes ≤ 140737488355328) (hn : n + m ≤ maxLen) (hBw : B ≤ w.heap.size)
    (h : ∀ g' c' w', w'.ownsRow B e size (.slice (some ⟨g', 0, none⟩) (n + m) c') (n + m) (xs ++ news) → w.grownBy w' (some b) → (g' = b ∨ w.heap.size ≤ g') → wpList P ops Q rest (a.put o.dst (.slice (some ⟨g', 0, none⟩) (n + m) c')) w') :
    wpList P ops Q (o :: rest) a w := by
  obtain ⟨i, z, hi, hz, hsize, hby, hzs⟩ := hT.hi
  cases sa with
  | none =>
    have hm : m = 0 := by
      rcases Nat.eq_zero_or_pos m with h0 | h0
      · exact h0
      · obtain ⟨b, off, ha, _⟩ := hsl h0; cases ha
    subst hm
    have hnil : news = [] := by rw [Nat.zero_mul] at hl; exact List.length_eq_zero_iff.1 hl
    subst hnil
    exact wpList_append_none_c hgd s x t ho B e i size hT.ht hi _ n c xs hs hown hx (h b c0 w (by simpa using hown) (World.grownBy.refl _ _) (.inl rfl))
  | some ad =>
    refine wpList_append_own_at _ hgd s x t ho B e i z size bytes hT.ht hi hz hsize hby hzs hT.hsz _ n xs hs hown ad m c news hx hl (fun j u hu => ?_) h1 hn hb hBw ?_
    · have hj : j < news.length := (List.getElem?_eq_some_iff.1 hu).1
      have hm : 0 < m := by
        rcases Nat.eq_zero_or_pos m with h0 | h0
        · subst h0; omega
        · exact h0
      obtain ⟨b, off, ha, _, hb, hc⟩ := hsl hm
      injection ha with ha
      subst ha
      have hadd : (⟨b, off, none⟩ : Addr).add j = ⟨b, off + j, none⟩ := by unfold Addr.add; split <;> simp_all
      rw [hadd, hc j hj, ← hu, List.getElem?_eq_getElem hj]
    · intro v' w' hown' hgr _ hat
      obtain ⟨a', c', rfl⟩ := own_slice hown'
      obtain ⟨g', rfl, _, _⟩ := own_form hown' (by omega)
      refine h g' c' w' hown' hgr ?_
      rcases hat with e | e
      · left
        injection e
      · right
        have e2 : some g' = some w.heap.size := e
        injection e2 with e2
        omega
theorem ret_slice {a : Option Addr} {n m c : Nat} (h : n = m) : Ending.returned (.slice a n c) = .returned (.slice a m c) := by rw [h]
theorem own_kept_low {w w' : World} {B e size n g : Nat} {v : Value} {xs : List Value} (h : w.ownsRow B e size v n xs) (hg : w.grownBy w' (some g)) (hlt : g < B) : w'.ownsRow B e size v n xs :=
  h.kept hg (.inr fun e => by have := (h.lt g e).1; omega)
theorem Sl.drop {w : World} {B g n p : Nat} {l : List (List UInt8)} (h : Sl w B (some ⟨g, 0, none⟩) n (strs l)) (hl : l.length = n) (hp : p ≤ n) : Sl w B (some ⟨g, p, none⟩) (n - p) (strs (l.drop p)) := by
  intro h0
  obtain ⟨b, off, e, hB, hb, hc⟩ := h (by omega)
  injection e with e
  injection e with e1 e2
  subst e1 e2
  refine ⟨g, p, rfl, hB, hb, fun i hi => ?_⟩
  rw [strs_map, List.length_map, List.length_drop] at hi
  have h2 := hc (p + i) (by rw [strs_map, List.length_map]; omega)
  rw [Nat.zero_add] at h2
  rw [h2]
  congr 1
  simp [strs_map]
end Go.Proofs.YtgjfjjhmgbemcaaGreatDoor
