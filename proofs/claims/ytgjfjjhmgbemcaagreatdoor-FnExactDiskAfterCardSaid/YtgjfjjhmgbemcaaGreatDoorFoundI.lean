/- The names that are found, the program's: the walks. No condition but lengths. -/
import Derived.Test.YtgjfjjhmgbemcaaGreatDoorFoundW
import Derived.Deep.RegionHeldLaw
namespace Go.Proofs.YtgjfjjhmgbemcaaGreatDoor
open Go.RowKit

theorem run_append_zero_k {P : Program} {w : World} (base : Nat) (t ty e : TypeId) (i : TypeInfo) (size : Nat) (ht : P.underlying t = some (.slice e)) (hi : P.info? e = some i)
    (v : Value) (n c : Nat) (sa : Option Addr) (xs : List Value) (hown : w.ownsRow base e size v n xs) :
    (Builtin.append_ #[t, t] ty #[v, .slice sa 0 c]).run P w = .ok v w := by
  rcases hown.2 with ⟨rfl, rfl⟩ | ⟨g, cap, cur, rfl, _, _, hnc, _⟩
  · cases sa <;> simp [Builtin.append_, run_underlying ht, sizeOf, typeInfo, hi, Builtin.lenOf, Builtin.firstCells, loadCells, loadCellsFrom]
  · cases sa <;> simp [Builtin.append_, run_underlying ht, sizeOf, typeInfo, hi, Builtin.lenOf, Builtin.firstCells, hnc, storeCells, loadCells, loadCellsFrom]
/-- append of a whole slice, wherever it lies, as one step of a region that draws its order. -/
theorem step_append_slK {P : Program} {ops : Array Oper} {o : Oper} {a : Act} {K : Act → World → Prop} {Q : Exit → Act → World → Prop} {E : Prop} {t e size bytes : Nat} (hT : AppT P t e size bytes) (hgd : o.guard = none) (s x : Operand)
    (ho : o.op = .call { callee := .builtin .append, args := #[s, x], argTypes := #[t, t] }) {w : World} {B B' : Nat} {v : Value} {n : Nat} {xs : List Value}
    (hown : w.ownsRow B e size v n xs) (hs : a.eval s = v) {sa : Option Addr} {m c : Nat} {news : List Value} (hx : a.eval x = .slice sa m c) (hsl : Sl w B' sa m news) (hl : news.length = m * size) (h1 : ∀ u ∈ news, u.oneCell' = true)
    (hb : (n + m) * bytes ≤ 140737488355328) (hn : n + m ≤ maxLen) (hBw : B ≤ w.heap.size)
    (h : ∀ a' c' w', w'.ownsRow B e size (.slice a' (n + m) c') (n + m) (xs ++ news) → w.grownBy w' v.ownBlock → (∀ g, v.ownBlock = some g → B ≤ g) → K (a.put o.dst (.slice a' (n + m) c')) w') :
    if Region.wanted o (yielded ops a.tmps) = true then Oper.wp P o a w K Q else E := by
  obtain ⟨i, z, hi, hz, hsize, hby, hzs⟩ := hT.hi
  rcases Nat.eq_zero_or_pos m with h0 | h0
  · subst h0
    have hnil : news = [] := by rw [Nat.zero_mul] at hl; exact List.length_eq_zero_iff.1 hl
    subst hnil
    obtain ⟨a', c', rfl⟩ := own_slice hown
    have hrun := run_append_zero_k (P := P) (w := w) B t o.type e i size hT.ht hi _ n c sa xs hown
    have hw : Region.wanted o (yielded ops a.tmps) = true := by simp [Region.wanted, hgd]
    rw [if_pos hw]
    unfold Oper.wp
    simp [execOp, ho, resolve, invoke, builtin, hs, hx, hrun, Result.andThen]
    exact h a' c' w (by simpa using hown) (World.grownBy.refl _ _) (fun g hg => (hown.lt g hg).1)
  · obtain ⟨b, off, rfl, _, hbl, hc⟩ := hsl h0
    refine step_append_lies w hgd s x t ho B e i z size bytes hT.ht hi hz hsize hby hzs hT.hsz v n xs hs hown ⟨b, off, none⟩ m c news hx hl (fun j u hu => ?_) h1 h0 hn hb hBw _ rfl (fun g cap w' h2 h3 _ _ => h _ _ w' h2 h3 (fun g hg => (hown.lt g hg).1))
    have hj : j < news.length := (List.getElem?_eq_some_iff.1 hu).1
    have hadd : (⟨b, off, none⟩ : Addr).add j = ⟨b, off + j, none⟩ := by unfold Addr.add; split <;> simp_all
    rw [hadd, hc j hj, ← hu, List.getElem?_eq_getElem hj]


theorem found_i {l : List Fi} {path : List Int} : ((namesI l).filter fun n => canB l path n) = foundL l path := by
  unfold foundL
  split
  · rename_i h
    rw [Bool.and_eq_true] at h
    rw [names_same h.1]
  · rename_i h
    cases h1 : treeB l
    · have : namesI l = [] := by rw [namesI, modsL, packsL, h1]; exact sortU_nil
      rw [this]
      rfl
    · cases h2 : pathB path
      · rw [List.filter_eq_nil_iff]
        intro x _
        rw [canB, specB, h1, h2]
        simp [noneSp]
      · rw [h1, h2] at h
        exact absurd rfl h
theorem namesI_len {l : List Fi} : (namesI l).length ≤ 48 := by
  have h1 := @modsL_len l
  have h2 := @packsL_len l
  have h3 := sortU_len (modsL l ++ packsL l)
  rw [List.length_append] at h3
  unfold namesI
  omega
theorem namesI_short {l : List Fi} : ∀ x ∈ namesI l, x.length ≤ 12 := by
  intro x hx
  unfold namesI at hx
  rw [(sortU_facts _).2, List.mem_append] at hx
  rcases hx with hx | hx
  · exact modsL_short x hx
  · exact packsL_short x hx

end Go.Proofs.YtgjfjjhmgbemcaaGreatDoor
