/- The size that an exact law allows its arguments: the plain function, and what it says of lengths. No condition. -/
import Derived.Test.YtjlooplpjliaiaaDoorRaw
namespace Go.Proofs.YtjlooplpjliaiaaDoor
open Go.RowKit

/-- As the laws count: -1 as soon as too much is there. -/
def szL {α : Type} (f : α → Int → Int) : List α → Int → Int
  | [], n => n
  | x :: xs, n => if f x n < 0 then -1 else szL f xs (f x n)
def szSt (s : St) (n : Int) : Int := if n - (s.mod.length : Int) < 0 then -1 else if n - (s.mod.length : Int) - (s.name.length : Int) < 0 then -1 else n - (s.mod.length : Int) - (s.name.length : Int)
def szSts (l : List St) (n : Int) : Int := if n - (l.length : Int) < 0 then -1 else szL szSt l (n - (l.length : Int))
def szFi (f : Fi) (n : Int) : Int := if n - (f.pkg.length : Int) < 0 then -1 else if n - (f.pkg.length : Int) - (f.name.length : Int) < 0 then -1 else szSts f.body (n - (f.pkg.length : Int) - (f.name.length : Int))
def szFis (l : List Fi) (n : Int) : Int := if n - (l.length : Int) < 0 then -1 else szL szFi l (n - (l.length : Int))
theorem szL_le {α : Type} {f : α → Int → Int} (hf : ∀ x n, 0 ≤ f x n → f x n ≤ n) : ∀ {l : List α} {n : Int}, 0 ≤ szL f l n → szL f l n ≤ n ∧ ∀ x ∈ l, ∃ m, m ≤ n ∧ 0 ≤ f x m
  | [], n, _ => ⟨Int.le_refl _, fun _ h => by cases h⟩
  | x :: xs, n, h => by
    unfold szL at h ⊢
    by_cases h0 : f x n < 0
    · rw [if_pos h0] at h; omega
    · rw [if_neg h0] at h ⊢
      have h1 := hf x n (by omega)
      obtain ⟨h2, h3⟩ := szL_le hf h
      refine ⟨by omega, fun y hy => ?_⟩
      rcases List.mem_cons.1 hy with rfl | hy
      · exact ⟨n, Int.le_refl _, by omega⟩
      · obtain ⟨m, hm, hy⟩ := h3 y hy
        exact ⟨m, by omega, hy⟩
theorem szSt_le (s : St) (n : Int) (h : 0 ≤ szSt s n) : szSt s n ≤ n := by
  unfold szSt at h ⊢
  split at h <;> rename_i h1
  · omega
  · rw [if_neg h1]
    split at h <;> rename_i h2
    · omega
    · rw [if_neg h2]; omega
theorem szSt_ok {s : St} {n : Int} (h : 0 ≤ szSt s n) : (s.mod.length : Int) ≤ n ∧ (s.name.length : Int) ≤ n := by
  unfold szSt at h
  split at h <;> rename_i h1
  · omega
  · split at h <;> rename_i h2
    · omega
    · omega
theorem szSts_le (l : List St) (n : Int) (h : 0 ≤ szSts l n) : szSts l n ≤ n := by
  unfold szSts at h ⊢
  split at h <;> rename_i h1
  · omega
  · rw [if_neg h1]
    have := (szL_le szSt_le h).1
    omega
theorem szSts_ok {l : List St} {n : Int} (h : 0 ≤ szSts l n) : (l.length : Int) ≤ n ∧ ∀ s ∈ l, (s.mod.length : Int) ≤ n ∧ (s.name.length : Int) ≤ n := by
  unfold szSts at h
  split at h <;> rename_i h1
  · omega
  · refine ⟨by omega, fun s hs => ?_⟩
    obtain ⟨m, hm, h2⟩ := (szL_le szSt_le h).2 s hs
    have := szSt_ok h2
    omega
theorem szFi_le (f : Fi) (n : Int) (h : 0 ≤ szFi f n) : szFi f n ≤ n := by
  unfold szFi at h ⊢
  split at h <;> rename_i h1
  · omega
  · rw [if_neg h1]
    split at h <;> rename_i h2
    · omega
    · rw [if_neg h2]
      have := szSts_le _ _ h
      omega
theorem szFi_ok {f : Fi} {n : Int} (h : 0 ≤ szFi f n) : (f.pkg.length : Int) ≤ n ∧ (f.name.length : Int) ≤ n ∧ (f.body.length : Int) ≤ n ∧ ∀ s ∈ f.body, (s.mod.length : Int) ≤ n ∧ (s.name.length : Int) ≤ n := by
  unfold szFi at h
  split at h <;> rename_i h1
  · omega
  · split at h <;> rename_i h2
    · omega
    · obtain ⟨h3, h4⟩ := szSts_ok h
      exact ⟨by omega, by omega, by omega, fun s hs => by have := h4 s hs; omega⟩
theorem szFis_ok {l : List Fi} {n : Int} (h : 0 ≤ szFis l n) : (l.length : Int) ≤ n ∧ ∀ f ∈ l, (f.pkg.length : Int) ≤ n ∧ (f.name.length : Int) ≤ n ∧ (f.body.length : Int) ≤ n ∧ ∀ s ∈ f.body, (s.mod.length : Int) ≤ n ∧ (s.name.length : Int) ≤ n := by
  unfold szFis at h
  split at h <;> rename_i h1
  · omega
  · refine ⟨by omega, fun f hf => ?_⟩
    obtain ⟨m, hm, h2⟩ := (szL_le szFi_le h).2 f hf
    obtain ⟨a1, a2, a3, a4⟩ := szFi_ok h2
    exact ⟨by omega, by omega, by omega, fun s hs => by have := a4 s hs; omega⟩
theorem StmtsR.at {w : World} {a : Option Addr} {n : Nat} {l : List St} (h : StmtsR w a n l) (hl : (l.length : Int) ≤ 1048576) (hs : ∀ s ∈ l, (s.mod.length : Int) ≤ 1048576 ∧ (s.name.length : Int) ≤ 1048576) : StmtsAt w 0 a n l := by
  obtain ⟨h1, _, _, h4⟩ := h
  exact ⟨h1, by omega, fun s hm => by have := hs s hm; exact ⟨by omega, by omega⟩, h4⟩
/-- A tree that is not too large lies as the contracts of the program's functions want it. -/
theorem FilesR.at {w : World} {a : Option Addr} {n : Nat} {l : List Fi} (h : FilesR w a n l) (hz : 0 ≤ szFis l 1048576) : FilesAt w 0 a n l := by
  obtain ⟨z1, z2⟩ := szFis_ok hz
  obtain ⟨vs, e, h1, _, _, h4, h5⟩ := h
  refine ⟨vs, e, h1, by omega, fun f hf => by have := z2 f hf; exact ⟨by omega, by omega⟩, h4, fun x hx => ?_⟩
  obtain ⟨ba, bn, bc, e2, hbc, hS⟩ := h5 x hx
  have hm : x.1 ∈ l := by rw [e]; exact List.mem_map.2 ⟨x, hx, rfl⟩
  obtain ⟨_, _, b3, b4⟩ := z2 x.1 hm
  exact ⟨ba, bn, bc, e2, hbc, hS.at b3 b4⟩

theorem StmtsR.mono {w w' : World} {a : Option Addr} {n : Nat} {l : List St} (h : StmtsR w a n l) (hx : X w w') : StmtsR w' a n l := ⟨h.1, h.2.1, h.2.2.1, h.2.2.2.mono (hx.fr _)⟩
theorem FilesR.mono {w w' : World} {a : Option Addr} {n : Nat} {l : List Fi} (h : FilesR w a n l) (hx : X w w') : FilesR w' a n l := by
  obtain ⟨vs, e, h1, h2, h3, h4, h5⟩ := h
  exact ⟨vs, e, h1, h2, h3, h4.mono (hx.fr _), fun x hm => let ⟨ba, bn, bc, e, hc, hs⟩ := h5 x hm; ⟨ba, bn, bc, e, hc, hs.mono hx⟩⟩
theorem StmtsR.at_ {w : World} {a : Option Addr} {n : Nat} {l : List St} (h : StmtsR w a n l) {k : Nat} (hk : k < n) :
    ∃ b off, a = some ⟨b, off, none⟩ ∧ b < w.heap.size ∧ ((nth l k).mod.length ≤ maxLen ∧ (nth l k).name.length ≤ maxLen) ∧ w.cell? ⟨b, off + k * 5, none⟩ = some (.int .i64 (nth l k).kind) ∧ w.cell? ⟨b, off + k * 5 + 1, none⟩ = some (.string ⟨((nth l k).mod).toArray⟩) ∧
      w.cell? ⟨b, off + k * 5 + 2, none⟩ = some (.int .i64 (nth l k).level) ∧ w.cell? ⟨b, off + k * 5 + 3, none⟩ = some (.string ⟨((nth l k).name).toArray⟩) ∧ w.cell? ⟨b, off + k * 5 + 4, none⟩ = some (.int .i64 (nth l k).val) := by
  obtain ⟨b, off, ha, _, hb, hc⟩ := h.2.2.2.elem (s := 5) (fun _ => rfl) h.1 hk
  have hm := h.2.2.1 _ (nth_mem (l := l) (k := k) (by have := h.1; omega))
  exact ⟨b, off, ha, hb, ⟨hm.1, hm.2.1⟩, hc 0 (by omega), hc 1 (by omega), hc 2 (by omega), hc 3 (by omega), hc 4 (by omega)⟩
theorem FilesR.at_ {w : World} {a : Option Addr} {n : Nat} {l : List Fi} (h : FilesR w a n l) {k : Nat} (hk : k < n) :
    ∃ b off ba bn bc, a = some ⟨b, off, none⟩ ∧ b < w.heap.size ∧ ((nth l k).pkg.length ≤ maxLen ∧ (nth l k).name.length ≤ maxLen) ∧ bn ≤ bc ∧ StmtsR w ba bn (nth l k).body ∧
      w.cell? ⟨b, off + k * 6, none⟩ = some (.int .i64 (nth l k).root) ∧ w.cell? ⟨b, off + k * 6 + 1, none⟩ = some (.string ⟨((nth l k).pkg).toArray⟩) ∧ w.cell? ⟨b, off + k * 6 + 2, none⟩ = some (.string ⟨((nth l k).name).toArray⟩) ∧
      w.cell? ⟨b, off + k * 6 + 3, none⟩ = some (.bool (nth l k).init) ∧ w.cell? ⟨b, off + k * 6 + 4, none⟩ = some (.int .i64 (nth l k).stamp) ∧ w.cell? ⟨b, off + k * 6 + 5, none⟩ = some (.slice ba bn bc) := by
  obtain ⟨vs, rfl, h1, h2, h3, h4, h5⟩ := h
  have hl : k < vs.length := by simpa [h1] using hk
  obtain ⟨b, off, ha, _, hb, hc⟩ := h4.elem (s := 6) (fun _ => rfl) (by simpa using h1) hk
  obtain ⟨ba, bn, bc, e, hbc, hS⟩ := h5 _ (nth_mem hl)
  have hm := h3 _ (List.mem_map.2 ⟨nth vs k, nth_mem hl, rfl⟩)
  rw [nth_map_fst hl]
  have c5 : w.cell? ⟨b, off + (k * 6 + 5), none⟩ = some (nth vs k).2 := hc 5 (by omega)
  rw [e] at c5
  exact ⟨b, off, ba, bn, bc, ha, hb, ⟨hm.1, hm.2.1⟩, hbc, hS, hc 0 (by omega), hc 1 (by omega), hc 2 (by omega), hc 3 (by omega), hc 4 (by omega), c5⟩
/-- One round of the laws' loops over a slice. -/
theorem szL_round {α : Type} [Inhabited α] {f : α → Int → Int} {l : List α} {k : Nat} {m : Int} (hk : k < l.length) : szL f (l.drop k) m = if f (nth l k) m < 0 then -1 else szL f (l.drop (k + 1)) (f (nth l k) m) := by
  rw [drop_nth hk, szL]

theorem szL_neg {α : Type} {f : α → Int → Int} : ∀ {l : List α} {n : Int}, 0 ≤ n → szL f l n < 0 → szL f l n = -1
  | [], n, h0, h => by unfold szL at h; omega
  | x :: xs, n, _, h => by
    unfold szL at h ⊢
    by_cases h0 : f x n < 0
    · rw [if_pos h0]
    · rw [if_neg h0] at h ⊢
      exact szL_neg (by omega) h
theorem szSts_neg {l : List St} {n : Int} (h : szSts l n < 0) : szSts l n = -1 := by
  unfold szSts at h ⊢
  by_cases h0 : n - (l.length : Int) < 0
  · rw [if_pos h0]
  · rw [if_neg h0] at h ⊢
    exact szL_neg (by omega) h
theorem szFis_neg {l : List Fi} {n : Int} (h : szFis l n < 0) : szFis l n = -1 := by
  unfold szFis at h ⊢
  by_cases h0 : n - (l.length : Int) < 0
  · rw [if_pos h0]
  · rw [if_neg h0] at h ⊢
    exact szL_neg (by omega) h

end Go.Proofs.YtjlooplpjliaiaaDoor
