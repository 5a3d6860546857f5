/- The laws' own copying of texts, directories and disks: the walks. No condition but lengths. -/
import Derived.Test.YtgjfjjhmgbemcaaDoorDirW
namespace Go.Proofs.YtgjfjjhmgbemcaaDoor
open Go.RowKit

theorem dcells4 (x : Di × Value) : (dcells x).length = 4 := rfl
theorem info_dir : (Tryd.prog.info? 71).map (fun i => (i.zero, i.size, i.bytes)) = some (some (.agg #[.int .i64 0, .string ⟨#[]⟩, .int .i64 0, .slice none 0 0]), 4, 56) := by kernel_rfl
theorem dir_S : StrT Tryd.prog 71 4 := ⟨⟨_, Tryd.underlying71⟩, by kernel_rfl⟩
theorem disk_S : StrT Tryd.prog 28 3 := ⟨⟨_, Tryd.underlying28⟩, by kernel_rfl⟩
theorem fill4 {A Z : List Value} {o : Nat} (ho : o = A.length) (hz : 4 ≤ Z.length) (v0 v1 v2 v3 : Value) :
    ((((A ++ Z).set o v0).set (o + 1) v1).set (o + 2) v2).set (o + 3) v3 = A ++ ([v0, v1, v2, v3] ++ Z.drop 4) := by
  subst ho
  match Z, hz with
  | a :: b :: c :: d :: Z, _ =>
    have h0 := set_off (A := A) (Z := a :: b :: c :: d :: Z) 0 v0
    rw [Nat.add_zero] at h0
    rw [h0, set_off, set_off, set_off]
    rfl
theorem own_set4 {w : World} {B e size n c g : Nat} {xs : List Value} (h : w.ownsRow B e size (.slice (some ⟨g, 0, none⟩) n c) n xs) (o : Nat) (v0 v1 v2 v3 : Value) :
    ((((w.setCell ⟨g, o, none⟩ v0).setCell ⟨g, o + 1, none⟩ v1).setCell ⟨g, o + 2, none⟩ v2).setCell ⟨g, o + 3, none⟩ v3).ownsRow B e size (.slice (some ⟨g, 0, none⟩) n c) n
      ((((xs.set o v0).set (o + 1) v1).set (o + 2) v2).set (o + 3) v3) := own_set (own_set (own_set (own_set h v0) v1) v2) v3

/-- No two lists of names lie in one block. -/
def SepD (vs : List (Di × Value)) : Prop := vs.Pairwise fun x y => x.2.ownBlock = none ∨ y.2.ownBlock = none ∨ y.2.ownBlock ≠ x.2.ownBlock
/-- Directories that the call itself has made: the table and each body is a row of its own. -/
def DirsO (w : World) (B : Nat) (a : Option Addr) (n c : Nat) (l : List Di) : Prop :=
  ∃ vs : List (Di × Value), l = vs.map (·.1) ∧ n = l.length ∧ w.ownsRow B 71 4 (.slice a n c) n (vs.flatMap dcells) ∧ SepD vs ∧
    ∀ x ∈ vs, ∃ ba bc, x.2 = .slice ba x.1.names.length bc ∧ w.ownsRow B 9 1 (.slice ba x.1.names.length bc) x.1.names.length (strs x.1.names)
theorem DirsO.fr {w w' : World} {B n c : Nat} {a : Option Addr} {l : List Di} (h : DirsO w B a n c l) (hx : Fr B w w') : DirsO w' B a n c l := by
  obtain ⟨vs, e, h1, h2, hs, h3⟩ := h
  exact ⟨vs, e, h1, own_fr h2 hx, hs, fun x hm => let ⟨ba, bc, e, ho⟩ := h3 x hm; ⟨ba, bc, e, own_fr ho hx⟩⟩
theorem DirsO.less {w : World} {B B' n c : Nat} {a : Option Addr} {l : List Di} (h : DirsO w B a n c l) (hB : B' ≤ B) : DirsO w B' a n c l := by
  obtain ⟨vs, e, h1, h2, hs, h3⟩ := h
  exact ⟨vs, e, h1, own_less h2 hB, hs, fun x hm => let ⟨ba, bc, e, ho⟩ := h3 x hm; ⟨ba, bc, e, own_less ho hB⟩⟩
/-- No text of the directories is too long. -/
def OkD (l : List Di) : Prop := l.length ≤ 2097152 ∧ ∀ f ∈ l, f.pkg.length ≤ 1048576 ∧ f.names.length ≤ 8388608 ∧ ∀ s ∈ f.names, s.length ≤ 4194304
theorem DirsAt.okD {w : World} {B n : Nat} {a : Option Addr} {l : List Di} (h : DirsAt w B a n l) : OkD l := by
  obtain ⟨vs, e, h1, h2, h3, _, h5⟩ := h
  refine ⟨by omega, fun f hf => ⟨h3 f hf, ?_⟩⟩
  rw [e] at hf
  obtain ⟨x, hx, rfl⟩ := List.mem_map.1 hf
  obtain ⟨ba, bn, bc, _, _, hS⟩ := h5 x hx
  exact ⟨by have := hS.1; have := hS.2.1; omega, hS.2.2.1⟩
theorem DirsO.at {w : World} {B n c : Nat} {a : Option Addr} {l : List Di} (h : DirsO w B a n c l) (hk : OkD l) : DirsAt w B a n l := by
  obtain ⟨vs, e, h1, h2, _, h3⟩ := h
  refine ⟨vs, e, h1, by have := hk.1; omega, fun f hf => (hk.2 f hf).1, Sl.of_own h2, fun x hx => ?_⟩
  obtain ⟨ba, bc, e2, ho⟩ := h3 x hx
  have hm : x.1 ∈ l := by rw [e]; exact List.mem_map.2 ⟨x, hx, rfl⟩
  exact ⟨ba, _, bc, e2, own_cap ho, rfl, (hk.2 _ hm).2.1, (hk.2 _ hm).2.2, Sl.of_own ho⟩

end Go.Proofs.YtgjfjjhmgbemcaaDoor
