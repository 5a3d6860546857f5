/- A file as an argument, opened. No condition. -/
import Derived.Test.YtgjfjjhmgbemcaaGreatDoorIa
namespace Go.Proofs.YtgjfjjhmgbemcaaGreatDoor
open Go.ChangeShapes Go.WideShapes Go.ChangeAt Go.RowKit Go.Deep

/-- A file as an argument. -/
theorem arg_file {H : Type} {enc : TypeId × Value → H} {P : Program} {w : World} {held : Bool} {t : TypeId} (ht : FiTy P t) {r : Reach} {b0 : Nat} {v : Value} {d : DataW H} {p : List MemPlace} (hv : Value.okWide P w r b0 t v) (h : DataW.Trod enc P w 0 (fun _ => true) held t v d p) :
    ∃ (f : Fi) (ba : Option Addr) (bn bc : Nat), v = .agg #[.int .i64 (f).root, .string ⟨(f).pkg.toArray⟩, .string ⟨(f).name.toArray⟩, .bool (f).init, .int .i64 (f).stamp, .slice ba bn bc] ∧ f.pkg.length ≤ maxLen ∧ f.name.length ≤ maxLen ∧ bn ≤ bc ∧ StmtsR w ba bn f.body := by
  have ht' := ht
  obtain ⟨hC, f0, f1, f2, f3, f4, f5, u, hu, _⟩ := ht'
  obtain ⟨cs, rfl, _⟩ := okWide_struct hu hv
  obtain ⟨fuel, hf⟩ := h
  obtain ⟨x, e, ⟨h1, h2, _⟩, ba, bn, bc, e2, hbc, hS⟩ := elem_fi ht hf
  refine ⟨x.1, ba, bn, bc, ?_, h1, h2, hbc, hS⟩
  have e : cs.toList = fcells x := e
  unfold fcells at e
  rw [e2] at e
  rw [show cs = #[.int .i64 x.1.root, .string ⟨(x.1.pkg).toArray⟩, .string ⟨(x.1.name).toArray⟩, .bool x.1.init, .int .i64 x.1.stamp, .slice ba bn bc] from Array.toList_inj.1 (by simpa using e)]

end Go.Proofs.YtgjfjjhmgbemcaaGreatDoor
