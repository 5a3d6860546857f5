/- What the rows lay of the two errors that strconv.Atoi reads. No condition. -/
import Derived.Test.YtmhcmabiolaoaaaGreatDoorParN
import Derived.Stop.LaidErr
import Derived.MakeChecks
namespace Go.Proofs.YtmhcmabiolaoaaaGreatDoor
open Go.RowKit Go.ChangeShapes

theorem iface_laid {P : Program} {n nm : String} {d : DataW Unit} {r : List (String × DataW Unit)} {W : World} {g : Nat} {ti : TypeId} {ms : Array (String × TypeId)} (h : laidMet P ((n, .iface nm d) :: r) W)
    (hg : P.globalNamed n = some g) (ht : (P.globals[g]?).map (·.type) = some ti) (hi : P.underlying ti = some (.interface ms)) : ∃ te pe, W.cell? ⟨g, 0, none⟩ = some (.iface te pe) := by
  obtain ⟨ps, ⟨g0, t0, cs0, f0, p0, q0, hg0, ht0, hv0, hd0, _, e0⟩, _, _⟩ := h
  obtain rfl := Option.some.inj (hg.symm.trans hg0)
  obtain rfl := Option.some.inj (ht.symm.trans ht0)
  obtain ⟨_, u, v, hcs, _⟩ := iface_of_trod hi hd0
  obtain ⟨l0⟩ := cs0
  have hcs : l0 = [.iface u v] := hcs
  subst hcs
  exact ⟨u, v, by simpa using World.var?_cell hg0 hv0 0⟩
theorem es_of {x0 x1 x2 x3 : String × DataW Unit} {n1 n2 : String} {d1 d2 : DataW Unit} {r : List (String × DataW Unit)} {W : World}
    (h : laidMet Tryz.prog (x0 :: x1 :: x2 :: x3 :: ("strconv.ErrRange", .iface n1 d1) :: ("strconv.ErrSyntax", .iface n2 d2) :: r) W) : Es W := by
  have h1 := h.tail.tail.tail.tail
  obtain ⟨t1, p1, e1⟩ := iface_laid (g := 2) h1 (by kernel_rfl) (by kernel_rfl) Tryz.underlying63
  obtain ⟨t2, p2, e2⟩ := iface_laid (g := 1) h1.tail (by kernel_rfl) (by kernel_rfl) Tryz.underlying63
  exact ⟨⟨_, e2, World.block_lt_of_cell? _ _ e2, .inr ⟨t2, p2, rfl⟩⟩, _, e1, World.block_lt_of_cell? _ _ e1, .inr ⟨t1, p1, rfl⟩⟩

end Go.Proofs.YtmhcmabiolaoaaaGreatDoor
