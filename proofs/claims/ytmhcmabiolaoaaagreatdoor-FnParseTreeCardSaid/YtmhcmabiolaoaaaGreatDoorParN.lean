/- Reading trees, the program's: the words of a line and the numbers. No condition but that the words are not too long. -/
import Derived.Test.YtmhcmabiolaoaaaGreatDoorMc
import Derived.Test.YtmhcmabiolaoaaaGreatDoorMb
import Derived.Test.YtmhcmabiolaoaaaGreatDoorInv
import Derived.Lib.AtoiErrMem
namespace Go.Proofs.YtmhcmabiolaoaaaGreatDoor
open Go.RowKit

/-- A function is stored as one cell. -/
@[go_sem] theorem run_store_func (P : Program) (w : World) (a : Addr) (m : Mode) (f : Fn) (x y : Array Value) : (store a (.func f x y) m).run P w = stored P w a (.func f x y) m := run_store P w a _ m rfl
/-- The two errors that strconv.Atoi reads. -/
def Es (w : World) : Prop :=
  (∃ ev, w.cell? ⟨1, 0, none⟩ = some ev ∧ 1 < w.heap.size ∧ (ev = .nilIface ∨ ∃ te pe, ev = .iface te pe)) ∧
  ∃ ev, w.cell? ⟨2, 0, none⟩ = some ev ∧ 2 < w.heap.size ∧ (ev = .nilIface ∨ ∃ te pe, ev = .iface te pe)
theorem Es.mono {w w' : World} (h : Es w) (hx : X w w') : Es w' := by
  obtain ⟨⟨e, h1, h2, h3⟩, f, k1, k2, k3⟩ := h
  exact ⟨⟨e, (hx.cell (p := ⟨_, 0, none⟩) h2).trans h1, Nat.lt_of_lt_of_le h2 hx.size, h3⟩, f, (hx.cell (p := ⟨_, 0, none⟩) k2).trans k1, Nat.lt_of_lt_of_le k2 hx.size, k3⟩
theorem Atoi_c (s : List UInt8) (w : World) (hs : s.length ≤ 4194304) (hE : Es w) : Calls Tryz.prog 42 #[.string ⟨(s).toArray⟩] w fun e w' => ∃ ev, e = .returned (.tuple #[.int .i64 (numI s), ev]) ∧ X w w' := by
  obtain ⟨⟨e, h1, _, h3⟩, f, k1, _, k3⟩ := hE
  have hsz : (ByteArray.mk s.toArray).size = s.length := rfl
  have hl : (ByteArray.mk s.toArray).data.toList = s := rfl
  cases ha : Lib.atoiAll s
  · rename_i v
    refine (Tryz.strconv_Atoi_ok ⟨s.toArray⟩ (by omega) v (by rw [hl, ha]) w).mono ?_
    rintro _ w' ⟨rfl, h⟩
    refine ⟨_, by rw [numI, ha], ?_⟩
    rcases h with rfl | ⟨t, rfl⟩
    · exact X.refl _
    · exact X.of_below (Lib.bytesWorld_below _ _ _)
  · refine (Tryz.strconv_Atoi_syntax ⟨s.toArray⟩ (by omega) (by rw [hl, ha]) e w h1 h3).mono ?_
    rintro _ w' ⟨N, rfl, _, _, hb⟩
    exact ⟨_, by rw [numI, ha], X.of_below hb⟩
  · refine (Tryz.strconv_Atoi_range ⟨s.toArray⟩ (by omega) (by rw [hl, ha]) f w k1 k3).mono ?_
    rintro _ w' ⟨N, rfl, _, _, hb⟩
    exact ⟨_, by rw [numI, ha], X.of_below hb⟩
theorem noDash_c (s : List UInt8) (w : World) : Calls Tryz.prog 43 #[.string ⟨(s).toArray⟩] w fun e w' => e = .returned (.string ⟨(undash s).toArray⟩) ∧ w = w' := by
  rw [undash]
  by_cases h : s = [45]
  · subst h
    go_enter Tryz.func43, Tryz.ntmps43
    go_wp2
    go_ret
    exact ⟨rfl, rfl⟩
  · rw [if_neg h]
    have hb : (s == [45]) = false := by simpa using h
    go_enter Tryz.func43, Tryz.ntmps43
    go_wp2
    go_ret
    exact ⟨rfl, rfl⟩
theorem nth_out {l : List (List UInt8)} {k : Nat} (h : l.length ≤ k) : nth l k = [] := by
  unfold nth
  rw [List.getD_eq_getElem?_getD]
  rw [List.getElem?_eq_none h]
  rfl
/-- The words of a line as the closure 'at' sees them. -/
def WdAt (w : World) (B pb : Nat) (ws : List (List UInt8)) : Prop := ∃ a n c, w.cell? ⟨pb, 0, none⟩ = some (.slice a n c) ∧ pb < w.heap.size ∧ n ≤ c ∧ StrsAt w B a n ws
theorem WdAt.x {w w' : World} {B pb : Nat} {ws : List (List UInt8)} (h : WdAt w B pb ws) (hx : X w w') : WdAt w' B pb ws := by
  obtain ⟨a, n, c, h1, h2, h3, h4⟩ := h
  exact ⟨a, n, c, (hx.cell (p := ⟨pb, 0, none⟩) h2).trans h1, Nat.lt_of_lt_of_le h2 hx.size, h3, h4.mono (hx.fr _)⟩
theorem at_c (ws : List (List UInt8)) (k B pb : Nat) (w : World) (h : WdAt w B pb ws) : Calls Tryz.prog 40 #[.int .i64 (k : Int), .pointer (some ⟨pb, 0, none⟩)] w fun e w' => e = .returned (.string ⟨(nth ws k).toArray⟩) ∧ w = w' := by
  obtain ⟨a, n, c, h1, h2, h3, h4⟩ := h
  have hl := Lib.hid h4.1
  have hn := h4.2.1
  by_cases hkn : k < n
  · obtain ⟨b, off, rfl, _, hb, hc, hf⟩ := h4.at_ hkn
    go_enter Tryz.func40, Tryz.ntmps40
    go_wp2
    go_ret
    exact ⟨rfl, rfl⟩
  · rw [nth_out (by rw [← hl.out]; omega)]
    go_enter Tryz.func40, Tryz.ntmps40
    go_wp2
    go_ret
    exact ⟨rfl, rfl⟩
theorem num_c (ws : List (List UInt8)) (k B pb fb : Nat) (w : World) (h : WdAt w B pb ws) (hs : ∀ s ∈ ws, s.length ≤ 4194304) (hE : Es w) (hf : w.cell? ⟨fb, 0, none⟩ = some (.func (.func 40) #[] #[.pointer (some ⟨pb, 0, none⟩)])) :
    Calls Tryz.prog 41 #[.int .i64 (k : Int), .pointer (some ⟨fb, 0, none⟩)] w fun e w' => e = .returned (.int .i64 (numI (nth ws k))) ∧ X w w' := by
  have hl : (nth ws k).length ≤ 4194304 := by
    rcases Nat.lt_or_ge k ws.length with h | h
    · exact hs _ (nth_mem h)
    · rw [nth_out h]; simp
  go_enter Tryz.func41, Tryz.ntmps41
  go_wp2_with fail
  refine (at_c ws k B pb _ h).mono ?_
  rintro _ _ ⟨rfl, rfl⟩
  go_wp2_with fail
  refine (Atoi_c _ _ hl hE).mono ?_
  rintro _ w1 ⟨ev, rfl, hx⟩
  go_wp2
  go_ret
  exact ⟨rfl, hx⟩
end Go.Proofs.YtmhcmabiolaoaaaGreatDoor
