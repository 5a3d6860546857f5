/- What is found of a name: the walks of the program's and of the reference's functions. No condition but lengths. -/
import Derived.Test.YtcophpiibifhcaaDoorParts
import Derived.Test.YtcophpiibifhcaaDoorRw
import Derived.Deep.RegionHeld3
import Derived.IntWalk
import Derived.StillTailTactics
namespace Go.Proofs.YtcophpiibifhcaaDoor
open Go.RowKit

theorem spec_S : StrT Tryd.prog 44 3 := ⟨⟨_, Tryd.underlying44⟩, by kernel_rfl⟩
/-- A Spec's value: its roots lie in memory. -/
def SpI (w : World) (B : Nat) (v : Value) (r : Sp) : Prop := ∃ a c, v = .agg #[.int .i64 r.kind, .int .i64 r.file, .slice a r.roots.length c] ∧ r.roots.length ≤ c ∧ IntsAt w B a r.roots.length r.roots
/-- The same, its roots in a row of the call's own. -/
def SpO (w : World) (B : Nat) (v : Value) (r : Sp) : Prop := ∃ a c, v = .agg #[.int .i64 r.kind, .int .i64 r.file, .slice a r.roots.length c] ∧ w.ownsRow B 3 1 (.slice a r.roots.length c) r.roots.length (ints r.roots)
theorem SpO.i {w : World} {B : Nat} {v : Value} {r : Sp} (h : SpO w B v r) (hn : r.roots.length ≤ 2097152) : SpI w B v r := by
  obtain ⟨a, c, e, ho⟩ := h
  exact ⟨a, c, e, own_cap ho, SpecAt.ints ho hn⟩
theorem ints_nil (w : World) (B : Nat) (a : Option Addr) : IntsAt w B a 0 [] := ⟨rfl, by omega, fun h => absurd h (by omega)⟩
theorem findGo_roots2 (l : List Fi) (p s : List UInt8) : ∀ (path acc : List Int), (findGo l p s path acc).roots.length ≤ acc.length + path.length
  | [], acc => by
    unfold findGo
    split <;> simp [noneSp]
  | r :: rs, acc => by
    unfold findGo
    split
    · simp; omega
    · split
      · simp
      · refine Nat.le_trans (findGo_roots2 l p s rs _) ?_
        split <;> simp <;> omega
theorem findF_le (l : List Fi) (path : List Int) (p s : List UInt8) : (findF l path p s).roots.length ≤ path.length := by
  have := findGo_roots2 l p s path []
  simpa [findF] using this
theorem specGo_roots (l : List Fi) : ∀ (ps : List (List UInt8)) (p : List UInt8) (o : Sp), (specGo l ps p o).roots.length ≤ o.roots.length
  | [], _, _ => by unfold specGo; exact Nat.le_refl _
  | q :: ps, p, o => by
    unfold specGo
    split
    · exact Nat.le_trans (specGo_roots l ps _ _) (findF_le _ _ _ _)
    · simp [noneSp]
theorem specF_roots (l : List Fi) (path : List Int) (s : List UInt8) : (specF l path s).roots.length ≤ path.length := specGo_roots l _ _ _
theorem specB_roots (l : List Fi) (path : List Int) (s : List UInt8) : (specB l path s).roots.length ≤ path.length := by
  unfold specB
  split
  · exact specF_roots l path s
  · simp [noneSp]
theorem pfx_findI {l : List Fi} {path : List Int} {s : List UInt8} (h : nameB s = true) {k : Nat} (hk : k < (splitL 46 s).length) : findI l path (pfx s k) (nth (splitL 46 s) k) = findF l path (pfx s k) (nth (splitL 46 s) k) := by
  rw [findI, pfx_succ h hk, pfx_pkg h, part_at h hk, pfx_name h (by omega)]; rfl
theorem join_next {l : List (List UInt8)} {k : Nat} (hk : k < l.length) (h0 : 0 < k) : joinL (l.take k) ++ [46] ++ nth l k = joinL (l.take (k + 1)) := by
  rw [take_succ_nth hk, joinL_snoc]
  · simp
  · intro e
    have e1 := congrArg List.length e
    rw [List.length_take, List.length_nil] at e1
    omega

set_option maxHeartbeats 400000 in
theorem PartsOf_c (s : List UInt8) (w : World) (hs : nameB s = true) (hG : Gm w) : Calls Tryd.prog 105 #[.string ⟨(s).toArray⟩] w fun e w' =>
    ∃ a c, e = .returned (.slice a (splitL 46 s).length c) ∧ w'.ownsRow w.heap.size 9 1 (.slice a (splitL 46 s).length c) (splitL 46 s).length (strs (splitL 46 s)) ∧ X w w' := by
  have hl := nameB_len hs
  go_enter Tryd.func105, Tryd.ntmps105
  go_wp2_with (first | (go_at_call 74; refine (ValidName_c _ _ (by omega) hG).mono ?_; rintro _ _ ⟨rfl, x, rfl⟩; rw [hs]) | (go_at_call 104; refine (Split_c s 46 _ (by omega) (hG.mono (by (repeat (first | exact X.refl _ | assumption | refine X.ext ?_ _ | refine X.alloc ?_ _ | refine X.drew ?_))))).mono ?_; rintro _ w2 ⟨a, c, rfl, hown, hx⟩))
  go_ret
  exact ⟨a, c, rfl, own_less hown (by rw [World.size_ext]; omega), X.trans (by (repeat (first | exact X.refl _ | assumption | refine X.ext ?_ _ | refine X.alloc ?_ _ | refine X.drew ?_))) hx⟩

set_option maxHeartbeats 400000 in
theorem join_c (l : List (List UInt8)) (a : Option Addr) (n m c B : Nat) (w : World) (hS : StrsAt w B a n l) (hm : m ≤ n) (hp : ∀ p ∈ l, partB p = true) (hl : l.length ≤ 3) :
    Calls Tryd.prog 88 #[.slice a m c] w fun e w' => e = .returned (.string ⟨(joinL (l.take m)).toArray⟩) ∧ w = w' := by
  have hn := hS.1
  have hlen : ∀ k, (joinL (l.take k)).length ≤ 12 := fun k => by
    have h1 := joinL_len (l := l.take k) (fun p h => hp p (List.mem_of_mem_take h))
    rw [List.length_take] at h1
    omega
  have hn2 := hS.2.1
  have Hn := Lib.hid hn
  clear hn
  go_enter Tryd.func88, Tryd.ntmps88
  go_wp2
  go_loop [3, 4] (fun t i => ∃ k : Nat, k ≤ m ∧ i = .int .i64 k ∧ t = .string ⟨(joinL (l.take k)).toArray⟩) (fun _ i => m - (intOf i).toNat)
  case atStart => exact ⟨0, by omega, rfl, by simp [joinL]⟩
  case round =>
    obtain ⟨k, hk, rfl, rfl⟩ := hrel
    by_cases hlt : k < m
    · obtain ⟨b, off, rfl, _, hb, hcell, hpl⟩ := hS.at_ (k := k) (by omega)
      have hk1 := hlen k
      have hq := (partB_len (hp _ (nth_mem (l := l) (k := k) (by have := Hn.out; omega)))).2
      by_cases h0 : 0 < k
      · have He := Lib.hid (join_next (l := l) (k := k) (by have := Hn.out; omega) h0)
        go_wp2
        go_round
        case rel => exact ⟨k + 1, by omega, by go_num, by rw [← He.out]; simp⟩
        case measure => simp [intOf]; omega
      · obtain rfl : k = 0 := by omega
        have He : joinL (l.take (0 + 1)) = nth l 0 := by rw [take_succ_nth (by have := Hn.out; omega)]; simp [joinL]
        have He := Lib.hid He
        have e0 : joinL (l.take 0) = [] := by simp [joinL]
        rw [e0]
        clear e0
        rw [Nat.add_zero] at hcell
        go_wp2
        go_round
        case rel => exact ⟨0 + 1, by omega, by go_num, by rw [He.out]⟩
        case measure => simp [intOf]; omega
    · obtain rfl : k = m := by omega
      go_wp2
      go_ret
      exact ⟨rfl, rfl⟩

set_option maxRecDepth 100000 in
set_option maxHeartbeats 1000000 in
theorem findName_o (l : List Fi) (a : Option Addr) (n c B : Nat) (path : List Int) (pa : Option Addr) (pn pc Bp : Nat) (s : List UInt8) (w : World) (hF : FilesAt w B a n l) (hI : IntsAt w Bp pa pn path) (hpc : pn ≤ pc) (hs : nameB s = true) (hG : Gm w) (ht : treeB l = true) :
    Calls Tryd.prog 75 #[.agg #[.slice a n c], .slice pa pn pc, .string ⟨(s).toArray⟩, .nilFunc] w fun e w' => ∃ v, e = .returned v ∧ SpO w' w.heap.size v (specF l path s) ∧ X w w' := by
  obtain rfl := hI.1
  have hsl := nameB_len hs
  go_enter Tryd.func75, Tryd.ntmps75
  go_wp2_with fail
  refine calls_name (fun W hW => ?_)
  obtain ⟨hT0, hR0, hO0, hX0⟩ := bx3 hW
  have hsz : W.heap.size = w.heap.size + 3 := by rw [hW]; simp
  clear hW
  refine (PartsOf_c s W hs (hG.mono hX0)).mono ?_
  rintro _ W2 ⟨ta, tc, rfl, hown, hX2⟩
  have htc := own_cap hown
  have hS := StrsAt.of_own hown (by have := splitL_length_le 46 s; omega) (fun p hp => Nat.le_trans (splitL_piece_le 46 s p hp) (by omega))
  have hpos := splitL_pos 46 s
  have htn := (nameB_iff.1 hs).2
  clear hown
  have hspec := Lib.hid (@rfl _ (specF l path s))
  have hPX := Lib.hid (fun k hk => @pfx_succ s hs k hk)
  have hPC := Lib.hid (fun k hk => @pfx_child s hs k hk)
  have hPI := Lib.hid (fun k hk path => @pfx_findI l path s hs k hk)
  have hPL := fun k => pfx_len hs k
  have hQL := fun k hk => (partB_len (@part_at s hs k hk)).2
  generalize hn : (splitL 46 s).length = tn at *
  have Hn := Lib.hid hn
  clear hn
  go_wp2
  go_loopw [10, 18] (fun p i wr => ∃ (k : Nat) (o : Sp) (ra : Option Addr) (rc : Nat), k ≤ tn ∧ i = .int .i64 k ∧ p = .string ⟨(pfx s k).toArray⟩ ∧ specGo l ((splitL 46 s).drop k) (pfx s k) o = specF l path s ∧
      (o.kind = 0 ∨ o.kind = 1 ∨ o.kind = 2 ∨ o.kind = 3) ∧ Bx wr w.heap.size #[.slice a n c] ∧ Bx wr (w.heap.size + 1) #[.int .i64 0, .int .i64 0, .slice none 0 0] ∧
      Bx wr (w.heap.size + 2) #[.int .i64 o.kind, .int .i64 o.file, .slice ra o.roots.length rc] ∧ X w wr ∧ Fr (w.heap.size + 3) W2 wr ∧
      ((k = 0 ∧ o.roots = path ∧ ra = pa ∧ rc = pc) ∨ (0 < k ∧ wr.ownsRow (w.heap.size + 3) 3 1 (.slice ra o.roots.length rc) o.roots.length (ints o.roots) ∧ o.roots.length ≤ path.length))) (fun _ i _ => tn - (intOf i).toNat)
  case atStart => exact ⟨0, ⟨3, -1, path⟩, pa, pc, by omega, rfl, by rw [pfx_zero], by rw [pfx_zero]; rfl, by simp, hT0.x hX2, hR0.x hX2, hO0.x hX2, hX0.trans hX2, Fr.refl _ _, .inl ⟨rfl, rfl, rfl, rfl⟩⟩
  case round =>
    obtain ⟨k, o, ra, rc, hk, rfl, rfl, hgo, hkd, hT, hR, hO, hX, hfr, hroots⟩ := hrel
    obtain ⟨hbT, hcT, hfT⟩ := hT.out
    obtain ⟨hbR, hcR, hfR⟩ := hR.out
    obtain ⟨hbO, hcO, hfO⟩ := hO.out
    have t0 := hcT 0
    have r0 := hcR 0
    have r1 := hcR 1
    have r2 := hcR 2
    have o0 := hcO 0
    have o1 := hcO 1
    have o2 := hcO 2
    clear hcT hcR hcO
    by_cases hlt : k < tn
    · have hkl : k < (splitL 46 s).length := by rw [Hn.out]; exact hlt
      obtain ⟨b, off, rfl, _, hb, hcell, hpl⟩ := (hS.mono (hfr.mono (by omega))).at_ hlt
      rw [drop_nth hkl, specGo, hPX.out k hlt] at hgo
      by_cases hkk : o.kind = 2 ∨ o.kind = 3
      · rw [if_pos hkk] at hgo
        have hOI : IntsAt wr 0 ra o.roots.length o.roots ∧ o.roots.length ≤ rc := by
          rcases hroots with ⟨_, h1, h2, h3⟩ | ⟨_, h1, h2⟩
          · rw [h1, h2, h3]; exact ⟨(hI.mono (hX.fr _)).less (Nat.zero_le _), hpc⟩
          · exact ⟨(SpecAt.ints h1 (by have := hI.2.1; omega)).less (Nat.zero_le _), own_cap h1⟩
        have hlp : o.roots.length ≤ path.length := by
          rcases hroots with ⟨_, h1, _⟩ | ⟨_, _, h2⟩
          · rw [h1]; exact Nat.le_refl _
          · exact h2
        have Hlp := Lib.hid hlp
        clear hlp
        have hfl := findF_le l o.roots (pfx s k) (nth (splitL 46 s) k)
        have hfk := findF_kind l o.roots (pfx s k) (nth (splitL 46 s) k)
        have hPI1 := Lib.hid (hPI.out k hlt o.roots)
        have hPC1 := Lib.hid (hPC.out k hlt)
        have hp1 : (pfx s k).length ≤ 1048576 := by have := hPL k; omega
        have hq1 : (nth (splitL 46 s) k).length ≤ 1048576 := by have := hQL k hlt; omega
        have hol := hOI.1.2.1
        generalize hr : findF l o.roots (pfx s k) (nth (splitL 46 s) k) = r at hgo hfl hfk hPI1
        have Hgo := Lib.hid hgo
        have Hfk := Lib.hid hfk
        clear hgo hr hroots hkd hfk
        have k0 : (o.kind == 0) = false := by simp; omega
        have k1 : (o.kind == 1) = false := by simp; omega
        go_wp2_with (first
          | (go_at_call 73; refine (find_c l _ _ _ B o.roots _ _ _ 0 (pfx s k) (nth (splitL 46 s) k) _ (hF.mono (X.fr hX _)) hOI.1 hp1 hq1 (hG.mono hX) ht).mono ?_; rintro _ w5 ⟨ra5, rc5, rfl, hown5, hx5⟩; rw [hPI1.out] at hown5 ⊢; have hT5 := hT.x hx5; have hR5 := hR.x hx5; have hO5 := hO.x hx5; obtain ⟨hbO5, hcO5, hfO5⟩ := hO5.out; have hX5 := hX.trans hx5; have hfr5 := hfr.trans (hx5.fr _))
          | (go_at_call 93; refine (ChildOf_c (pfx s k) (nth (splitL 46 s) k) _ hp1 hq1 (hG.mono (by (repeat (first | exact X.refl _ | assumption | refine X.setCell ?_ (by first | (simp; done) | (simp; omega)) _ | refine X.ext ?_ _ | refine X.alloc ?_ _ | refine X.drew ?_))))).mono ?_; rintro _ w7 ⟨rfl, hx7⟩; rw [hPC1.out]))
        have hf7 : Fr (w.heap.size + 3) w5 w7 := (Fr.set (Fr.set (Fr.set (Fr.refl _ _) (.inr (by first | (simp; done) | (simp; omega))) _) (.inr (by first | (simp; done) | (simp; omega))) _) (.inr (by first | (simp; done) | (simp; omega))) _).trans (hx7.fr _)
        have hX9 : X w w7 := X.trans (by (repeat (first | exact X.refl _ | assumption | refine X.setCell ?_ (by first | (simp; done) | (simp; omega)) _ | refine X.ext ?_ _ | refine X.alloc ?_ _ | refine X.drew ?_))) hx7
        go_roundw
        case rel => exact ⟨k + 1, r, ra5, rc5, by omega, by go_num, rfl, Hgo.out, Hfk.out, Bx.x (Bx.far (Bx.far (Bx.far hT5 (by simp; omega) _) (by simp; omega) _) (by simp; omega) _) hx7, Bx.x (Bx.far (Bx.far (Bx.far hR5 (by first | (simp; done) | (simp; omega)) _) (by first | (simp; done) | (simp; omega)) _) (by first | (simp; done) | (simp; omega)) _) hx7,
          Bx.x (Bx.set (Bx.set (Bx.set hO5 0 _) 1 _) 2 _) hx7, hX9, hfr5.trans hf7, .inr ⟨by omega, own_fr (own_less hown5 (by omega)) hf7, Nat.le_trans hfl (Hlp.out)⟩⟩
        case measure => simp [intOf]; omega
      · rw [if_neg hkk] at hgo
        have Hgo := Lib.hid hgo
        have hk01 : o.kind = 0 ∨ o.kind = 1 := by omega
        clear hgo hroots hkd hkk
        rcases hk01 with h | h
        all_goals
          rw [h] at o0
          clear h
          go_wp2_with (go_at_call 72; refine (nothing_c _).mono ?_; rintro _ w6 ⟨a6, c6, rfl, hown6, hx6⟩; replace hR := hR.x hx6; obtain ⟨hbR6, hcR6, hfR6⟩ := hR.out; have hX6 := hX.trans hx6)
          refine bodyPost_row Tryd.results75 rfl (Bx.set (Bx.set (Bx.set hR 0 _) 1 _) 2 _) spec_S rfl rfl ?_
          exact ⟨_, rfl, by rw [← Hgo.out]; exact ⟨a6, c6, rfl, own_less (own_fr hown6 (by exact (Fr.set (Fr.set (Fr.set (Fr.refl _ _) (.inr (by first | (simp; done) | (simp; omega))) _) (.inr (by first | (simp; done) | (simp; omega))) _) (.inr (by first | (simp; done) | (simp; omega))) _))) (by have := hX.size; omega)⟩, by (repeat (first | exact X.refl _ | assumption | refine X.setCell ?_ (by first | (simp; done) | (simp; omega)) _ | refine X.ext ?_ _ | refine X.alloc ?_ _ | refine X.drew ?_))⟩
    · obtain rfl : k = tn := by omega
      have he : o = specF l path s := by rw [← hgo, List.drop_eq_nil_of_le (by rw [Hn.out]; omega), specGo]
      have He := Lib.hid he
      have hz : wr.ownsRow (w.heap.size + 3) 3 1 (.slice ra o.roots.length rc) o.roots.length (ints o.roots) := by
        rcases hroots with ⟨h0, _⟩ | ⟨_, h1, h2⟩
        · omega
        · exact h1
      clear he hgo hroots hkd
      go_wp2
      refine bodyPost_row Tryd.results75 rfl (Bx.set (Bx.set (Bx.set hR 0 _) 1 _) 2 _) spec_S rfl rfl ?_
      exact ⟨_, rfl, by rw [← He.out]; exact ⟨ra, rc, rfl, own_less (own_fr hz (by exact (Fr.set (Fr.set (Fr.set (Fr.refl _ _) (.inr (by first | (simp; done) | (simp; omega))) _) (.inr (by first | (simp; done) | (simp; omega))) _) (.inr (by first | (simp; done) | (simp; omega))) _))) (by omega)⟩, by (repeat (first | exact X.refl _ | assumption | refine X.setCell ?_ (by first | (simp; done) | (simp; omega)) _ | refine X.ext ?_ _ | refine X.alloc ?_ _ | refine X.drew ?_))⟩
theorem findName_c (l : List Fi) (a : Option Addr) (n c B : Nat) (path : List Int) (pa : Option Addr) (pn pc Bp : Nat) (s : List UInt8) (w : World) (hF : FilesAt w B a n l) (hI : IntsAt w Bp pa pn path) (hpc : pn ≤ pc) (hs : nameB s = true) (hG : Gm w) (ht : treeB l = true) :
    Calls Tryd.prog 75 #[.agg #[.slice a n c], .slice pa pn pc, .string ⟨(s).toArray⟩, .nilFunc] w fun e w' => ∃ v, e = .returned v ∧ SpI w' w.heap.size v (specF l path s) ∧ X w w' :=
  (findName_o l a n c B path pa pn pc Bp s w hF hI hpc hs hG ht).mono fun _ _ ⟨v, e, h, hx⟩ => ⟨v, e, h.i (Nat.le_trans (specF_roots l path s) (by have := hI.1; have := hI.2.1; omega)), hx⟩
theorem join_p (s : List UInt8) (a : Option Addr) (n m c B : Nat) (w : World) (hS : StrsAt w B a n (splitL 46 s)) (hs : nameB s = true) (hm : m ≤ n) :
    Calls Tryd.prog 88 #[.slice a m c] w fun e w' => e = .returned (.string ⟨(pfx s m).toArray⟩) ∧ w' = w :=
  (join_c (splitL 46 s) a n m c B w hS hm (nameB_iff.1 hs).1 (nameB_iff.1 hs).2).mono fun _ _ ⟨h1, h2⟩ => ⟨h1, h2.symm⟩
set_option maxRecDepth 100000 in
set_option maxHeartbeats 1000000 in
theorem find_s (l : List Fi) (a : Option Addr) (n c B : Nat) (path : List Int) (pa : Option Addr) (pn pc Bp : Nat) (s : List UInt8) (w : World) (hF : FilesAt w B a n l) (hI : IntsAt w Bp pa pn path) (hpc : pn ≤ pc) (hs : nameB s = true) :
    Calls Tryd.prog 49 #[.agg #[.slice a n c], .slice pa pn pc, .string ⟨(s).toArray⟩] w fun e w' => ∃ v, e = .returned v ∧ SpI w' w.heap.size v (specF l path s) ∧ X w w' := by
  obtain rfl := hI.1
  have hsl := nameB_len hs
  go_enter Tryd.func49, Tryd.ntmps49
  go_wp2_with fail
  refine calls_name (fun W hW => ?_)
  obtain ⟨hT0, hR0, hX0⟩ := bx2 hW
  have hsz : W.heap.size = w.heap.size + 2 := by rw [hW]; simp
  clear hW
  refine (splitAt_c s 46 W (by omega)).mono ?_
  rintro _ W2 ⟨ta, tc, rfl, hown, hX2⟩
  have htc := own_cap hown
  have hS := StrsAt.of_own hown (by have := splitL_length_le 46 s; omega) (fun p hp => Nat.le_trans (splitL_piece_le 46 s p hp) (by omega))
  have hpos := splitL_pos 46 s
  have htn := (nameB_iff.1 hs).2
  have hparts := (nameB_iff.1 hs).1
  have hsz2 := hX2.size
  clear hown
  have hPX := Lib.hid (fun k hk => @pfx_succ s hs k hk)
  have hPL := fun k => pfx_len hs k
  have hQL := fun k hk => (partB_len (@part_at s hs k hk)).2
  have hjp := fun k => Lib.hid (show joinL ((splitL 46 s).take k) = pfx s k from rfl)
  generalize hn : (splitL 46 s).length = tn at *
  have Hn := Lib.hid hn
  clear hn
  go_wp2
  go_loopw [9] (fun i wr => ∃ (k : Nat) (o : Sp) (ra : Option Addr) (rc : Nat), k ≤ tn ∧ i = .int .i64 k ∧ specGo l ((splitL 46 s).drop k) (pfx s k) o = specF l path s ∧
      (o.kind = 0 ∨ o.kind = 1 ∨ o.kind = 2 ∨ o.kind = 3) ∧ Bx wr W2.heap.size #[.int .i64 o.kind, .int .i64 o.file, .slice ra o.roots.length rc] ∧ X W2 wr ∧
      ((k = 0 ∧ o.roots = path ∧ ra = pa ∧ rc = pc) ∨ (0 < k ∧ IntsAt wr (w.heap.size + 2) ra o.roots.length o.roots ∧ o.roots.length ≤ rc))) (fun i _ => tn - (intOf i).toNat)
  case atStart => exact ⟨0, ⟨3, -1, path⟩, pa, pc, by omega, rfl, by rw [pfx_zero]; rfl, by simp, Bx.new _ _ _, by (repeat (first | exact X.refl _ | assumption | refine X.ext ?_ _ | refine X.alloc ?_ _ | refine X.drew ?_)), .inl ⟨rfl, rfl, rfl, rfl⟩⟩
  case round =>
    obtain ⟨k, o, ra, rc, hk, rfl, hgo, hkd, hO, hX, hroots⟩ := hrel
    have hXw : X w wr := (hX0.trans hX2).trans hX
    have hT := (hT0.x hX2).x hX
    have hR := (hR0.x hX2).x hX
    obtain ⟨hbT, hcT, hfT⟩ := hT.out
    obtain ⟨hbR, hcR, hfR⟩ := hR.out
    obtain ⟨hbO, hcO, hfO⟩ := hO.out
    have t0 := hcT 0
    have r0 := hcR 0
    have r1 := hcR 1
    have r2 := hcR 2
    have o0 := hcO 0
    have o1 := hcO 1
    have o2 := hcO 2
    clear hcT hcR hcO
    by_cases hlt : k < tn
    · have hkl : k < (splitL 46 s).length := by rw [Hn.out]; exact hlt
      have hS1 := hS.mono (hX.fr _)
      obtain ⟨b, off, rfl, hbW, hb2, hcell2, hpl⟩ := hS.at_ hlt
      have hb : b < wr.heap.size := Nat.lt_of_lt_of_le hb2 hX.size
      have hcell := (hX.cell (p := ⟨b, off + k, none⟩) hb2).trans hcell2
      have hbT2 := (hT0.x hX2).lt
      have t02 := (hT0.x hX2).out.2.1 0
      rw [drop_nth hkl, specGo, hPX.out k hlt] at hgo
      by_cases hkk : o.kind = 2 ∨ o.kind = 3
      · rw [if_pos hkk] at hgo
        have hOI : IntsAt wr 0 ra o.roots.length o.roots ∧ o.roots.length ≤ rc := by
          rcases hroots with ⟨_, h1, h2, h3⟩ | ⟨_, h1, h2⟩
          · rw [h1, h2, h3]; exact ⟨(hI.mono (hXw.fr _)).less (Nat.zero_le _), hpc⟩
          · exact ⟨h1.less (Nat.zero_le _), h2⟩
        have hfl := findF_le l o.roots (pfx s k) (nth (splitL 46 s) k)
        have hfk := findF_kind l o.roots (pfx s k) (nth (splitL 46 s) k)
        have hp1 : (pfx s k).length ≤ 1048576 := by have := hPL k; omega
        have hq1 : (nth (splitL 46 s) k).length ≤ 1048576 := by have := hQL k hlt; omega
        have hol := hOI.1.2.1
        have hpk : ¬ tc = 0 := by omega
        have hkc : k ≤ tc := by omega
        generalize hr : findF l o.roots (pfx s k) (nth (splitL 46 s) k) = r at hgo hfl hfk
        have Hr := Lib.hid hr
        have Hgo := Lib.hid hgo
        have Hfk := Lib.hid hfk
        clear hgo hr hroots hkd hfk
        rcases hkk with h | h
        all_goals
          rw [h] at o0
          clear h
          go_wp2_with fail
          refine wp_region_still_tail 11 (by kernel_rfl) (by kernel_rfl) ?_
          simp only [List.take_succ_cons, List.take_zero, List.drop_succ_cons, List.drop_zero]
          repeat still_step
          still_call ((join_p s (some ⟨b, off, none⟩) tn k tc _ _ (hS1.mono (X.fr (by (repeat (first | exact X.refl _ | assumption | refine X.ext ?_ _ | refine X.alloc ?_ _ | refine X.drew ?_))) _)) hs hk))
          repeat still_step
          refine wpStill_nil ?_
          go_wp2_with (go_at_call 69; refine (findIn_c l _ _ _ B o.roots _ _ _ 0 (pfx s k) (nth (splitL 46 s) k) _ (hF.mono (X.fr (by (repeat (first | exact X.refl _ | assumption | refine X.ext ?_ _ | refine X.alloc ?_ _ | refine X.drew ?_))) _)) (hOI.1.mono (X.fr (by (repeat (first | exact X.refl _ | assumption | refine X.ext ?_ _ | refine X.alloc ?_ _ | refine X.drew ?_))) _)) hp1 hq1).mono ?_; rintro _ w5 ⟨ra5, rc5, rfl, hown5, hx5⟩; rw [Hr.out] at hown5 ⊢; replace hx5 := X.trans (a := wr) (by (repeat (first | exact X.refl _ | assumption | refine X.ext ?_ _ | refine X.alloc ?_ _ | refine X.drew ?_))) hx5; have hO5 := hO.x hx5; obtain ⟨hbO5, hcO5, hfO5⟩ := hO5.out; have hX5 := hX.trans hx5)
          go_roundw
          case rel => exact ⟨k + 1, r, ra5, rc5, by omega, by go_num, Hgo.out, Hfk.out, Bx.set (Bx.set (Bx.set hO5 0 _) 1 _) 2 _, by (repeat (first | exact X.refl _ | assumption | refine X.setCell ?_ (by first | (simp; done) | (simp; omega)) _ | refine X.ext ?_ _ | refine X.alloc ?_ _ | refine X.drew ?_)), .inr ⟨by omega, (((SpecAt.ints hown5 (by omega)).less (B' := W2.heap.size + 1) (by simp; omega)).mono (Fr.set (Fr.set (Fr.set (Fr.refl _ _) (.inr (by simp)) _) (.inr (by simp)) _) (.inr (by simp)) _)).less (by omega), own_cap hown5⟩⟩
          case measure => simp [intOf]; omega
      · rw [if_neg hkk] at hgo
        have Hgo := Lib.hid hgo
        have hk01 : o.kind = 0 ∨ o.kind = 1 := by omega
        clear hgo hroots hkd hkk
        rcases hk01 with h | h
        all_goals
          rw [h] at o0
          clear h
          go_wp2_with (go_at_call 68; refine (noSpec_c _).mono ?_; rintro _ w6 ⟨a6, c6, rfl, hown6, hx6⟩; replace hR := hR.x hx6; obtain ⟨hbR6, hcR6, hfR6⟩ := hR.out; have hX6 := hXw.trans hx6)
          refine bodyPost_row Tryd.results49 rfl (Bx.set (Bx.set (Bx.set hR 0 _) 1 _) 2 _) spec_S rfl rfl ?_
          exact ⟨_, rfl, by rw [← Hgo.out]; exact ⟨a6, c6, rfl, Nat.zero_le _, ints_nil _ _ _⟩, by (repeat (first | exact X.refl _ | assumption | refine X.setCell ?_ (by first | (simp; done) | (simp; omega)) _ | refine X.ext ?_ _ | refine X.alloc ?_ _ | refine X.drew ?_))⟩
    · obtain rfl : k = tn := by omega
      have he : o = specF l path s := by rw [← hgo, List.drop_eq_nil_of_le (by rw [Hn.out]; omega), specGo]
      have He := Lib.hid he
      have hz : IntsAt wr (w.heap.size + 2) ra o.roots.length o.roots ∧ o.roots.length ≤ rc := by
        rcases hroots with ⟨h0, _⟩ | ⟨_, h1, h2⟩
        · omega
        · exact ⟨h1, h2⟩
      clear he hgo hroots hkd
      go_wp2
      refine bodyPost_row Tryd.results49 rfl (Bx.set (Bx.set (Bx.set hR 0 _) 1 _) 2 _) spec_S rfl rfl ?_
      exact ⟨_, rfl, by rw [← He.out]; exact ⟨ra, rc, rfl, hz.2, (hz.1.mono (Fr.set (Fr.set (Fr.set (Fr.refl _ _) (.inr (by first | (simp; done) | (simp; omega))) _) (.inr (by first | (simp; done) | (simp; omega))) _) (.inr (by first | (simp; done) | (simp; omega))) _)).less (by omega)⟩, by (repeat (first | exact X.refl _ | assumption | refine X.setCell ?_ (by first | (simp; done) | (simp; omega)) _ | refine X.ext ?_ _ | refine X.alloc ?_ _ | refine X.drew ?_))⟩

set_option maxRecDepth 100000 in
set_option maxHeartbeats 1000000 in
set_option maxRecDepth 100000 in
set_option maxHeartbeats 1000000 in
theorem FindSpec_o (l : List Fi) (a : Option Addr) (n c B : Nat) (path : List Int) (pa : Option Addr) (pn pc Bp : Nat) (s : List UInt8) (w : World) (hF : FilesAt w B a n l) (hnc : n ≤ c) (hI : IntsAt w Bp pa pn path) (hpc : pn ≤ pc) (hsl : s.length ≤ 4194304) (hG : Gm w) :
    Calls Tryd.prog 34 #[.agg #[.slice a n c], .slice pa pn pc, .string ⟨(s).toArray⟩] w fun e w' => ∃ v, e = .returned v ∧ SpO w' w.heap.size v (specB l path s) ∧ X w w' := by
  cases h1 : treeB l <;> cases h2 : pathB path <;> cases h3 : nameB s
  all_goals
    go_enter Tryd.func34, Tryd.ntmps34
    go_wp2_with fail
    refine calls_name (fun W hW => ?_)
    obtain ⟨hT, hR, hX0⟩ := bx2 hW
    have hsz : W.heap.size = w.heap.size + 2 := by rw [hW]; simp
    have hle : ∀ {m : Nat}, W.heap.size ≤ m → w.heap.size + 2 ≤ m := fun h => by omega
    clear hW
    obtain ⟨hbT, hcT, hfT⟩ := hT.out
    have t0 := hcT 0
    clear hcT
    refine (ValidTree_c _ _ _ _ _ W (hF.mono (hX0.fr _)) hnc (hG.mono hX0)).mono ?_
    rintro _ _ ⟨rfl, x, rfl⟩
    rw [h1]
    go_wp2_with (first | (go_at_call 56; refine (ValidPath_c _ _ _ _ _ _ (hI.mono (X.fr (hX0.trans (by (repeat (first | exact X.refl _ | assumption | refine X.ext ?_ _ | refine X.alloc ?_ _ | refine X.drew ?_)))) _)) hpc).mono ?_; rintro _ _ ⟨rfl, rfl⟩) | (go_at_call 74; refine (ValidName_c _ _ hsl (hG.mono (hX0.trans (by (repeat (first | exact X.refl _ | assumption | refine X.ext ?_ _ | refine X.alloc ?_ _ | refine X.drew ?_)))))).mono ?_; rintro _ _ ⟨rfl, hx⟩; obtain ⟨x, rfl⟩ := hx.of_ext) | (go_at_call 72; refine (nothing_c _).mono ?_; rintro _ w6 ⟨a6, c6, rfl, hown6, hx6⟩; replace hown6 := own_less hown6 (hle (X.size (by (repeat (first | exact X.refl _ | assumption | refine X.ext ?_ _ | refine X.alloc ?_ _ | refine X.drew ?_))))); replace hx6 := X.trans (a := W) (by (repeat (first | exact X.refl _ | assumption | refine X.ext ?_ _ | refine X.alloc ?_ _ | refine X.drew ?_))) hx6; have hX6 := hX0.trans hx6; have hR6 := hR.x hx6; obtain ⟨hb6, hc6, hf6⟩ := hR6.out) | (go_at_call 75; refine (findName_o l _ _ _ B path _ _ _ Bp s _ (hF.mono (X.fr (hX0.trans (by (repeat (first | exact X.refl _ | assumption | refine X.ext ?_ _ | refine X.alloc ?_ _ | refine X.drew ?_)))) _)) (hI.mono (X.fr (hX0.trans (by (repeat (first | exact X.refl _ | assumption | refine X.ext ?_ _ | refine X.alloc ?_ _ | refine X.drew ?_)))) _)) hpc h3 (hG.mono (hX0.trans (by (repeat (first | exact X.refl _ | assumption | refine X.ext ?_ _ | refine X.alloc ?_ _ | refine X.drew ?_))))) h1).mono ?_; rintro _ w5 ⟨v5, rfl, ⟨a5, c5, rfl, hI5⟩, hx5⟩; replace hI5 := own_less hI5 (hle (X.size (by (repeat (first | exact X.refl _ | assumption | refine X.ext ?_ _ | refine X.alloc ?_ _ | refine X.drew ?_))))); replace hx5 := X.trans (a := W) (by (repeat (first | exact X.refl _ | assumption | refine X.ext ?_ _ | refine X.alloc ?_ _ | refine X.drew ?_))) hx5; have hX6 := hX0.trans hx5; have hR6 := hR.x hx5; obtain ⟨hb6, hc6, hf6⟩ := hR6.out))
  all_goals refine bodyPost_row Tryd.results34 rfl (Bx.set (Bx.set (Bx.set hR6 0 _) 1 _) 2 _) spec_S rfl rfl ?_
  all_goals first
    | (refine ⟨_, rfl, ?_, by (repeat (first | exact X.refl _ | assumption | refine X.setCell ?_ (by first | (simp; done) | (simp; omega)) _ | refine X.ext ?_ _ | refine X.alloc ?_ _ | refine X.drew ?_))⟩
       rw [show specB l path s = noneSp by simp [specB, h1, h2, h3]]
       exact ⟨a6, c6, rfl, own_less (own_fr hown6 (by exact (Fr.set (Fr.set (Fr.set (Fr.refl _ _) (.inr (by first | (simp; done) | (simp; omega))) _) (.inr (by first | (simp; done) | (simp; omega))) _) (.inr (by first | (simp; done) | (simp; omega))) _))) (by omega)⟩)
    | (refine ⟨_, rfl, ?_, by (repeat (first | exact X.refl _ | assumption | refine X.setCell ?_ (by first | (simp; done) | (simp; omega)) _ | refine X.ext ?_ _ | refine X.alloc ?_ _ | refine X.drew ?_))⟩
       rw [show specB l path s = specF l path s by simp [specB, h1, h2, h3]]
       exact ⟨a5, c5, rfl, own_less (own_fr hI5 (by exact (Fr.set (Fr.set (Fr.set (Fr.refl _ _) (.inr (by first | (simp; done) | (simp; omega))) _) (.inr (by first | (simp; done) | (simp; omega))) _) (.inr (by first | (simp; done) | (simp; omega))) _))) (by omega)⟩)
theorem FindSpec_i (l : List Fi) (a : Option Addr) (n c B : Nat) (path : List Int) (pa : Option Addr) (pn pc Bp : Nat) (s : List UInt8) (w : World) (hF : FilesAt w B a n l) (hnc : n ≤ c) (hI : IntsAt w Bp pa pn path) (hpc : pn ≤ pc) (hsl : s.length ≤ 4194304) (hG : Gm w) :
    Calls Tryd.prog 34 #[.agg #[.slice a n c], .slice pa pn pc, .string ⟨(s).toArray⟩] w fun e w' => ∃ v, e = .returned v ∧ SpI w' w.heap.size v (specB l path s) ∧ X w w' :=
  (FindSpec_o l a n c B path pa pn pc Bp s w hF hnc hI hpc hsl hG).mono fun _ _ ⟨v, e, h, hx⟩ => ⟨v, e, h.i (Nat.le_trans (specB_roots l path s) (by have := hI.1; have := hI.2.1; omega)), hx⟩
set_option maxRecDepth 100000 in
set_option maxHeartbeats 1000000 in
theorem FindSpec_s (l : List Fi) (a : Option Addr) (n c B : Nat) (path : List Int) (pa : Option Addr) (pn pc Bp : Nat) (s : List UInt8) (w : World) (hF : FilesAt w B a n l) (hI : IntsAt w Bp pa pn path) (hpc : pn ≤ pc) (hsl : s.length ≤ 4194304) :
    Calls Tryd.prog 33 #[.agg #[.slice a n c], .slice pa pn pc, .string ⟨(s).toArray⟩] w fun e w' => ∃ v, e = .returned v ∧ SpI w' w.heap.size v (specB l path s) ∧ X w w' := by
  cases h1 : treeB l <;> cases h2 : pathB path <;> cases h3 : nameB s
  all_goals
    go_enter Tryd.func33, Tryd.ntmps33
    go_wp2_with fail
    refine calls_name (fun W hW => ?_)
    obtain ⟨hT, hR, hX0⟩ := bx2 hW
    have hsz : W.heap.size = w.heap.size + 2 := by rw [hW]; simp
    have hle : ∀ {m : Nat}, W.heap.size ≤ m → w.heap.size + 2 ≤ m := fun h => by omega
    clear hW
    obtain ⟨hbT, hcT, hfT⟩ := hT.out
    have t0 := hcT 0
    clear hcT
    refine (validTree_c _ _ _ _ _ W (hF.mono (hX0.fr _))).mono ?_
    rintro _ _ ⟨rfl, x, rfl⟩
    rw [h1]
    go_wp2_with (first | (go_at_call 47; refine (validPath_c _ _ _ _ _ _ (hI.mono (X.fr (hX0.trans (by (repeat (first | exact X.refl _ | assumption | refine X.ext ?_ _ | refine X.alloc ?_ _ | refine X.drew ?_)))) _)) hpc).mono ?_; rintro _ _ ⟨rfl, hx⟩; obtain ⟨x, rfl⟩ := hx.of_ext) | (go_at_call 48; refine (validName_c _ _ hsl).mono ?_; rintro _ _ ⟨rfl, hx⟩; obtain ⟨x, rfl⟩ := hx.of_ext) | (go_at_call 68; refine (noSpec_c _).mono ?_; rintro _ w6 ⟨a6, c6, rfl, _, hx6⟩; replace hx6 := X.trans (a := W) (by (repeat (first | exact X.refl _ | assumption | refine X.ext ?_ _ | refine X.alloc ?_ _ | refine X.drew ?_))) hx6; have hX6 := hX0.trans hx6; have hR6 := hR.x hx6; obtain ⟨hb6, hc6, hf6⟩ := hR6.out) | (go_at_call 49; refine (find_s l _ _ _ B path _ _ _ Bp s _ (hF.mono (X.fr (hX0.trans (by (repeat (first | exact X.refl _ | assumption | refine X.ext ?_ _ | refine X.alloc ?_ _ | refine X.drew ?_)))) _)) (hI.mono (X.fr (hX0.trans (by (repeat (first | exact X.refl _ | assumption | refine X.ext ?_ _ | refine X.alloc ?_ _ | refine X.drew ?_)))) _)) hpc h3).mono ?_; rintro _ w5 ⟨v5, rfl, ⟨a5, c5, rfl, hc5, hI5⟩, hx5⟩; replace hI5 := hI5.less (hle (X.size (by (repeat (first | exact X.refl _ | assumption | refine X.ext ?_ _ | refine X.alloc ?_ _ | refine X.drew ?_))))); replace hx5 := X.trans (a := W) (by (repeat (first | exact X.refl _ | assumption | refine X.ext ?_ _ | refine X.alloc ?_ _ | refine X.drew ?_))) hx5; have hX6 := hX0.trans hx5; have hR6 := hR.x hx5; obtain ⟨hb6, hc6, hf6⟩ := hR6.out))
  all_goals refine bodyPost_row Tryd.results33 rfl (Bx.set (Bx.set (Bx.set hR6 0 _) 1 _) 2 _) spec_S rfl rfl ?_
  all_goals first
    | (refine ⟨_, rfl, ?_, by (repeat (first | exact X.refl _ | assumption | refine X.setCell ?_ (by first | (simp; done) | (simp; omega)) _ | refine X.ext ?_ _ | refine X.alloc ?_ _ | refine X.drew ?_))⟩
       rw [show specB l path s = noneSp by simp [specB, h1, h2, h3]]
       exact ⟨a6, c6, rfl, Nat.zero_le _, ints_nil _ _ _⟩)
    | (refine ⟨_, rfl, ?_, by (repeat (first | exact X.refl _ | assumption | refine X.setCell ?_ (by first | (simp; done) | (simp; omega)) _ | refine X.ext ?_ _ | refine X.alloc ?_ _ | refine X.drew ?_))⟩
       rw [show specB l path s = specF l path s by simp [specB, h1, h2, h3]]
       exact ⟨a5, c5, rfl, hc5, (hI5.mono (Fr.set (Fr.set (Fr.set (Fr.refl _ _) (.inr (by first | (simp; done) | (simp; omega))) _) (.inr (by first | (simp; done) | (simp; omega))) _) (.inr (by first | (simp; done) | (simp; omega))) _)).less (by omega)⟩)

end Go.Proofs.YtcophpiibifhcaaDoor
