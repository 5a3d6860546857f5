/- The disk after a session's acts, the program's: the walk. No condition but lengths, and that the listed variables hold what the text lays. -/
import Derived.Test.YtgjfjjhmgbemcaaGreatDoorDaS
namespace Go.Proofs.YtgjfjjhmgbemcaaGreatDoor
open Go.RowKit

theorem outs_T : AppT Tryz.prog 73 75 1 24 := AppT.of (z := .slice none 0 0) (by kernel_rfl) (by kernel_rfl) rfl (by omega)
theorem DkO.own {w w' : World} {B B2 e size m : Nat} {v u : Value} {xs : List Value} {l : List Fi} {kk : Int} {dl : List Di} (h : DkO w B v l kk dl) (hg : w.grownBy w' u.ownBlock) (ho : w.ownsRow B2 e size u m xs) (h1 : 44 ≠ e) (h2 : 148 ≠ e) (h3 : 140 ≠ e) (h4 : 9 ≠ e) : DkO w' B v l kk dl := by
  obtain ⟨a, c, da, dc, E1, e1, k1, k2, k3, k4⟩ := h
  refine ⟨a, c, da, dc, E1, e1, k1, Nat.le_trans k2 hg.size, ?_, ?_⟩
  · obtain ⟨vs, f0, f1, f2, fs, f3, f4, f5⟩ := k3
    exact ⟨vs, f0, f1, f2.kept hg (row_ne f2 ho h1), fs, fun x hx => (let ⟨ba, bc, f, hb⟩ := f3 x hx; ⟨ba, bc, f, hb.kept hg (row_ne hb ho h2)⟩), f4, f5⟩
  · obtain ⟨vs, f0, f1, f2, fs, f3⟩ := k4
    exact ⟨vs, f0, f1, f2.kept hg (row_ne f2 ho h3), fs, fun x hx => let ⟨ba, bc, f, hb⟩ := f3 x hx; ⟨ba, bc, f, hb.kept hg (row_ne hb ho h4)⟩⟩
/-- A typed box of a disk. -/
def Td (w : World) (b : Nat) (cs : Array Value) : Prop := w.heap[b]? = some (.cells cs 38 (0, 0))
theorem Td.bx {w : World} {b : Nat} {cs : Array Value} (h : Td w b cs) : Bx w b cs := ⟨_, h⟩
theorem Td.x {w w' : World} {b : Nat} {cs : Array Value} (h : Td w b cs) (hx : X w w') : Td w' b cs := at_x2' h hx
theorem Td.own {w w' : World} {b B e size n : Nat} {v : Value} {xs : List Value} {cs : Array Value} (h : Td w b cs) (hg : w.grownBy w' v.ownBlock) (ho : w.ownsRow B e size v n xs) (hne : e ≠ 38) : Td w' b cs := at_grown h hg (own_ne_at ho h hne)
theorem Td.new (w : World) (cs : Array Value) {b : Nat} (h : b = w.heap.size) : Td (w.alloc (.cells cs 38)) b cs := by
  subst h
  exact heap_alloc_new _ _
theorem Td.set3 {W : World} {b : Nat} {a0 a1 a2 : Value} (h : Td W b #[a0, a1, a2]) (v0 v1 v2 : Value) : Td (((W.setCell ⟨b, 0, none⟩ v0).setCell ⟨b, 1, none⟩ v1).setCell ⟨b, 2, none⟩ v2) b #[v0, v1, v2] := heap_set3 h _ _ _
theorem Td.far3 {w : World} {b g : Nat} {cs : Array Value} (h : Td w b cs) (hne : b ≠ g) (v0 v1 v2 : Value) : Td (((w.setCell ⟨g, 0, none⟩ v0).setCell ⟨g, 1, none⟩ v1).setCell ⟨g, 2, none⟩ v2) b cs := by
  unfold Td at *
  rw [heap_setCell_other _ ⟨g, 2, none⟩ b v2 hne, heap_setCell_other _ ⟨g, 1, none⟩ b v1 hne, heap_setCell_other _ ⟨g, 0, none⟩ b v0 hne]
  exact h
theorem own_far3 {w : World} {B e size n g : Nat} {v : Value} {xs : List Value} {cs : Array Value} {t : TypeId} (h : w.ownsRow B e size v n xs) (hb : w.heap[g]? = some (.cells cs t (0, 0))) (hne : e ≠ t) {a0 a1 a2 : Value} (hcs : cs = #[a0, a1, a2]) (v0 v1 v2 : Value) : (((w.setCell ⟨g, 0, none⟩ v0).setCell ⟨g, 1, none⟩ v1).setCell ⟨g, 2, none⟩ v2).ownsRow B e size v n xs := by
  subst hcs
  exact own_set_far (own_set_far (own_set_far h hb hne _ _) (heap_set1 hb) hne _ _) (heap_set2 hb) hne _ _
/-- The act that answers nothing. -/
theorem runNil_c (v : Value) (s : Value) (w : World) (ra rn rc : _) (kk : Int) (da dn dc : _) (nm : List UInt8) (hv : v = .agg #[.slice ra rn rc, .int .i64 kk, .slice da dn dc]) (hs : s = .string ⟨(nm).toArray⟩) :
    Calls Tryz.prog 65 #[v, s] w fun e w' => e = .returned (.slice none 0 0) ∧ X w w' := by
  subst hv hs
  go_enter Tryz.func65, Tryz.ntmps65
  go_wp2
  go_ret
  exact ⟨by simp, by (repeat (first | with_reducible exact X.refl _ | with_reducible assumption | with_reducible refine X.setCell ?_ (by first | (simp; done) | (simp; omega)) _ | with_reducible refine X.ext ?_ _ | with_reducible refine X.alloc ?_ _ | with_reducible refine X.drew ?_))⟩
def runNil : Value := .func (.func 65) #[] #[]
theorem dk_lit (W : World) (cs : Array Value) : DkO (((W.alloc (.cells #[] 44)).alloc (.cells #[] 140)).alloc (.cells cs 38)) W.heap.size (.agg #[.slice (some ⟨W.heap.size, 0, none⟩) 0 0, .int .i64 0, .slice (some ⟨W.heap.size + 1, 0, none⟩) 0 0]) [] 0 [] := by
  have h1 : (W.alloc (.cells #[] 44)).ownsRow W.heap.size 44 6 (.slice (some ⟨W.heap.size, 0, none⟩) 0 0) 0 [] := own_lit rfl (Nat.le_refl _) rfl (by omega)
  have h2 : ((W.alloc (.cells #[] 44)).alloc (.cells #[] 140)).ownsRow (W.heap.size + 1) 140 4 (.slice (some ⟨W.heap.size + 1, 0, none⟩) 0 0) 0 [] := own_lit (by simp) (by simp) rfl (by omega)
  refine ⟨_, _, _, _, W.heap.size + 1, rfl, by omega, by simp, ?_, ?_⟩
  · refine ⟨[], rfl, rfl, own_fr h1 (X.fr (((X.refl _).alloc _).alloc _) _), List.Pairwise.nil, (fun _ h => by cases h), (fun b hb => ?_), (fun _ h => by cases h)⟩
    have : W.heap.size = b := by simpa [Value.ownBlock] using hb
    omega
  · exact ⟨[], rfl, rfl, own_fr h2 (X.fr ((X.refl _).alloc _) _), List.Pairwise.nil, fun _ h => by cases h⟩
/-- What the walk leaves. -/
def WkP (w w' : World) (t : Int) (l : List Ac) (n : Nat) (e : Ending) : Prop :=
  ∃ v u, e = .returned (.tuple #[v, u]) ∧ DkO w' w.heap.size v (aftD t l n).l (aftD t l n).kk (aftD t l n).dl ∧ X w w'
set_option maxRecDepth 100000 in
set_option maxHeartbeats 8000000 in
theorem walk_c (l : List Ac) (a : Option Addr) (n c B : Nat) (t : Int) (w : World) (hA : ActsAt w B a n l) (hn : n ≤ 20) (ht0 : 0 ≤ t) (ht4 : t ≤ 4) (hG : Gm w) :
    Calls Tryz.prog 64 #[.slice a n c, .int .i64 t, runNil] w fun e w' => WkP w w' t l n e := by
  have Hnl := Lib.hid hA.len.1
  unfold runNil
  go_enter Tryz.func64, Tryz.ntmps64
  go_upto_region 1 with fail
  refine wp_name (fun W0 hW0 => ?_)
  have hR0 : Td W0 w.heap.size #[.slice none 0 0, .int .i64 0, .slice none 0 0] := by rw [hW0]; exact Td.new _ _ rfl
  have hX0 : X w W0 := by rw [hW0]; (repeat (first | with_reducible exact X.refl _ | with_reducible assumption | with_reducible refine X.setCell ?_ (by first | (simp; done) | (simp; omega)) _ | with_reducible refine X.ext ?_ _ | with_reducible refine X.alloc ?_ _ | with_reducible refine X.drew ?_))
  have hz0 : W0.heap.size = w.heap.size + 1 := by rw [hW0]; simp
  clear hW0
  have Hz0 := Lib.hid hz0
  clear hz0
  go_upto_region 2 with fail
  refine wp_name (fun W2 hW2 => ?_)
  have hB2 : Td W2 (W0.heap.size + 1 + 1) #[.slice (some ⟨W0.heap.size, 0, none⟩) 0 0, .int .i64 0, .slice (some ⟨W0.heap.size + 1, 0, none⟩) 0 0] := by rw [hW2]; exact Td.new _ _ (by simp)
  have hD2 : DkO W2 W0.heap.size (.agg #[.slice (some ⟨W0.heap.size, 0, none⟩) 0 0, .int .i64 0, .slice (some ⟨W0.heap.size + 1, 0, none⟩) 0 0]) [] 0 [] := by rw [hW2]; exact dk_lit _ _
  have hX2 : X W0 W2 := by rw [hW2]; (repeat (first | with_reducible exact X.refl _ | with_reducible assumption | with_reducible refine X.setCell ?_ (by first | (simp; done) | (simp; omega)) _ | with_reducible refine X.ext ?_ _ | with_reducible refine X.alloc ?_ _ | with_reducible refine X.drew ?_))
  have hs2 : W2.heap.size = W0.heap.size + 3 := by rw [hW2]; simp
  clear hW2
  have Hs2 := Lib.hid hs2
  clear hs2
  go_upto_region 3 with fail
  refine wp_name (fun W3 hW3 => ?_)
  have hO3 : W3.ownsRow W0.heap.size 75 1 (.slice (some ⟨W2.heap.size, 0, none⟩) 0 0) 0 [] := by rw [hW3]; exact own_lit rfl hX2.size rfl (by omega)
  have hX3 : X W2 W3 := by rw [hW3]; (repeat (first | with_reducible exact X.refl _ | with_reducible assumption | with_reducible refine X.setCell ?_ (by first | (simp; done) | (simp; omega)) _ | with_reducible refine X.ext ?_ _ | with_reducible refine X.alloc ?_ _ | with_reducible refine X.drew ?_))
  clear hW3
  have hX03 := hX0.trans (hX2.trans hX3)
  obtain ⟨b8, hb8⟩ : ∃ b8, b8 = W0.heap.size + 1 + 1 := ⟨_, rfl⟩
  rw [← hb8] at hB2 ⊢
  have Hb8 := Lib.hid hb8
  clear hb8
  go_wp2
  go_loopw [9, 11, 12, 13, 21] (fun o _ _ _ i wr => ∃ k : Nat, k ≤ n ∧ i = .int .i64 k ∧ ∃ d fa fc da dc, d = aftD t l k ∧ Td wr b8 #[.slice fa d.l.length fc, .int .i64 d.kk, .slice da d.dl.length dc] ∧ Td wr w.heap.size #[.slice none 0 0, .int .i64 0, .slice none 0 0] ∧ DkO wr W0.heap.size (.agg #[.slice fa d.l.length fc, .int .i64 d.kk, .slice da d.dl.length dc]) d.l d.kk d.dl ∧ DkI d k ∧ X w wr ∧ ∃ oa oc ys, o = .slice oa k oc ∧ wr.ownsRow W0.heap.size 75 1 (.slice oa k oc) k ys ∧ W0.heap.size ≤ wr.heap.size) (fun _ _ _ _ i _ => n - (intOf i).toNat)
  case atStart => exact ⟨0, by omega, rfl, dk0, _, _, _, _, rfl, hB2.x hX3, (hR0.x hX2).x hX3, hD2.fr (hX3.fr _), DkI.zero, hX03, _, _, _, rfl, hO3, (hX2.trans hX3).size⟩
  case round =>
    obtain ⟨k, hk, rfl, d, fa, fc, da, dc, hd, hB8, hR8, hDk, hI, hX, oa, oc, ys, rfl, hO, hzr⟩ := hrel
    replace hd := Lib.hid hd
    by_cases hlt : k < n
    · obtain ⟨b, off, ba, bn, bc, rfl, _, hb, hok, _, hS, g0, g1, g2, g3, g4, g5, g6, g7, g8⟩ := (hA.mono (hX.fr _)).at_ hlt
      have hk1 : (k : Int) < (n : Int) := by omega
      have hnx := Lib.hid (show aftD t l (k + 1) = stepD t d (nth l k) by rw [hd.out]; exact aftD_next (by have := Hnl.out; omega))
      have hk20 : k < 20 := by omega
      go_upto_region 6 with fail
      refine wp_name (fun W9 hW9 => ?_)
      have hA9 : Bx W9 wr.heap.size (#[.int .i64 ((nth l k)).kind, .int .i64 ((nth l k)).file.root, .string ⟨((nth l k)).file.pkg.toArray⟩, .string ⟨((nth l k)).file.name.toArray⟩, .bool ((nth l k)).file.init, .int .i64 ((nth l k)).file.stamp, .slice ba bn bc, .int .i64 ((nth l k)).idx, .string ⟨((nth l k)).name.toArray⟩]) := by rw [hW9]; exact Bx.new _ _ _
      have hx9 : X wr W9 := by rw [hW9]; (repeat (first | with_reducible exact X.refl _ | with_reducible assumption | with_reducible refine X.setCell ?_ (by first | (simp; done) | (simp; omega)) _ | with_reducible refine X.ext ?_ _ | with_reducible refine X.alloc ?_ _ | with_reducible refine X.drew ?_))
      clear hW9 g0 g1 g2 g3 g4 g5 g6 g7 g8
      have hX9 := hX.trans hx9
      have hS9 := hS.mono (hx9.fr _)
      have hB9 := hB8.x hx9
      have hD9 := hDk.fr (hx9.fr _)
      have hO9 := own_fr hO (hx9.fr _)
      have hs9 := hx9.size
      obtain ⟨lta, ca, _⟩ := hA9.out
      have c0 := ca 0
      have c1 := ca 1
      have c2 := ca 2
      have c3 := ca 3
      have c4 := ca 4
      have c5 := ca 5
      have c6 := ca 6
      have c7 := ca 7
      have c8 := ca 8
      obtain ⟨ltd, cd, _⟩ := hB9.bx.out
      have d0 := cd 0
      have d1 := cd 1
      have d2 := cd 2
      clear ca cd
      by_cases h3 : (nth l k).kind = 3
      · go_wp2_with fail
        refine (runNil_c _ _ W9 fa d.l.length fc d.kk da d.dl.length dc (nth l k).name rfl rfl).mono ?_
        rintro _ w10 ⟨rfl, hx10⟩
        have hO10 := own_fr hO9 (hx10.fr _)
        have hs10 := hx10.size
        clear d0 d1 d2 ltd c0 c1 c2 c3 c4 c5 c6 c7 c8 lta
        go_wp2_with (at_builtin; refine wpList_append_g outs_T rfl _ _ rfl hO10 rfl rfl (by simp) rfl (by simp [Value.oneCell']) (by omega) (by omega) (by first | omega | (simp; omega)) ?_; intro oa2 oc2 w13 hO13 hg13)
        go_roundw
        case rel =>
          have hX11 : X W9 (w10.alloc (.cells #[.slice none 0 0] 75)) := hx10.alloc _
          have hO11 := own_fr hO9 (hX11.fr _)
          exact ⟨k + 1, by omega, by go_num, d, fa, fc, da, dc, by rw [hnx.out, step_3 h3], (hB9.x hX11).own hg13 hO11 (by decide), ((hR8.x hx9).x hX11).own hg13 hO11 (by decide), (hD9.fr (hX11.fr _)).own hg13 hO11 (by decide) (by decide) (by decide) (by decide), hI.up, X.of_below ((hX9.trans hX11).below.grown hg13 (hX9.trans hX11).size (fun g hg => by have := (hO11.lt g hg).1; have := hX0.size; omega)), oa2, oc2, _, rfl, hO13, by have := hg13.size; have := hX11.size; omega⟩
        case measure => simp [intOf]; omega
      obtain ⟨bb, hbb⟩ : ∃ bb, chgB d (nth l k) t = bb := ⟨_, rfl⟩
      obtain ⟨R, hR⟩ : ∃ R, chgR d (nth l k) t = R := ⟨_, rfl⟩
      have hchg : Calls Tryz.prog 118 #[.agg #[.slice fa d.l.length fc, .int .i64 d.kk, .slice da d.dl.length dc], .agg #[.int .i64 ((nth l k)).kind, .int .i64 ((nth l k)).file.root, .string ⟨((nth l k)).file.pkg.toArray⟩, .string ⟨((nth l k)).file.name.toArray⟩, .bool ((nth l k)).file.init, .int .i64 ((nth l k)).file.stamp, .slice ba bn bc, .int .i64 ((nth l k)).idx, .string ⟨((nth l k)).name.toArray⟩], .int .i64 t] W9 fun e w' => ∃ ya yc yda ydc, e = .returned (.tuple #[.agg #[.slice ya R.l.length yc, .int .i64 R.kk, .slice yda R.dl.length ydc], .bool bb]) ∧ DkO w' W9.heap.size (.agg #[.slice ya R.l.length yc, .int .i64 R.kk, .slice yda R.dl.length ydc]) R.l R.kk R.dl ∧ X W9 w' := by
        obtain ⟨fa', fc', da', dc', E1, e, e1, e2, hFE, hDO⟩ := hD9
        obtain ⟨⟨rfl, rfl⟩, rfl, rfl⟩ : (fa = fa' ∧ fc = fc') ∧ da = da' ∧ dc = dc' := by simpa using e
        have i1 := hI.ll
        have i2 := hI.kk
        have hnc : d.l.length ≤ fc := by obtain ⟨_, _, _, hr, _⟩ := hFE; exact own_cap hr
        have hdc : d.dl.length ≤ dc := by obtain ⟨_, _, _, hr, _⟩ := hDO; exact own_cap hr
        refine (change_i d.l fa _ fc d.kk d.dl da _ dc W0.heap.size (nth l k) ba bn bc B t W9 (hFE.o.at hI.okl) ((hDO.less e1).at hI.okd) (by omega) hI.ok hI.k0 (by omega) ht0 ht4 hok.1 hS9 hnc hdc (hG.mono hX9)).mono ?_
        rintro _ w' ⟨_, rfl, hO, hx⟩
        obtain ⟨ya, yc, yda, ydc, E2, rfl, hO2⟩ := id hO
        have hbb2 : chgB ⟨d.l, d.kk, d.dl⟩ (nth l k) t = bb := hbb
        have hR2 : chgR ⟨d.l, d.kk, d.dl⟩ (nth l k) t = R := hR
        rw [hR2] at hO ⊢
        rw [hbb2]
        exact ⟨_, _, _, _, rfl, hO, hx⟩
      have Hbb := Lib.hid hbb
      have HR := Lib.hid hR
      clear hbb hR
      go_wp2_with fail
      refine hchg.mono ?_
      rintro _ w10 ⟨ya, yc, yda, ydc, rfl, hY, hx10⟩
      clear hchg d0 d1 d2 ltd c0 c1 c2 c3 c4 c5 c6 c7 c8 lta
      go_upto_region 9 with fail
      refine wp_name (fun W11 hW11 => ?_)
      have hB12 : Td W11 w10.heap.size #[.slice ya R.l.length yc, .int .i64 R.kk, .slice yda R.dl.length ydc] := by rw [hW11]; exact Td.new _ _ rfl
      have hx11 : X w10 W11 := by rw [hW11]; (repeat (first | with_reducible exact X.refl _ | with_reducible assumption | with_reducible refine X.setCell ?_ (by first | (simp; done) | (simp; omega)) _ | with_reducible refine X.ext ?_ _ | with_reducible refine X.alloc ?_ _ | with_reducible refine X.drew ?_))
      clear hW11
      have hx := hx10.trans hx11
      have hX11 := hX9.trans hx
      have hO11 := own_fr hO9 (hx.fr _)
      have hB11 := hB9.x hx
      have hR11 := (hR8.x hx9).x hx
      have hs10 := hx10.size
      have hs11 := hx11.size
      cases hbv : bb
      · have hst := step_n h3 (Hbb.out.trans hbv)
        go_wp2_with (at_builtin; refine wpList_append_g outs_T rfl _ _ rfl (own_fr hO11 (X.fr ((X.refl _).alloc _) _)) rfl rfl (by simp) rfl (by simp [Value.oneCell']) (by omega) (by omega) (by first | omega | (simp; omega)) ?_; intro oa2 oc2 w13 hO13 hg13)
        go_roundw
        case rel =>
          have hX12 : X W11 ((W11.alloc (.cells #[.int .i64 0] 3)).alloc (.cells #[.slice (some ⟨W11.heap.size, 0, none⟩) 1 1] 75)) := ((X.refl _).alloc _).alloc _
          have hO12 := own_fr hO11 (hX12.fr _)
          exact ⟨k + 1, by omega, by go_num, d, fa, fc, da, dc, by rw [hnx.out, hst], (hB11.x hX12).own hg13 hO12 (by decide), (hR11.x hX12).own hg13 hO12 (by decide), ((hD9.fr (hx.fr _)).fr (hX12.fr _)).own hg13 hO12 (by decide) (by decide) (by decide) (by decide), hI.up, X.of_below ((hX11.trans hX12).below.grown hg13 (hX11.trans hX12).size (fun g hg => by have := (hO12.lt g hg).1; have := hX0.size; omega)), oa2, oc2, _, rfl, hO13, by have := hg13.size; have := hX12.size; omega⟩
        case measure => simp [intOf]; omega
      · have hcc := Hbb.out.trans hbv
        have hst := step_c h3 hcc
        have hR2 := Lib.hid (show R = chgD d (nth l k) t from HR.out.symm.trans (chgR_c hcc))
        obtain ⟨ltg, cg, _⟩ := hB12.bx.out
        have g0 := cg 0
        have g1 := cg 1
        have g2 := cg 2
        obtain ⟨ltr, cr, fr⟩ := hB11.bx.out
        have r0 := cr 0
        have r1 := cr 1
        have r2 := cr 2
        have fr0 := fr 0
        have fr1 := fr 1
        have fr2 := fr 2
        have hl8 : b8 < W9.heap.size := hB9.bx.out.1
        have hg8 : w.heap.size ≤ b8 := by have := Hb8.out; have := hX0.size; omega
        have hn8 : w.heap.size ≠ b8 := by have := Hb8.out; have := Hz0.out; omega
        clear cg cr fr
        go_upto_region 11 with fail
        refine wp_name (fun W12 hW12 => ?_)
        have hB12 : Td W12 b8 #[.slice ya R.l.length yc, .int .i64 R.kk, .slice yda R.dl.length ydc] := by rw [hW12]; exact hB11.set3 _ _ _
        have hR12 : Td W12 w.heap.size #[.slice none 0 0, .int .i64 0, .slice none 0 0] := by rw [hW12]; exact hR11.far3 hn8 _ _ _
        have hO12 : W12.ownsRow W0.heap.size 75 1 (.slice oa k oc) k ys := by rw [hW12]; exact own_far3 hO11 hB11 (by decide) rfl _ _ _
        have hD12 : DkO W12 W9.heap.size (.agg #[.slice ya R.l.length yc, .int .i64 R.kk, .slice yda R.dl.length ydc]) R.l R.kk R.dl := by rw [hW12]; exact (hY.fr (hx11.fr _)).fr (fr_set3 hl8 _ _ _)
        have hX12 : X w W12 := by rw [hW12]; exact x_set3 (b := b8) hX11 hg8 _ _ _
        have hs12 : W12.heap.size = W11.heap.size := by rw [hW12]; simp
        clear hW12 g0 g1 g2 ltg r0 r1 r2 fr0 fr1 fr2 ltr
        have Hs12 := Lib.hid hs12
        clear hs12
        go_wp2_with (at_builtin; refine wpList_append_g outs_T rfl _ _ rfl (own_fr hO12 (X.fr ((X.refl _).alloc _) _)) rfl rfl (by simp) rfl (by simp [Value.oneCell']) (by omega) (by omega) (by have := Hs12.out; first | omega | (simp; omega)) ?_; intro oa2 oc2 w13 hO13 hg13)
        go_roundw
        case rel =>
          have hX13 : X W12 ((W12.alloc (.cells #[.int .i64 1] 3)).alloc (.cells #[.slice (some ⟨W12.heap.size, 0, none⟩) 1 1] 75)) := ((X.refl _).alloc _).alloc _
          have hO14 := own_fr hO12 (hX13.fr _)
          exact ⟨k + 1, by omega, by go_num, R, ya, yc, yda, ydc, by rw [hnx.out, hst, hR2.out], (hB12.x hX13).own hg13 hO14 (by decide), (hR12.x hX13).own hg13 hO14 (by decide), ((hD12.less (by omega)).fr (hX13.fr _)).own hg13 hO14 (by decide) (by decide) (by decide) (by decide), by rw [hR2.out]; exact hI.chg hok.1 (by have := hS.1; have := hS.2.1; omega) hS.2.2.1 (by omega) ht0 ht4 hcc, X.of_below ((hX12.trans hX13).below.grown hg13 (hX12.trans hX13).size (fun g hg => by have := (hO14.lt g hg).1; have := hX0.size; omega)), oa2, oc2, _, rfl, hO13, by have := hg13.size; have := hX13.size; have := Hs12.out; omega⟩
        case measure => simp [intOf]; omega
    · have hk1 : ¬ (k : Int) < (n : Int) := by omega
      obtain rfl : k = n := by omega
      obtain ⟨ltg, cg, _⟩ := hB8.bx.out
      have g0 := cg 0
      have g1 := cg 1
      have g2 := cg 2
      obtain ⟨ltr, cr, fr⟩ := hR8.bx.out
      have r0 := cr 0
      have r1 := cr 1
      have r2 := cr 2
      have fr0 := fr 0
      have fr1 := fr 1
      have fr2 := fr 2
      clear cg cr fr
      go_wp2
      obtain ⟨_, c9, _⟩ := (hR8.set3 (.slice fa d.l.length fc) (.int .i64 d.kk) (.slice da d.dl.length dc)).bx.out
      have q0 := c9 0
      have q1 := c9 1
      have q2 := c9 2
      clear c9
      refine bodyPost_ret (v := .tuple #[.agg #[.slice fa d.l.length fc, .int .i64 d.kk, .slice da d.dl.length dc], .slice oa k oc]) (by simp [results, Tryz.results64, go_sem, Result.andThen, q0, q1, q2]) rfl ?_
      obtain ⟨j1, j2⟩ := dk_end (b := w.heap.size) hX (Nat.le_refl _) (by have := Hz0.out; omega) hDk
      unfold WkP
      rw [← hd.out]
      exact ⟨_, _, rfl, j1, j2⟩
theorem actsOk_c (l : List Ac) (a : Option Addr) (n c B : Nat) (t : Int) (w : World) (hA : ActsAt w B a n l) (hG : Gm w) :
    Calls Tryz.prog 63 #[.slice a n c, .int .i64 t] w fun e w' => e = .returned (.bool (aftB t l)) ∧ X w w' := by
  go_enter Tryz.func63, Tryz.ntmps63
  go_wp2_with fail
  refine (ValidActs_i l a n c B w hA hG).mono ?_
  rintro _ w1 ⟨rfl, hx1⟩
  cases h1 : actsB l
  · go_wp2
    go_ret
    exact ⟨by simp [aftB, h1], hx1⟩
  · go_wp2_with (go_at_call 80; refine (within_c t 0 4 _).mono ?_; rintro _ _ ⟨rfl, rfl⟩)
    go_ret
    exact ⟨by simp [aftB, h1], hx1⟩
set_option maxRecDepth 100000 in
set_option maxHeartbeats 4000000 in
theorem DiskAfter_i (l : List Ac) (a : Option Addr) (n c B : Nat) (t : Int) (w : World) (hA : ActsAt w B a n l) (hG : Gm w) :
    Calls Tryz.prog 24 #[.slice a n c, .int .i64 t] w fun e w' => DaP w w' t l e := by
  go_enter Tryz.func24, Tryz.ntmps24
  go_upto_region 1 with fail
  refine wp_name (fun W0 hW0 => ?_)
  have hR0 : Bx W0 w.heap.size #[.slice none 0 0, .int .i64 0, .slice none 0 0] := by rw [hW0]; exact Bx.new _ _ _
  have hX0 : X w W0 := by rw [hW0]; (repeat (first | with_reducible exact X.refl _ | with_reducible assumption | with_reducible refine X.setCell ?_ (by first | (simp; done) | (simp; omega)) _ | with_reducible refine X.ext ?_ _ | with_reducible refine X.alloc ?_ _ | with_reducible refine X.drew ?_))
  have hz0 : W0.heap.size = w.heap.size + 1 := by rw [hW0]; simp
  clear hW0
  have Hz0 := Lib.hid hz0
  clear hz0
  go_wp2_with fail
  refine (actsOk_c l a n c B t W0 (hA.mono (hX0.fr _)) (hG.mono hX0)).mono ?_
  rintro _ w1 ⟨rfl, hx1⟩
  have hR1 := hR0.x hx1
  have hX1 := hX0.trans hx1
  cases h1 : aftB t l
  · obtain ⟨ltr, cr, fr⟩ := hR1.out
    have r0 := cr 0
    have r1 := cr 1
    have r2 := cr 2
    have fr0 := fr 0
    have fr1 := fr 1
    have fr2 := fr 2
    clear cr fr
    go_wp2
    obtain ⟨_, c9, _⟩ := (Bx.set (Bx.set (Bx.set hR1 0 (.slice none 0 0)) 1 (.int .i64 0)) 2 (.slice none 0 0)).out
    have q0 := c9 0
    have q1 := c9 1
    have q2 := c9 2
    clear c9
    refine bodyPost_ret (v := .agg #[.slice none 0 0, .int .i64 0, .slice none 0 0]) (by simp [results, Tryz.results24, go_sem, Result.andThen, q0, q1, q2]) rfl ?_
    exact DaP.zero0 h1 hX1
  have h1a := h1
  unfold aftB at h1a
  obtain ⟨ha, ht⟩ := Bool.and_eq_true _ _ ▸ h1a
  obtain ⟨ht0, ht4⟩ := rangeB_iff.1 ht
  have hn20 := acts_20 ha
  have hnl := hA.len.1
  have Hn := Lib.hid (And.intro hnl hn20)
  have Haf := Lib.hid h1
  clear hnl hn20 ha ht h1a h1
  go_wp2_with fail
  refine (walk_c l a n c B t w1 (hA.mono (hX1.fr _)) (by have := Hn.out; omega) ht0 ht4 (hG.mono hX1)).mono ?_
  rintro _ w2 ⟨_, u, rfl, hDk, hx2⟩
  have haf : aftR t l = aftD t l n := by rw [aftR, if_pos Haf.out, ← aftD_all, Hn.out.1]
  rw [← haf] at hDk
  clear haf
  obtain ⟨ya, yc, yda, ydc, E2, rfl, hO2⟩ := id hDk
  have hs1 := hX1.size
  have hsb := hR1.out.1
  go_upto_region 4 with fail
  refine wp_name (fun W3 hW3 => ?_)
  have hB3 : Bx W3 w2.heap.size #[.slice ya (aftR t l).l.length yc, .int .i64 (aftR t l).kk, .slice yda (aftR t l).dl.length ydc] := by rw [hW3]; exact Bx.new _ _ _
  have hx3 : X w2 W3 := by rw [hW3]; (repeat (first | with_reducible exact X.refl _ | with_reducible assumption | with_reducible refine X.setCell ?_ (by first | (simp; done) | (simp; omega)) _ | with_reducible refine X.ext ?_ _ | with_reducible refine X.alloc ?_ _ | with_reducible refine X.drew ?_))
  clear hW3
  have hR3 := (hR1.x hx2).x hx3
  obtain ⟨ltg, cg, _⟩ := hB3.out
  have g0 := cg 0
  have g1 := cg 1
  have g2 := cg 2
  obtain ⟨ltr, cr, fr⟩ := hR3.out
  have r0 := cr 0
  have r1 := cr 1
  have r2 := cr 2
  have fr0 := fr 0
  have fr1 := fr 1
  have fr2 := fr 2
  clear cg cr fr
  go_wp2
  obtain ⟨_, c9, _⟩ := (bx_set3 hR3 (.slice ya (aftR t l).l.length yc) (.int .i64 (aftR t l).kk) (.slice yda (aftR t l).dl.length ydc)).out
  have q0 := c9 0
  have q1 := c9 1
  have q2 := c9 2
  clear c9
  refine bodyPost_ret (v := .agg #[.slice ya (aftR t l).l.length yc, .int .i64 (aftR t l).kk, .slice yda (aftR t l).dl.length ydc]) (by simp [results, Tryz.results24, go_sem, Result.andThen, q0, q1, q2]) rfl ?_
  obtain ⟨j1, j2⟩ := dk_end (b := w.heap.size) ((hX1.trans hx2).trans hx3) (Nat.le_refl _) hsb (hDk.fr (hx3.fr _))
  exact ⟨_, rfl, j1, j2⟩

end Go.Proofs.YtgjfjjhmgbemcaaGreatDoor
