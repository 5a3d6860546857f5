/- What a finder learns of a directory: the walk of the reference's function. No condition but lengths. -/
import Derived.Test.YtgjfjjhmgbemcaaDoorFilD
import Derived.Test.YtgjfjjhmgbemcaaDoorLd
import Derived.Test.YtgjfjjhmgbemcaaDoorListT
import Derived.Test.YtgjfjjhmgbemcaaDoorIns
import Derived.Deep.CutRange
namespace Go.Proofs.YtgjfjjhmgbemcaaDoor
open Go.RowKit

theorem finder_S : StrT Tryd.prog 44 3 := ⟨⟨_, Tryd.underlying44⟩, by kernel_rfl⟩
/-- A box of a finder. -/
def Tf (w : World) (b : Nat) (cs : Array Value) : Prop := w.heap[b]? = some (.cells cs 44 (0, 0))
theorem Tf.bx {w : World} {b : Nat} {cs : Array Value} (h : Tf w b cs) : Bx w b cs := ⟨_, h⟩
theorem Tf.x {w w' : World} {b : Nat} {cs : Array Value} (h : Tf w b cs) (hx : X w w') : Tf w' b cs := at_x2' h hx
theorem Tf.far {w : World} {b : Nat} {cs : Array Value} (h : Tf w b cs) {p : Addr} (hne : b ≠ p.block) (v : Value) : Tf (w.setCell p v) b cs := (heap_setCell_other w p b v hne).trans h
theorem Tf.set0 {w : World} {b : Nat} {z0 z1 z2 : Value} (h : Tf w b #[z0, z1, z2]) (v : Value) : Tf (w.setCell ⟨b, 0, none⟩ v) b #[v, z1, z2] := by
  unfold Tf at *
  simpa using heap_setCell_same _ b 0 _ _ v h
theorem Tf.set1 {w : World} {b : Nat} {z0 z1 z2 : Value} (h : Tf w b #[z0, z1, z2]) (v : Value) : Tf (w.setCell ⟨b, 1, none⟩ v) b #[z0, v, z2] := by
  unfold Tf at *
  simpa using heap_setCell_same _ b 1 _ _ v h
theorem Tf.set2 {w : World} {b : Nat} {z0 z1 z2 : Value} (h : Tf w b #[z0, z1, z2]) (v : Value) : Tf (w.setCell ⟨b, 2, none⟩ v) b #[z0, z1, v] := by
  unfold Tf at *
  simpa using heap_setCell_same _ b 2 _ _ v h
theorem Tf.set3 {w : World} {b : Nat} {z0 z1 z2 : Value} (h : Tf w b #[z0, z1, z2]) (v0 v1 v2 : Value) : Tf (((w.setCell ⟨b, 0, none⟩ v0).setCell ⟨b, 1, none⟩ v1).setCell ⟨b, 2, none⟩ v2) b #[v0, v1, v2] := Tf.set2 (Tf.set1 (Tf.set0 h v0) v1) v2
theorem Tf.far3 {w : World} {b g : Nat} {cs : Array Value} (h : Tf w b cs) (hne : b ≠ g) (v0 v1 v2 : Value) : Tf (((w.setCell ⟨g, 0, none⟩ v0).setCell ⟨g, 1, none⟩ v1).setCell ⟨g, 2, none⟩ v2) b cs :=
  Tf.far (p := ⟨g, 2, none⟩) (Tf.far (p := ⟨g, 1, none⟩) (Tf.far (p := ⟨g, 0, none⟩) h hne v0) hne v1) hne v2
theorem DirsV.set3 {w : World} {B c b : Nat} {a : Option Addr} {vs : List (Di × Value)} {z0 z1 z2 : Value} (h : DirsV w B a c vs) (hT : Tf w b #[z0, z1, z2]) (v0 v1 v2 : Value) : DirsV (((w.setCell ⟨b, 0, none⟩ v0).setCell ⟨b, 1, none⟩ v1).setCell ⟨b, 2, none⟩ v2) B a c vs :=
  ((h.far hT (by decide) (by decide) _ _).far (hT.set0 v0) (by decide) (by decide) _ _).far ((hT.set0 v0).set1 v1) (by decide) (by decide) _ _
theorem Tf.cells {w : World} {b : Nat} {z0 z1 z2 : Value} (h : Tf w b #[z0, z1, z2]) : b < w.heap.size ∧ w.cell? ⟨b, 0, none⟩ = some z0 ∧ w.cell? ⟨b, 1, none⟩ = some z1 ∧ w.cell? ⟨b, 2, none⟩ = some z2 ∧ w.frozen? ⟨b, 0, none⟩ = false ∧ w.frozen? ⟨b, 1, none⟩ = false ∧ w.frozen? ⟨b, 2, none⟩ = false := by
  obtain ⟨l, c, f⟩ := h.bx.out
  exact ⟨l, c 0, c 1, c 2, f 0, f 1, f 2⟩
theorem GrF.set3 {w w' : World} {v v' : Value} (h : GrF w w' v v') {b : Nat} (hb : w.heap.size ≤ b) (v0 v1 v2 : Value) : GrF w (((w'.setCell ⟨b, 0, none⟩ v0).setCell ⟨b, 1, none⟩ v1).setCell ⟨b, 2, none⟩ v2) v v' :=
  ((h.set ⟨b, 0, none⟩ v0 hb).set ⟨b, 1, none⟩ v1 hb).set ⟨b, 2, none⟩ v2 hb
theorem bx_far3 {w : World} {b g : Nat} {cs : Array Value} (h : Bx w b cs) (hne : b ≠ g) (v0 v1 v2 : Value) : Bx (((w.setCell ⟨g, 0, none⟩ v0).setCell ⟨g, 1, none⟩ v1).setCell ⟨g, 2, none⟩ v2) b cs :=
  Bx.far (p := ⟨g, 2, none⟩) (Bx.far (p := ⟨g, 1, none⟩) (Bx.far (p := ⟨g, 0, none⟩) h hne v0) hne v1) hne v2
theorem own_set3f {w : World} {B e size n b : Nat} {v : Value} {xs : List Value} {z0 z1 z2 : Value} (h : w.ownsRow B e size v n xs) (hT : Tf w b #[z0, z1, z2]) (hne : e ≠ 44) (v0 v1 v2 : Value) : (((w.setCell ⟨b, 0, none⟩ v0).setCell ⟨b, 1, none⟩ v1).setCell ⟨b, 2, none⟩ v2).ownsRow B e size v n xs :=
  own_set_far (own_set_far (own_set_far h hT hne 0 v0) (hT.set0 v0) hne 1 v1) ((hT.set0 v0).set1 v1) hne 2 v2
/-- append of a literal onto an owned slice: what is left lies where it lay, or in a new block. -/
theorem wpList_append_gv {P : Program} {ops : Array Oper} {rest : List Oper} {o : Oper} {a : Act} {Q : Exit → Act → World → Prop} {t e size bytes : Nat} (hT : AppT P t e size bytes) (hgd : o.guard = none) (s x : Operand)
    (ho : o.op = .call { callee := .builtin .append, args := #[s, x], argTypes := #[t, t] }) {w : World} {B : Nat} {v : Value} {n : Nat} {xs : List Value} {cs : Array Value}
    (hown : w.ownsRow B e size v n xs) (hs : a.eval s = v) {g : Nat} (hx : a.eval x = .slice (some ⟨g, 0, none⟩) 1 1) (hg : g = w.heap.size) (hcs : cs.size = size) (h1 : ∀ u ∈ cs.toList, u.oneCell' = true)
    (hb : (n + 1) * bytes ≤ 140737488355328) (hn : n + 1 ≤ 9223372036854775807) (hBw : B ≤ w.heap.size)
    (h : ∀ a' c' w', w'.ownsRow B e size (.slice a' (n + 1) c') (n + 1) (xs ++ cs.toList) → (w.alloc (.cells cs e)).grownBy w' v.ownBlock → ((Value.slice a' (n + 1) c').ownBlock = v.ownBlock ∨ (Value.slice a' (n + 1) c').ownBlock = some (w.heap.size + 1)) → wpList P ops Q rest (a.put o.dst (.slice a' (n + 1) c')) w') :
    wpList P ops Q (o :: rest) a (w.alloc (.cells cs e)) := by
  subst hg
  obtain ⟨i, z, hi, hz, hsize, hby, hzs⟩ := hT.hi
  refine wpList_append_own_at _ hgd s x t ho B e i z size bytes hT.ht hi hz hsize hby hzs hT.hsz v n xs hs (hown.alloc _) ⟨w.heap.size, 0, none⟩ 1 1 cs.toList hx (by simp [hcs])
    (fun j u hu => ?_) h1 (by unfold maxLen; omega) hb (by simp; omega) ?_
  · have hadd : (⟨w.heap.size, 0, none⟩ : Addr).add j = ⟨w.heap.size, j, none⟩ := by unfold Addr.add; split <;> simp_all
    rw [hadd, World.cell?_alloc_new]
    simpa using hu
  · intro v' w' hown' hgr _ hat
    obtain ⟨a', c', rfl⟩ := own_slice hown'
    exact h a' c' w' hown' hgr (by rw [World.size_alloc] at hat; exact hat)
/-- What the finder's function leaves. -/
def FillP (w w' : World) (B : Nat) (v : Value) (e : Ending) : Prop := ∃ (fl : List Di) (fa : Option Addr) (fn fc : Nat) (fi hi : Int) (names : List (List UInt8)) (na : Option Addr) (nn nc : Nat),
  e = .returned (.tuple #[.agg #[.slice fa fn fc, .int .i64 fi, .int .i64 hi], .slice na nn nc]) ∧ FdV w' B fa fn fc fi hi fl ∧ w'.ownsRow B 9 1 (.slice na nn nc) nn (strs names) ∧ names.length = nn ∧ nn ≤ 8388608 ∧ (∀ s ∈ names, s.length ≤ 4194304) ∧ GrF w w' v (.slice fa fn fc)
theorem min_1000 (x : Int) (h0 : 0 ≤ x) (h1 : x ≤ 1000) : 0 ≤ min 1000 (x + 1) ∧ min 1000 (x + 1) ≤ 1000 := by omega
theorem okD_nth {vs : List (Di × Value)} (h : OkD (vs.map (·.1))) {k : Nat} (hk : k < vs.length) : (nth vs k).1.pkg.length ≤ 1048576 ∧ (nth vs k).1.names.length ≤ 8388608 ∧ ∀ s ∈ (nth vs k).1.names, s.length ≤ 4194304 :=
  h.2 _ (List.mem_map.2 ⟨nth vs k, nth_mem hk, rfl⟩)
theorem bodyD_own {w : World} {B bc : Nat} {x : Di × Value} {ba : Option Addr} (h : BodyD w B x) (e : x.2 = .slice ba x.1.names.length bc) : w.ownsRow B 9 1 (.slice ba x.1.names.length bc) x.1.names.length (strs x.1.names) := by
  obtain ⟨ba', bc', e', ho⟩ := h
  rw [e] at e'
  injection e' with e1 e2 e3
  subst e1 e3
  exact ho

set_option maxRecDepth 100000 in
set_option maxHeartbeats 4000000 in
theorem filled_c (fl : List Di) (fa : Option Addr) (fn fc : Nat) (fi hi : Int) (l : List Fi) (a : Option Addr) (n c : Nat) (kk : Int) (dl : List Di) (da : Option Addr) (dn dc B Bt Bd : Nat) (r : Int) (p : List UInt8) (w : World)
    (hV : FdV w B fa fn fc fi hi fl) (hB : B ≤ w.heap.size) (hF : FilesAt w Bt a n l) (ht : treeB l = true) (hD : DirsAt w Bd da dn dl) (hp : pkgB p = true) :
    Calls Tryd.prog 104 #[.agg #[.slice fa fn fc, .int .i64 fi, .int .i64 hi], .agg #[.slice a n c, .int .i64 kk, .slice da dn dc], .int .i64 r, .string ⟨(p).toArray⟩] w fun e w' => FillP w w' B (.slice fa fn fc) e := by
  have hVA := hV.at
  have hfn := hV.2.2.1
  have hfi := hV.2.2.2.1
  have hhi := hV.2.2.2.2
  have hw1 : IntKind.i64.wrap (fi + 1) = fi + 1 := IntWalk.i64_in _ (by omega)
  have hw2 : IntKind.i64.wrap (hi + 1) = hi + 1 := IntWalk.i64_in _ (by omega)
  go_enter Tryd.func104, Tryd.ntmps104
  go_wp2_with fail
  refine calls_name (fun W0 hW0 => ?_)
  have hT0 : Tf W0 w.heap.size #[.slice fa fn fc, .int .i64 fi, .int .i64 hi] := by rw [hW0]; exact at_x2' (at_x2' (heap_alloc_new w _) ((X.refl _).alloc _)) ((X.refl _).alloc _)
  have hD0 : Bx W0 (w.heap.size + 1) #[.slice a n c, .int .i64 kk, .slice da dn dc] := by rw [hW0]; exact (bx3 rfl).2.1
  have hR0 : Tf W0 (w.heap.size + 1 + 1) #[.slice none 0 0, .int .i64 0, .int .i64 0] := by
    rw [hW0]
    have := heap_alloc_new ((w.alloc (.cells #[.slice fa fn fc, .int .i64 fi, .int .i64 hi] 44)).alloc (.cells #[.slice a n c, .int .i64 kk, .slice da dn dc] 28)) (.cells #[.slice none 0 0, .int .i64 0, .int .i64 0] 44)
    simpa [Tf] using this
  have hX0 : X w W0 := by rw [hW0]; (repeat (first | with_reducible exact X.refl _ | with_reducible assumption | with_reducible refine X.setCell ?_ (by first | (simp; done) | (simp; omega)) _ | with_reducible refine X.ext ?_ _ | with_reducible refine X.alloc ?_ _ | with_reducible refine X.drew ?_))
  have hsz : W0.heap.size = w.heap.size + 3 := by rw [hW0]; simp
  clear hW0
  refine (dirAt_s fl fa fn fn fc B r p W0 (hVA.mono (hX0.fr _)) (Nat.le_refl _)).mono ?_
  rintro _ w1 ⟨rfl, hx1⟩
  obtain ⟨ltf, cf, _⟩ := (hT0.x hx1).bx.out
  have f0 := cf 0
  obtain ⟨ltd, cd, _⟩ := (hD0.x hx1).out
  have d0 := cd 0
  have d1 := cd 1
  have d2 := cd 2
  clear cf cd
  go_wp2_with fail
  refine (stampOf_s a n c kk dl da dn dc Bd r p w1 (hD.mono ((hX0.trans hx1).fr _))).mono ?_
  rintro _ w2 ⟨rfl, hx2⟩
  generalize (if didx dl r p dn < 0 then (0 : Int) else (nth dl (didx dl r p dn).toNat).stamp) = st
  have hX2 := (hX0.trans hx1).trans hx2
  have hT2 := (hT0.x hx1).x hx2
  have hR2 := (hR0.x hx1).x hx2
  have hD2 := (hD0.x hx1).x hx2
  have hz2 := (hx1.trans hx2).size
  clear hT0 hR0 hD0 hX0 hx1 hx2 ltf f0 ltd d0 d1 d2 hVA hD
  obtain ⟨vs, hvn, hvs, hVV⟩ := hV.1.v
  have hok := hV.2.1
  subst hvs hvn
  clear hV
  have hVV2 := hVV.fr (hX2.fr _)
  obtain ⟨ltf, f0, f1, f2, ff0, ff1, ff2⟩ := hT2.cells
  rcases (firstN_cases (fun k => sameD (nth (vs.map (·.1)) k) r p) vs.length).symm with ⟨k, hk, _, _, h⟩ | ⟨_, h⟩
  · have hdx : didx (vs.map (·.1)) r p vs.length = (k : Int) := h
    have hk1 : (k : Int) < (vs.length : Int) := by omega
    rw [hdx]
    clear h hdx
    obtain ⟨g, rfl, hgB, hgl⟩ := own_form hVV.1 (by omega)
    obtain ⟨ba, bc, hbv, hbo⟩ := hVV.2.2 _ (nth_mem hk)
    obtain ⟨q1, q2, q3⟩ := okD_nth hok hk
    have hlk : k * 4 + 3 < (vs.flatMap dcells).length := by rw [flat_length 4 dcells dcells4]; omega
    have g2 : w2.cell? ⟨g, k * 4 + 2, none⟩ = some (.int .i64 (nth vs k).1.stamp) := row_cell hVV2.1 _ _ (by rw [List.getElem?_eq_getElem (by omega), flat_get 4 dcells dcells4 vs k 2 hk (by omega) (by omega), nth_eq hk]; rfl)
    by_cases hst : (nth vs k).1.stamp = st
    · go_wp2
      refine wp_name (fun W3 hW3 => ?_)
      have hm := min_1000 hi hhi.1 hhi.2
      generalize min 1000 (hi + 1) = hi2 at *
      have hT3 : Tf W3 w.heap.size #[.slice (some ⟨g, 0, none⟩) vs.length fc, .int .i64 fi, .int .i64 hi2] := by rw [hW3]; exact hT2.set2 _
      have hR3 : Tf W3 (w.heap.size + 1 + 1) #[.slice none 0 0, .int .i64 0, .int .i64 0] := by rw [hW3]; exact hR2.far (by show w.heap.size + 1 + 1 ≠ w.heap.size; omega) _
      have hX3 : X w W3 := by rw [hW3]; exact hX2.setCell (Nat.le_refl _) _
      have hV3 : DirsV W3 B (some ⟨g, 0, none⟩) fc vs := hVV.fr (hX3.fr _)
      clear hW3 ltf f0 f1 f2 ff0 ff1 ff2 hT2 hR2 hD2 hVV hVV2 g2
      refine wp_region_inv (fun L v W => Tf W w.heap.size #[.slice (some ⟨g, 0, none⟩) vs.length fc, .int .i64 fi, .int .i64 hi2]
          ∧ DirsV W B (some ⟨g, 0, none⟩) fc vs
          ∧ X w W
          ∧ (L 7 = false → Tf W (w.heap.size + 1 + 1) #[.slice none 0 0, .int .i64 0, .int .i64 0])
          ∧ (L 7 = true → Tf W (w.heap.size + 1 + 1) #[.slice (some ⟨g, 0, none⟩) vs.length fc, .int .i64 fi, .int .i64 hi2])
          ∧ (L 0 = true → v 0 = .agg #[.slice (some ⟨g, 0, none⟩) vs.length fc, .int .i64 fi, .int .i64 hi2])
          ∧ (L 1 = true → v 1 = .pointer (some ⟨w.heap.size, 0, none⟩))
          ∧ (L 2 = true → v 2 = .slice (some ⟨g, 0, none⟩) vs.length fc)
          ∧ (L 3 = true → v 3 = .int .i64 (k : Int))
          ∧ (L 4 = true → v 4 = .pointer (some ⟨g, k * 4, none⟩))
          ∧ (L 5 = true → v 5 = .pointer (some ⟨g, k * 4 + 3, none⟩))
          ∧ (L 6 = true → v 6 = .slice ba (nth vs k).1.names.length bc)
          ∧ (L 8 = true → v 8 = .slice ba (nth vs k).1.names.length bc)) (by kernel_rfl) (by kernel_rfl) ?_ ?_ (l := [(39, 0), (40, 1), (41, 2), (42, 3), (43, 4), (44, 5), (45, 6), (9, 8)]) (by kernel_rfl) (n := 9) rfl ?_
      · intro v
        exact ⟨hT3.x (X.refl _).drew, hV3.fr ((X.refl _).drew.fr _), hX3.drew, fun _ => hR3.x (X.refl _).drew, fun h => Bool.noConfusion h, fun h => Bool.noConfusion h, fun h => Bool.noConfusion h, fun h => Bool.noConfusion h, fun h => Bool.noConfusion h, fun h => Bool.noConfusion h, fun h => Bool.noConfusion h, fun h => Bool.noConfusion h, fun h => Bool.noConfusion h⟩
      · intro i hi
        have hi' : i = 0 ∨ i = 1 ∨ i = 2 ∨ i = 3 ∨ i = 4 ∨ i = 5 ∨ i = 6 ∨ i = 7 ∨ i = 8 := by
          have : i < 9 := hi
          omega
        clear hi
        rcases hi' with rfl | rfl | rfl | rfl | rfl | rfl | rfl | rfl | rfl
        all_goals
          intro o ho L v aa W hI hS hL hA K hK
          cases (show some _ = some o from ho)
          obtain ⟨tf, vv, xx, rr, rs, v0, v1, v2, v3, v4, v5, v6, v8⟩ := hI
        · have o4 := hS.old 4 (by kernel_rfl) rfl
          obtain ⟨ltf, f0, f1, f2, ff0, ff1, ff2⟩ := tf.cells
          clear hS ho hA
          go_simp
          exact hK _ W ⟨tf, vv, xx, rr, rs, fun _ => rfl, v1, v2, v3, v4, v5, v6, v8⟩
        · have o4 := hS.old 4 (by kernel_rfl) rfl
          clear hS ho hA
          go_simp
          exact hK _ W ⟨tf, vv, xx, rr, rs, v0, fun _ => rfl, v2, v3, v4, v5, v6, v8⟩
        · have l1 : L 1 = true := hA ⟨1, .data⟩ (by simp) rfl
          have g1 := hS.get 1 40 rfl l1 (v1 l1)
          obtain ⟨ltf, f0, f1, f2, ff0, ff1, ff2⟩ := tf.cells
          clear hS ho hA
          go_simp
          exact hK _ W ⟨tf, vv, xx, rr, rs, v0, v1, fun _ => rfl, v3, v4, v5, v6, v8⟩
        · have o10 := hS.old 10 (by kernel_rfl) rfl
          clear hS ho hA
          go_simp
          exact hK _ W ⟨tf, vv, xx, rr, rs, v0, v1, v2, fun _ => rfl, v4, v5, v6, v8⟩
        · have l2 : L 2 = true := hA ⟨2, .data⟩ (by simp) rfl
          have g2 := hS.get 2 41 rfl l2 (v2 l2)
          have l3 : L 3 = true := hA ⟨3, .data⟩ (by simp) rfl
          have g3 := hS.get 3 42 rfl l3 (v3 l3)
          clear hS ho hA
          go_simp
          exact hK _ W ⟨tf, vv, xx, rr, rs, v0, v1, v2, v3, fun _ => rfl, v5, v6, v8⟩
        · have l4 : L 4 = true := hA ⟨4, .data⟩ (by simp) rfl
          have g4 := hS.get 4 43 rfl l4 (v4 l4)
          clear hS ho hA
          go_simp
          exact hK _ W ⟨tf, vv, xx, rr, rs, v0, v1, v2, v3, v4, fun _ => rfl, v6, v8⟩
        · have l5 : L 5 = true := hA ⟨5, .data⟩ (by simp) rfl
          have g5 := hS.get 5 44 rfl l5 (v5 l5)
          have g3 : W.cell? ⟨g, k * 4 + 3, none⟩ = some (.slice ba (nth vs k).1.names.length bc) := row_cell vv.1 _ _ (by rw [dcells_last hk, hbv])
          clear hS ho hA
          go_simp
          exact hK _ W ⟨tf, vv, xx, rr, rs, v0, v1, v2, v3, v4, v5, fun _ => rfl, v8⟩
        · have o8 := hS.old 8 (by kernel_rfl) rfl
          have l0 : L 0 = true := hA ⟨0, .data⟩ (by simp) rfl
          have g0 := hS.get 0 39 rfl l0 (v0 l0)
          obtain ⟨ltr, r0, r1, r2, fr0, fr1, fr2⟩ := (rr hL).cells
          clear hS ho hA
          go_simp
          exact hK undef _ ⟨tf.far3 (by omega) _ _ _, vv.set3 (rr hL) _ _ _, x_set3 xx (by omega) _ _ _, fun h => Bool.noConfusion h, fun _ => (rr hL).set3 _ _ _, v0, v1, v2, v3, v4, v5, v6, v8⟩
        · have l6 : L 6 = true := hA ⟨6, .data⟩ (by simp) rfl
          have g6 := hS.get 6 45 rfl l6 (v6 l6)
          clear hS ho hA
          go_simp
          exact hK _ W ⟨tf, vv, xx, rr, rs, v0, v1, v2, v3, v4, v5, v6, fun _ => rfl⟩
      intro v W5 hI
      obtain ⟨tf, vv, xx, rr, rs, v0, v1, v2, v3, v4, v5, v6, v8⟩ := hI
      have e0 := v0 rfl
      have e1 := v1 rfl
      have e2 := v2 rfl
      have e3 := v3 rfl
      have e4 := v4 rfl
      have e5 := v5 rfl
      have e6 := v6 rfl
      have e8 := v8 rfl
      clear v0 v1 v2 v3 v4 v5 v6 v8
      simp only [putL, List.foldl, List.setIfInBounds_toArray, List.set_cons_zero, List.set_cons_succ, e0, e1, e2, e3, e4, e5, e6, e8]
      clear e0 e1 e2 e3 e4 e5 e6 e8
      go_wp2
      refine bodyPost_ret (v := .tuple #[.agg #[.slice (some ⟨g, 0, none⟩) vs.length fc, .int .i64 fi, .int .i64 hi2], .slice ba (nth vs k).1.names.length bc]) ?_ rfl ?_
      · obtain ⟨_, r0, r1, r2, _, _, _⟩ := (rs rfl).cells
        simp [results, Tryd.results104, go_sem, Result.andThen, r0, r1, r2]
      · exact ⟨vs.map (·.1), some ⟨g, 0, none⟩, vs.length, fc, fi, hi2, (nth vs k).1.names, ba, _, bc, rfl, ⟨vv.o, hok, hfn, hfi, hm⟩, bodyD_own (vv.2.2 _ (nth_mem hk)) hbv, rfl, q2, q3, GrF.of_x _ xx⟩
    · obtain ⟨_, dcell, _⟩ := hD2.out
      have d0 := dcell 0
      clear dcell
      go_wp2_with fail
      refine calls_name (fun W3 hW3 => ?_)
      have hm := min_1000 fi hfi.1 hfi.2
      generalize min 1000 (fi + 1) = fi2 at *
      have hT3 : Tf W3 w.heap.size #[.slice (some ⟨g, 0, none⟩) vs.length fc, .int .i64 fi2, .int .i64 hi] := by rw [hW3]; exact hT2.set1 _
      have hR3 : Tf W3 (w.heap.size + 1 + 1) #[.slice none 0 0, .int .i64 0, .int .i64 0] := by rw [hW3]; exact hR2.far (by show w.heap.size + 1 + 1 ≠ w.heap.size; omega) _
      have hX3 : X w W3 := by rw [hW3]; exact hX2.setCell (Nat.le_refl _) _
      have hz3 : w.heap.size + 3 ≤ W3.heap.size := by rw [hW3]; simp; omega
      clear hW3 ltf f0 f1 f2 ff0 ff1 ff2 hT2 hR2 hD2 hVV2 d0
      refine (listing_o l a n c Bt r p W3 (hF.mono (hX3.fr _)) ht hp).mono ?_
      rintro _ w4 ⟨na, nc, rfl, hN, hNl, hNs, hx4⟩
      generalize sortU (listN l r p) = V at *
      have hz4 := hx4.size
      have hs5 : ∀ x ∈ vs, (Value.slice na V.length nc).ownBlock = none ∨ x.2.ownBlock = none ∨ (Value.slice na V.length nc).ownBlock ≠ x.2.ownBlock := fun x hx => by
        obtain ⟨pa, pc, e, ho⟩ := hVV.2.2 x hx
        rw [e]
        rcases row_far ho rfl (own_less hN (Nat.le_trans (by omega) hz3)) with h | h | h
        · exact .inr (.inl h)
        · exact .inl h
        · exact .inr (.inr h)
      obtain ⟨ltf, f0, f1, f2, ff0, ff1, ff2⟩ := (hT3.x hx4).cells
      go_upto_region 8 with fail
      refine wp_name (fun W5 hW5 => ?_)
      have hx5 : X w4 W5 := by rw [hW5]; (repeat (first | with_reducible exact X.refl _ | with_reducible assumption | with_reducible refine X.setCell ?_ (by first | (simp; done) | (simp; omega)) _ | with_reducible refine X.ext ?_ _ | with_reducible refine X.alloc ?_ _ | with_reducible refine X.drew ?_))
      have hB5 : Bx W5 w4.heap.size #[.int .i64 r, .string ⟨(p).toArray⟩, .int .i64 st, .slice na V.length nc] := by rw [hW5]; first | exact Bx.new _ _ _ | exact Bx.set (Bx.set (Bx.set (Bx.set (Bx.new _ _ _) 0 _) 1 _) 2 _) 3 _
      clear hW5 ltf f0 f1 f2 ff0 ff1 ff2
      have hT5 := (hT3.x hx4).x hx5
      have hR5 := (hR3.x hx4).x hx5
      have hX5 := (hX3.trans hx4).trans hx5
      have hV5 := hVV.fr (hX5.fr _)
      have hN5 := own_less (own_fr hN (hx5.fr _)) (show B ≤ W3.heap.size by omega)
      have hz5 := hx5.size
      clear hT3 hR3 hX3 hN hx4 hx5 hF
      obtain ⟨ltf, f0, f1, f2, ff0, ff1, ff2⟩ := hT5.cells
      obtain ⟨ltx, xc, _⟩ := hB5.out
      have x0 := xc 0
      have x1 := xc 1
      have x2 := xc 2
      have x3 := xc 3
      clear xc
      have hrow5 := hV5.1
      have hf0 := (hrow5).frozenAt (k * 4); obtain ⟨u0, hu0⟩ := own_here hrow5 (j := k * 4) (by omega)
      have hf1 := (hrow5).frozenAt (k * 4 + 1); obtain ⟨u1, hu1⟩ := own_here hrow5 (j := k * 4 + 1) (by omega)
      have hf2 := (hrow5).frozenAt (k * 4 + 2); obtain ⟨u2, hu2⟩ := own_here hrow5 (j := k * 4 + 2) (by omega)
      have hf3 := (hrow5).frozenAt (k * 4 + 3); obtain ⟨u3, hu3⟩ := own_here hrow5 (j := k * 4 + 3) (by omega)
      have hg0 := (hVV.1.lt g rfl).2
      have hgl5 := (hrow5.lt g rfl).2
      go_upto_region 12 with fail
      refine wp_name (fun W6 hW6 => ?_)
      have hne : w.heap.size ≠ g := by omega
      have hV6 : DirsV W6 B (some ⟨g, 0, none⟩) fc (vs.set k (⟨r, p, st, V⟩, .slice na V.length nc)) := by rw [hW6]; exact hV5.put (d := ⟨r, p, st, V⟩) hk hN5 hs5
      have hT6 : Tf W6 w.heap.size #[.slice (some ⟨g, 0, none⟩) vs.length fc, .int .i64 fi2, .int .i64 hi] := by rw [hW6]; exact (((hT5.far hne _).far hne _).far hne _).far hne _
      have hR6 : Tf W6 (w.heap.size + 1 + 1) #[.slice none 0 0, .int .i64 0, .int .i64 0] := by rw [hW6]; exact (((hR5.far (by show w.heap.size + 1 + 1 ≠ g; omega) _).far (by show w.heap.size + 1 + 1 ≠ g; omega) _).far (by show w.heap.size + 1 + 1 ≠ g; omega) _).far (by show w.heap.size + 1 + 1 ≠ g; omega) _
      have hB6 : Bx W6 w4.heap.size #[.int .i64 r, .string ⟨(p).toArray⟩, .int .i64 st, .slice na V.length nc] := by rw [hW6]; exact Bx.far (Bx.far (Bx.far (Bx.far hB5 (by show w4.heap.size ≠ g; omega) _) (by show w4.heap.size ≠ g; omega) _) (by show w4.heap.size ≠ g; omega) _) (by show w4.heap.size ≠ g; omega) _
      have hG6 : GrF w W6 (.slice (some ⟨g, 0, none⟩) vs.length fc) (.slice (some ⟨g, 0, none⟩) vs.length fc) := by
        rw [hW6]
        exact ⟨grown_next (grown_next (grown_next (grown_next (GrF.of_x (.slice (some ⟨g, 0, none⟩) vs.length fc) hX5).1 _ _) _ _) _ _) _ _, .inr (.inl rfl)⟩
      obtain ⟨cs5, hb5⟩ := own_block hrow5
      have hN6 : W6.ownsRow B 9 1 (.slice na V.length nc) V.length (strs V) := by
        rw [hW6]
        exact hN5.kept (grown_next (grown_next (grown_next (grown_set _ _ _) _ _) _ _) _ _) (.inr (own_ne_at hN5 hb5 (by decide)))
      have hok2 := okD_put (k := k) (d := ⟨r, p, st, V⟩) hok (by have := pkg12 hp; show p.length ≤ 1048576; omega) (show V.length ≤ 8388608 by omega) hNs
      rw [← map_set_fstD (y := ((⟨r, p, st, V⟩ : Di), .slice na V.length nc))] at hok2
      have hl2 : (vs.set k ((⟨r, p, st, V⟩ : Di), .slice na V.length nc)).length ≤ 20 := by rw [List.length_set]; exact hfn
      rw [show vs.length = (vs.set k ((⟨r, p, st, V⟩ : Di), .slice na V.length nc)).length from List.length_set.symm] at hT6
      have hG7 : GrF w W6 (.slice (some ⟨g, 0, none⟩) vs.length fc) (.slice (some ⟨g, 0, none⟩) (vs.set k ((⟨r, p, st, V⟩ : Di), .slice na V.length nc)).length fc) := by rw [List.length_set]; exact hG6
      clear hG6 hu0 hu1 hu2 hu3 hf0 hf1 hf2 hf3
      obtain ⟨vs2, hvs2⟩ : ∃ vs2, vs2 = vs.set k ((⟨r, p, st, V⟩ : Di), .slice na V.length nc) := ⟨_, rfl⟩
      rw [← hvs2] at hV6 hT6 hok2 hl2 hG7
      clear hvs2
      clear hW6 ltf f0 f1 f2 ff0 ff1 ff2 hT5 hR5 hV5 hN5 hB5 hs5 ltx x0 x1 x2 x3 hVV
      refine wp_region_inv (fun L v W => Tf W w.heap.size #[.slice (some ⟨g, 0, none⟩) vs2.length fc, .int .i64 fi2, .int .i64 hi]
          ∧ DirsV W B (some ⟨g, 0, none⟩) fc vs2
          ∧ GrF w W (.slice (some ⟨g, 0, none⟩) vs.length fc) (.slice (some ⟨g, 0, none⟩) vs2.length fc)
          ∧ Bx W w4.heap.size #[.int .i64 r, .string ⟨(p).toArray⟩, .int .i64 st, .slice na V.length nc]
          ∧ W.ownsRow B 9 1 (.slice na V.length nc) V.length (strs V)
          ∧ (L 3 = false → Tf W (w.heap.size + 1 + 1) #[.slice none 0 0, .int .i64 0, .int .i64 0])
          ∧ (L 3 = true → Tf W (w.heap.size + 1 + 1) #[.slice (some ⟨g, 0, none⟩) vs2.length fc, .int .i64 fi2, .int .i64 hi])
          ∧ (L 0 = true → v 0 = .agg #[.slice (some ⟨g, 0, none⟩) vs2.length fc, .int .i64 fi2, .int .i64 hi])
          ∧ (L 1 = true → v 1 = .pointer (some ⟨w4.heap.size, 3, none⟩))
          ∧ (L 2 = true → v 2 = .slice na V.length nc)
          ∧ (L 4 = true → v 4 = .slice na V.length nc)) (by kernel_rfl) (by kernel_rfl) ?_ ?_ (l := [(77, 0), (78, 1), (79, 2), (9, 4)]) (by kernel_rfl) (n := 5) rfl ?_
      · intro v
        exact ⟨hT6.x (X.refl _).drew, hV6.fr ((X.refl _).drew.fr _), hG7.x (X.refl _).drew, hB6.x (X.refl _).drew, own_fr hN6 ((X.refl _).drew.fr _), fun _ => hR6.x (X.refl _).drew, fun h => Bool.noConfusion h, fun h => Bool.noConfusion h, fun h => Bool.noConfusion h, fun h => Bool.noConfusion h, fun h => Bool.noConfusion h⟩
      · intro i hi
        have hi' : i = 0 ∨ i = 1 ∨ i = 2 ∨ i = 3 ∨ i = 4 := by
          have : i < 5 := hi
          omega
        clear hi
        rcases hi' with rfl | rfl | rfl | rfl | rfl
        all_goals
          intro o ho L v aa W hI hS hL hA K hK
          cases (show some _ = some o from ho)
          obtain ⟨tf, vv, gg, xb, nn, rr, rs, v0, v1, v2, v4⟩ := hI
        · have o4 := hS.old 4 (by kernel_rfl) rfl
          obtain ⟨ltf, f0, f1, f2, ff0, ff1, ff2⟩ := tf.cells
          clear hS ho hA
          go_simp
          exact hK _ W ⟨tf, vv, gg, xb, nn, rr, rs, fun _ => rfl, v1, v2, v4⟩
        · have o12 := hS.old 12 (by kernel_rfl) rfl
          clear hS ho hA
          go_simp
          exact hK _ W ⟨tf, vv, gg, xb, nn, rr, rs, v0, fun _ => rfl, v2, v4⟩
        · have l1 : L 1 = true := hA ⟨1, .data⟩ (by simp) rfl
          have g1 := hS.get 1 78 rfl l1 (v1 l1)
          obtain ⟨ltx, xc, _⟩ := xb.out
          have x3 := xc 3
          clear xc
          clear hS ho hA
          go_simp
          exact hK _ W ⟨tf, vv, gg, xb, nn, rr, rs, v0, v1, fun _ => rfl, v4⟩
        · have o8 := hS.old 8 (by kernel_rfl) rfl
          have l0 : L 0 = true := hA ⟨0, .data⟩ (by simp) rfl
          have g0 := hS.get 0 77 rfl l0 (v0 l0)
          obtain ⟨ltr, r0, r1, r2, fr0, fr1, fr2⟩ := (rr hL).cells
          clear hS ho hA
          go_simp
          exact hK undef _ ⟨tf.far3 (by omega) _ _ _, vv.set3 (rr hL) _ _ _, gg.set3 (by omega) _ _ _, bx_far3 xb (by omega) _ _ _, own_set3f nn (rr hL) (by decide) _ _ _, fun h => Bool.noConfusion h, fun _ => (rr hL).set3 _ _ _, v0, v1, v2, v4⟩
        · have l2 : L 2 = true := hA ⟨2, .data⟩ (by simp) rfl
          have g2 := hS.get 2 79 rfl l2 (v2 l2)
          clear hS ho hA
          go_simp
          exact hK _ W ⟨tf, vv, gg, xb, nn, rr, rs, v0, v1, v2, fun _ => rfl⟩
      intro v W7 hI
      obtain ⟨tf, vv, gg, xb, nn, rr, rs, v0, v1, v2, v4⟩ := hI
      have e0 := v0 rfl
      have e1 := v1 rfl
      have e2 := v2 rfl
      have e4 := v4 rfl
      clear v0 v1 v2 v4
      simp only [putL, List.foldl, List.setIfInBounds_toArray, List.set_cons_zero, List.set_cons_succ, e0, e1, e2, e4]
      clear e0 e1 e2 e4
      go_wp2
      refine bodyPost_ret (v := .tuple #[.agg #[.slice (some ⟨g, 0, none⟩) vs2.length fc, .int .i64 fi2, .int .i64 hi], .slice na V.length nc]) ?_ rfl ?_
      · obtain ⟨_, r0, r1, r2, _, _, _⟩ := (rs rfl).cells
        simp [results, Tryd.results104, go_sem, Result.andThen, r0, r1, r2]
      · exact ⟨vs2.map (·.1), some ⟨g, 0, none⟩, vs2.length, fc, fi2, hi, V, na, _, nc, rfl, ⟨vv.o, hok2, hl2, hm, hhi⟩, nn, rfl, by omega, hNs, gg⟩
  · have hdx : didx (vs.map (·.1)) r p vs.length = -1 := h
    rw [hdx]
    clear h hdx
    obtain ⟨_, dcell, _⟩ := hD2.out
    have d0 := dcell 0
    clear dcell
    go_wp2_with fail
    refine calls_name (fun W3 hW3 => ?_)
    have hm := min_1000 fi hfi.1 hfi.2
    generalize min 1000 (fi + 1) = fi2 at *
    have hT3 : Tf W3 w.heap.size #[.slice fa vs.length fc, .int .i64 fi2, .int .i64 hi] := by rw [hW3]; exact hT2.set1 _
    have hR3 : Tf W3 (w.heap.size + 1 + 1) #[.slice none 0 0, .int .i64 0, .int .i64 0] := by rw [hW3]; exact hR2.far (by show w.heap.size + 1 + 1 ≠ w.heap.size; omega) _
    have hX3 : X w W3 := by rw [hW3]; exact hX2.setCell (Nat.le_refl _) _
    have hz3 : w.heap.size + 3 ≤ W3.heap.size := by rw [hW3]; simp; omega
    clear hW3 ltf f0 f1 f2 ff0 ff1 ff2 hT2 hR2 hD2 hVV2 d0
    refine (listing_o l a n c Bt r p W3 (hF.mono (hX3.fr _)) ht hp).mono ?_
    rintro _ w4 ⟨na, nc, rfl, hN, hNl, hNs, hx4⟩
    generalize sortU (listN l r p) = V at *
    have hz4 := hx4.size
    have hs5 : ∀ x ∈ vs, (Value.slice na V.length nc).ownBlock = none ∨ x.2.ownBlock = none ∨ (Value.slice na V.length nc).ownBlock ≠ x.2.ownBlock := fun x hx => by
      obtain ⟨pa, pc, e, ho⟩ := hVV.2.2 x hx
      rw [e]
      rcases row_far ho rfl (own_less hN (Nat.le_trans (by omega) hz3)) with h | h | h
      · exact .inr (.inl h)
      · exact .inl h
      · exact .inr (.inr h)
    obtain ⟨ltf, f0, f1, f2, ff0, ff1, ff2⟩ := (hT3.x hx4).cells
    go_upto_region 8 with fail
    refine wp_name (fun W5 hW5 => ?_)
    have hx5 : X w4 W5 := by rw [hW5]; (repeat (first | with_reducible exact X.refl _ | with_reducible assumption | with_reducible refine X.setCell ?_ (by first | (simp; done) | (simp; omega)) _ | with_reducible refine X.ext ?_ _ | with_reducible refine X.alloc ?_ _ | with_reducible refine X.drew ?_))
    have hB5 : Bx W5 w4.heap.size #[.int .i64 r, .string ⟨(p).toArray⟩, .int .i64 st, .slice na V.length nc] := by rw [hW5]; first | exact Bx.new _ _ _ | exact Bx.set (Bx.set (Bx.set (Bx.set (Bx.new _ _ _) 0 _) 1 _) 2 _) 3 _
    clear hW5 ltf f0 f1 f2 ff0 ff1 ff2
    have hT5 := (hT3.x hx4).x hx5
    have hR5 := (hR3.x hx4).x hx5
    have hX5 := (hX3.trans hx4).trans hx5
    have hV5 := hVV.fr (hX5.fr _)
    have hN5 := own_less (own_fr hN (hx5.fr _)) (show B ≤ W3.heap.size by omega)
    have hz5 := hx5.size
    clear hT3 hR3 hX3 hN hx4 hx5 hF
    obtain ⟨ltf, f0, f1, f2, ff0, ff1, ff2⟩ := hT5.cells
    obtain ⟨ltx, xc, _⟩ := hB5.out
    have x0 := xc 0
    have x1 := xc 1
    have x2 := xc 2
    have x3 := xc 3
    clear xc
    by_cases hl20 : vs.length < 20
    · have hl20' : (vs.length : Int) < 20 := by omega
      have hrow5 := hV5.1
      go_upto_region 12 with (at_builtin; refine wpList_append_gv dir_T' rfl _ _ rfl hrow5 rfl rfl rfl rfl (by simp [Value.oneCell']) (by omega) (by omega) (by omega) ?_; intro a8 c8 w8 hO8 hg8 hat8; have hT8 : Tf w8 w.heap.size #[.slice fa vs.length fc, .int .i64 fi2, .int .i64 hi] := at_grown (at_x2' hT5 ((X.refl W5).alloc _)) hg8 (own_ne_at hrow5 hT5 (by decide)); clear ltf f0 f1 f2 ff0 ff1 ff2; obtain ⟨ltf, f0, f1, f2, ff0, ff1, ff2⟩ := hT8.cells)
      refine wp_name (fun W6 hW6 => ?_)
      have hXa : X W5 (W5.alloc (.cells #[.int .i64 r, .string ⟨(p).toArray⟩, .int .i64 st, .slice na V.length nc] 71)) := (X.refl W5).alloc _
      have hne : (Value.slice fa vs.length fc).ownBlock ≠ some w.heap.size := own_ne_at hrow5 hT5 (by decide)
      have hR8 : Tf w8 (w.heap.size + 1 + 1) #[.slice none 0 0, .int .i64 0, .int .i64 0] := at_grown (at_x2' hR5 hXa) hg8 (own_ne_at hrow5 hR5 (by decide))
      have hV8 := DirsV.snoc (d := ⟨r, p, st, V⟩) (hV5.fr (hXa.fr _)) hO8 hg8 (hN5.alloc _) hs5
      have hV6 : DirsV W6 B a8 c8 (vs ++ [(⟨r, p, st, V⟩, .slice na V.length nc)]) := by rw [hW6]; exact hV8.far hT8 (by decide) (by decide) _ _
      have hT6 : Tf W6 w.heap.size #[.slice a8 (vs.length + 1) c8, .int .i64 fi2, .int .i64 hi] := by rw [hW6]; exact hT8.set0 _
      have hR6 : Tf W6 (w.heap.size + 1 + 1) #[.slice none 0 0, .int .i64 0, .int .i64 0] := by rw [hW6]; exact hR8.far (by show w.heap.size + 1 + 1 ≠ w.heap.size; omega) _
      have hxb : ∀ b, (Value.slice fa vs.length fc).ownBlock = some b → b < w.heap.size := fun b hb => (hVV.1.lt b hb).2
      have hB8 : Bx w8 w4.heap.size #[.int .i64 r, .string ⟨(p).toArray⟩, .int .i64 st, .slice na V.length nc] := (hB5.x hXa).grown hg8 (fun q e => by have := hxb q e; omega)
      have hB6 : Bx W6 w4.heap.size #[.int .i64 r, .string ⟨(p).toArray⟩, .int .i64 st, .slice na V.length nc] := by rw [hW6]; exact Bx.far hB8 (by show w4.heap.size ≠ w.heap.size; omega) _
      have hG8 : GrF w w8 (.slice fa vs.length fc) (.slice a8 (vs.length + 1) c8) := by
        refine (GrF.of_x (.slice fa vs.length fc) (hX5.trans hXa)).trans ⟨hg8, ?_⟩
        rcases hat8 with e | e
        · exact .inr (.inl e)
        · exact .inr (.inr ⟨_, e, by simp⟩)
      have hG6 : GrF w W6 (.slice fa vs.length fc) (.slice a8 (vs.length + 1) c8) := by rw [hW6]; exact hG8.set _ _ (Nat.le_refl _)
      have hN6 : W6.ownsRow B 9 1 (.slice na V.length nc) V.length (strs V) := by
        rw [hW6]
        exact own_set_far ((hN5.alloc _).kept hg8 (row_ne hN5 hrow5 (by decide))) hT8 (by decide) _ _
      have hok2 := okD_more (d := ⟨r, p, st, V⟩) hok (by rw [List.length_map]; omega) (by have := pkg12 hp; show p.length ≤ 1048576; omega) (show V.length ≤ 8388608 by omega) hNs
      have hms : (vs ++ [((⟨r, p, st, V⟩ : Di), Value.slice na V.length nc)]).map (·.1) = vs.map (·.1) ++ [⟨r, p, st, V⟩] := by rw [List.map_append]; rfl
      rw [← hms] at hok2
      have hll : (vs ++ [((⟨r, p, st, V⟩ : Di), Value.slice na V.length nc)]).length = vs.length + 1 := by rw [List.length_append, List.length_singleton]
      have hl2 : (vs ++ [((⟨r, p, st, V⟩ : Di), Value.slice na V.length nc)]).length ≤ 20 := by rw [hll]; omega
      rw [← hll] at hT6 hG6 ⊢
      clear hms hll
      obtain ⟨vs2, hvs2⟩ : ∃ vs2, vs2 = vs ++ [((⟨r, p, st, V⟩ : Di), Value.slice na V.length nc)] := ⟨_, rfl⟩
      rw [← hvs2] at hV6 hT6 hok2 hl2 hG6 ⊢
      have hG7 := hG6
      clear hvs2 hG6 hG8 hN5 hV8 hR8 hB8 hT8 hO8 hg8 hat8 hrow5
      clear hW6 ltf f0 f1 f2 ff0 ff1 ff2 hT5 hR5 hV5 hB5 hs5 ltx x0 x1 x2 x3 hVV
      refine wp_region_inv (fun L v W => Tf W w.heap.size #[.slice a8 vs2.length c8, .int .i64 fi2, .int .i64 hi]
          ∧ DirsV W B a8 c8 vs2
          ∧ GrF w W (.slice fa vs.length fc) (.slice a8 vs2.length c8)
          ∧ Bx W w4.heap.size #[.int .i64 r, .string ⟨(p).toArray⟩, .int .i64 st, .slice na V.length nc]
          ∧ W.ownsRow B 9 1 (.slice na V.length nc) V.length (strs V)
          ∧ (L 3 = false → Tf W (w.heap.size + 1 + 1) #[.slice none 0 0, .int .i64 0, .int .i64 0])
          ∧ (L 3 = true → Tf W (w.heap.size + 1 + 1) #[.slice a8 vs2.length c8, .int .i64 fi2, .int .i64 hi])
          ∧ (L 0 = true → v 0 = .agg #[.slice a8 vs2.length c8, .int .i64 fi2, .int .i64 hi])
          ∧ (L 1 = true → v 1 = .pointer (some ⟨w4.heap.size, 3, none⟩))
          ∧ (L 2 = true → v 2 = .slice na V.length nc)
          ∧ (L 4 = true → v 4 = .slice na V.length nc)) (by kernel_rfl) (by kernel_rfl) ?_ ?_ (l := [(77, 0), (78, 1), (79, 2), (9, 4)]) (by kernel_rfl) (n := 5) rfl ?_
      · intro v
        exact ⟨hT6.x (X.refl _).drew, hV6.fr ((X.refl _).drew.fr _), hG7.x (X.refl _).drew, hB6.x (X.refl _).drew, own_fr hN6 ((X.refl _).drew.fr _), fun _ => hR6.x (X.refl _).drew, fun h => Bool.noConfusion h, fun h => Bool.noConfusion h, fun h => Bool.noConfusion h, fun h => Bool.noConfusion h, fun h => Bool.noConfusion h⟩
      · intro i hi
        have hi' : i = 0 ∨ i = 1 ∨ i = 2 ∨ i = 3 ∨ i = 4 := by
          have : i < 5 := hi
          omega
        clear hi
        rcases hi' with rfl | rfl | rfl | rfl | rfl
        all_goals
          intro o ho L v aa W hI hS hL hA K hK
          cases (show some _ = some o from ho)
          obtain ⟨tf, vv, gg, xb, nn, rr, rs, v0, v1, v2, v4⟩ := hI
        · have o4 := hS.old 4 (by kernel_rfl) rfl
          obtain ⟨ltf, f0, f1, f2, ff0, ff1, ff2⟩ := tf.cells
          clear hS ho hA
          go_simp
          exact hK _ W ⟨tf, vv, gg, xb, nn, rr, rs, fun _ => rfl, v1, v2, v4⟩
        · have o12 := hS.old 12 (by kernel_rfl) rfl
          clear hS ho hA
          go_simp
          exact hK _ W ⟨tf, vv, gg, xb, nn, rr, rs, v0, fun _ => rfl, v2, v4⟩
        · have l1 : L 1 = true := hA ⟨1, .data⟩ (by simp) rfl
          have g1 := hS.get 1 78 rfl l1 (v1 l1)
          obtain ⟨ltx, xc, _⟩ := xb.out
          have x3 := xc 3
          clear xc
          clear hS ho hA
          go_simp
          exact hK _ W ⟨tf, vv, gg, xb, nn, rr, rs, v0, v1, fun _ => rfl, v4⟩
        · have o8 := hS.old 8 (by kernel_rfl) rfl
          have l0 : L 0 = true := hA ⟨0, .data⟩ (by simp) rfl
          have g0 := hS.get 0 77 rfl l0 (v0 l0)
          obtain ⟨ltr, r0, r1, r2, fr0, fr1, fr2⟩ := (rr hL).cells
          clear hS ho hA
          go_simp
          exact hK undef _ ⟨tf.far3 (by omega) _ _ _, vv.set3 (rr hL) _ _ _, gg.set3 (by omega) _ _ _, bx_far3 xb (by omega) _ _ _, own_set3f nn (rr hL) (by decide) _ _ _, fun h => Bool.noConfusion h, fun _ => (rr hL).set3 _ _ _, v0, v1, v2, v4⟩
        · have l2 : L 2 = true := hA ⟨2, .data⟩ (by simp) rfl
          have g2 := hS.get 2 79 rfl l2 (v2 l2)
          clear hS ho hA
          go_simp
          exact hK _ W ⟨tf, vv, gg, xb, nn, rr, rs, v0, v1, v2, fun _ => rfl⟩
      intro v W7 hI
      obtain ⟨tf, vv, gg, xb, nn, rr, rs, v0, v1, v2, v4⟩ := hI
      have e0 := v0 rfl
      have e1 := v1 rfl
      have e2 := v2 rfl
      have e4 := v4 rfl
      clear v0 v1 v2 v4
      simp only [putL, List.foldl, List.setIfInBounds_toArray, List.set_cons_zero, List.set_cons_succ, e0, e1, e2, e4]
      clear e0 e1 e2 e4
      go_wp2
      refine bodyPost_ret (v := .tuple #[.agg #[.slice a8 vs2.length c8, .int .i64 fi2, .int .i64 hi], .slice na V.length nc]) ?_ rfl ?_
      · obtain ⟨_, r0, r1, r2, _, _, _⟩ := (rs rfl).cells
        simp [results, Tryd.results104, go_sem, Result.andThen, r0, r1, r2]
      · exact ⟨vs2.map (·.1), a8, vs2.length, c8, fi2, hi, V, na, _, nc, rfl, ⟨vv.o, hok2, hl2, hm, hhi⟩, nn, rfl, by omega, hNs, gg⟩
    · have hl20' : ¬ (vs.length : Int) < 20 := by omega
      go_upto_region 12 with fail
      have hV6 := hV5
      have hT6 := hT5
      have hR6 := hR5
      have hB6 := hB5
      have hN6 := hN5
      have hG7 := GrF.of_x (.slice fa vs.length fc) hX5
      have hok2 := hok
      have hl2 := hfn
      clear ltf f0 f1 f2 ff0 ff1 ff2 hT5 hR5 hV5 hN5 hB5 hs5 ltx x0 x1 x2 x3 hVV
      refine wp_region_inv (fun L v W => Tf W w.heap.size #[.slice fa vs.length fc, .int .i64 fi2, .int .i64 hi]
          ∧ DirsV W B fa fc vs
          ∧ GrF w W (.slice fa vs.length fc) (.slice fa vs.length fc)
          ∧ Bx W w4.heap.size #[.int .i64 r, .string ⟨(p).toArray⟩, .int .i64 st, .slice na V.length nc]
          ∧ W.ownsRow B 9 1 (.slice na V.length nc) V.length (strs V)
          ∧ (L 3 = false → Tf W (w.heap.size + 1 + 1) #[.slice none 0 0, .int .i64 0, .int .i64 0])
          ∧ (L 3 = true → Tf W (w.heap.size + 1 + 1) #[.slice fa vs.length fc, .int .i64 fi2, .int .i64 hi])
          ∧ (L 0 = true → v 0 = .agg #[.slice fa vs.length fc, .int .i64 fi2, .int .i64 hi])
          ∧ (L 1 = true → v 1 = .pointer (some ⟨w4.heap.size, 3, none⟩))
          ∧ (L 2 = true → v 2 = .slice na V.length nc)
          ∧ (L 4 = true → v 4 = .slice na V.length nc)) (by kernel_rfl) (by kernel_rfl) ?_ ?_ (l := [(77, 0), (78, 1), (79, 2), (9, 4)]) (by kernel_rfl) (n := 5) rfl ?_
      · intro v
        exact ⟨hT6.x (X.refl _).drew, hV6.fr ((X.refl _).drew.fr _), hG7.x (X.refl _).drew, hB6.x (X.refl _).drew, own_fr hN6 ((X.refl _).drew.fr _), fun _ => hR6.x (X.refl _).drew, fun h => Bool.noConfusion h, fun h => Bool.noConfusion h, fun h => Bool.noConfusion h, fun h => Bool.noConfusion h, fun h => Bool.noConfusion h⟩
      · intro i hi
        have hi' : i = 0 ∨ i = 1 ∨ i = 2 ∨ i = 3 ∨ i = 4 := by
          have : i < 5 := hi
          omega
        clear hi
        rcases hi' with rfl | rfl | rfl | rfl | rfl
        all_goals
          intro o ho L v aa W hI hS hL hA K hK
          cases (show some _ = some o from ho)
          obtain ⟨tf, vv, gg, xb, nn, rr, rs, v0, v1, v2, v4⟩ := hI
        · have o4 := hS.old 4 (by kernel_rfl) rfl
          obtain ⟨ltf, f0, f1, f2, ff0, ff1, ff2⟩ := tf.cells
          clear hS ho hA
          go_simp
          exact hK _ W ⟨tf, vv, gg, xb, nn, rr, rs, fun _ => rfl, v1, v2, v4⟩
        · have o12 := hS.old 12 (by kernel_rfl) rfl
          clear hS ho hA
          go_simp
          exact hK _ W ⟨tf, vv, gg, xb, nn, rr, rs, v0, fun _ => rfl, v2, v4⟩
        · have l1 : L 1 = true := hA ⟨1, .data⟩ (by simp) rfl
          have g1 := hS.get 1 78 rfl l1 (v1 l1)
          obtain ⟨ltx, xc, _⟩ := xb.out
          have x3 := xc 3
          clear xc
          clear hS ho hA
          go_simp
          exact hK _ W ⟨tf, vv, gg, xb, nn, rr, rs, v0, v1, fun _ => rfl, v4⟩
        · have o8 := hS.old 8 (by kernel_rfl) rfl
          have l0 : L 0 = true := hA ⟨0, .data⟩ (by simp) rfl
          have g0 := hS.get 0 77 rfl l0 (v0 l0)
          obtain ⟨ltr, r0, r1, r2, fr0, fr1, fr2⟩ := (rr hL).cells
          clear hS ho hA
          go_simp
          exact hK undef _ ⟨tf.far3 (by omega) _ _ _, vv.set3 (rr hL) _ _ _, gg.set3 (by omega) _ _ _, bx_far3 xb (by omega) _ _ _, own_set3f nn (rr hL) (by decide) _ _ _, fun h => Bool.noConfusion h, fun _ => (rr hL).set3 _ _ _, v0, v1, v2, v4⟩
        · have l2 : L 2 = true := hA ⟨2, .data⟩ (by simp) rfl
          have g2 := hS.get 2 79 rfl l2 (v2 l2)
          clear hS ho hA
          go_simp
          exact hK _ W ⟨tf, vv, gg, xb, nn, rr, rs, v0, v1, v2, fun _ => rfl⟩
      intro v W7 hI
      obtain ⟨tf, vv, gg, xb, nn, rr, rs, v0, v1, v2, v4⟩ := hI
      have e0 := v0 rfl
      have e1 := v1 rfl
      have e2 := v2 rfl
      have e4 := v4 rfl
      clear v0 v1 v2 v4
      simp only [putL, List.foldl, List.setIfInBounds_toArray, List.set_cons_zero, List.set_cons_succ, e0, e1, e2, e4]
      clear e0 e1 e2 e4
      go_wp2
      refine bodyPost_ret (v := .tuple #[.agg #[.slice fa vs.length fc, .int .i64 fi2, .int .i64 hi], .slice na V.length nc]) ?_ rfl ?_
      · obtain ⟨_, r0, r1, r2, _, _, _⟩ := (rs rfl).cells
        simp [results, Tryd.results104, go_sem, Result.andThen, r0, r1, r2]
      · exact ⟨vs.map (·.1), fa, vs.length, fc, fi2, hi, V, na, _, nc, rfl, ⟨vv.o, hok2, hl2, hm, hhi⟩, nn, rfl, by omega, hNs, gg⟩

end Go.Proofs.YtgjfjjhmgbemcaaDoor
