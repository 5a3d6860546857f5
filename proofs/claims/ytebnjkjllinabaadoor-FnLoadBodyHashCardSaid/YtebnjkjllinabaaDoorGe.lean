/- Several texts in one: Compile, CompileI, CompTree, CloneS. No condition but lengths. -/
import Derived.Test.YtebnjkjllinabaaDoorGc
import Derived.Test.YtebnjkjllinabaaDoorGb
import Derived.Deep.RegionHeldLaw
namespace Go.Proofs.YtebnjkjllinabaaDoor
open Go.RowKit

theorem run_append_zero_c {P : Program} {w : World} (base : Nat) (t ty e : TypeId) (i : TypeInfo) (size : Nat) (ht : P.underlying t = some (.slice e)) (hi : P.info? e = some i)
    (v : Value) (n c : Nat) (sa : Option Addr) (xs : List Value) (hown : w.ownsRow base e size v n xs) :
    (Builtin.append_ #[t, t] ty #[v, .slice sa 0 c]).run P w = .ok v w := by
  rcases hown.2 with ⟨rfl, rfl⟩ | ⟨g, cap, cur, rfl, _, _, hnc, _⟩
  · cases sa <;> simp [Builtin.append_, run_underlying ht, sizeOf, typeInfo, hi, Builtin.lenOf, Builtin.firstCells, loadCells, loadCellsFrom]
  · cases sa <;> simp [Builtin.append_, run_underlying ht, sizeOf, typeInfo, hi, Builtin.lenOf, Builtin.firstCells, hnc, storeCells, loadCells, loadCellsFrom]
/-- append of a whole slice, wherever it lies, as one step of a region that draws its order. -/
theorem step_append_sl {P : Program} {ops : Array Oper} {o : Oper} {a : Act} {K : Act → World → Prop} {Q : Exit → Act → World → Prop} {E : Prop} {t e size bytes : Nat} (hT : AppT P t e size bytes) (hgd : o.guard = none) (s x : Operand)
    (ho : o.op = .call { callee := .builtin .append, args := #[s, x], argTypes := #[t, t] }) {w : World} {B B' : Nat} {v : Value} {n : Nat} {xs : List Value}
    (hown : w.ownsRow B e size v n xs) (hs : a.eval s = v) {sa : Option Addr} {m c : Nat} {news : List Value} (hx : a.eval x = .slice sa m c) (hsl : Sl w B' sa m news) (hl : news.length = m * size) (h1 : ∀ u ∈ news, u.oneCell' = true)
    (hb : (n + m) * bytes ≤ 140737488355328) (hn : n + m ≤ maxLen) (hBw : B ≤ w.heap.size)
    (h : ∀ a' c' w', w'.ownsRow B e size (.slice a' (n + m) c') (n + m) (xs ++ news) → w.grownBy w' v.ownBlock → (∀ g, v.ownBlock = some g → B ≤ g) → K (a.put o.dst (.slice a' (n + m) c')) w') :
    if Region.wanted o (yielded ops a.tmps) = true then Oper.wp P o a w K Q else E := by
  obtain ⟨i, z, hi, hz, hsize, hby, hzs⟩ := hT.hi
  rcases Nat.eq_zero_or_pos m with h0 | h0
  · subst h0
    have hnil : news = [] := by rw [Nat.zero_mul] at hl; exact List.length_eq_zero_iff.1 hl
    subst hnil
    obtain ⟨a', c', rfl⟩ := own_slice hown
    have hrun := run_append_zero_c (P := P) (w := w) B t o.type e i size hT.ht hi _ n c sa xs hown
    have hw : Region.wanted o (yielded ops a.tmps) = true := by simp [Region.wanted, hgd]
    rw [if_pos hw]
    unfold Oper.wp
    simp [execOp, ho, resolve, invoke, builtin, hs, hx, hrun, Result.andThen]
    exact h a' c' w (by simpa using hown) (World.grownBy.refl _ _) (fun g hg => (hown.lt g hg).1)
  · obtain ⟨b, off, rfl, _, hbl, hc⟩ := hsl h0
    refine step_append_lies w hgd s x t ho B e i z size bytes hT.ht hi hz hsize hby hzs hT.hsz v n xs hs hown ⟨b, off, none⟩ m c news hx hl (fun j u hu => ?_) h1 h0 hn hb hBw _ rfl (fun g cap w' h2 h3 _ _ => h _ _ w' h2 h3 (fun g hg => (hown.lt g hg).1))
    have hj : j < news.length := (List.getElem?_eq_some_iff.1 hu).1
    have hadd : (⟨b, off, none⟩ : Addr).add j = ⟨b, off + j, none⟩ := by unfold Addr.add; split <;> simp_all
    rw [hadd, hc j hj, ← hu, List.getElem?_eq_getElem hj]

def compB (f : Fi) (mode : Int) : Co := ⟨f.root, moduleB f, f.init, mode, f.stamp, (szN f.body : Nat), hashZ f.body, f.body⟩
theorem co_S : StrT Tryd.prog 49 8 := ⟨⟨_, Tryd.underlying49⟩, by kernel_rfl⟩

theorem keepT {tb : Nat} {f : Fi} {bv : Value} {w : World} (hT : Bx w tb #[.int .i64 f.root, .string ⟨(f.pkg).toArray⟩, .string ⟨(f.name).toArray⟩, .bool f.init, .int .i64 f.stamp, bv]) :
    w.cell? ⟨tb, 0, none⟩ = some (.int .i64 f.root) ∧ w.cell? ⟨tb, 1, none⟩ = some (.string ⟨(f.pkg).toArray⟩) ∧ w.cell? ⟨tb, 2, none⟩ = some (.string ⟨(f.name).toArray⟩) ∧ w.cell? ⟨tb, 3, none⟩ = some (.bool f.init) ∧ w.cell? ⟨tb, 4, none⟩ = some (.int .i64 f.stamp) ∧ w.cell? ⟨tb, 5, none⟩ = some bv := by
  obtain ⟨_, hc, _⟩ := hT.out
  exact ⟨hc 0, hc 1, hc 2, hc 3, hc 4, hc 5⟩
theorem cellsR {rb : Nat} {w : World} (hR : Bx w rb #[.int .i64 0, .string ⟨#[]⟩, .bool false, .int .i64 0, .int .i64 0, .int .i64 0, .int .i64 0, .slice none 0 0]) :
    w.cell? ⟨rb, 0, none⟩ = some (.int .i64 0) ∧ w.cell? ⟨rb, 1, none⟩ = some (.string ⟨#[]⟩) ∧ w.cell? ⟨rb, 2, none⟩ = some (.bool false) ∧ w.cell? ⟨rb, 3, none⟩ = some (.int .i64 0) ∧ w.cell? ⟨rb, 4, none⟩ = some (.int .i64 0) ∧ w.cell? ⟨rb, 5, none⟩ = some (.int .i64 0) ∧ w.cell? ⟨rb, 6, none⟩ = some (.int .i64 0) ∧ w.cell? ⟨rb, 7, none⟩ = some (.slice none 0 0) ∧ ∀ i, w.frozen? ⟨rb, i, none⟩ = false := by
  obtain ⟨_, hd, hf⟩ := hR.out
  exact ⟨hd 0, hd 1, hd 2, hd 3, hd 4, hd 5, hd 6, hd 7, hf⟩
theorem Bx.set8 {w : World} {b : Nat} {u0 u1 u2 u3 u4 u5 u6 u7 : Value} (h : Bx w b #[u0, u1, u2, u3, u4, u5, u6, u7]) (v0 v1 v2 v3 v4 v5 v6 v7 : Value) :
    Bx ((((((((w.setCell ⟨b, 0, none⟩ v0).setCell ⟨b, 1, none⟩ v1).setCell ⟨b, 2, none⟩ v2).setCell ⟨b, 3, none⟩ v3).setCell ⟨b, 4, none⟩ v4).setCell ⟨b, 5, none⟩ v5).setCell ⟨b, 6, none⟩ v6).setCell ⟨b, 7, none⟩ v7) b #[v0, v1, v2, v3, v4, v5, v6, v7] := by
  simpa using (((((((h.set 0 v0).set 1 v1).set 2 v2).set 3 v3).set 4 v4).set 5 v5).set 6 v6).set 7 v7
theorem Bx.far8 {w : World} {b r : Nat} {cs : Array Value} (h : Bx w b cs) (hne : b ≠ r) (v0 v1 v2 v3 v4 v5 v6 v7 : Value) :
    Bx ((((((((w.setCell ⟨r, 0, none⟩ v0).setCell ⟨r, 1, none⟩ v1).setCell ⟨r, 2, none⟩ v2).setCell ⟨r, 3, none⟩ v3).setCell ⟨r, 4, none⟩ v4).setCell ⟨r, 5, none⟩ v5).setCell ⟨r, 6, none⟩ v6).setCell ⟨r, 7, none⟩ v7) b cs :=
  Bx.far (Bx.far (Bx.far (Bx.far (Bx.far (Bx.far (Bx.far (Bx.far h hne _) hne _) hne _) hne _) hne _) hne _) hne _) hne _

set_option maxRecDepth 100000 in
set_option maxHeartbeats 4000000 in
theorem compiled_c (f : Fi) (mode : Int) (ba : Option Addr) (bn bc B : Nat) (w : World) (hf : Okf f) (hS : StmtsAt w B ba bn f.body) (hv : bodyB f.body = true) :
    Calls Tryd.prog 39 #[.agg #[.int .i64 (f).root, .string ⟨(f).pkg.toArray⟩, .string ⟨(f).name.toArray⟩, .bool (f).init, .int .i64 (f).stamp, .slice ba bn bc], .int .i64 mode] w fun e w' => ∃ ra rc, e = .returned (.agg #[.int .i64 ((compB f mode)).root, .string ⟨((compB f mode)).mod.toArray⟩, .bool ((compB f mode)).init, .int .i64 ((compB f mode)).mode, .int .i64 ((compB f mode)).stamp, .int .i64 ((compB f mode)).size, .int .i64 ((compB f mode)).hash, .slice ra bn rc]) ∧ w'.ownsRow w.heap.size 66 5 (.slice ra bn rc) bn (f.body.flatMap scells) ∧ X w w' := by
  have hn := hS.2.1
  have Hl := Lib.hid (show (f.body.flatMap scells).length = bn * 5 by rw [scells_len, hS.1])
  go_enter Tryd.func39, Tryd.ntmps39
  go_wp2
  refine wp_name (fun W hW => ?_)
  obtain ⟨hT, hR, hX0⟩ := bx2 hW
  have Hsz := Lib.hid (show W.heap.size = w.heap.size + 2 by rw [hW]; simp)
  have hne : w.heap.size ≠ w.heap.size + 1 := by omega
  clear hW
  obtain ⟨t0, t1, t2, t3, t4, t5⟩ := keepT hT
  have hS0 := hS.mono (hX0.fr _)
  go_region_held_law (fun w' => w'.cell? ⟨w.heap.size, 0, none⟩ = some (.int .i64 f.root) ∧ w'.cell? ⟨w.heap.size, 1, none⟩ = some (.string ⟨(f.pkg).toArray⟩) ∧ w'.cell? ⟨w.heap.size, 2, none⟩ = some (.string ⟨(f.name).toArray⟩) ∧ w'.cell? ⟨w.heap.size, 3, none⟩ = some (.bool f.init) ∧ w'.cell? ⟨w.heap.size, 4, none⟩ = some (.int .i64 f.stamp) ∧ w'.cell? ⟨w.heap.size, 5, none⟩ = some (.slice ba bn bc))
    (first
      | (refine keepT (hT.x ?_); (repeat (first | with_reducible exact X.refl _ | with_reducible assumption | with_reducible refine X.alloc ?_ _ | with_reducible refine X.drew ?_)); done)
      | (refine keepT (Bx.far8 (hT.x ?_) hne _ _ _ _ _ _ _ _); with_reducible assumption))
    (first
      | (go_at_call 51; refine (moduleName_c f _ _ hf).mono ?_; rintro _ wm ⟨rfl, hxm⟩; (have hXm : X W wm := X.trans (by (repeat (first | with_reducible exact X.refl _ | with_reducible assumption | with_reducible refine X.setCell ?_ (by first | (simp; done) | (simp; omega)) _ | with_reducible refine X.ext ?_ _ | with_reducible refine X.alloc ?_ _ | with_reducible refine X.drew ?_))) hxm); (first | replace hrow := own_fr hrow (hxm.fr _) | have hrow := own_fr (show (W.drew.alloc (.cells #[] 66)).ownsRow W.heap.size 66 5 (.slice (some ⟨W.heap.size, 0, none⟩) 0 0) 0 [] from own_lit (cs := #[]) (n := 0) rfl (Nat.le_refl _) rfl (by omega)) (hxm.fr _) | have hrow := own_fr (own_lit (B := W.heap.size) (n := 0) (size := 5) (cs := #[]) (e := 66) rfl (X.size (by (repeat (first | with_reducible exact X.refl _ | with_reducible assumption | with_reducible refine X.setCell ?_ (by first | (simp; done) | (simp; omega)) _ | with_reducible refine X.ext ?_ _ | with_reducible refine X.alloc ?_ _ | with_reducible refine X.drew ?_)))) rfl (by omega)) (hxm.fr _) | skip); (try replace hO := own_fr hO (hxm.fr _)); ((try clear m0 m1 m2 m3 m4 m5 m6 m7 hfm); obtain ⟨m0, m1, m2, m3, m4, m5, m6, m7, hfm⟩ := cellsR (hR.x hXm)))
      | (go_at_call 68; refine (sizeOf_c f.body ba bn bc B _ (hS0.mono (X.fr (by (repeat (first | with_reducible exact X.refl _ | with_reducible assumption | with_reducible refine X.setCell ?_ (by first | (simp; done) | (simp; omega)) _ | with_reducible refine X.ext ?_ _ | with_reducible refine X.alloc ?_ _ | with_reducible refine X.drew ?_))) _))).mono ?_; rintro _ wm ⟨rfl, hxm⟩; (have hXm : X W wm := X.trans (by (repeat (first | with_reducible exact X.refl _ | with_reducible assumption | with_reducible refine X.setCell ?_ (by first | (simp; done) | (simp; omega)) _ | with_reducible refine X.ext ?_ _ | with_reducible refine X.alloc ?_ _ | with_reducible refine X.drew ?_))) hxm); (first | replace hrow := own_fr hrow (hxm.fr _) | have hrow := own_fr (show (W.drew.alloc (.cells #[] 66)).ownsRow W.heap.size 66 5 (.slice (some ⟨W.heap.size, 0, none⟩) 0 0) 0 [] from own_lit (cs := #[]) (n := 0) rfl (Nat.le_refl _) rfl (by omega)) (hxm.fr _) | have hrow := own_fr (own_lit (B := W.heap.size) (n := 0) (size := 5) (cs := #[]) (e := 66) rfl (X.size (by (repeat (first | with_reducible exact X.refl _ | with_reducible assumption | with_reducible refine X.setCell ?_ (by first | (simp; done) | (simp; omega)) _ | with_reducible refine X.ext ?_ _ | with_reducible refine X.alloc ?_ _ | with_reducible refine X.drew ?_)))) rfl (by omega)) (hxm.fr _) | skip); (try replace hO := own_fr hO (hxm.fr _)); ((try clear m0 m1 m2 m3 m4 m5 m6 m7 hfm); obtain ⟨m0, m1, m2, m3, m4, m5, m6, m7, hfm⟩ := cellsR (hR.x hXm)))
      | (go_at_call 69; refine (hashOf_c f.body ba bn bc B _ (hS0.mono (X.fr (by (repeat (first | with_reducible exact X.refl _ | with_reducible assumption | with_reducible refine X.setCell ?_ (by first | (simp; done) | (simp; omega)) _ | with_reducible refine X.ext ?_ _ | with_reducible refine X.alloc ?_ _ | with_reducible refine X.drew ?_))) _)) hv).mono ?_; rintro _ wm ⟨rfl, hxm⟩; (have hXm : X W wm := X.trans (by (repeat (first | with_reducible exact X.refl _ | with_reducible assumption | with_reducible refine X.setCell ?_ (by first | (simp; done) | (simp; omega)) _ | with_reducible refine X.ext ?_ _ | with_reducible refine X.alloc ?_ _ | with_reducible refine X.drew ?_))) hxm); (first | replace hrow := own_fr hrow (hxm.fr _) | have hrow := own_fr (show (W.drew.alloc (.cells #[] 66)).ownsRow W.heap.size 66 5 (.slice (some ⟨W.heap.size, 0, none⟩) 0 0) 0 [] from own_lit (cs := #[]) (n := 0) rfl (Nat.le_refl _) rfl (by omega)) (hxm.fr _) | have hrow := own_fr (own_lit (B := W.heap.size) (n := 0) (size := 5) (cs := #[]) (e := 66) rfl (X.size (by (repeat (first | with_reducible exact X.refl _ | with_reducible assumption | with_reducible refine X.setCell ?_ (by first | (simp; done) | (simp; omega)) _ | with_reducible refine X.ext ?_ _ | with_reducible refine X.alloc ?_ _ | with_reducible refine X.drew ?_)))) rfl (by omega)) (hxm.fr _) | skip); (try replace hO := own_fr hO (hxm.fr _)); ((try clear m0 m1 m2 m3 m4 m5 m6 m7 hfm); obtain ⟨m0, m1, m2, m3, m4, m5, m6, m7, hfm⟩ := cellsR (hR.x hXm)))
      | (refine step_append_sl (B := W.heap.size) (xs := []) (n := 0) stmt_T' rfl _ _ rfl (by first | exact hrow | exact own_lit (n := 0) (size := 5) (cs := #[]) rfl (X.size (by (repeat (first | with_reducible exact X.refl _ | with_reducible assumption | with_reducible refine X.setCell ?_ (by first | (simp; done) | (simp; omega)) _ | with_reducible refine X.ext ?_ _ | with_reducible refine X.alloc ?_ _ | with_reducible refine X.drew ?_)))) rfl (by omega)) rfl rfl (hS0.mono (X.fr (by (repeat (first | with_reducible exact X.refl _ | with_reducible assumption | with_reducible refine X.setCell ?_ (by first | (simp; done) | (simp; omega)) _ | with_reducible refine X.ext ?_ _ | with_reducible refine X.alloc ?_ _ | with_reducible refine X.drew ?_))) _)).2.2.2 Hl.out (scells_one f.body) (by omega) (by unfold maxLen; omega) (X.size (by (repeat (first | with_reducible exact X.refl _ | with_reducible assumption | with_reducible refine X.setCell ?_ (by first | (simp; done) | (simp; omega)) _ | with_reducible refine X.ext ?_ _ | with_reducible refine X.alloc ?_ _ | with_reducible refine X.drew ?_)))) ?_; intro ra rc wm hO hxm hgB; have hXm : X W wm := X.of_below ((X.below (w := W) (by (repeat (first | with_reducible exact X.refl _ | with_reducible assumption | with_reducible refine X.setCell ?_ (by first | (simp; done) | (simp; omega)) _ | with_reducible refine X.ext ?_ _ | with_reducible refine X.alloc ?_ _ | with_reducible refine X.drew ?_)))).grown hxm (X.size (by (repeat (first | with_reducible exact X.refl _ | with_reducible assumption | with_reducible refine X.setCell ?_ (by first | (simp; done) | (simp; omega)) _ | with_reducible refine X.ext ?_ _ | with_reducible refine X.alloc ?_ _ | with_reducible refine X.drew ?_)))) hgB); ((try clear m0 m1 m2 m3 m4 m5 m6 m7 hfm); obtain ⟨m0, m1, m2, m3, m4, m5, m6, m7, hfm⟩ := cellsR (hR.x hXm))))
  all_goals
    rw [List.nil_append] at hO
    rw [Nat.zero_add] at hO
    go_wp2
    refine bodyPost_row Tryd.results39 rfl (Bx.set8 (hR.x hXm) _ _ _ _ _ _ _ _) co_S rfl rfl ?_
    have hXw := hX0.trans hXm
    have hsz := Hsz.out
    refine ⟨ra, rc, rfl, own_less (own_fr hO (by (repeat (first | with_reducible exact Fr.refl _ _ | with_reducible assumption | with_reducible refine Fr.set ?_ (.inr (by first | (simp; done) | (simp; omega))) _)))) (by omega), by (repeat (first | with_reducible exact X.refl _ | with_reducible assumption | with_reducible refine X.setCell ?_ (by first | (simp; done) | (simp; omega)) _ | with_reducible refine X.ext ?_ _ | with_reducible refine X.alloc ?_ _ | with_reducible refine X.drew ?_))⟩
end Go.Proofs.YtebnjkjllinabaaDoor

namespace Go.Proofs.YtebnjkjllinabaaDoor
open Go.RowKit

set_option maxHeartbeats 400000 in
theorem modeOk_c (m : Int) (w : World) : Calls Tryd.prog 34 #[.int .i64 m] w fun e w' => e = .returned (.bool (rangeB m 0 2)) ∧ X w w' := by
  go_enter Tryd.func34, Tryd.ntmps34
  go_wp2_with (go_at_call 40; refine (within_c _ _ _ _).mono ?_; rintro _ _ ⟨rfl, rfl⟩)
  go_ret
  exact ⟨rfl, by (repeat (first | with_reducible exact X.refl _ | with_reducible assumption | with_reducible refine X.setCell ?_ (by first | (simp; done) | (simp; omega)) _ | with_reducible refine X.ext ?_ _ | with_reducible refine X.alloc ?_ _ | with_reducible refine X.drew ?_))⟩
theorem moduleOf_eq {f : Fi} (h : fileB f = true) : moduleOf f = moduleB f := by rw [moduleOf, if_pos h]
theorem fileB_body {f : Fi} (h : fileB f = true) : bodyB f.body = true := by
  unfold fileB at h
  simp only [Bool.and_eq_true] at h
  exact h.1.2

set_option maxRecDepth 100000 in
set_option maxHeartbeats 4000000 in
theorem CompileFile_c (f : Fi) (mode : Int) (ba : Option Addr) (bn bc B : Nat) (w : World) (hf : Okf f) (hS : StmtsAt w B ba bn f.body) (hv : fileB f = true) (hm : rangeB mode 0 2 = true) (hG : Gm w) :
    Calls Tryd.prog 35 #[.agg #[.int .i64 (f).root, .string ⟨(f).pkg.toArray⟩, .string ⟨(f).name.toArray⟩, .bool (f).init, .int .i64 (f).stamp, .slice ba bn bc], .int .i64 mode] w fun e w' => ∃ ra rc, e = .returned (.agg #[.int .i64 ((compB f mode)).root, .string ⟨((compB f mode)).mod.toArray⟩, .bool ((compB f mode)).init, .int .i64 ((compB f mode)).mode, .int .i64 ((compB f mode)).stamp, .int .i64 ((compB f mode)).size, .int .i64 ((compB f mode)).hash, .slice ra bn rc]) ∧ w'.ownsRow w.heap.size 66 5 (.slice ra bn rc) bn (f.body.flatMap scells) ∧ X w w' := by
  have hb := fileB_body hv
  have Hmo := Lib.hid (moduleOf_eq hv)
  go_enter Tryd.func35, Tryd.ntmps35
  go_wp2_with fail
  refine calls_name (fun W0 hW0 => ?_)
  obtain ⟨hT0, hR0, hX0⟩ := bx2 hW0
  have Hsz0 := Lib.hid (show W0.heap.size = w.heap.size + 2 by rw [hW0]; simp)
  have hne : w.heap.size ≠ w.heap.size + 1 := by omega
  clear hW0
  refine (fileOk_c f ba bn bc B W0 hf (hS.mono (hX0.fr _)) (hG.mono hX0)).mono ?_
  rintro _ w1 ⟨rfl, hx1⟩
  rw [hv]
  go_wp2_with (go_at_call 34; refine (modeOk_c mode _).mono ?_; rintro _ W ⟨rfl, hx2⟩; rw [hm]; have hT := (hT0.x hx1).x hx2; have hR := (hR0.x hx1).x hx2)
  have hXW := (hX0.trans hx1).trans hx2
  have Hsz := Lib.hid (Nat.le_trans (Nat.le_of_eq Hsz0.out.symm) (X.size (hx1.trans hx2)))
  clear hX0 hx1 hx2 hT0 hR0 Hsz0
  have hG0 := hG.mono hXW
  have hS0 := hS.mono (hXW.fr _)
  obtain ⟨t0, t1, t2, t3, t4, t5⟩ := keepT hT
  go_region_held_law (fun w' => w'.cell? ⟨w.heap.size, 0, none⟩ = some (.int .i64 f.root) ∧ w'.cell? ⟨w.heap.size, 1, none⟩ = some (.string ⟨(f.pkg).toArray⟩) ∧ w'.cell? ⟨w.heap.size, 2, none⟩ = some (.string ⟨(f.name).toArray⟩) ∧ w'.cell? ⟨w.heap.size, 3, none⟩ = some (.bool f.init) ∧ w'.cell? ⟨w.heap.size, 4, none⟩ = some (.int .i64 f.stamp) ∧ w'.cell? ⟨w.heap.size, 5, none⟩ = some (.slice ba bn bc))
    (first
      | (refine keepT (hT.x ?_); (repeat (first | with_reducible exact X.refl _ | with_reducible assumption | with_reducible refine X.alloc ?_ _ | with_reducible refine X.drew ?_)); done)
      | (refine keepT (Bx.far8 (hT.x ?_) hne _ _ _ _ _ _ _ _); with_reducible assumption))
    (first
      | (go_at_call 23; refine (ModuleOf_c f ba bn bc B _ hf (hS0.mono (X.fr (by (repeat (first | with_reducible exact X.refl _ | with_reducible assumption | with_reducible refine X.setCell ?_ (by first | (simp; done) | (simp; omega)) _ | with_reducible refine X.ext ?_ _ | with_reducible refine X.alloc ?_ _ | with_reducible refine X.drew ?_))) _)) (hG0.mono (by (repeat (first | with_reducible exact X.refl _ | with_reducible assumption | with_reducible refine X.setCell ?_ (by first | (simp; done) | (simp; omega)) _ | with_reducible refine X.ext ?_ _ | with_reducible refine X.alloc ?_ _ | with_reducible refine X.drew ?_))))).mono ?_; rintro _ wm ⟨rfl, hxm⟩; rw [Hmo.out]; (have hXm : X W wm := X.trans (by (repeat (first | with_reducible exact X.refl _ | with_reducible assumption | with_reducible refine X.setCell ?_ (by first | (simp; done) | (simp; omega)) _ | with_reducible refine X.ext ?_ _ | with_reducible refine X.alloc ?_ _ | with_reducible refine X.drew ?_))) hxm); ((try clear m0 m1 m2 m3 m4 m5 m6 m7 hfm); obtain ⟨m0, m1, m2, m3, m4, m5, m6, m7, hfm⟩ := cellsR (hR.x hXm)))
      | (go_at_call 24; refine (SizeOf_c f.body ba bn bc B _ (hS0.mono (X.fr (by (repeat (first | with_reducible exact X.refl _ | with_reducible assumption | with_reducible refine X.setCell ?_ (by first | (simp; done) | (simp; omega)) _ | with_reducible refine X.ext ?_ _ | with_reducible refine X.alloc ?_ _ | with_reducible refine X.drew ?_))) _)) hb (hG0.mono (by (repeat (first | with_reducible exact X.refl _ | with_reducible assumption | with_reducible refine X.setCell ?_ (by first | (simp; done) | (simp; omega)) _ | with_reducible refine X.ext ?_ _ | with_reducible refine X.alloc ?_ _ | with_reducible refine X.drew ?_))))).mono ?_; rintro _ wm ⟨rfl, hxm⟩; (have hXm : X W wm := X.trans (by (repeat (first | with_reducible exact X.refl _ | with_reducible assumption | with_reducible refine X.setCell ?_ (by first | (simp; done) | (simp; omega)) _ | with_reducible refine X.ext ?_ _ | with_reducible refine X.alloc ?_ _ | with_reducible refine X.drew ?_))) hxm); ((try clear m0 m1 m2 m3 m4 m5 m6 m7 hfm); obtain ⟨m0, m1, m2, m3, m4, m5, m6, m7, hfm⟩ := cellsR (hR.x hXm)))
      | (go_at_call 25; refine (HashOf_c f.body ba bn bc B _ (hS0.mono (X.fr (by (repeat (first | with_reducible exact X.refl _ | with_reducible assumption | with_reducible refine X.setCell ?_ (by first | (simp; done) | (simp; omega)) _ | with_reducible refine X.ext ?_ _ | with_reducible refine X.alloc ?_ _ | with_reducible refine X.drew ?_))) _)) hb (hG0.mono (by (repeat (first | with_reducible exact X.refl _ | with_reducible assumption | with_reducible refine X.setCell ?_ (by first | (simp; done) | (simp; omega)) _ | with_reducible refine X.ext ?_ _ | with_reducible refine X.alloc ?_ _ | with_reducible refine X.drew ?_))))).mono ?_; rintro _ wm ⟨rfl, hxm⟩; (have hXm : X W wm := X.trans (by (repeat (first | with_reducible exact X.refl _ | with_reducible assumption | with_reducible refine X.setCell ?_ (by first | (simp; done) | (simp; omega)) _ | with_reducible refine X.ext ?_ _ | with_reducible refine X.alloc ?_ _ | with_reducible refine X.drew ?_))) hxm); ((try clear m0 m1 m2 m3 m4 m5 m6 m7 hfm); obtain ⟨m0, m1, m2, m3, m4, m5, m6, m7, hfm⟩ := cellsR (hR.x hXm)))
      | (go_at_call 56; refine (cloneBody_c f.body ba bn bc B _ (hS0.mono (X.fr (by (repeat (first | with_reducible exact X.refl _ | with_reducible assumption | with_reducible refine X.setCell ?_ (by first | (simp; done) | (simp; omega)) _ | with_reducible refine X.ext ?_ _ | with_reducible refine X.alloc ?_ _ | with_reducible refine X.drew ?_))) _))).mono ?_; rintro _ wm ⟨ra, rc, rfl, hO, hxm⟩; replace hO := own_less hO (X.size (w := W) (by (repeat (first | with_reducible exact X.refl _ | with_reducible assumption | with_reducible refine X.setCell ?_ (by first | (simp; done) | (simp; omega)) _ | with_reducible refine X.ext ?_ _ | with_reducible refine X.alloc ?_ _ | with_reducible refine X.drew ?_)))); (have hXm : X W wm := X.trans (by (repeat (first | with_reducible exact X.refl _ | with_reducible assumption | with_reducible refine X.setCell ?_ (by first | (simp; done) | (simp; omega)) _ | with_reducible refine X.ext ?_ _ | with_reducible refine X.alloc ?_ _ | with_reducible refine X.drew ?_))) hxm); ((try clear m0 m1 m2 m3 m4 m5 m6 m7 hfm); obtain ⟨m0, m1, m2, m3, m4, m5, m6, m7, hfm⟩ := cellsR (hR.x hXm))))
  all_goals
    go_wp2
    refine bodyPost_row Tryd.results35 rfl (Bx.set8 (hR.x hXm) _ _ _ _ _ _ _ _) co_S rfl rfl ?_
    have hXw := hXW.trans hXm
    have hsz := Hsz.out
    refine ⟨ra, rc, rfl, own_less (own_fr hO (by (repeat (first | with_reducible exact Fr.refl _ _ | with_reducible assumption | with_reducible refine Fr.set ?_ (.inr (by first | (simp; done) | (simp; omega))) _)))) (by omega), by (repeat (first | with_reducible exact X.refl _ | with_reducible assumption | with_reducible refine X.setCell ?_ (by first | (simp; done) | (simp; omega)) _ | with_reducible refine X.ext ?_ _ | with_reducible refine X.alloc ?_ _ | with_reducible refine X.drew ?_))⟩

end Go.Proofs.YtebnjkjllinabaaDoor

namespace Go.Proofs.YtebnjkjllinabaaDoor
open Go.RowKit

def compL (l : List Fi) (mode : Int) : List Co := if treeB l && rangeB mode 0 2 then l.map (fun f => compB f mode) else []
theorem CosO.nil {w : World} {B c : Nat} {a : Option Addr} (h : w.ownsRow B 49 8 (.slice a 0 c) 0 []) : CosO w B a 0 c [] := ⟨[], rfl, rfl, h, List.Pairwise.nil, fun _ h => by cases h⟩
theorem co_T : AppT Tryd.prog 28 49 8 88 := AppT.of (z := .agg #[.int .i64 0, .string ⟨#[]⟩, .bool false, .int .i64 0, .int .i64 0, .int .i64 0, .int .i64 0, .slice none 0 0]) (by kernel_rfl) (by kernel_rfl) rfl (by omega)
theorem compB_len {f : Fi} {mode : Int} : (compB f mode).body = f.body := rfl

set_option maxRecDepth 100000 in
set_option maxHeartbeats 2000000 in
theorem CompileTree_c (l : List Fi) (a : Option Addr) (n c B : Nat) (mode : Int) (w : World) (hF : FilesAt w B a n l) (hnc : n ≤ c) (hG : Gm w) :
    Calls Tryd.prog 10 #[.agg #[.slice a n c], .int .i64 mode] w fun e w' => ∃ ra rc, e = .returned (.slice ra (compL l mode).length rc) ∧ CosO w' w.heap.size ra (compL l mode).length rc (compL l mode) ∧ X w w' := by
  obtain ⟨hl, hn⟩ := hF.len
  have Hl := Lib.hid hl
  cases h1 : treeB l <;> cases h2 : rangeB mode 0 2
  case true.true =>
    have Hc := Lib.hid (show compL l mode = l.map (fun f => compB f mode) by rw [compL, h1, h2]; rfl)
    rw [Hc.out, List.length_map, ← hl]
    clear hl
    go_enter Tryd.func10, Tryd.ntmps10
    go_wp2_with fail
    refine calls_name (fun W0 hW0 => ?_)
    obtain ⟨hT0, hE0, hX0⟩ := bx2 hW0
    have hrow0 : W0.ownsRow (w.heap.size + 1) 49 8 (.slice (some ⟨w.heap.size + 1, 0, none⟩) 0 0) 0 [] := by
      rw [hW0]
      exact own_lit (w := w.alloc (.cells #[.slice a n c] 25)) (cs := #[]) (e := 49) (B := w.heap.size + 1) (g := w.heap.size + 1) (size := 8) (n := 0) (by simp) (by simp) rfl (by omega)
    have hs0 : w.heap.size + 1 < W0.heap.size := hE0.lt
    clear hW0 hE0
    refine (ValidTree_c l a n c B W0 (hF.mono (hX0.fr _)) hnc (hG.mono hX0)).mono ?_
    rintro _ w1 ⟨rfl, hx1⟩
    rw [h1]
    go_wp2_with (go_at_call 34; refine (modeOk_c mode _).mono ?_; rintro _ w2 ⟨rfl, hx2⟩; rw [h2]; obtain ⟨lt2, ct2, _⟩ := ((hT0.x hx1).x hx2).out; have t0 := ct2 0; clear ct2)
    have hXw := (hX0.trans hx1).trans hx2
    have hrow2 := own_fr hrow0 ((hx1.trans hx2).fr _)
    clear hx1 hx2 hX0 hrow0
    go_loopw [5, 21] (fun v i wr => ∃ (k : Nat) (vs : List (Co × Value)) (ra : Option Addr) (rc : Nat), k ≤ n ∧ i = .int .i64 k ∧ v = .slice ra k rc ∧ vs.map (·.1) = (l.take k).map (fun f => compB f mode) ∧ wr.ownsRow (w.heap.size + 1) 49 8 (.slice ra k rc) k (vs.flatMap ccells) ∧ SepC vs ∧
      (∀ x ∈ vs, BodyC wr (w.heap.size + 1) x) ∧ X w wr ∧ w.heap.size + 1 ≤ wr.heap.size) (fun _ i _ => n - (intOf i).toNat)
    case atStart => exact ⟨0, [], _, 0, Nat.zero_le _, rfl, rfl, rfl, hrow2, List.Pairwise.nil, (fun _ h => by cases h), hXw, by omega⟩
    case round =>
      obtain ⟨k, vs, ra, rc, hk, rfl, rfl, hvs, hrow, hsep, hbd, hX, hsz⟩ := hrel
      have Hv := Lib.hid (And.intro hvs (And.intro hsep hbd))
      clear hvs hsep hbd hXw hrow2 t0 lt2
      by_cases hlt : k < n
      · obtain ⟨b, off, ba, bn, bc, rfl, _, hb, hok, hbc, hSb, g0, g1, g2, g3, g4, g5⟩ := (hF.mono (hX.fr _)).at_ hlt
        have Hbn := Lib.hid hSb.1
        have hfb := treeB_file h1 (k := k) (by rw [← Hl.out]; exact hlt)
        go_wp2_with fail
        refine calls_name (fun W3 hW3 => ?_)
        have hX3 : X wr W3 := by rw [hW3]; (repeat (first | with_reducible exact X.refl _ | with_reducible assumption | with_reducible refine X.setCell ?_ (by first | (simp; done) | (simp; omega)) _ | with_reducible refine X.ext ?_ _ | with_reducible refine X.alloc ?_ _ | with_reducible refine X.drew ?_))
        clear hW3
        refine (CompileFile_c (nth l k) mode ba bn bc B W3 hok (hSb.mono (hX3.fr _)) hfb h2 (hG.mono (hX.trans hX3))).mono ?_
        rintro _ w3 ⟨rb, rcb, rfl, hO3, hx3⟩
        generalize hcf : compB (nth l k) mode = cf
        have Hcf := Lib.hid hcf
        have Hcb := Lib.hid (show cf.body = (nth l k).body by rw [← hcf]; rfl)
        clear hcf
        have hX4 : X wr w3 := hX3.trans hx3
        have hrow3 := own_fr hrow (hX4.fr _)
        have hsz3 : w.heap.size + 1 ≤ w3.heap.size := Nat.le_trans hsz hX4.size
        go_wp2_with (at_builtin; refine wpList_append_g co_T rfl _ _ rfl hrow3 rfl rfl rfl rfl (by simp [Value.oneCell']) (by omega) (by omega) hsz3 ?_; intro a' c' w' hrow' hg')
        have hXw' : X w w' := X.of_below (((X.alloc (hX.trans hX4) _).below).grown hg' (X.size (X.alloc (hX.trans hX4) _)) (fun g hg => by have := (hrow3.lt g hg).1; omega))
        go_roundw
        case rel => exact ⟨k + 1, vs ++ [(cf, .slice rb bn rcb)], a', c', by omega, by go_num, rfl, by rw [List.map_append, Hv.out.1, take_succ_nth (by rw [← Hl.out]; exact hlt), List.map_append, ← Hcf.out]; rfl, by
            rw [List.flatMap_append]
            exact hrow', List.pairwise_append.2 ⟨Hv.out.2.1, List.pairwise_singleton _ _, fun x hx y hy => by
            rw [List.mem_singleton.1 hy]
            obtain ⟨ba', bc', e, ho⟩ := Hv.out.2.2 x hx
            rw [e]
            exact row_far (own_fr ho (hX3.fr _)) rfl hO3⟩, fun x hx => by
            have hga : w3.grownBy w' (Value.slice ra k rc).ownBlock := X.grown ((X.refl w3).alloc _) hg'
            rcases List.mem_append.1 hx with hx | hx
            · obtain ⟨ba', bc', e, ho⟩ := Hv.out.2.2 x hx
              have ho3 := own_fr ho (hX4.fr _)
              exact ⟨ba', bc', e, ho3.kept hga (row_ne ho3 hrow3 (by decide))⟩
            · rw [List.mem_singleton.1 hx]
              have ho3 := own_less hO3 (show w.heap.size + 1 ≤ _ from Nat.le_trans hsz hX3.size)
              refine ⟨rb, rcb, ?_, ?_⟩
              · show Value.slice rb bn rcb = Value.slice rb cf.body.length rcb
                rw [Hcb.out, ← Hbn.out]
              · show w'.ownsRow _ _ 5 (Value.slice rb cf.body.length rcb) cf.body.length (cf.body.flatMap scells)
                rw [Hcb.out, ← Hbn.out]
                exact ho3.kept hga (row_ne ho3 hrow3 (by decide)), hXw', Nat.le_trans hsz3 (by have := hg'.size; rw [World.size_alloc] at this; omega)⟩
        case measure => simp [intOf]; omega
      · obtain rfl : k = n := by omega
        go_wp2
        go_ret
        have hFO : CosO wr (w.heap.size + 1) ra k rc (l.map (fun f => compB f mode)) := ⟨vs, by rw [Hv.out.1, List.take_of_length_le (by rw [← Hl.out]; omega)], by rw [List.length_map]; exact Hl.out, hrow, Hv.out.2.1, Hv.out.2.2⟩
        exact ⟨ra, rc, rfl, hFO.less (by omega), hX⟩
  all_goals
    clear hl
    rw [show compL l mode = [] by rw [compL, h1, h2]; rfl]
    go_enter Tryd.func10, Tryd.ntmps10
    go_wp2_with fail
    refine calls_name (fun W0 hW0 => ?_)
    have hX0 : X w W0 := by rw [hW0]; (repeat (first | with_reducible exact X.refl _ | with_reducible assumption | with_reducible refine X.setCell ?_ (by first | (simp; done) | (simp; omega)) _ | with_reducible refine X.ext ?_ _ | with_reducible refine X.alloc ?_ _ | with_reducible refine X.drew ?_))
    have hrow0 : W0.ownsRow (w.heap.size + 1) 49 8 (.slice (some ⟨w.heap.size + 1, 0, none⟩) 0 0) 0 [] := by
      rw [hW0]
      exact own_lit (w := w.alloc (.cells #[.slice a n c] 25)) (cs := #[]) (e := 49) (B := w.heap.size + 1) (g := w.heap.size + 1) (size := 8) (n := 0) (by simp) (by simp) rfl (by omega)
    clear hW0
    refine (ValidTree_c l a n c B W0 (hF.mono (hX0.fr _)) hnc (hG.mono hX0)).mono ?_
    rintro _ w1 ⟨rfl, hx1⟩
    rw [h1]
    have hXw := hX0.trans hx1
    have hrow1 := own_fr hrow0 (hx1.fr _)
    go_wp2_with (go_at_call 34; refine (modeOk_c mode _).mono ?_; rintro _ w2 ⟨rfl, hx2⟩; rw [h2]; replace hXw := hXw.trans hx2; replace hrow1 := own_fr hrow1 (hx2.fr _))
    go_ret
    exact ⟨_, _, rfl, (CosO.nil hrow1).less (by omega), hXw⟩

set_option maxRecDepth 100000 in
set_option maxHeartbeats 2000000 in
theorem CompileTree_s (l : List Fi) (a : Option Addr) (n c B : Nat) (mode : Int) (w : World) (hF : FilesAt w B a n l) :
    Calls Tryd.prog 12 #[.agg #[.slice a n c], .int .i64 mode] w fun e w' => ∃ ra rc, e = .returned (.slice ra (compL l mode).length rc) ∧ CosO w' w.heap.size ra (compL l mode).length rc (compL l mode) ∧ X w w' := by
  obtain ⟨hl, hn⟩ := hF.len
  have Hl := Lib.hid hl
  cases h1 : treeB l <;> cases h2 : rangeB mode 0 2
  case true.true =>
    have Hc := Lib.hid (show compL l mode = l.map (fun f => compB f mode) by rw [compL, h1, h2]; rfl)
    rw [Hc.out, List.length_map, ← hl]
    clear hl
    go_enter Tryd.func12, Tryd.ntmps12
    go_wp2_with fail
    refine calls_name (fun W0 hW0 => ?_)
    have hT0 : Bx W0 w.heap.size #[.slice a n c] := by rw [hW0]; exact Bx.new _ _ _
    have hX0 : X w W0 := by rw [hW0]; (repeat (first | with_reducible exact X.refl _ | with_reducible assumption | with_reducible refine X.setCell ?_ (by first | (simp; done) | (simp; omega)) _ | with_reducible refine X.ext ?_ _ | with_reducible refine X.alloc ?_ _ | with_reducible refine X.drew ?_))
    clear hW0
    refine (validTree_c l a n c B W0 (hF.mono (hX0.fr _))).mono ?_
    rintro _ w1 ⟨rfl, hx1⟩
    rw [h1]
    obtain ⟨lt2, ct2, _⟩ := (hT0.x hx1).out
    have t0 := ct2 0
    clear ct2
    have hs1 : w.heap.size + 1 ≤ w1.heap.size := lt2
    have hXw := hX0.trans hx1
    go_wp2_with (go_at_call 38; refine (inRange_c mode 0 2 _).mono ?_; rintro _ _ ⟨rfl, rfl⟩; rw [h2])
    refine wp_name (fun W2 hW2 => ?_)
    have hrow2 : W2.ownsRow (w.heap.size + 1) 49 8 (.slice (some ⟨w1.heap.size, 0, none⟩) 0 0) 0 [] := by
      rw [hW2]
      exact own_lit (w := w1) (cs := #[]) (e := 49) (B := w.heap.size + 1) (g := w1.heap.size) (size := 8) (n := 0) rfl hs1 rfl (by omega)
    have hX2 : X w1 W2 := by rw [hW2]; (repeat (first | with_reducible exact X.refl _ | with_reducible assumption | with_reducible refine X.setCell ?_ (by first | (simp; done) | (simp; omega)) _ | with_reducible refine X.ext ?_ _ | with_reducible refine X.alloc ?_ _ | with_reducible refine X.drew ?_))
    clear hW2
    have hT := (hT0.x hx1).x hX2
    replace hXw := hXw.trans hX2
    have hs2 : w.heap.size + 1 ≤ W2.heap.size := Nat.le_trans hs1 hX2.size
    clear hx1 hX0 hT0 t0 lt2 hX2 hs1
    go_loopw [5, 6] (fun v i wr => ∃ (k : Nat) (vs : List (Co × Value)) (ra : Option Addr) (rc : Nat), k ≤ n ∧ i = .int .i64 k ∧ v = .slice ra k rc ∧ vs.map (·.1) = (l.take k).map (fun f => compB f mode) ∧ wr.ownsRow (w.heap.size + 1) 49 8 (.slice ra k rc) k (vs.flatMap ccells) ∧ SepC vs ∧
      (∀ x ∈ vs, BodyC wr (w.heap.size + 1) x) ∧ X w wr ∧ Bx wr w.heap.size #[.slice a n c]) (fun _ i _ => n - (intOf i).toNat)
    case atStart => exact ⟨0, [], _, 0, Nat.zero_le _, rfl, rfl, rfl, hrow2, List.Pairwise.nil, (fun _ h => by cases h), hXw, hT⟩
    case round =>
      obtain ⟨k, vs, ra, rc, hk, rfl, rfl, hvs, hrow, hsep, hbd, hX, hT⟩ := hrel
      have Hv := Lib.hid (And.intro hvs (And.intro hsep hbd))
      have hsz : w.heap.size + 1 ≤ wr.heap.size := hT.lt
      clear hvs hsep hbd hXw hrow2
      obtain ⟨ltT, cT, _⟩ := hT.out
      have t0 := cT 0
      clear cT
      by_cases hlt : k < n
      · obtain ⟨b, off, ba, bn, bc, rfl, _, hb, hok, hbc, hSb, g0, g1, g2, g3, g4, g5⟩ := (hF.mono (hX.fr _)).at_ hlt
        have Hbn := Lib.hid hSb.1
        have hfb := treeB_file h1 (k := k) (by rw [← Hl.out]; exact hlt)
        go_wp2_with fail
        refine calls_name (fun W3 hW3 => ?_)
        have hX3 : X wr W3 := by rw [hW3]; (repeat (first | with_reducible exact X.refl _ | with_reducible assumption | with_reducible refine X.setCell ?_ (by first | (simp; done) | (simp; omega)) _ | with_reducible refine X.ext ?_ _ | with_reducible refine X.alloc ?_ _ | with_reducible refine X.drew ?_))
        clear hW3
        refine (compiled_c (nth l k) mode ba bn bc B W3 hok (hSb.mono (hX3.fr _)) (fileB_body hfb)).mono ?_
        rintro _ w3 ⟨rb, rcb, rfl, hO3, hx3⟩
        generalize hcf : compB (nth l k) mode = cf
        have Hcf := Lib.hid hcf
        have Hcb := Lib.hid (show cf.body = (nth l k).body by rw [← hcf]; rfl)
        clear hcf
        have hX4 : X wr w3 := hX3.trans hx3
        have hrow3 := own_fr hrow (hX4.fr _)
        have hsz3 : w.heap.size + 1 ≤ w3.heap.size := Nat.le_trans hsz hX4.size
        have hT3 := hT.x hX4
        go_wp2_with (at_builtin; refine wpList_append_g co_T rfl _ _ rfl hrow3 rfl rfl rfl rfl (by simp [Value.oneCell']) (by omega) (by omega) hsz3 ?_; intro a' c' w' hrow' hg')
        have hXw' : X w w' := X.of_below (((X.alloc (hX.trans hX4) _).below).grown hg' (X.size (X.alloc (hX.trans hX4) _)) (fun g hg => by have := (hrow3.lt g hg).1; omega))
        have hga : w3.grownBy w' (Value.slice ra k rc).ownBlock := X.grown ((X.refl w3).alloc _) hg'
        have hT' := hT3.grown hga (fun g hg => by have := (hrow3.lt g hg).1; omega)
        go_roundw
        case rel => exact ⟨k + 1, vs ++ [(cf, .slice rb bn rcb)], a', c', by omega, by go_num, rfl, by rw [List.map_append, Hv.out.1, take_succ_nth (by rw [← Hl.out]; exact hlt), List.map_append, ← Hcf.out]; rfl, by
            rw [List.flatMap_append]
            exact hrow', List.pairwise_append.2 ⟨Hv.out.2.1, List.pairwise_singleton _ _, fun x hx y hy => by
            rw [List.mem_singleton.1 hy]
            obtain ⟨ba', bc', e, ho⟩ := Hv.out.2.2 x hx
            rw [e]
            exact row_far (own_fr ho (hX3.fr _)) rfl hO3⟩, fun x hx => by
            rcases List.mem_append.1 hx with hx | hx
            · obtain ⟨ba', bc', e, ho⟩ := Hv.out.2.2 x hx
              have ho3 := own_fr ho (hX4.fr _)
              exact ⟨ba', bc', e, ho3.kept hga (row_ne ho3 hrow3 (by decide))⟩
            · rw [List.mem_singleton.1 hx]
              have ho3 := own_less hO3 (show w.heap.size + 1 ≤ _ from Nat.le_trans hsz hX3.size)
              refine ⟨rb, rcb, ?_, ?_⟩
              · show Value.slice rb bn rcb = Value.slice rb cf.body.length rcb
                rw [Hcb.out, ← Hbn.out]
              · show w'.ownsRow _ _ 5 (Value.slice rb cf.body.length rcb) cf.body.length (cf.body.flatMap scells)
                rw [Hcb.out, ← Hbn.out]
                exact ho3.kept hga (row_ne ho3 hrow3 (by decide)), hXw', hT'⟩
        case measure => simp [intOf]; omega
      · obtain rfl : k = n := by omega
        go_wp2
        go_ret
        have hFO : CosO wr (w.heap.size + 1) ra k rc (l.map (fun f => compB f mode)) := ⟨vs, by rw [Hv.out.1, List.take_of_length_le (by rw [← Hl.out]; omega)], by rw [List.length_map]; exact Hl.out, hrow, Hv.out.2.1, Hv.out.2.2⟩
        exact ⟨ra, rc, rfl, hFO.less (by omega), hX⟩
  all_goals
    clear hl
    rw [show compL l mode = [] by rw [compL, h1, h2]; rfl]
    go_enter Tryd.func12, Tryd.ntmps12
    go_wp2_with fail
    refine calls_name (fun W0 hW0 => ?_)
    have hX0 : X w W0 := by rw [hW0]; (repeat (first | with_reducible exact X.refl _ | with_reducible assumption | with_reducible refine X.setCell ?_ (by first | (simp; done) | (simp; omega)) _ | with_reducible refine X.ext ?_ _ | with_reducible refine X.alloc ?_ _ | with_reducible refine X.drew ?_))
    clear hW0
    refine (validTree_c l a n c B W0 (hF.mono (hX0.fr _))).mono ?_
    rintro _ w1 ⟨rfl, hx1⟩
    rw [h1]
    have hXw := hX0.trans hx1
    go_wp2_with (go_at_call 38; refine (inRange_c mode 0 2 _).mono ?_; rintro _ _ ⟨rfl, rfl⟩; rw [h2])
    go_ret
    exact ⟨_, _, rfl, CosO.nil ⟨rfl, .inl ⟨rfl, rfl⟩⟩, hXw⟩

end Go.Proofs.YtebnjkjllinabaaDoor

namespace Go.Proofs.YtebnjkjllinabaaDoor
open Go.RowKit

theorem bx1_of {w W : World} {c1 : Array Value} {t1 : TypeId} (h : X (w.alloc (.cells c1 t1)) W) : Bx W w.heap.size c1 ∧ X w W := ⟨(Bx.new w c1 t1).x h, X.trans (by (repeat (first | with_reducible exact X.refl _ | with_reducible assumption | with_reducible refine X.setCell ?_ (by first | (simp; done) | (simp; omega)) _ | with_reducible refine X.ext ?_ _ | with_reducible refine X.alloc ?_ _ | with_reducible refine X.drew ?_))) h⟩
theorem row_far2 {w w1 : World} {B B' e e' size size' n n' : Nat} {v v' : Value} {xs xs' : List Value} (h : w.ownsRow B e size v n xs) (hB : w.heap.size ≤ B') (h' : w1.ownsRow B' e' size' v' n' xs') : v.ownBlock = none ∨ v'.ownBlock = none ∨ v'.ownBlock ≠ v.ownBlock := row_far h rfl (own_less h' hB)
set_option maxRecDepth 100000 in
set_option maxHeartbeats 2000000 in
theorem cloneStore_c (l : List Co) (a : Option Addr) (n c B : Nat) (w : World) (hF : CosAt w B a n l) :
    Calls Tryd.prog 47 #[.slice a n c] w fun e w' => ∃ ra rc, e = .returned (.slice ra n rc) ∧ CosO w' w.heap.size ra n rc l ∧ X w w' := by
  obtain ⟨hl, hn⟩ := hF.len
  have Hl := Lib.hid hl
  clear hl
  go_enter Tryd.func47, Tryd.ntmps47
  go_wp2
  refine wp_name (fun W0 hW0 => ?_)
  have hrow0 : W0.ownsRow w.heap.size 49 8 (.slice (some ⟨w.heap.size, 0, none⟩) 0 0) 0 [] := by
    rw [hW0]
    exact own_lit (w := w) (cs := #[]) (e := 49) (B := w.heap.size) (g := w.heap.size) (size := 8) (n := 0) rfl (Nat.le_refl _) rfl (by omega)
  have hX0 : X w W0 := by rw [hW0]; (repeat (first | with_reducible exact X.refl _ | with_reducible assumption | with_reducible refine X.setCell ?_ (by first | (simp; done) | (simp; omega)) _ | with_reducible refine X.ext ?_ _ | with_reducible refine X.alloc ?_ _ | with_reducible refine X.drew ?_))
  clear hW0
  go_loopw [3, 9] (fun v i wr => ∃ (k : Nat) (vs : List (Co × Value)) (ra : Option Addr) (rc : Nat), k ≤ n ∧ i = .int .i64 k ∧ v = .slice ra k rc ∧ vs.map (·.1) = l.take k ∧ wr.ownsRow w.heap.size 49 8 (.slice ra k rc) k (vs.flatMap ccells) ∧ SepC vs ∧
      (∀ x ∈ vs, BodyC wr w.heap.size x) ∧ X w wr) (fun _ i _ => n - (intOf i).toNat)
  case atStart => exact ⟨0, [], _, 0, Nat.zero_le _, rfl, rfl, rfl, hrow0, List.Pairwise.nil, (fun _ h => by cases h), hX0⟩
  case round =>
    obtain ⟨k, vs, ra, rc, hk, rfl, rfl, hvs, hrow, hsep, hbd, hX⟩ := hrel
    have Hv := Lib.hid (And.intro hvs (And.intro hsep hbd))
    clear hvs hsep hbd hX0 hrow0
    by_cases hlt : k < n
    · obtain ⟨b, off, ba, bn, bc, rfl, _, hb, hok, hbc, hSb, g0, g1, g2, g3, g4, g5, g6, g7⟩ := (hF.mono (hX.fr _)).at_ hlt
      have Hbn := Lib.hid hSb.1
      generalize hcf : nth l k = cf at *
      have Hcf := Lib.hid hcf
      clear hcf
      go_wp2_with fail
      refine calls_name (fun W3 hW3 => ?_)
      have hB3 : Bx W3 wr.heap.size #[.int .i64 cf.root, .string ⟨(cf.mod).toArray⟩, .bool cf.init, .int .i64 cf.mode, .int .i64 cf.stamp, .int .i64 cf.size, .int .i64 cf.hash, .slice ba bn bc] := by rw [hW3]; exact Bx.new _ _ _
      have hX3 : X wr W3 := by rw [hW3]; (repeat (first | with_reducible exact X.refl _ | with_reducible assumption | with_reducible refine X.setCell ?_ (by first | (simp; done) | (simp; omega)) _ | with_reducible refine X.ext ?_ _ | with_reducible refine X.alloc ?_ _ | with_reducible refine X.drew ?_))
      clear hW3
      refine (cloneBody_c cf.body ba bn bc B W3 (hSb.mono (hX3.fr _))).mono ?_
      rintro _ w3 ⟨rb, rcb, rfl, hO3, hx3⟩
      have hX4 : X wr w3 := hX3.trans hx3
      obtain ⟨lb, cb, fb⟩ := (hB3.x hx3).out
      have e0 := cb 0
      have e1 := cb 1
      have e2 := cb 2
      have e3 := cb 3
      have e4 := cb 4
      have e5 := cb 5
      have e6 := cb 6
      have e7 := cb 7
      clear cb
      have hsz : w.heap.size ≤ wr.heap.size := hX.size
      obtain ⟨w4, hw4⟩ : ∃ w4, w4 = w3.setCell ⟨wr.heap.size, 7, none⟩ (.slice rb bn rcb) := ⟨_, rfl⟩
      have hX5 : X wr w4 := by rw [hw4]; exact X.setCell hX4 (Nat.le_refl _) _
      have hrow4 := own_fr hrow (hX5.fr _)
      have hO4 : w4.ownsRow W3.heap.size 66 5 (.slice rb bn rcb) bn (cf.body.flatMap scells) := by rw [hw4]; exact own_fr hO3 (Fr.set (Fr.refl _ _) (.inr hB3.lt) _)
      have hsz4 : w.heap.size ≤ w4.heap.size := Nat.le_trans hsz hX5.size
      go_wp2_with (at_builtin; (try rw [← hw4]); refine wpList_append_g (w := w4) co_T rfl _ _ rfl hrow4 rfl (g := w3.heap.size) rfl (by rw [hw4]; simp) rfl (by simp [Value.oneCell']) (by omega) (by omega) hsz4 ?_; intro a' c' w' hrow' hg')
      have hE : wr.heap.size ≤ W3.heap.size := hX3.size
      have hga : w4.grownBy w' (Value.slice ra k rc).ownBlock := X.grown ((X.refl w4).alloc _) hg'
      have hXw' : X w w' := X.of_below (((X.alloc (hX.trans hX5) _).below).grown hg' (X.size (X.alloc (hX.trans hX5) _)) (fun g hg => by have := (hrow4.lt g hg).1; omega))
      go_roundw
      case rel => exact ⟨k + 1, vs ++ [(cf, .slice rb bn rcb)], a', c', by omega, by go_num, rfl, by rw [List.map_append, Hv.out.1, take_succ_nth (by rw [← Hl.out]; exact hlt), ← Hcf.out]; rfl, by
          rw [List.flatMap_append]
          exact hrow', List.pairwise_append.2 ⟨Hv.out.2.1, List.pairwise_singleton _ _, fun x hx y hy => by
          rw [List.mem_singleton.1 hy]
          obtain ⟨ba', bc', e, ho⟩ := Hv.out.2.2 x hx
          rw [e]
          exact row_far2 ho hE hO4⟩, fun x hx => by
          rcases List.mem_append.1 hx with hx | hx
          · obtain ⟨ba', bc', e, ho⟩ := Hv.out.2.2 x hx
            have ho4 := own_fr ho (hX5.fr _)
            exact ⟨ba', bc', e, ho4.kept hga (row_ne ho4 hrow4 (by decide))⟩
          · rw [List.mem_singleton.1 hx]
            have ho4 := own_less hO4 (show w.heap.size ≤ _ from Nat.le_trans hsz hE)
            refine ⟨rb, rcb, ?_, ?_⟩
            · show Value.slice rb bn rcb = Value.slice rb cf.body.length rcb
              rw [← Hbn.out]
            · show w'.ownsRow _ _ 5 (Value.slice rb cf.body.length rcb) cf.body.length (cf.body.flatMap scells)
              rw [← Hbn.out]
              exact ho4.kept hga (row_ne ho4 hrow4 (by decide)), hXw'⟩
      case measure => simp [intOf]; omega
    · obtain rfl : k = n := by omega
      go_wp2
      go_ret
      exact ⟨ra, rc, rfl, ⟨vs, by rw [Hv.out.1, List.take_of_length_le (by rw [← Hl.out]; omega)], Hl.out, hrow, Hv.out.2.1, Hv.out.2.2⟩, hX⟩

set_option maxRecDepth 100000 in
set_option maxHeartbeats 2000000 in
theorem copyStore_c (l : List Co) (a : Option Addr) (n c B : Nat) (w : World) (hF : CosAt w B a n l) :
    Calls Tryd.prog 52 #[.slice a n c] w fun e w' => ∃ ra rc, e = .returned (.slice ra n rc) ∧ CosO w' w.heap.size ra n rc l ∧ X w w' := by
  obtain ⟨hl, hn⟩ := hF.len
  have Hl := Lib.hid hl
  clear hl
  go_enter Tryd.func52, Tryd.ntmps52
  go_wp2
  refine wp_name (fun W0 hW0 => ?_)
  have hrow0 : W0.ownsRow w.heap.size 49 8 (.slice (some ⟨w.heap.size, 0, none⟩) 0 0) 0 [] := by
    rw [hW0]
    exact own_lit (w := w) (cs := #[]) (e := 49) (B := w.heap.size) (g := w.heap.size) (size := 8) (n := 0) rfl (Nat.le_refl _) rfl (by omega)
  have hX0 : X w W0 := by rw [hW0]; (repeat (first | with_reducible exact X.refl _ | with_reducible assumption | with_reducible refine X.setCell ?_ (by first | (simp; done) | (simp; omega)) _ | with_reducible refine X.ext ?_ _ | with_reducible refine X.alloc ?_ _ | with_reducible refine X.drew ?_))
  clear hW0
  go_loopw [3, 4] (fun v i wr => ∃ (k : Nat) (vs : List (Co × Value)) (ra : Option Addr) (rc : Nat), k ≤ n ∧ i = .int .i64 k ∧ v = .slice ra k rc ∧ vs.map (·.1) = l.take k ∧ wr.ownsRow w.heap.size 49 8 (.slice ra k rc) k (vs.flatMap ccells) ∧ SepC vs ∧
      (∀ x ∈ vs, BodyC wr w.heap.size x) ∧ X w wr) (fun _ i _ => n - (intOf i).toNat)
  case atStart => exact ⟨0, [], _, 0, Nat.zero_le _, rfl, rfl, rfl, hrow0, List.Pairwise.nil, (fun _ h => by cases h), hX0⟩
  case round =>
    obtain ⟨k, vs, ra, rc, hk, rfl, rfl, hvs, hrow, hsep, hbd, hX⟩ := hrel
    have Hv := Lib.hid (And.intro hvs (And.intro hsep hbd))
    clear hvs hsep hbd hX0 hrow0
    by_cases hlt : k < n
    · obtain ⟨b, off, ba, bn, bc, rfl, _, hb, hok, hbc, hSb, g0, g1, g2, g3, g4, g5, g6, g7⟩ := (hF.mono (hX.fr _)).at_ hlt
      have Hbn := Lib.hid hSb.1
      generalize hcf : nth l k = cf at *
      have Hcf := Lib.hid hcf
      have hbn := hSb.2.1
      have Hlb := Lib.hid (show (cf.body.flatMap scells).length = bn * 5 by rw [scells_len, hSb.1])
      clear hcf
      have hsz : w.heap.size ≤ wr.heap.size := hX.size
      go_wp2_with (at_builtin; first | (refine wpList_append_sl stmt_T' rfl _ _ rfl (own_lit (B := wr.heap.size + 1) (n := 0) (size := 5) (by simp) (by simp) rfl (by omega)) rfl rfl (hSb.mono (X.fr (by (repeat (first | with_reducible exact X.refl _ | with_reducible assumption | with_reducible refine X.setCell ?_ (by first | (simp; done) | (simp; omega)) _ | with_reducible refine X.ext ?_ _ | with_reducible refine X.alloc ?_ _ | with_reducible refine X.drew ?_))) B)).2.2.2 Hlb.out (scells_one cf.body) (by omega) (by unfold maxLen; omega) (by simp) ?_; intro rb rcb w3 hO3 hg3; rw [List.nil_append, Nat.zero_add] at hO3; rw [Nat.zero_add]; obtain ⟨hB3, hX4⟩ := bx1_of (X.of_litR hg3 (by simp [Value.ownBlock])); obtain ⟨lb, cb, fb⟩ := hB3.out; have e0 := cb 0; have e1 := cb 1; have e2 := cb 2; have e3 := cb 3; have e4 := cb 4; have e5 := cb 5; have e6 := cb 6; have e7 := cb 7; clear cb) | (obtain ⟨w4, hw4⟩ : ∃ w4, w4 = w3.setCell ⟨wr.heap.size, 7, none⟩ (.slice rb bn rcb) := ⟨_, rfl⟩; have hX5 : X wr w4 := (by rw [hw4]; exact X.setCell hX4 (Nat.le_refl _) _); have hrow4 := own_fr hrow (hX5.fr _); have hO4 : w4.ownsRow (wr.heap.size + 1) 66 5 (.slice rb bn rcb) bn (cf.body.flatMap scells) := (by rw [hw4]; exact own_fr hO3 (Fr.set (Fr.refl _ _) (.inr (by simp)) _)); have hsz4 : w.heap.size ≤ w4.heap.size := Nat.le_trans hsz hX5.size; rw [← hw4]; refine wpList_append_g (w := w4) co_T rfl _ _ rfl hrow4 rfl (g := w3.heap.size) rfl (by rw [hw4]; simp) rfl (by simp [Value.oneCell']) (by omega) (by omega) hsz4 ?_; intro a' c' w' hrow' hg'))
      have hE : wr.heap.size ≤ wr.heap.size + 1 := Nat.le_succ _
      have hga : w4.grownBy w' (Value.slice ra k rc).ownBlock := X.grown ((X.refl w4).alloc _) hg'
      have hXw' : X w w' := X.of_below (((X.alloc (hX.trans hX5) _).below).grown hg' (X.size (X.alloc (hX.trans hX5) _)) (fun g hg => by have := (hrow4.lt g hg).1; omega))
      go_roundw
      case rel => exact ⟨k + 1, vs ++ [(cf, .slice rb bn rcb)], a', c', by omega, by go_num, rfl, by rw [List.map_append, Hv.out.1, take_succ_nth (by rw [← Hl.out]; exact hlt), ← Hcf.out]; rfl, by
          rw [List.flatMap_append]
          exact hrow', List.pairwise_append.2 ⟨Hv.out.2.1, List.pairwise_singleton _ _, fun x hx y hy => by
          rw [List.mem_singleton.1 hy]
          obtain ⟨ba', bc', e, ho⟩ := Hv.out.2.2 x hx
          rw [e]
          exact row_far2 ho hE hO4⟩, fun x hx => by
          rcases List.mem_append.1 hx with hx | hx
          · obtain ⟨ba', bc', e, ho⟩ := Hv.out.2.2 x hx
            have ho4 := own_fr ho (hX5.fr _)
            exact ⟨ba', bc', e, ho4.kept hga (row_ne ho4 hrow4 (by decide))⟩
          · rw [List.mem_singleton.1 hx]
            have ho4 := own_less hO4 (show w.heap.size ≤ _ from Nat.le_trans hsz hE)
            refine ⟨rb, rcb, ?_, ?_⟩
            · show Value.slice rb bn rcb = Value.slice rb cf.body.length rcb
              rw [← Hbn.out]
            · show w'.ownsRow _ _ 5 (Value.slice rb cf.body.length rcb) cf.body.length (cf.body.flatMap scells)
              rw [← Hbn.out]
              exact ho4.kept hga (row_ne ho4 hrow4 (by decide)), hXw'⟩
      case measure => simp [intOf]; omega
    · obtain rfl : k = n := by omega
      go_wp2
      go_ret
      exact ⟨ra, rc, rfl, ⟨vs, by rw [Hv.out.1, List.take_of_length_le (by rw [← Hl.out]; omega)], Hl.out, hrow, Hv.out.2.1, Hv.out.2.2⟩, hX⟩

end Go.Proofs.YtebnjkjllinabaaDoor
