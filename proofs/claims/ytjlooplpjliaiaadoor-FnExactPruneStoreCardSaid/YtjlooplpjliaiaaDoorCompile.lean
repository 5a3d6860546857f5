/- What is compiled of a file, both sides: the walks. No condition but lengths. -/
import Derived.Test.YtjlooplpjliaiaaDoorHashI
import Derived.Test.YtjlooplpjliaiaaDoorMod
import Derived.Test.YtjlooplpjliaiaaDoorClone
import Derived.Test.YtjlooplpjliaiaaDoorCo
import Derived.Deep.RegionHeldLaw
namespace Go.Proofs.YtjlooplpjliaiaaDoor
open Go.RowKit

theorem run_append_zero_c {P : Program} {w : World} (base : Nat) (t ty e : TypeId) (i : TypeInfo) (size : Nat) (ht : P.underlying t = some (.slice e)) (hi : P.info? e = some i)
    (v : Value) (n c : Nat) (sa : Option Addr) (xs : List Value) (hown : w.ownsRow base e size v n xs) :
    (Builtin.append_ #[t, t] ty #[v, .slice sa 0 c]).run P w = .ok v w := by
  rcases hown.2 with ⟨rfl, rfl⟩ | ⟨g, cap, cur, rfl, _, _, hnc, _⟩
  · cases sa <;> simp [Builtin.append_, run_underlying ht, sizeOf, typeInfo, hi, Builtin.lenOf, Builtin.firstCells, loadCells, loadCellsFrom]
  · cases sa <;> simp [Builtin.append_, run_underlying ht, sizeOf, typeInfo, hi, Builtin.lenOf, Builtin.firstCells, hnc, storeCells, loadCells, loadCellsFrom]
/-- append of a whole slice, wherever it lies, as one step of a region that draws its order. -/
theorem step_append_sl {P : Program} {ops : Array Oper} {o : Oper} {a : Act} {K : Act → World → Prop} {Q : Exit → Act → World → Prop} {E : Prop} {t e size bytes : Nat} (hT : AppT P t e size bytes) (hgd : o.guard = none) (s x : Operand)
    (ho : o.op = .call { callee := .builtin .append, args := #[s, x], argTypes := #[t, t] }) {w : World} {B B' : Nat} {v : Value} {n : Nat} {xs : List Value}
    (hown : w.ownsRow B e size v n xs) (hs : a.eval s = v) {sa : Option Addr} {m c : Nat} {news : List Value} (hx : a.eval x = .slice sa m c) (hsl : Sl w B' sa m news) (hl : news.length = m * size) (h1 : ∀ u ∈ news, u.oneCell' = true)
    (hb : (n + m) * bytes ≤ 140737488355328) (hn : n + m ≤ maxLen) (hBw : B ≤ w.heap.size)
    (h : ∀ a' c' w', w'.ownsRow B e size (.slice a' (n + m) c') (n + m) (xs ++ news) → w.grownBy w' v.ownBlock → (∀ g, v.ownBlock = some g → B ≤ g) → K (a.put o.dst (.slice a' (n + m) c')) w') :
    if Region.wanted o (yielded ops a.tmps) = true then Oper.wp P o a w K Q else E := by
  obtain ⟨i, z, hi, hz, hsize, hby, hzs⟩ := hT.hi
  rcases Nat.eq_zero_or_pos m with h0 | h0
  · subst h0
    have hnil : news = [] := by rw [Nat.zero_mul] at hl; exact List.length_eq_zero_iff.1 hl
    subst hnil
    obtain ⟨a', c', rfl⟩ := own_slice hown
    have hrun := run_append_zero_c (P := P) (w := w) B t o.type e i size hT.ht hi _ n c sa xs hown
    have hw : Region.wanted o (yielded ops a.tmps) = true := by simp [Region.wanted, hgd]
    rw [if_pos hw]
    unfold Oper.wp
    simp [execOp, ho, resolve, invoke, builtin, hs, hx, hrun, Result.andThen]
    exact h a' c' w (by simpa using hown) (World.grownBy.refl _ _) (fun g hg => (hown.lt g hg).1)
  · obtain ⟨b, off, rfl, _, hbl, hc⟩ := hsl h0
    refine step_append_lies w hgd s x t ho B e i z size bytes hT.ht hi hz hsize hby hzs hT.hsz v n xs hs hown ⟨b, off, none⟩ m c news hx hl (fun j u hu => ?_) h1 h0 hn hb hBw _ rfl (fun g cap w' h2 h3 _ _ => h _ _ w' h2 h3 (fun g hg => (hown.lt g hg).1))
    have hj : j < news.length := (List.getElem?_eq_some_iff.1 hu).1
    have hadd : (⟨b, off, none⟩ : Addr).add j = ⟨b, off + j, none⟩ := by unfold Addr.add; split <;> simp_all
    rw [hadd, hc j hj, ← hu, List.getElem?_eq_getElem hj]

def compB (f : Fi) (mode : Int) : Co := ⟨f.root, moduleB f, f.init, mode, f.stamp, (szN f.body : Nat), hashZ f.body, f.body⟩
theorem co_S : StrT Tryd.prog 65 8 := ⟨⟨_, Tryd.underlying65⟩, by kernel_rfl⟩

theorem keepT {tb : Nat} {f : Fi} {bv : Value} {w : World} (hT : Bx w tb #[.int .i64 f.root, .string ⟨(f.pkg).toArray⟩, .string ⟨(f.name).toArray⟩, .bool f.init, .int .i64 f.stamp, bv]) :
    w.cell? ⟨tb, 0, none⟩ = some (.int .i64 f.root) ∧ w.cell? ⟨tb, 1, none⟩ = some (.string ⟨(f.pkg).toArray⟩) ∧ w.cell? ⟨tb, 2, none⟩ = some (.string ⟨(f.name).toArray⟩) ∧ w.cell? ⟨tb, 3, none⟩ = some (.bool f.init) ∧ w.cell? ⟨tb, 4, none⟩ = some (.int .i64 f.stamp) ∧ w.cell? ⟨tb, 5, none⟩ = some bv := by
  obtain ⟨_, hc, _⟩ := hT.out
  exact ⟨hc 0, hc 1, hc 2, hc 3, hc 4, hc 5⟩
theorem cellsR {rb : Nat} {w : World} (hR : Bx w rb #[.int .i64 0, .string ⟨#[]⟩, .bool false, .int .i64 0, .int .i64 0, .int .i64 0, .int .i64 0, .slice none 0 0]) :
    w.cell? ⟨rb, 0, none⟩ = some (.int .i64 0) ∧ w.cell? ⟨rb, 1, none⟩ = some (.string ⟨#[]⟩) ∧ w.cell? ⟨rb, 2, none⟩ = some (.bool false) ∧ w.cell? ⟨rb, 3, none⟩ = some (.int .i64 0) ∧ w.cell? ⟨rb, 4, none⟩ = some (.int .i64 0) ∧ w.cell? ⟨rb, 5, none⟩ = some (.int .i64 0) ∧ w.cell? ⟨rb, 6, none⟩ = some (.int .i64 0) ∧ w.cell? ⟨rb, 7, none⟩ = some (.slice none 0 0) ∧ ∀ i, w.frozen? ⟨rb, i, none⟩ = false := by
  obtain ⟨_, hd, hf⟩ := hR.out
  exact ⟨hd 0, hd 1, hd 2, hd 3, hd 4, hd 5, hd 6, hd 7, hf⟩
theorem Bx.set8 {w : World} {b : Nat} {u0 u1 u2 u3 u4 u5 u6 u7 : Value} (h : Bx w b #[u0, u1, u2, u3, u4, u5, u6, u7]) (v0 v1 v2 v3 v4 v5 v6 v7 : Value) :
    Bx ((((((((w.setCell ⟨b, 0, none⟩ v0).setCell ⟨b, 1, none⟩ v1).setCell ⟨b, 2, none⟩ v2).setCell ⟨b, 3, none⟩ v3).setCell ⟨b, 4, none⟩ v4).setCell ⟨b, 5, none⟩ v5).setCell ⟨b, 6, none⟩ v6).setCell ⟨b, 7, none⟩ v7) b #[v0, v1, v2, v3, v4, v5, v6, v7] := by
  simpa using (((((((h.set 0 v0).set 1 v1).set 2 v2).set 3 v3).set 4 v4).set 5 v5).set 6 v6).set 7 v7
theorem Bx.far8 {w : World} {b r : Nat} {cs : Array Value} (h : Bx w b cs) (hne : b ≠ r) (v0 v1 v2 v3 v4 v5 v6 v7 : Value) :
    Bx ((((((((w.setCell ⟨r, 0, none⟩ v0).setCell ⟨r, 1, none⟩ v1).setCell ⟨r, 2, none⟩ v2).setCell ⟨r, 3, none⟩ v3).setCell ⟨r, 4, none⟩ v4).setCell ⟨r, 5, none⟩ v5).setCell ⟨r, 6, none⟩ v6).setCell ⟨r, 7, none⟩ v7) b cs :=
  Bx.far (Bx.far (Bx.far (Bx.far (Bx.far (Bx.far (Bx.far (Bx.far h hne _) hne _) hne _) hne _) hne _) hne _) hne _) hne _

set_option maxRecDepth 100000 in
set_option maxHeartbeats 4000000 in
theorem compiled_c (f : Fi) (mode : Int) (ba : Option Addr) (bn bc B : Nat) (w : World) (hf : Okf f) (hS : StmtsAt w B ba bn f.body) (hv : bodyB f.body = true) :
    Calls Tryd.prog 37 #[.agg #[.int .i64 (f).root, .string ⟨(f).pkg.toArray⟩, .string ⟨(f).name.toArray⟩, .bool (f).init, .int .i64 (f).stamp, .slice ba bn bc], .int .i64 mode] w fun e w' => ∃ ra rc, e = .returned (.agg #[.int .i64 ((compB f mode)).root, .string ⟨((compB f mode)).mod.toArray⟩, .bool ((compB f mode)).init, .int .i64 ((compB f mode)).mode, .int .i64 ((compB f mode)).stamp, .int .i64 ((compB f mode)).size, .int .i64 ((compB f mode)).hash, .slice ra bn rc]) ∧ w'.ownsRow w.heap.size 88 5 (.slice ra bn rc) bn (f.body.flatMap scells) ∧ X w w' := by
  have hn := hS.2.1
  have Hl := Lib.hid (show (f.body.flatMap scells).length = bn * 5 by rw [scells_len, hS.1])
  go_enter Tryd.func37, Tryd.ntmps37
  go_wp2
  refine wp_name (fun W hW => ?_)
  obtain ⟨hT, hR, hX0⟩ := bx2 hW
  have Hsz := Lib.hid (show W.heap.size = w.heap.size + 2 by rw [hW]; simp)
  have hne : w.heap.size ≠ w.heap.size + 1 := by omega
  clear hW
  obtain ⟨t0, t1, t2, t3, t4, t5⟩ := keepT hT
  have hS0 := hS.mono (hX0.fr _)
  go_region_held_law (fun w' => w'.cell? ⟨w.heap.size, 0, none⟩ = some (.int .i64 f.root) ∧ w'.cell? ⟨w.heap.size, 1, none⟩ = some (.string ⟨(f.pkg).toArray⟩) ∧ w'.cell? ⟨w.heap.size, 2, none⟩ = some (.string ⟨(f.name).toArray⟩) ∧ w'.cell? ⟨w.heap.size, 3, none⟩ = some (.bool f.init) ∧ w'.cell? ⟨w.heap.size, 4, none⟩ = some (.int .i64 f.stamp) ∧ w'.cell? ⟨w.heap.size, 5, none⟩ = some (.slice ba bn bc))
    (first
      | (refine keepT (hT.x ?_); (repeat (first | with_reducible exact X.refl _ | with_reducible assumption | with_reducible refine X.alloc ?_ _ | with_reducible refine X.drew ?_)); done)
      | (refine keepT (Bx.far8 (hT.x ?_) hne _ _ _ _ _ _ _ _); with_reducible assumption))
    (first
      | (go_at_call 62; refine (moduleName_c f _ _ hf).mono ?_; rintro _ wm ⟨rfl, hxm⟩; (have hXm : X W wm := X.trans (by (repeat (first | with_reducible exact X.refl _ | with_reducible assumption | with_reducible refine X.setCell ?_ (by first | (simp; done) | (simp; omega)) _ | with_reducible refine X.ext ?_ _ | with_reducible refine X.alloc ?_ _ | with_reducible refine X.drew ?_))) hxm); (first | replace hrow := own_fr hrow (hxm.fr _) | have hrow := own_fr (show (W.drew.alloc (.cells #[] 88)).ownsRow W.heap.size 88 5 (.slice (some ⟨W.heap.size, 0, none⟩) 0 0) 0 [] from own_lit (cs := #[]) (n := 0) rfl (Nat.le_refl _) rfl (by omega)) (hxm.fr _) | have hrow := own_fr (own_lit (B := W.heap.size) (n := 0) (size := 5) (cs := #[]) (e := 88) rfl (X.size (by (repeat (first | with_reducible exact X.refl _ | with_reducible assumption | with_reducible refine X.setCell ?_ (by first | (simp; done) | (simp; omega)) _ | with_reducible refine X.ext ?_ _ | with_reducible refine X.alloc ?_ _ | with_reducible refine X.drew ?_)))) rfl (by omega)) (hxm.fr _) | skip); (try replace hO := own_fr hO (hxm.fr _)); ((try clear m0 m1 m2 m3 m4 m5 m6 m7 hfm); obtain ⟨m0, m1, m2, m3, m4, m5, m6, m7, hfm⟩ := cellsR (hR.x hXm)))
      | (go_at_call 70; refine (sizeOf_c f.body ba bn bc B _ (hS0.mono (X.fr (by (repeat (first | with_reducible exact X.refl _ | with_reducible assumption | with_reducible refine X.setCell ?_ (by first | (simp; done) | (simp; omega)) _ | with_reducible refine X.ext ?_ _ | with_reducible refine X.alloc ?_ _ | with_reducible refine X.drew ?_))) _))).mono ?_; rintro _ wm ⟨rfl, hxm⟩; (have hXm : X W wm := X.trans (by (repeat (first | with_reducible exact X.refl _ | with_reducible assumption | with_reducible refine X.setCell ?_ (by first | (simp; done) | (simp; omega)) _ | with_reducible refine X.ext ?_ _ | with_reducible refine X.alloc ?_ _ | with_reducible refine X.drew ?_))) hxm); (first | replace hrow := own_fr hrow (hxm.fr _) | have hrow := own_fr (show (W.drew.alloc (.cells #[] 88)).ownsRow W.heap.size 88 5 (.slice (some ⟨W.heap.size, 0, none⟩) 0 0) 0 [] from own_lit (cs := #[]) (n := 0) rfl (Nat.le_refl _) rfl (by omega)) (hxm.fr _) | have hrow := own_fr (own_lit (B := W.heap.size) (n := 0) (size := 5) (cs := #[]) (e := 88) rfl (X.size (by (repeat (first | with_reducible exact X.refl _ | with_reducible assumption | with_reducible refine X.setCell ?_ (by first | (simp; done) | (simp; omega)) _ | with_reducible refine X.ext ?_ _ | with_reducible refine X.alloc ?_ _ | with_reducible refine X.drew ?_)))) rfl (by omega)) (hxm.fr _) | skip); (try replace hO := own_fr hO (hxm.fr _)); ((try clear m0 m1 m2 m3 m4 m5 m6 m7 hfm); obtain ⟨m0, m1, m2, m3, m4, m5, m6, m7, hfm⟩ := cellsR (hR.x hXm)))
      | (go_at_call 71; refine (hashOf_c f.body ba bn bc B _ (hS0.mono (X.fr (by (repeat (first | with_reducible exact X.refl _ | with_reducible assumption | with_reducible refine X.setCell ?_ (by first | (simp; done) | (simp; omega)) _ | with_reducible refine X.ext ?_ _ | with_reducible refine X.alloc ?_ _ | with_reducible refine X.drew ?_))) _)) hv).mono ?_; rintro _ wm ⟨rfl, hxm⟩; (have hXm : X W wm := X.trans (by (repeat (first | with_reducible exact X.refl _ | with_reducible assumption | with_reducible refine X.setCell ?_ (by first | (simp; done) | (simp; omega)) _ | with_reducible refine X.ext ?_ _ | with_reducible refine X.alloc ?_ _ | with_reducible refine X.drew ?_))) hxm); (first | replace hrow := own_fr hrow (hxm.fr _) | have hrow := own_fr (show (W.drew.alloc (.cells #[] 88)).ownsRow W.heap.size 88 5 (.slice (some ⟨W.heap.size, 0, none⟩) 0 0) 0 [] from own_lit (cs := #[]) (n := 0) rfl (Nat.le_refl _) rfl (by omega)) (hxm.fr _) | have hrow := own_fr (own_lit (B := W.heap.size) (n := 0) (size := 5) (cs := #[]) (e := 88) rfl (X.size (by (repeat (first | with_reducible exact X.refl _ | with_reducible assumption | with_reducible refine X.setCell ?_ (by first | (simp; done) | (simp; omega)) _ | with_reducible refine X.ext ?_ _ | with_reducible refine X.alloc ?_ _ | with_reducible refine X.drew ?_)))) rfl (by omega)) (hxm.fr _) | skip); (try replace hO := own_fr hO (hxm.fr _)); ((try clear m0 m1 m2 m3 m4 m5 m6 m7 hfm); obtain ⟨m0, m1, m2, m3, m4, m5, m6, m7, hfm⟩ := cellsR (hR.x hXm)))
      | (refine step_append_sl (B := W.heap.size) (xs := []) (n := 0) stmt_T' rfl _ _ rfl (by first | exact hrow | exact own_lit (n := 0) (size := 5) (cs := #[]) rfl (X.size (by (repeat (first | with_reducible exact X.refl _ | with_reducible assumption | with_reducible refine X.setCell ?_ (by first | (simp; done) | (simp; omega)) _ | with_reducible refine X.ext ?_ _ | with_reducible refine X.alloc ?_ _ | with_reducible refine X.drew ?_)))) rfl (by omega)) rfl rfl (hS0.mono (X.fr (by (repeat (first | with_reducible exact X.refl _ | with_reducible assumption | with_reducible refine X.setCell ?_ (by first | (simp; done) | (simp; omega)) _ | with_reducible refine X.ext ?_ _ | with_reducible refine X.alloc ?_ _ | with_reducible refine X.drew ?_))) _)).2.2.2 Hl.out (scells_one f.body) (by omega) (by unfold maxLen; omega) (X.size (by (repeat (first | with_reducible exact X.refl _ | with_reducible assumption | with_reducible refine X.setCell ?_ (by first | (simp; done) | (simp; omega)) _ | with_reducible refine X.ext ?_ _ | with_reducible refine X.alloc ?_ _ | with_reducible refine X.drew ?_)))) ?_; intro ra rc wm hO hxm hgB; have hXm : X W wm := X.of_below ((X.below (w := W) (by (repeat (first | with_reducible exact X.refl _ | with_reducible assumption | with_reducible refine X.setCell ?_ (by first | (simp; done) | (simp; omega)) _ | with_reducible refine X.ext ?_ _ | with_reducible refine X.alloc ?_ _ | with_reducible refine X.drew ?_)))).grown hxm (X.size (by (repeat (first | with_reducible exact X.refl _ | with_reducible assumption | with_reducible refine X.setCell ?_ (by first | (simp; done) | (simp; omega)) _ | with_reducible refine X.ext ?_ _ | with_reducible refine X.alloc ?_ _ | with_reducible refine X.drew ?_)))) hgB); ((try clear m0 m1 m2 m3 m4 m5 m6 m7 hfm); obtain ⟨m0, m1, m2, m3, m4, m5, m6, m7, hfm⟩ := cellsR (hR.x hXm))))
  all_goals
    rw [List.nil_append] at hO
    rw [Nat.zero_add] at hO
    go_wp2
    refine bodyPost_row Tryd.results37 rfl (Bx.set8 (hR.x hXm) _ _ _ _ _ _ _ _) co_S rfl rfl ?_
    have hXw := hX0.trans hXm
    have hsz := Hsz.out
    refine ⟨ra, rc, rfl, own_less (own_fr hO (by (repeat (first | with_reducible exact Fr.refl _ _ | with_reducible assumption | with_reducible refine Fr.set ?_ (.inr (by first | (simp; done) | (simp; omega))) _)))) (by omega), by (repeat (first | with_reducible exact X.refl _ | with_reducible assumption | with_reducible refine X.setCell ?_ (by first | (simp; done) | (simp; omega)) _ | with_reducible refine X.ext ?_ _ | with_reducible refine X.alloc ?_ _ | with_reducible refine X.drew ?_))⟩
end Go.Proofs.YtjlooplpjliaiaaDoor
