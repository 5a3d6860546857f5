/- NeedsOf of the program: the walk. No condition but lengths. -/
import Derived.Test.YtlpbgingggnjpaaGreatDoorUniq
import Derived.Deep.RegionHeld3
namespace Go.Proofs.YtlpbgingggnjpaaGreatDoor
open Go.RowKit

def modC (s : List UInt8) (kind : Int) : Array Value := #[.string ⟨(s).toArray⟩, .int .i64 kind, .slice none 0 0, .bool false, .bool false, .slice none 0 0]
set_option maxHeartbeats 400000 in
theorem packageOf_c (xb : Nat) (s : List UInt8) (kind : Int) (w : World) (hB : Bx w xb (modC s kind)) (hs : s.length ≤ 4194304) (hG : Gm w) :
    Calls Tryz.prog 59 #[.pointer (some ⟨xb, 0, none⟩)] w fun e w' => e = .returned (.string ⟨(if kind = 1 then parentF s else s).toArray⟩) ∧ X w w' := by
  obtain ⟨l0, c0, _⟩ := hB.out
  have t0 : w.cell? ⟨xb, 0, none⟩ = some (.string ⟨(s).toArray⟩) := c0 0
  have t1 : w.cell? ⟨xb, 1, none⟩ = some (.int .i64 kind) := c0 1
  clear c0
  by_cases hk : kind = 1
  · rw [if_pos hk]
    subst hk
    go_enter Tryz.func59, Tryz.ntmps59
    go_wp2_with (go_at_call 14; refine (ParentOf_c s _ hs (hG.mono (by (repeat (first | exact X.refl _ | assumption | refine X.ext ?_ _ | refine X.alloc ?_ _ | refine X.drew ?_))))).mono ?_; rintro _ _ ⟨rfl, x, rfl⟩)
    go_ret
    exact ⟨rfl, by (repeat (first | exact X.refl _ | assumption | refine X.ext ?_ _ | refine X.alloc ?_ _ | refine X.drew ?_))⟩
  · rw [if_neg hk]
    go_enter Tryz.func59, Tryz.ntmps59
    go_wp2
    go_ret
    exact ⟨rfl, by (repeat (first | exact X.refl _ | assumption | refine X.ext ?_ _ | refine X.alloc ?_ _ | refine X.drew ?_))⟩
theorem bodyNames_next {p : List UInt8} {b : List St} {k : Nat} (hk : k < b.length) : bodyNames p (b.take (k + 1)) = bodyNames p (b.take k) ++ stNames p (nth b k) := by
  unfold bodyNames
  rw [take_succ_nth hk, List.flatMap_append]
  simp
theorem bodyNames_short {p : List UInt8} {b : List St} (h : bodyB b = true) : ∀ x ∈ bodyNames p b, x.length ≤ 12 := fun x hx => nameB_len (bodyNames_name h x hx)
theorem bodyB_len {b : List St} (h : bodyB b = true) : b.length ≤ 8 := by
  unfold bodyB at h
  simp only [Bool.and_eq_true, decide_eq_true_eq] at h
  exact h.2
theorem bodyB_st {b : List St} (h : bodyB b = true) {k : Nat} (hk : k < b.length) : stB (nth b k) = true := by
  unfold bodyB at h
  rw [Bool.and_eq_true] at h
  exact allN_iff.1 h.1 k hk
theorem bodyB_take {b : List St} (h : bodyB b = true) (k : Nat) : bodyB (b.take k) = true := by
  have h1 := bodyB_len h
  unfold bodyB
  rw [Bool.and_eq_true]
  refine ⟨allN_iff.2 fun j hj => ?_, decide_eq_true (by rw [List.length_take]; omega)⟩
  rw [List.length_take] at hj
  rw [nth_take (by omega)]
  exact bodyB_st h (by omega)
theorem stNames_from {p : List UInt8} {s : St} (h : s.kind = 1) : stNames p s = if (resN p s.level s.mod).isEmpty then [] else [resN p s.level s.mod] := by
  unfold stNames resN
  rw [if_neg (by omega), if_pos h]
  cases hn : nameB (resolveL p s.level s.mod)
  · rfl
  · have := nameB_ne hn
    simp only [if_true, this]
    rfl
theorem needN_body {t : List Fi} {path : List Int} {s : List UInt8} (h : ¬ (specB t path s).file < 0) : bodyB (nth t (specB t path s).file.toNat).body = true := by
  obtain ⟨h1, h2, _⟩ := needN_file h
  have hf := treeB_file h1 h2
  unfold fileB at hf
  simp only [Bool.and_eq_true] at hf
  exact hf.1.2
theorem pkgOf_pkg {o : Sp} {s : List UInt8} (h : nameB s = true) : pkgB (pkgOf o s) = true := by
  unfold pkgOf
  split
  · exact parentF_pkg s
  · rw [pkgB, h, Bool.or_true]
theorem spec_name {t : List Fi} {path : List Int} {s : List UInt8} (h : ¬ (specB t path s).file < 0) : nameB s = true := by
  cases hs : nameB s with
  | true => rfl
  | false =>
    exfalso
    apply h
    unfold specB
    rw [hs, Bool.and_false]
    simp [noneSp]

theorem then_nameN {K : Act → World → Prop} {Q : Exit → Act → World → Prop} {a : Act} {w : World} (h : ∀ W, W = w → Exit.then K Q .normal a W) : Exit.then K Q .normal a w := h w rfl
theorem app_keep1 {wr w6 : World} {o1 : Obj} {xb B e size n t : Nat} {v : Value} {xs : List Value} {cs : Array Value} {fz : Nat × Nat} (hx : wr.heap[xb]? = some (.cells cs t fz)) (hrow : wr.ownsRow B e size v n xs) (hg : (wr.alloc o1).grownBy w6 v.ownBlock) (hne : e ≠ t) : w6.heap[xb]? = some (.cells cs t fz) :=
  at_grown (at_x2' hx (X.alloc (X.refl _) _)) hg (own_ne_at (own_fr hrow (X.fr (X.alloc (X.refl _) o1) _)) (at_x2' hx (X.alloc (X.refl _) _)) hne)
theorem app_keep {wr w6 : World} {o1 o2 : Obj} {xb B e size n t : Nat} {v : Value} {xs : List Value} {cs : Array Value} {fz : Nat × Nat} (hx : wr.heap[xb]? = some (.cells cs t fz)) (hrow : wr.ownsRow B e size v n xs) (hg : ((wr.alloc o1).alloc o2).grownBy w6 v.ownBlock) (hne : e ≠ t) : w6.heap[xb]? = some (.cells cs t fz) :=
  app_keep1 (at_x2' hx (X.alloc (X.refl _) o1)) (own_fr hrow (X.fr (X.alloc (X.refl _) o1) _)) hg hne

set_option maxRecDepth 100000 in
set_option maxHeartbeats 4000000 in
theorem NeedsOf_i (l : List Fi) (a : Option Addr) (n c B : Nat) (path : List Int) (pa : Option Addr) (pn pc Bp : Nat) (s : List UInt8) (w : World) (hF : FilesAt w B a n l) (hnc : n ≤ c) (hI : IntsAt w Bp pa pn path) (hpc : pn ≤ pc) (hsl : s.length ≤ 4194304) (hG : Gm w) :
    Calls Tryz.prog 26 #[.agg #[.slice a n c], .slice pa pn pc, .string ⟨(s).toArray⟩] w fun e w' => ∃ ra rc, e = .returned (.slice ra (needsL l path s).length rc) ∧ w'.ownsRow w.heap.size 9 1 (.slice ra (needsL l path s).length rc) (needsL l path s).length (strs (needsL l path s)) ∧ X w w' := by
  have Hl := Lib.hid hF.len.1
  obtain ⟨V, hV⟩ : ∃ V, needsL l path s = V := ⟨_, rfl⟩
  rw [hV]
  have HV := Lib.hid hV
  clear hV
  have hfile := @needN_file l path s
  have hbody := @needN_body l path s
  have hname := @spec_name l path s
  obtain ⟨o, ho⟩ : ∃ o, specB l path s = o := ⟨_, rfl⟩
  rw [ho] at hfile hbody hname
  have Ho := Lib.hid ho
  clear ho
  go_enter Tryz.func26, Tryz.ntmps26
  go_wp2_with fail
  refine calls_name (fun W hW => ?_)
  have hB0 : Bx W w.heap.size #[.slice a n c] := by rw [hW]; exact Bx.x (Bx.new _ _ _) (by (repeat (first | with_reducible exact X.refl _ | with_reducible assumption | with_reducible refine X.setCell ?_ (by first | (simp; done) | (simp; omega)) _ | with_reducible refine X.ext ?_ _ | with_reducible refine X.alloc ?_ _ | with_reducible refine X.drew ?_)))
  have hX0 : X w W := by rw [hW]; (repeat (first | with_reducible exact X.refl _ | with_reducible assumption | with_reducible refine X.setCell ?_ (by first | (simp; done) | (simp; omega)) _ | with_reducible refine X.ext ?_ _ | with_reducible refine X.alloc ?_ _ | with_reducible refine X.drew ?_))
  have hrow0 : W.ownsRow (w.heap.size + 1) 9 1 (.slice (some ⟨w.heap.size + 1, 0, none⟩) 0 0) 0 [] := by rw [hW]; exact own_lit (n := 0) (size := 1) (by simp) (by simp) rfl (by omega)
  clear hW
  refine (FindSpec_i l a n c _ path pa pn pc _ s W (hF.mono (hX0.fr _)) hnc (hI.mono (hX0.fr _)) hpc hsl (hG.mono hX0)).mono ?_
  rw [Ho.out]
  rintro _ W2 ⟨v5, rfl, ⟨ra, rc, rfl, hrc, hRI⟩, hx2⟩
  have hX2 := hX0.trans hx2
  have hB2 := hB0.x hx2
  have hrow2 := own_fr hrow0 (hx2.fr _)
  clear hB0 hrow0 hX0 hx2 hRI
  by_cases hneg : o.file < 0
  · obtain rfl : V = [] := by rw [← HV.out, needsL, needN, Ho.out, if_pos hneg]; rfl
    go_wp2
    go_ret
    exact ⟨_, _, rfl, own_less (own_fr hrow2 (X.fr (by (repeat (first | with_reducible exact X.refl _ | with_reducible assumption | with_reducible refine X.setCell ?_ (by first | (simp; done) | (simp; omega)) _ | with_reducible refine X.ext ?_ _ | with_reducible refine X.alloc ?_ _ | with_reducible refine X.drew ?_))) _)) (by omega), hX2.trans (by (repeat (first | with_reducible exact X.refl _ | with_reducible assumption | with_reducible refine X.setCell ?_ (by first | (simp; done) | (simp; omega)) _ | with_reducible refine X.ext ?_ _ | with_reducible refine X.alloc ?_ _ | with_reducible refine X.drew ?_)))⟩
  obtain ⟨ht, hfl, hfe⟩ := hfile (by omega)
  have hbd := hbody (by omega)
  have hnm := hname (by omega)
  obtain ⟨fi, hfi⟩ : ∃ fi : Nat, o.file.toNat = fi := ⟨_, rfl⟩
  rw [hfi] at hfl hfe hbd
  have hv : uniqL (bodyNames (pkgOf o s) (nth l fi).body) = V := by rw [← HV.out, needsL, needN, Ho.out, if_neg hneg, hfi]
  have Hv := Lib.hid hv
  rw [← hfe]
  have hlt : fi < n := by rw [Hl.out]; exact hfl
  have hpk := pkgOf_pkg (o := o) hnm
  have hs12 := nameB_len hnm
  have Hpo := Lib.hid (show (if o.kind = 1 then parentF s else s) = pkgOf o s from rfl)
  have hn2 := hF.len.2
  obtain ⟨b, off, ba, bn, bc, rfl, _, hb0, hok, hbc, hSb, g0, g1, g2, g3, g4, g5⟩ := hF.at_ hlt
  generalize nth l fi = f at *
  have hb : b < W2.heap.size := Nat.lt_of_lt_of_le hb0 hX2.size
  replace g5 := (hX2.cell (p := ⟨b, _, none⟩) hb0).trans g5
  have t0 := bxC hB2
  have lt0 := hB2.lt
  clear hv hfe hfi hneg hfile hbody hname HV Ho hfl
  clear g0 g1 g2 g3 g4 hok
  have Hbn := Lib.hid hSb.1
  have hb8 := bodyB_len hbd
  rw [← hSb.1] at hb8
  obtain ⟨p, hp⟩ : ∃ p, pkgOf o s = p := ⟨_, rfl⟩
  rw [hp] at hpk Hpo Hv
  clear hp
  go_wp2
  refine wp_name (fun W3 hW3 => ?_)
  have hX23 : X W2 W3 := by rw [hW3]; (repeat (first | with_reducible exact X.refl _ | with_reducible assumption | with_reducible refine X.setCell ?_ (by first | (simp; done) | (simp; omega)) _ | with_reducible refine X.ext ?_ _ | with_reducible refine X.alloc ?_ _ | with_reducible refine X.drew ?_))
  have hxb : W3.heap[W2.heap.size + 1]? = some (.cells (modC s o.kind) 79 (0, 0)) := by
    rw [hW3]
    have := heap_alloc_new (W2.alloc (.cells #[.int .i64 o.kind, .int .i64 fi, .slice ra o.roots.length rc] 75)) (.cells (modC s o.kind) 79)
    simpa [modC] using this
  clear hW3
  have hrow3 := own_fr hrow2 (hX23.fr _)
  have hX3 := hX2.trans hX23
  have hs23 := hX2.size
  clear t0 lt0 g5 hrow2 hB2 hX23 hb hF hb0 hI
  obtain ⟨xb, hxe⟩ : ∃ xb, W2.heap.size + 1 = xb := ⟨_, rfl⟩
  rw [hxe]
  rw [hxe] at hxb
  have Hxe := Lib.hid hxe
  clear hxe
  go_loopw [7, 34] (fun v i wr => ∃ (k : Nat) (qa : Option Addr) (qc : Nat), k ≤ bn ∧ i = .int .i64 k ∧ v = .slice qa (bodyNames p (f.body.take k)).length qc ∧ wr.ownsRow (w.heap.size + 1) 9 1 (.slice qa (bodyNames p (f.body.take k)).length qc) (bodyNames p (f.body.take k)).length (strs (bodyNames p (f.body.take k))) ∧ X w wr ∧ wr.heap[xb]? = some (.cells (modC s o.kind) 79 (0, 0)) ∧ w.heap.size + 1 ≤ wr.heap.size) (fun _ i _ => bn - (intOf i).toNat)
  case atStart => exact ⟨0, _, _, Nat.zero_le _, rfl, rfl, hrow3, hX3, hxb, by have := (hrow3.lt (w.heap.size + 1) rfl).2; omega⟩
  case round =>
    obtain ⟨k, qa, qc, hk, rfl, rfl, hrow, hX, hxb, hsz⟩ := hrel
    clear hX3 hrow3
    by_cases hlt2 : k < bn
    · obtain ⟨b2, off2, rfl, _, hb2, hos, s0, s1, s2, s3, s4⟩ := (hSb.mono (hX.fr _)).at_ hlt2
      have hst := bodyB_st hbd (k := k) (by rw [← Hbn.out]; exact hlt2)
      have Htk := Lib.hid (@bodyNames_next p f.body k (by rw [← Hbn.out]; exact hlt2))
      have hll : (bodyNames p (f.body.take k)).length ≤ 8 := by
        have := @bodyNames_len p (f.body.take k)
        rw [List.length_take] at this
        omega
      obtain ⟨A, hA⟩ : ∃ A, bodyNames p (f.body.take k) = A := ⟨_, rfl⟩
      rw [hA] at hrow hll Htk ⊢
      clear hA
      generalize nth f.body k = t at *
      obtain ⟨hm1, hm2⟩ := hos
      have Hrow := Lib.hid hrow
      by_cases c0 : t.kind = 0
      · have he : stNames p t = [t.mod] := by rw [stNames, if_pos (.inl c0)]
        have c0' := c0
        go_wp2_with (at_builtin; refine wpList_append_g (g := wr.heap.size + 1) str_T rfl _ _ rfl (own_fr hrow (X.fr (by (repeat (first | with_reducible exact X.refl _ | with_reducible assumption | with_reducible refine X.setCell ?_ (by first | (simp; done) | (simp; omega)) _ | with_reducible refine X.ext ?_ _ | with_reducible refine X.alloc ?_ _ | with_reducible refine X.drew ?_))) _)) rfl rfl (by simp) rfl (by simp [Value.oneCell']) (by omega) (by omega) (by first | omega | (simp; omega)) ?_; intro a' c' w6 hO6 hg6)
        go_roundw
        case rel =>
          have hX6 : X w w6 := x_own (X.alloc (hX.trans (by (repeat (first | with_reducible exact X.refl _ | with_reducible assumption | with_reducible refine X.setCell ?_ (by first | (simp; done) | (simp; omega)) _ | with_reducible refine X.ext ?_ _ | with_reducible refine X.alloc ?_ _ | with_reducible refine X.drew ?_)))) _) ((own_fr hrow (X.fr (by (repeat (first | with_reducible exact X.refl _ | with_reducible assumption | with_reducible refine X.setCell ?_ (by first | (simp; done) | (simp; omega)) _ | with_reducible refine X.ext ?_ _ | with_reducible refine X.alloc ?_ _ | with_reducible refine X.drew ?_))) _)).alloc _) (by omega) hg6
          have hs6 := hg6.size
          have hxb6 := app_keep hxb hrow hg6 (by decide)
          exact ⟨k + 1, a', c', by omega, by go_num, by rw [Htk.out, he, List.length_append]; rfl, by
            rw [Htk.out, he, List.length_append, strs_map, List.map_append]
            rw [strs_map] at hO6
            exact hO6, hX6, hxb6, by simp at hs6; omega⟩
        case measure => simp [intOf]; omega
      by_cases c2 : t.kind = 2
      · have he : stNames p t = [t.mod] := by rw [stNames, if_pos (.inr c2)]
        go_wp2_with (at_builtin; refine wpList_append_g (g := wr.heap.size + 1) str_T rfl _ _ rfl (own_fr hrow (X.fr (by (repeat (first | with_reducible exact X.refl _ | with_reducible assumption | with_reducible refine X.setCell ?_ (by first | (simp; done) | (simp; omega)) _ | with_reducible refine X.ext ?_ _ | with_reducible refine X.alloc ?_ _ | with_reducible refine X.drew ?_))) _)) rfl rfl (by simp) rfl (by simp [Value.oneCell']) (by omega) (by omega) (by first | omega | (simp; omega)) ?_; intro a' c' w6 hO6 hg6)
        go_roundw
        case rel =>
          have hX6 : X w w6 := x_own (X.alloc (hX.trans (by (repeat (first | with_reducible exact X.refl _ | with_reducible assumption | with_reducible refine X.setCell ?_ (by first | (simp; done) | (simp; omega)) _ | with_reducible refine X.ext ?_ _ | with_reducible refine X.alloc ?_ _ | with_reducible refine X.drew ?_)))) _) ((own_fr hrow (X.fr (by (repeat (first | with_reducible exact X.refl _ | with_reducible assumption | with_reducible refine X.setCell ?_ (by first | (simp; done) | (simp; omega)) _ | with_reducible refine X.ext ?_ _ | with_reducible refine X.alloc ?_ _ | with_reducible refine X.drew ?_))) _)).alloc _) (by omega) hg6
          have hs6 := hg6.size
          have hxb6 := app_keep hxb hrow hg6 (by decide)
          exact ⟨k + 1, a', c', by omega, by go_num, by rw [Htk.out, he, List.length_append]; rfl, by
            rw [Htk.out, he, List.length_append, strs_map, List.map_append]
            rw [strs_map] at hO6
            exact hO6, hX6, hxb6, by simp at hs6; omega⟩
        case measure => simp [intOf]; omega
      by_cases c1 : t.kind = 1
      case neg =>
        have he : stNames p t = [] := by rw [stNames, if_neg (by omega), if_neg c1]
        go_wp2
        go_roundw
        case rel => exact ⟨k + 1, qa, qc, by omega, by go_num, by rw [Htk.out, he, List.append_nil], by rw [Htk.out, he, List.append_nil]; exact own_fr hrow (X.fr (by (repeat (first | with_reducible exact X.refl _ | with_reducible assumption | with_reducible refine X.setCell ?_ (by first | (simp; done) | (simp; omega)) _ | with_reducible refine X.ext ?_ _ | with_reducible refine X.alloc ?_ _ | with_reducible refine X.drew ?_))) _), hX.trans (by (repeat (first | with_reducible exact X.refl _ | with_reducible assumption | with_reducible refine X.setCell ?_ (by first | (simp; done) | (simp; omega)) _ | with_reducible refine X.ext ?_ _ | with_reducible refine X.alloc ?_ _ | with_reducible refine X.drew ?_))), at_x2' hxb (by (repeat (first | with_reducible exact X.refl _ | with_reducible assumption | with_reducible refine X.setCell ?_ (by first | (simp; done) | (simp; omega)) _ | with_reducible refine X.ext ?_ _ | with_reducible refine X.alloc ?_ _ | with_reducible refine X.drew ?_))), by simp; omega⟩
        case measure => simp [intOf]; omega
      have he := stNames_from (p := p) c1
      have hm : pkgB t.mod = true ∧ rangeB t.level 0 3 = true := by
        unfold stB at hst
        rw [if_neg (by omega), if_pos c1] at hst
        simp only [Bool.and_eq_true] at hst
        exact ⟨hst.1.1.1.1, hst.1.1.1.2⟩
      obtain ⟨hm3, hm4⟩ := hm
      obtain ⟨hl0, hl3⟩ := rangeB_iff.1 hm4
      have hrs : (resN p t.level t.mod).length ≤ 12 := by
        unfold resN
        split
        · rename_i h
          exact nameB_len h
        · simp
      have hres := fun W (h : Gm W) => ResolveName_c p t.mod t.level W hpk hm3 hl0 hl3 h
      obtain ⟨R, hR⟩ : ∃ R, resN p t.level t.mod = R := ⟨_, rfl⟩
      rw [hR] at he hres hrs
      clear hR hm4
      go_wp2
      refine wp_name (fun W4 hW4 => ?_)
      have hB4 : Bx W4 wr.heap.size #[.int .i64 t.kind, .string ⟨(t.mod).toArray⟩, .int .i64 t.level, .string ⟨(t.name).toArray⟩, .int .i64 t.val] := by rw [hW4, c1]; exact Bx.new _ _ _
      have hX4 : X wr W4 := by rw [hW4]; (repeat (first | with_reducible exact X.refl _ | with_reducible assumption | with_reducible refine X.setCell ?_ (by first | (simp; done) | (simp; omega)) _ | with_reducible refine X.ext ?_ _ | with_reducible refine X.alloc ?_ _ | with_reducible refine X.drew ?_))
      clear hW4 s0 s1 s2 s3 s4
      obtain ⟨l4, q4, _⟩ := hB4.out
      have k1 : W4.cell? ⟨wr.heap.size, 1, none⟩ = some (.string ⟨(t.mod).toArray⟩) := q4 1
      have k2 : W4.cell? ⟨wr.heap.size, 2, none⟩ = some (.int .i64 t.level) := q4 2
      clear q4 hB4
      have hxb4 := at_x2' hxb hX4
      have hX04 := hX.trans hX4
      have hG4 := hG.mono hX04
      have hrow4 := own_fr hrow (hX4.fr _)
      have hs4 := hX4.size
      clear hrow hxb hX Hrow
      go_region_held3 (fun W' => W'.cell? ⟨wr.heap.size, 1, none⟩ = some (.string ⟨(t.mod).toArray⟩) ∧ W'.cell? ⟨wr.heap.size, 2, none⟩ = some (.int .i64 t.level))
        (first | exact ⟨(World.cell?_ext _ _ _ _ l4).trans k1, (World.cell?_ext _ _ _ _ l4).trans k2⟩ | exact ⟨k1, k2⟩ | go_keep)
        ((first
          | (go_at_call 59; refine (packageOf_c xb s o.kind _ ⟨_, at_x2' hxb4 (by (repeat (first | exact X.refl _ | assumption | refine X.ext ?_ _ | refine X.alloc ?_ _ | refine X.drew ?_)))⟩ (by omega) (hG4.mono (by (repeat (first | exact X.refl _ | assumption | refine X.ext ?_ _ | refine X.alloc ?_ _ | refine X.drew ?_))))).mono ?_; rw [Hpo.out]; rintro _ wq ⟨rfl, hxq⟩; replace hxq := X.trans (a := W4) (by (repeat (first | exact X.refl _ | assumption | refine X.ext ?_ _ | refine X.alloc ?_ _ | refine X.drew ?_))) hxq; obtain ⟨zq, rfl⟩ := hxq)
          | (go_at_call 58; refine (hres _ (hG4.mono (by (repeat (first | exact X.refl _ | assumption | refine X.ext ?_ _ | refine X.alloc ?_ _ | refine X.drew ?_))))).mono ?_; rintro _ wq ⟨rfl, hxq⟩; replace hxq := X.trans (a := W4) (by (repeat (first | exact X.refl _ | assumption | refine X.ext ?_ _ | refine X.alloc ?_ _ | refine X.drew ?_))) hxq; obtain ⟨zq, rfl⟩ := hxq)))
      refine then_nameN (fun W5 hW5 => ?_)
      have hX5 : X W4 W5 := by rw [hW5]; (repeat (first | with_reducible exact X.refl _ | with_reducible assumption | with_reducible refine X.setCell ?_ (by first | (simp; done) | (simp; omega)) _ | with_reducible refine X.ext ?_ _ | with_reducible refine X.alloc ?_ _ | with_reducible refine X.drew ?_))
      clear hW5
      have hrow5 := own_fr hrow4 (hX5.fr _)
      have hxb5 := at_x2' hxb4 hX5
      have hX05 := hX04.trans hX5
      have hs5 := hX5.size
      clear hrow4 hxb4 hX04 hG4 hX4 hX5 k1 k2 l4
      cases hRe : R.isEmpty
      · rw [hRe] at he
        simp only [Bool.false_eq_true, if_false] at he
        go_wp2_with (at_builtin; refine wpList_append_g str_T rfl _ _ rfl hrow5 rfl rfl rfl rfl (by simp [Value.oneCell']) (by omega) (by omega) (by omega) ?_; intro a' c' w6 hO6 hg6)
        go_roundw
        case rel =>
          have hX6 : X w w6 := x_own (X.alloc hX05 _) (hrow5.alloc _) (by omega) hg6
          have hs6 := hg6.size
          have hxb6 := app_keep1 hxb5 hrow5 hg6 (by decide)
          exact ⟨k + 1, a', c', by omega, by go_num, by rw [Htk.out, he, List.length_append]; rfl, by
            rw [Htk.out, he, List.length_append, strs_map, List.map_append]
            rw [strs_map] at hO6
            exact hO6, hX6, hxb6, by simp at hs6; omega⟩
        case measure => simp [intOf]; omega
      · rw [hRe, if_pos rfl] at he
        go_wp2
        go_roundw
        case rel => exact ⟨k + 1, qa, qc, by omega, by go_num, by rw [Htk.out, he, List.append_nil], by rw [Htk.out, he, List.append_nil]; exact hrow5, hX05, hxb5, by omega⟩
        case measure => simp [intOf]; omega
    · obtain rfl : k = bn := by omega
      have hall : f.body.take k = f.body := List.take_of_length_le (by rw [← Hbn.out]; exact Nat.le_refl _)
      rw [hall] at hrow ⊢
      have hl8 : (bodyNames p f.body).length ≤ 8 := by have := @bodyNames_len p f.body; have := Hbn.out; omega
      have hshort := @bodyNames_short p f.body hbd
      obtain ⟨A, hA⟩ : ∃ A, bodyNames p f.body = A := ⟨_, rfl⟩
      rw [hA] at hrow hl8 hshort Hv ⊢
      clear hA
      go_wp2_with fail
      refine (unique_i A qa _ qc _ wr (StrsAt.of_own hrow (by omega) (fun x hx => by have := hshort x hx; omega)) (by omega)).mono ?_
      rw [Hv.out]
      rintro _ w9 ⟨ra9, rc9, rfl, hO9, hx9⟩
      go_wp2
      go_ret
      exact ⟨ra9, rc9, rfl, own_less hO9 (by omega), hX.trans hx9⟩

end Go.Proofs.YtlpbgingggnjpaaGreatDoor
