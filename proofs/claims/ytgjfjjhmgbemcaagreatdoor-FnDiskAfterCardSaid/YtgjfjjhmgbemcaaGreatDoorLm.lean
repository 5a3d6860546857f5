/- Several texts in one: LExDiskAfter, DrActs, DrDa, DaR, RunF. No condition but lengths. -/
import Derived.Test.YtgjfjjhmgbemcaaGreatDoorLh
import Derived.Test.YtgjfjjhmgbemcaaGreatDoorLf
import Derived.Test.YtgjfjjhmgbemcaaGreatDoorLj
import Derived.Test.YtgjfjjhmgbemcaaGreatDoorLl
import Derived.Test.YtgjfjjhmgbemcaaGreatDoorLi
namespace Go.Proofs.YtgjfjjhmgbemcaaGreatDoor
open Go.RowKit

theorem aftD_I {t : Int} {l : List Ac} (hk : OkA l) (hb : aftB t l = true) : ∀ k, k ≤ l.length → DkI (aftD t l k) k := by
  unfold aftB at hb
  obtain ⟨ha, ht⟩ := Bool.and_eq_true _ _ ▸ hb
  obtain ⟨ht0, ht4⟩ := rangeB_iff.1 ht
  have h20 := acts_20 ha
  intro k
  induction k with
  | zero => intro _; exact DkI.zero
  | succ k ih =>
    intro hl
    have hi := ih (by omega)
    obtain ⟨o1, _, o3, o4⟩ := hk.2 _ (nth_mem (l := l) (k := k) (by omega))
    rw [aftD_next (by omega)]
    by_cases h3 : (nth l k).kind = 3
    · rw [step_3 h3]; exact hi.up
    · cases hc : chgB (aftD t l k) (nth l k) t
      · rw [step_n h3 hc]; exact hi.up
      · rw [step_c h3 hc]; exact hi.chg o1 o3 o4 (by omega) ht0 ht4 hc
theorem aftR_ok (t : Int) {l : List Ac} (hk : OkA l) : (OkL (aftR t l).l ∧ OkD (aftR t l).dl) ∧ wtF (aftR t l).l ≤ 540 ∧ (aftR t l).l.length ≤ 12 ∧ wtD (aftR t l).dl ≤ 60 ∧ (aftR t l).dl.length ≤ 20 := by
  unfold aftR
  cases hb : aftB t l
  · exact ⟨⟨DkI.zero.okl, DkI.zero.okd⟩, disk_wt DkI.zero.ok⟩
  · have h := aftD_I hk hb l.length (Nat.le_refl _)
    rw [aftD_all] at h
    exact ⟨⟨h.okl, h.okd⟩, disk_wt h.ok⟩
end Go.Proofs.YtgjfjjhmgbemcaaGreatDoor

namespace Go.Proofs.YtgjfjjhmgbemcaaGreatDoor
open Go.RowKit

theorem act_T : AppT Tryz.prog 56 77 9 112 := AppT.of (z := .agg #[.int .i64 0, .int .i64 0, .string ⟨#[]⟩, .string ⟨#[]⟩, .bool false, .int .i64 0, .slice none 0 0, .int .i64 0, .string ⟨#[]⟩]) (by kernel_rfl) (by kernel_rfl) rfl (by omega)
def OwnA (w : World) (B : Nat) (x : Ac × Value) : Prop := ∃ ba bc, x.2 = .slice ba x.1.file.body.length bc ∧ w.ownsRow B 148 5 (.slice ba x.1.file.body.length bc) x.1.file.body.length (x.1.file.body.flatMap scells)
def SmallA (x : Ac) : Prop := x.file.pkg.length ≤ 20 ∧ x.file.name.length ≤ 20 ∧ SmallB x.file.body ∧ x.name.length ≤ 20
/-- Acts that are being made. -/
structure ActsG (w : World) (B : Nat) (a : Option Addr) (c : Nat) (vs : List (Ac × Value)) : Prop where
  row : w.ownsRow B 77 9 (.slice a vs.length c) vs.length (vs.flatMap acells)
  bod : ∀ x ∈ vs, OwnA w B x
  small : ∀ x ∈ vs, SmallA x.1
theorem ActsG.fr {w w' : World} {B c : Nat} {a : Option Addr} {vs : List (Ac × Value)} (h : ActsG w B a c vs) (hx : Fr B w w') : ActsG w' B a c vs :=
  ⟨own_fr h.row hx, fun x hm => (let ⟨ba, bc, e, ho⟩ := h.bod x hm; ⟨ba, bc, e, own_fr ho hx⟩), h.small⟩
theorem OwnA.own {w w' : World} {B B2 size m : Nat} {x : Ac × Value} {u : Value} {xs : List Value} (h : OwnA w B x) (hg : w.grownBy w' u.ownBlock) (ho : w.ownsRow B2 77 size u m xs) : OwnA w' B x := by
  obtain ⟨ba, bc, e, hb⟩ := h
  exact ⟨ba, bc, e, hb.kept hg (row_ne hb ho (by decide))⟩
/-- One act more. -/
theorem ActsG.snoc {w w' : World} {B c c' : Nat} {a a' : Option Addr} {vs : List (Ac × Value)} {x : Ac × Value} (h : ActsG w B a c vs) (hx : OwnA w B x) (hs : SmallA x.1) (hg : w.grownBy w' (Value.slice a vs.length c).ownBlock) (hO : w'.ownsRow B 77 9 (.slice a' (vs.length + 1) c') (vs.length + 1) (vs.flatMap acells ++ acells x)) :
    ActsG w' B a' c' (vs ++ [x]) := by
  have hl : (vs ++ [x]).length = vs.length + 1 := by rw [List.length_append, List.length_singleton]
  refine ⟨?_, fun y hy => ?_, fun y hy => ?_⟩
  · rw [hl, List.flatMap_append]
    simpa using hO
  · rcases List.mem_append.1 hy with hy | hy
    · exact (h.bod y hy).own hg h.row
    · rw [List.mem_singleton.1 hy]; exact hx.own hg h.row
  · rcases List.mem_append.1 hy with hy | hy
    · exact h.small y hy
    · rw [List.mem_singleton.1 hy]; exact hs
theorem ActsG.nil {w : World} {B c : Nat} {a : Option Addr} (h : w.ownsRow B 77 9 (.slice a 0 c) 0 []) : ActsG w B a c [] := ⟨h, (fun _ h => by cases h), (fun _ h => by cases h)⟩
theorem ActsG.at {w : World} {B c : Nat} {a : Option Addr} {vs : List (Ac × Value)} (h : ActsG w B a c vs) (hl : vs.length ≤ 2097152) : ActsAt w B a vs.length (vs.map (·.1)) := by
  refine ⟨vs, rfl, by rw [List.length_map], hl, fun f hf => ?_, Sl.of_own h.row, fun x hx => ?_⟩
  · obtain ⟨x, hx, rfl⟩ := List.mem_map.1 hf
    obtain ⟨s1, s2, s3, s4⟩ := h.small x hx
    exact ⟨⟨by omega, by omega⟩, by omega⟩
  · obtain ⟨ba, bc, e, ho⟩ := h.bod x hx
    exact ⟨ba, _, bc, e, own_cap ho, stmtsS ho (h.small x hx).2.2.1⟩
set_option maxRecDepth 100000 in
set_option maxHeartbeats 4000000 in
theorem someActs_c (rb m : Nat) (w : World) (hr : Rdr w rb m) (hm : m + 1300 ≤ 1000000000) :
    Calls Tryz.prog 83 #[.pointer (some ⟨rb, 0, none⟩)] w fun e w' => ∃ (vs : List (Ac × Value)) (a : Option Addr) (c : Nat), e = .returned (.slice a vs.length c) ∧ ActsG w' w.heap.size a c vs ∧ vs.length ≤ 16 ∧ Rdr w' rb (m + 1300) ∧ Y rb w w' := by
  have hlt := hr.lt
  have hown : (w.alloc (.cells #[] 77)).ownsRow w.heap.size 77 9 (.slice (some ⟨w.heap.size, 0, none⟩) 0 0) 0 [] := own_lit (cs := #[]) rfl (Nat.le_refl _) rfl (by omega)
  have hG := ActsG.nil hown
  have hy : Y rb w (w.alloc (.cells #[] 77)) := Y.of_x (by (repeat (first | exact X.refl _ | assumption | refine X.ext ?_ _ | refine X.alloc ?_ _ | refine X.drew ?_)))
  replace hr := hr.x (w' := w.alloc (.cells #[] 77)) (by (repeat (first | exact X.refl _ | assumption | refine X.ext ?_ _ | refine X.alloc ?_ _ | refine X.drew ?_)))
  clear hown
  go_enter Tryz.func83, Tryz.ntmps83
  go_wp2_with fail
  refine (one_c rb _ [8, 12, 6, 16, 3, 0] _ _ _ (rb + 1) _ (hr.x (by (repeat (first | exact X.refl _ | assumption | refine X.ext ?_ _ | refine X.alloc ?_ _ | refine X.drew ?_)))) (by omega) (ints_lit (by simp) (by simp; omega) rfl rfl (by decide)) (by omega) (by decide)).mono ?_
  rintro _ w1 ⟨n, rfl, hn, hr', hy'⟩
  replace hG := (hG.fr (X.fr (by (repeat (first | exact X.refl _ | assumption | refine X.ext ?_ _ | refine X.alloc ?_ _ | refine X.drew ?_))) _)).fr (hy'.fr.mono (by omega))
  replace hy := hy.trans ((Y.of_x (by (repeat (first | exact X.refl _ | assumption | refine X.ext ?_ _ | refine X.alloc ?_ _ | refine X.drew ?_)))).trans hy'); replace hr := hr'; clear hr' hy'
  obtain ⟨N, rfl, hN⟩ : ∃ N : Nat, n = N ∧ N ≤ 16 := ⟨n.toNat, by revert hn; simp only [List.mem_cons, List.mem_nil_iff, or_false]; omega, by revert hn; simp only [List.mem_cons, List.mem_nil_iff, or_false]; omega⟩
  clear hn
  go_wp2
  go_loopw [3, 4, 5] (fun o f i wr => ∃ (j : Nat) (vs : List (Ac × Value)) (a : Option Addr) (c fl : Nat), i = .int .i64 j ∧ j ≤ N ∧ f = .int .i64 fl ∧ fl ≤ N - j ∧ o = .slice a vs.length c ∧ vs.length ≤ N - j ∧ ActsG wr w.heap.size a c vs ∧ Rdr wr rb (m + 1 + (N - j) * 72) ∧ Y rb w wr) (fun _ _ i _ => (intOf i).toNat)
  case atStart => exact ⟨N, [], _, _, 0, rfl, Nat.le_refl _, rfl, by omega, rfl, by simp, hG, hr.weak (by omega) (by omega), hy⟩
  case round =>
    obtain ⟨j, vs, a, c, fl, rfl, hj, rfl, hfl, rfl, hl, hG, hr, hy⟩ := hrel
    have hw := hy.size
    by_cases h0 : 0 < j
    · go_wp2_with fail
      refine (pick_c rb _ _ _ (hr.x (by (repeat (first | exact X.refl _ | assumption | refine X.ext ?_ _ | refine X.alloc ?_ _ | refine X.drew ?_)))) (by omega) (by omega)).mono ?_
      rintro _ w2 ⟨p, rfl, hp, hr', hy'⟩
      replace hG := hG.fr (hy'.fr.mono (by omega))
      replace hy := hy.trans ((Y.of_x (by (repeat (first | exact X.refl _ | assumption | refine X.ext ?_ _ | refine X.alloc ?_ _ | refine X.drew ?_)))).trans hy'); replace hr := hr'; clear hr' hy'
      have hw2 := hy.size
      by_cases hp2 : p ≤ 2
      · obtain rfl | rfl | rfl : p = 0 ∨ p = 1 ∨ p = 2 := by omega
        all_goals
          go_wp2_with fail
          refine (someFile_c rb _ _ (hr.x (by (repeat (first | exact X.refl _ | assumption | refine X.ext ?_ _ | refine X.alloc ?_ _ | refine X.drew ?_)))) (by omega)).mono ?_
          rintro _ w4 ⟨f, ba, bc, rfl, hown, ⟨hf1, hf2, hf3⟩, hr', hy'⟩
          replace hG := hG.fr (hy'.fr.mono (by omega))
          replace hown := own_less hown (B' := w.heap.size) (by omega)
          replace hy := hy.trans ((Y.of_x (by (repeat (first | exact X.refl _ | assumption | refine X.ext ?_ _ | refine X.alloc ?_ _ | refine X.drew ?_)))).trans hy'); replace hr := hr'; clear hr' hy'
          go_wp2_with (at_builtin; refine wpList_append_g act_T rfl _ _ rfl hG.row rfl rfl (by simp) rfl (by simp [Value.oneCell']) (by omega) (by omega) (by have := hy.size; first | omega | (simp; omega)) ?_; intro a5 c5 w5 hO5 hg5)
          have hX : X w4 (w4.alloc (.cells #[.int .i64 0, .int .i64 f.root, .string ⟨(f.pkg).toArray⟩, .string ⟨(f.name).toArray⟩, .bool f.init, .int .i64 f.stamp, .slice ba f.body.length bc, .int .i64 0, .string ⟨#[]⟩] 77)) := (X.refl _).alloc _
          have hG4 := hG.fr (hX.fr _)
          have hG5 := ActsG.snoc (x := (⟨0, f, 0, []⟩, .slice ba f.body.length bc)) hG4 ⟨ba, bc, rfl, own_fr hown (hX.fr _)⟩ ⟨hf1, hf2, hf3, by simp⟩ hg5 hO5
          have hr5 := (hr.x hX).grown hg5 (fun g hg => by have := (hG4.row.lt g hg).1; omega)
          have hy5 := (hy.trans (Y.of_x hX)).grown hg5 (fun g hg => by have := (hG4.row.lt g hg).1; omega)
          have hl5 : (vs ++ [((⟨0, f, 0, []⟩, .slice ba f.body.length bc) : Ac × Value)]).length = vs.length + 1 := by rw [List.length_append, List.length_singleton]
          go_roundw
          case rel => exact ⟨j - 1, _, a5, c5, fl + 1, by go_num, by omega, by go_num, by omega, by rw [hl5], by omega, hG5, hr5.weak (by omega) (by omega), hy5⟩
          case measure => simp [intOf]; omega
      by_cases hp3 : p = 3
      · subst hp3
        go_wp2_with fail
        refine (pick_c rb _ _ _ (hr.x (by (repeat (first | exact X.refl _ | assumption | refine X.ext ?_ _ | refine X.alloc ?_ _ | refine X.drew ?_)))) (by omega) (by omega)).mono ?_
        rintro _ w3 ⟨q, rfl, hq, hr', hy'⟩
        replace hG := hG.fr (hy'.fr.mono (by omega))
        replace hy := hy.trans ((Y.of_x (by (repeat (first | exact X.refl _ | assumption | refine X.ext ?_ _ | refine X.alloc ?_ _ | refine X.drew ?_)))).trans hy'); replace hr := hr'; clear hr' hy'
        have hw3 := hy.size
        go_wp2_with fail
        refine (someBody_c rb _ _ (hr.x (by (repeat (first | exact X.refl _ | assumption | refine X.ext ?_ _ | refine X.alloc ?_ _ | refine X.drew ?_)))) (by omega)).mono ?_
        rintro _ w4 ⟨bd, ba, bc, rfl, hown, hbd, hr', hy'⟩
        replace hG := hG.fr (hy'.fr.mono (by omega))
        replace hown := own_less hown (B' := w.heap.size) (by omega)
        replace hy := hy.trans ((Y.of_x (by (repeat (first | exact X.refl _ | assumption | refine X.ext ?_ _ | refine X.alloc ?_ _ | refine X.drew ?_)))).trans hy'); replace hr := hr'; clear hr' hy'
        go_wp2_with (at_builtin; refine wpList_append_g act_T rfl _ _ rfl hG.row rfl rfl (by simp) rfl (by simp [Value.oneCell']) (by omega) (by omega) (by have := hy.size; first | omega | (simp; omega)) ?_; intro a5 c5 w5 hO5 hg5)
        have hX : X w4 (w4.alloc (.cells #[.int .i64 2, .int .i64 0, .string ⟨#[]⟩, .string ⟨#[]⟩, .bool false, .int .i64 0, .slice ba bd.length bc, .int .i64 q, .string ⟨#[]⟩] 77)) := (X.refl _).alloc _
        have hG4 := hG.fr (hX.fr _)
        have hG5 := ActsG.snoc (x := (⟨2, ⟨0, [], [], false, 0, bd⟩, q, []⟩, .slice ba bd.length bc)) hG4 ⟨ba, bc, rfl, own_fr hown (hX.fr _)⟩ ⟨by simp, by simp, (by unfold SmallB; exact ⟨by have := hbd.1; omega, hbd.2⟩), by simp⟩ hg5 hO5
        have hr5 := (hr.x hX).grown hg5 (fun g hg => by have := (hG4.row.lt g hg).1; omega)
        have hy5 := (hy.trans (Y.of_x hX)).grown hg5 (fun g hg => by have := (hG4.row.lt g hg).1; omega)
        have hl5 : (vs ++ [((⟨2, ⟨0, [], [], false, 0, bd⟩, q, []⟩, .slice ba bd.length bc) : Ac × Value)]).length = vs.length + 1 := by rw [List.length_append, List.length_singleton]
        go_roundw
        case rel => exact ⟨j - 1, _, a5, c5, fl, by go_num, by omega, by go_num, by omega, by rw [hl5], by omega, hG5, hr5.weak (by omega) (by omega), hy5⟩
        case measure => simp [intOf]; omega
      by_cases hp4 : p = 4
      · subst hp4
        go_wp2_with fail
        refine (pick_c rb _ _ _ (hr.x (by (repeat (first | exact X.refl _ | assumption | refine X.ext ?_ _ | refine X.alloc ?_ _ | refine X.drew ?_)))) (by omega) (by omega)).mono ?_
        rintro _ w3 ⟨q, rfl, hq, hr', hy'⟩
        replace hG := hG.fr (hy'.fr.mono (by omega))
        replace hy := hy.trans ((Y.of_x (by (repeat (first | exact X.refl _ | assumption | refine X.ext ?_ _ | refine X.alloc ?_ _ | refine X.drew ?_)))).trans hy'); replace hr := hr'; clear hr' hy'
        have hw3 := hy.size
        by_cases hq0 : q = 0
        · subst hq0
          go_wp2_with fail
          refine (pick_c rb _ _ _ (hr.x (by (repeat (first | exact X.refl _ | assumption | refine X.ext ?_ _ | refine X.alloc ?_ _ | refine X.drew ?_)))) (by omega) (by omega)).mono ?_
          rintro _ w4 ⟨q, rfl, hq2, hr', hy'⟩
          replace hG := hG.fr (hy'.fr.mono (by omega))
          replace hy := hy.trans ((Y.of_x (by (repeat (first | exact X.refl _ | assumption | refine X.ext ?_ _ | refine X.alloc ?_ _ | refine X.drew ?_)))).trans hy'); replace hr := hr'; clear hr' hy'
          go_wp2_with (at_builtin; refine wpList_append_g act_T rfl _ _ rfl hG.row rfl rfl (by simp) rfl (by simp [Value.oneCell']) (by omega) (by omega) (by have := hy.size; first | omega | (simp; omega)) ?_; intro a5 c5 w5 hO5 hg5)
          have hX : X w4 (w4.alloc (.cells #[.int .i64 1, .int .i64 0, .string ⟨#[]⟩, .string ⟨#[]⟩, .bool false, .int .i64 0, .slice none 0 0, .int .i64 q, .string ⟨#[]⟩] 77)) := (X.refl _).alloc _
          have hG4 := hG.fr (hX.fr _)
          have hG5 := ActsG.snoc (x := (⟨1, ⟨0, [], [], false, 0, []⟩, q, []⟩, .slice none 0 0)) hG4 ⟨none, 0, rfl, ⟨rfl, .inl ⟨rfl, rfl⟩⟩⟩ ⟨by simp, by simp, (by unfold SmallB; exact ⟨by simp, fun s h => by cases h⟩), by simp⟩ hg5 hO5
          have hr5 := (hr.x hX).grown hg5 (fun g hg => by have := (hG4.row.lt g hg).1; omega)
          have hy5 := (hy.trans (Y.of_x hX)).grown hg5 (fun g hg => by have := (hG4.row.lt g hg).1; omega)
          have hl5 : (vs ++ [((⟨1, ⟨0, [], [], false, 0, []⟩, q, []⟩, .slice none 0 0) : Ac × Value)]).length = vs.length + 1 := by rw [List.length_append, List.length_singleton]
          go_roundw
          case rel => exact ⟨j - 1, _, a5, c5, fl, by go_num, by omega, by go_num, by omega, by rw [hl5], by omega, hG5, hr5.weak (by omega) (by omega), hy5⟩
          case measure => simp [intOf]; omega
        · have hq1 : ¬ (q : Int) = 0 := by omega
          go_wp2
          go_roundw
          case rel => exact ⟨j - 1, vs, a, c, fl, by go_num, by omega, rfl, by omega, rfl, by omega, hG, hr.weak (by omega) (by omega), hy⟩
          case measure => simp [intOf]; omega
      have e0 : ¬ (p : Int) = 0 := by omega
      have e1 : ¬ (p : Int) = 1 := by omega
      have e2 : ¬ (p : Int) = 2 := by omega
      have e3 : ¬ (p : Int) = 3 := by omega
      have e4 : ¬ (p : Int) = 4 := by omega
      go_wp2_with fail
      refine (aName_c rb _ _ (hr.x (by (repeat (first | exact X.refl _ | assumption | refine X.ext ?_ _ | refine X.alloc ?_ _ | refine X.drew ?_)))) (by omega)).mono ?_
      rintro _ w4 ⟨nm, rfl, hnm, hr', hy'⟩
      replace hG := hG.fr (hy'.fr.mono (by omega))
      replace hy := hy.trans ((Y.of_x (by (repeat (first | exact X.refl _ | assumption | refine X.ext ?_ _ | refine X.alloc ?_ _ | refine X.drew ?_)))).trans hy'); replace hr := hr'; clear hr' hy'
      go_wp2_with (at_builtin; refine wpList_append_g act_T rfl _ _ rfl hG.row rfl rfl (by simp) rfl (by simp [Value.oneCell']) (by omega) (by omega) (by have := hy.size; first | omega | (simp; omega)) ?_; intro a5 c5 w5 hO5 hg5)
      have hX : X w4 (w4.alloc (.cells #[.int .i64 3, .int .i64 0, .string ⟨#[]⟩, .string ⟨#[]⟩, .bool false, .int .i64 0, .slice none 0 0, .int .i64 0, .string ⟨(nm).toArray⟩] 77)) := (X.refl _).alloc _
      have hG4 := hG.fr (hX.fr _)
      have hG5 := ActsG.snoc (x := (⟨3, ⟨0, [], [], false, 0, []⟩, 0, nm⟩, .slice none 0 0)) hG4 ⟨none, 0, rfl, ⟨rfl, .inl ⟨rfl, rfl⟩⟩⟩ ⟨by simp, by simp, (by unfold SmallB; exact ⟨by simp, fun s h => by cases h⟩), by simp; omega⟩ hg5 hO5
      have hr5 := (hr.x hX).grown hg5 (fun g hg => by have := (hG4.row.lt g hg).1; omega)
      have hy5 := (hy.trans (Y.of_x hX)).grown hg5 (fun g hg => by have := (hG4.row.lt g hg).1; omega)
      have hl5 : (vs ++ [((⟨3, ⟨0, [], [], false, 0, []⟩, 0, nm⟩, .slice none 0 0) : Ac × Value)]).length = vs.length + 1 := by rw [List.length_append, List.length_singleton]
      go_roundw
      case rel => exact ⟨j - 1, _, a5, c5, fl, by go_num, by omega, by go_num, by omega, by rw [hl5], by omega, hG5, hr5.weak (by omega) (by omega), hy5⟩
      case measure => simp [intOf]; omega
    · obtain rfl : j = 0 := by omega
      by_cases hv0 : 0 < vs.length
      · obtain ⟨g, rfl, hgB, hgl⟩ := own_form hG.row hv0
        have hvi : (0 : Int) < (vs.length : Int) := by omega
        go_wp2_with fail
        refine (pick_c rb _ _ _ (hr.x (by (repeat (first | exact X.refl _ | assumption | refine X.ext ?_ _ | refine X.alloc ?_ _ | refine X.drew ?_)))) (by omega) (by omega)).mono ?_
        rintro _ w2 ⟨p, rfl, hp, hr', hy'⟩
        replace hG := hG.fr (hy'.fr.mono (by omega))
        replace hy := hy.trans ((Y.of_x (by (repeat (first | exact X.refl _ | assumption | refine X.ext ?_ _ | refine X.alloc ?_ _ | refine X.drew ?_)))).trans hy'); replace hr := hr'; clear hr' hy'
        have hw2 := hy.size
        by_cases hp0 : p = 0
        · subst hp0
          go_wp2_with fail
          refine (one_c rb _ [-1, 4] _ _ _ (rb + 1) _ (hr.x (by (repeat (first | exact X.refl _ | assumption | refine X.ext ?_ _ | refine X.alloc ?_ _ | refine X.drew ?_)))) (by omega) (ints_lit (by simp) (by first | omega | (simp; omega)) rfl rfl (by decide)) (by omega) (by decide)).mono ?_
          rintro _ w3 ⟨q, rfl, hq, hr', hy'⟩
          replace hG := (hG.fr (X.fr (by (repeat (first | exact X.refl _ | assumption | refine X.ext ?_ _ | refine X.alloc ?_ _ | refine X.drew ?_))) _)).fr (hy'.fr.mono (by omega))
          replace hy := hy.trans ((Y.of_x (by (repeat (first | exact X.refl _ | assumption | refine X.ext ?_ _ | refine X.alloc ?_ _ | refine X.drew ?_)))).trans hy'); replace hr := hr'; clear hr' hy'
          obtain ⟨cur, hTg⟩ : ∃ cur, w3.heap[g]? = some (.cells cur 77 (0, 0)) := by
            obtain ⟨_, h | ⟨g', cap, cur, hv, _, h2, _⟩⟩ := hG.row
            · simp at h
            · injection hv with h1; injection h1 with h1; injection h1 with h1; subst h1; exact ⟨cur, h2⟩
          obtain ⟨⟨x, v0⟩, us, rfl⟩ : ∃ x us, vs = x :: us := by cases vs with | nil => simp at hv0 | cons x us => exact ⟨x, us, rfl⟩
          obtain ⟨hb, hc4, hf⟩ := Bx.out ⟨_, hTg⟩
          have f0 := hf 0
          have c0 := row_cell hG.row 0 _ rfl
          clear hf hc4
          go_wp2
          go_ret
          refine ⟨(({ x with kind := q } : Ac), v0) :: us, some ⟨g, 0, none⟩, c, rfl, ⟨own_set (k := 0) hG.row _, fun y hy2 => ?_, fun y hy2 => ?_⟩, by simp at hl ⊢; omega, Rdr.set2 (hr.weak (by omega) (by omega)) (by simp; omega) _, Y.set2 hy (by simp; omega) _⟩
          · rcases List.mem_cons.1 hy2 with rfl | hy2
            · obtain ⟨ba, bc, e, ho⟩ := hG.bod _ (List.mem_cons_self ..)
              exact ⟨ba, bc, e, own_set_far ho hTg (by decide) _ _⟩
            · obtain ⟨ba, bc, e, ho⟩ := hG.bod y (List.mem_cons_of_mem _ hy2)
              exact ⟨ba, bc, e, own_set_far ho hTg (by decide) _ _⟩
          · rcases List.mem_cons.1 hy2 with rfl | hy2
            · exact (hG.small (x, v0) (List.mem_cons_self ..) : SmallA x)
            · exact hG.small y (List.mem_cons_of_mem _ hy2)
        · have hp1 : ¬ (p : Int) = 0 := by omega
          go_wp2
          go_ret
          exact ⟨vs, _, c, rfl, hG, by omega, hr.weak (by omega) (by omega), hy⟩
      · have hvi : ¬ (0 : Int) < (vs.length : Int) := by omega
        go_wp2
        go_ret
        exact ⟨vs, a, c, rfl, hG, by omega, hr.weak (by omega) (by omega), hy⟩

end Go.Proofs.YtgjfjjhmgbemcaaGreatDoor

namespace Go.Proofs.YtgjfjjhmgbemcaaGreatDoor
open Go.RowKit

/-- What is drawn: acts, a number. -/
def DrawnAf (w w' : World) (e : Ending) : Prop := ∃ (l : List Ac) (a : Option Addr) (n c : Nat) (t : Int),
  e = .returned (.tuple #[.slice a n c, .int .i64 t]) ∧ ActsAt w' w.heap.size a n l ∧ n ≤ c ∧ n ≤ 16 ∧ -1 ≤ t ∧ t ≤ 5 ∧ X w w'
set_option maxRecDepth 100000 in
set_option maxHeartbeats 4000000 in
theorem DrawDiskAfter_c (ca : Option Addr) (cn cc : Nat) (w : World) (hC : CodeAt w ca cn cc) (hn : cn ≤ 1048576) :
    Calls Tryz.prog 33 #[.slice ca cn cc] w fun e w' => DrawnAf w w' e := by
  go_enter Tryz.func33, Tryz.ntmps33
  go_wp2_with fail
  refine (newReader_c ca cn cc _ hC.1 hC.2 hn).mono ?_
  rintro _ w1 ⟨rfl, hr, hx⟩
  obtain ⟨rb, hrb⟩ : ∃ rb, w.heap.size = rb := ⟨_, rfl⟩
  rw [hrb] at hr ⊢
  have hy : Y rb w w1 := Y.of_x hx
  have hlt := hr.lt
  have Hrb := Lib.hid hrb
  clear hx hrb
  go_wp2_with fail
  refine (someActs_c rb _ _ hr (by omega)).mono ?_
  rintro _ w2 ⟨vs, a, c, rfl, hG, hl, hr2, hy2⟩
  replace hG : ActsG w2 (rb + 1) a c vs := ⟨own_less hG.row (by omega), fun x hx => (let ⟨ba, bc, e, ho⟩ := hG.bod x hx; ⟨ba, bc, e, own_less ho (by omega)⟩), hG.small⟩
  have hz2 := hy2.size
  replace hy := hy.trans hy2
  clear hr hy2
  go_wp2_with fail
  refine (one_c rb _ [1, 0, 2, 4, 5, -1] _ _ _ (rb + 1) _ (hr2.x (by (repeat (first | exact X.refl _ | assumption | refine X.ext ?_ _ | refine X.alloc ?_ _ | refine X.drew ?_)))) (by omega) (ints_lit (by simp) (by first | omega | (simp; omega)) rfl rfl (by decide)) (by omega) (by decide)).mono ?_
  rintro _ w3 ⟨t, rfl, ht, hr3, hy3⟩
  replace hG := (hG.fr (X.fr (by (repeat (first | exact X.refl _ | assumption | refine X.ext ?_ _ | refine X.alloc ?_ _ | refine X.drew ?_))) _)).fr hy3.fr
  replace hy := hy.trans ((Y.of_x (by (repeat (first | exact X.refl _ | assumption | refine X.ext ?_ _ | refine X.alloc ?_ _ | refine X.drew ?_)))).trans hy3)
  go_wp2
  refine bodyPost_ret (v := .tuple #[.slice a vs.length c, .int .i64 t]) (by simp [results, Tryz.results33, go_sem]) rfl ?_
  refine ⟨vs.map (·.1), a, vs.length, c, t, rfl, (hG.at (by omega)).less (by have := Hrb.out; omega), own_cap hG.row, hl, ?_, ?_, ?_⟩
  · revert ht; simp only [List.mem_cons, List.mem_nil_iff, or_false]; omega
  · revert ht; simp only [List.mem_cons, List.mem_nil_iff, or_false]; omega
  · exact Y.x hy (by have := Hrb.out; omega)

end Go.Proofs.YtgjfjjhmgbemcaaGreatDoor

namespace Go.Proofs.YtgjfjjhmgbemcaaGreatDoor
open Go.RowKit

def ansN (t : Int) (l : List Ac) (j : Nat) : Int := if chgB (aftD t l j) (nth l j) t = true then 1 else 0
/-- The answers of the acts that are no imports. -/
def AnsOk (w : World) (t : Int) (l : List Ac) (ys : List Value) (k : Nat) : Prop :=
  ys.length = k ∧ ∀ j, j < k → ¬ (nth l j).kind = 3 → ∃ g, ys[j]? = some (.slice (some ⟨g, 0, none⟩) 1 1) ∧ w.heap[g]? = some (.cells #[.int .i64 (ansN t l j)] 3 (0, 0))
theorem AnsOk.x {w w' : World} {t : Int} {l : List Ac} {ys : List Value} {k : Nat} (h : AnsOk w t l ys k) (hx : X w w') : AnsOk w' t l ys k :=
  ⟨h.1, fun j hj h3 => let ⟨g, e, hg⟩ := h.2 j hj h3; ⟨g, e, at_x2' hg hx⟩⟩
theorem AnsOk.own {w w' : World} {t : Int} {l : List Ac} {ys : List Value} {k B size n : Nat} {v : Value} {xs : List Value} (h : AnsOk w t l ys k) (hg : w.grownBy w' v.ownBlock) (ho : w.ownsRow B 75 size v n xs) : AnsOk w' t l ys k :=
  ⟨h.1, fun j hj h3 => let ⟨g, e, hb⟩ := h.2 j hj h3; ⟨g, e, at_grown hb hg (own_ne_at ho hb (by decide))⟩⟩
theorem AnsOk.set3 {w : World} {t : Int} {l : List Ac} {ys : List Value} {k b : Nat} {cs : Array Value} (h : AnsOk w t l ys k) (hb : Td w b cs) (v0 v1 v2 : Value) : AnsOk (((w.setCell ⟨b, 0, none⟩ v0).setCell ⟨b, 1, none⟩ v1).setCell ⟨b, 2, none⟩ v2) t l ys k :=
  ⟨h.1, fun j hj h3 => by
    obtain ⟨g, e, hg⟩ := h.2 j hj h3
    refine ⟨g, e, ?_⟩
    have hne : g ≠ b := fun e => by
      subst e
      unfold Td at hb
      rw [hg] at hb
      injection hb with hb
      injection hb with _ hb
      exact absurd hb (by decide)
    rw [heap_setCell_other _ ⟨b, 2, none⟩ g v2 hne, heap_setCell_other _ ⟨b, 1, none⟩ g v1 hne, heap_setCell_other _ ⟨b, 0, none⟩ g v0 hne]
    exact hg⟩
theorem AnsOk.snoc {w : World} {t : Int} {l : List Ac} {ys : List Value} {k : Nat} {v : Value} (h : AnsOk w t l ys k) (hv : ¬ (nth l k).kind = 3 → ∃ g, v = .slice (some ⟨g, 0, none⟩) 1 1 ∧ w.heap[g]? = some (.cells #[.int .i64 (ansN t l k)] 3 (0, 0))) : AnsOk w t l (ys ++ (#[v] : Array Value).toList) (k + 1) := by
  refine ⟨by simp [h.1], fun j hj h3 => ?_⟩
  by_cases hjk : j < k
  · obtain ⟨g, e, hg⟩ := h.2 j hjk h3
    exact ⟨g, by rw [List.getElem?_append_left (by have := h.1; omega)]; exact e, hg⟩
  · obtain rfl : j = k := by omega
    obtain ⟨g, rfl, hg⟩ := hv h3
    refine ⟨g, ?_, hg⟩
    rw [List.getElem?_append_right (by have := h.1; omega), h.1, Nat.sub_self]
    rfl
theorem ans_new {w w1 W w' : World} {v : Int} (hW : W = w.alloc (.cells #[.int .i64 v] 3)) (hx : X W w1) {B size n : Nat} {u : Value} {xs : List Value} (hg : w1.grownBy w' u.ownBlock) (ho : w1.ownsRow B 75 size u n xs) : w'.heap[w.heap.size]? = some (.cells #[.int .i64 v] 3 (0, 0)) := by
  have h0 : W.heap[w.heap.size]? = some (.cells #[.int .i64 v] 3 (0, 0)) := by rw [hW]; exact heap_alloc_new _ _
  have h1 := at_x2' h0 hx
  exact at_grown h1 hg (own_ne_at ho h1 (by decide))
def runV (pb : Nat) : Value := .func (.func 87) #[] #[.pointer (some ⟨pb, 0, none⟩)]
/-- That the run of an import returns. -/
def RunsOk (w : World) (pb : Nat) : Prop := ∀ (W : World) (d : Dk) (fa : Option Addr) (fc : Nat) (da : Option Addr) (dc : Nat) (nm : List UInt8), X w W → DkO W w.heap.size (.agg #[.slice fa d.l.length fc, .int .i64 d.kk, .slice da d.dl.length dc]) d.l d.kk d.dl → diskB d.l d.kk d.dl = true → OkL d.l → OkD d.dl → nameB nm = true →
  Calls Tryz.prog 87 #[.agg #[.slice fa d.l.length fc, .int .i64 d.kk, .slice da d.dl.length dc], .string ⟨(nm).toArray⟩, .pointer (some ⟨pb, 0, none⟩)] W fun e w' => ∃ ra rn rc, e = .returned (.slice ra rn rc) ∧ X W w'
/-- What the walk leaves, its answers too. -/
def WkR (w w' : World) (t : Int) (l : List Ac) (n : Nat) (e : Ending) : Prop :=
  ∃ v oa oc ys, e = .returned (.tuple #[v, .slice oa n oc]) ∧ DkO w' w.heap.size v (aftD t l n).l (aftD t l n).kk (aftD t l n).dl ∧ X w w' ∧ w'.ownsRow w.heap.size 75 1 (.slice oa n oc) n ys ∧ AnsOk w' t l ys n
theorem acts_name {l : List Ac} (h : actsB l = true) {k : Nat} (hk : k < l.length) (h3 : (nth l k).kind = 3) : nameB (nth l k).name = true := by
  unfold actsB at h
  have h1 := allN_iff.1 (Bool.and_eq_true _ _ ▸ h).1 k hk
  unfold actB at h1
  rw [if_neg (by omega), if_neg (by omega), if_neg (by omega), if_pos h3] at h1
  exact h1
set_option maxRecDepth 100000 in
set_option maxHeartbeats 8000000 in
theorem walkR_c (l : List Ac) (a : Option Addr) (n c B : Nat) (t : Int) (w : World) (hA : ActsAt w B a n l) (hn : n ≤ 20) (ht0 : 0 ≤ t) (ht4 : t ≤ 4) (hG : Gm w) (pb : Nat) (hrun : RunsOk w pb) (hact : actsB l = true) :
    Calls Tryz.prog 64 #[.slice a n c, .int .i64 t, runV pb] w fun e w' => WkR w w' t l n e := by
  have Hnl := Lib.hid hA.len.1
  unfold runV
  go_enter Tryz.func64, Tryz.ntmps64
  go_upto_region 1 with fail
  refine wp_name (fun W0 hW0 => ?_)
  have hR0 : Td W0 w.heap.size #[.slice none 0 0, .int .i64 0, .slice none 0 0] := by rw [hW0]; exact Td.new _ _ rfl
  have hX0 : X w W0 := by rw [hW0]; (repeat (first | with_reducible exact X.refl _ | with_reducible assumption | with_reducible refine X.setCell ?_ (by first | (simp; done) | (simp; omega)) _ | with_reducible refine X.ext ?_ _ | with_reducible refine X.alloc ?_ _ | with_reducible refine X.drew ?_))
  have hz0 : W0.heap.size = w.heap.size + 1 := by rw [hW0]; simp
  clear hW0
  have Hz0 := Lib.hid hz0
  clear hz0
  go_upto_region 2 with fail
  refine wp_name (fun W2 hW2 => ?_)
  have hB2 : Td W2 (W0.heap.size + 1 + 1) #[.slice (some ⟨W0.heap.size, 0, none⟩) 0 0, .int .i64 0, .slice (some ⟨W0.heap.size + 1, 0, none⟩) 0 0] := by rw [hW2]; exact Td.new _ _ (by simp)
  have hD2 : DkO W2 W0.heap.size (.agg #[.slice (some ⟨W0.heap.size, 0, none⟩) 0 0, .int .i64 0, .slice (some ⟨W0.heap.size + 1, 0, none⟩) 0 0]) [] 0 [] := by rw [hW2]; exact dk_lit _ _
  have hX2 : X W0 W2 := by rw [hW2]; (repeat (first | with_reducible exact X.refl _ | with_reducible assumption | with_reducible refine X.setCell ?_ (by first | (simp; done) | (simp; omega)) _ | with_reducible refine X.ext ?_ _ | with_reducible refine X.alloc ?_ _ | with_reducible refine X.drew ?_))
  have hs2 : W2.heap.size = W0.heap.size + 3 := by rw [hW2]; simp
  clear hW2
  have Hs2 := Lib.hid hs2
  clear hs2
  go_upto_region 3 with fail
  refine wp_name (fun W3 hW3 => ?_)
  have hO3 : W3.ownsRow W0.heap.size 75 1 (.slice (some ⟨W2.heap.size, 0, none⟩) 0 0) 0 [] := by rw [hW3]; exact own_lit rfl hX2.size rfl (by omega)
  have hX3 : X W2 W3 := by rw [hW3]; (repeat (first | with_reducible exact X.refl _ | with_reducible assumption | with_reducible refine X.setCell ?_ (by first | (simp; done) | (simp; omega)) _ | with_reducible refine X.ext ?_ _ | with_reducible refine X.alloc ?_ _ | with_reducible refine X.drew ?_))
  clear hW3
  have hX03 := hX0.trans (hX2.trans hX3)
  obtain ⟨b8, hb8⟩ : ∃ b8, b8 = W0.heap.size + 1 + 1 := ⟨_, rfl⟩
  rw [← hb8] at hB2 ⊢
  have Hb8 := Lib.hid hb8
  clear hb8
  go_wp2
  go_loopw [9, 11, 12, 13, 21] (fun o _ _ _ i wr => ∃ k : Nat, k ≤ n ∧ i = .int .i64 k ∧ ∃ d fa fc da dc, d = aftD t l k ∧ Td wr b8 #[.slice fa d.l.length fc, .int .i64 d.kk, .slice da d.dl.length dc] ∧ Td wr w.heap.size #[.slice none 0 0, .int .i64 0, .slice none 0 0] ∧ DkO wr W0.heap.size (.agg #[.slice fa d.l.length fc, .int .i64 d.kk, .slice da d.dl.length dc]) d.l d.kk d.dl ∧ DkI d k ∧ X w wr ∧ ∃ oa oc ys, o = .slice oa k oc ∧ wr.ownsRow W0.heap.size 75 1 (.slice oa k oc) k ys ∧ W0.heap.size ≤ wr.heap.size ∧ AnsOk wr t l ys k) (fun _ _ _ _ i _ => n - (intOf i).toNat)
  case atStart => exact ⟨0, by omega, rfl, dk0, _, _, _, _, rfl, hB2.x hX3, (hR0.x hX2).x hX3, hD2.fr (hX3.fr _), DkI.zero, hX03, _, _, _, rfl, hO3, (hX2.trans hX3).size, ⟨rfl, fun j hj => by omega⟩⟩
  case round =>
    obtain ⟨k, hk, rfl, d, fa, fc, da, dc, hd, hB8, hR8, hDk, hI, hX, oa, oc, ys, rfl, hO, hzr, hAn⟩ := hrel
    replace hd := Lib.hid hd
    by_cases hlt : k < n
    · obtain ⟨b, off, ba, bn, bc, rfl, _, hb, hok, _, hS, g0, g1, g2, g3, g4, g5, g6, g7, g8⟩ := (hA.mono (hX.fr _)).at_ hlt
      have hk1 : (k : Int) < (n : Int) := by omega
      have hnx := Lib.hid (show aftD t l (k + 1) = stepD t d (nth l k) by rw [hd.out]; exact aftD_next (by have := Hnl.out; omega))
      have hk20 : k < 20 := by omega
      go_upto_region 6 with fail
      refine wp_name (fun W9 hW9 => ?_)
      have hA9 : Bx W9 wr.heap.size (#[.int .i64 ((nth l k)).kind, .int .i64 ((nth l k)).file.root, .string ⟨((nth l k)).file.pkg.toArray⟩, .string ⟨((nth l k)).file.name.toArray⟩, .bool ((nth l k)).file.init, .int .i64 ((nth l k)).file.stamp, .slice ba bn bc, .int .i64 ((nth l k)).idx, .string ⟨((nth l k)).name.toArray⟩]) := by rw [hW9]; exact Bx.new _ _ _
      have hx9 : X wr W9 := by rw [hW9]; (repeat (first | with_reducible exact X.refl _ | with_reducible assumption | with_reducible refine X.setCell ?_ (by first | (simp; done) | (simp; omega)) _ | with_reducible refine X.ext ?_ _ | with_reducible refine X.alloc ?_ _ | with_reducible refine X.drew ?_))
      clear hW9 g0 g1 g2 g3 g4 g5 g6 g7 g8
      have hX9 := hX.trans hx9
      have hS9 := hS.mono (hx9.fr _)
      have hB9 := hB8.x hx9
      have hD9 := hDk.fr (hx9.fr _)
      have hO9 := own_fr hO (hx9.fr _)
      have hs9 := hx9.size
      obtain ⟨lta, ca, _⟩ := hA9.out
      have c0 := ca 0
      have c1 := ca 1
      have c2 := ca 2
      have c3 := ca 3
      have c4 := ca 4
      have c5 := ca 5
      have c6 := ca 6
      have c7 := ca 7
      have c8 := ca 8
      obtain ⟨ltd, cd, _⟩ := hB9.bx.out
      have d0 := cd 0
      have d1 := cd 1
      have d2 := cd 2
      clear ca cd
      by_cases h3 : (nth l k).kind = 3
      · go_wp2_with fail
        have hnm := acts_name hact (k := k) (by have := Hnl.out; omega) h3
        refine (hrun W9 d fa fc da dc (nth l k).name hX9 (hD9.less hX0.size) hI.ok hI.okl hI.okd hnm).mono ?_
        rintro _ w10 ⟨qa, qn, qc, rfl, hx10⟩
        have hO10 := own_fr hO9 (hx10.fr _)
        have hs10 := hx10.size
        clear d0 d1 d2 ltd c0 c1 c2 c3 c4 c5 c6 c7 c8 lta
        go_wp2_with (at_builtin; refine wpList_append_g outs_T rfl _ _ rfl hO10 rfl rfl (by simp) rfl (by simp [Value.oneCell']) (by omega) (by omega) (by first | omega | (simp; omega)) ?_; intro oa2 oc2 w13 hO13 hg13)
        go_roundw
        case rel =>
          have hX11 : X W9 (w10.alloc (.cells #[.slice qa qn qc] 75)) := hx10.alloc _
          have hO11 := own_fr hO9 (hX11.fr _)
          exact ⟨k + 1, by omega, by go_num, d, fa, fc, da, dc, by rw [hnx.out, step_3 h3], (hB9.x hX11).own hg13 hO11 (by decide), ((hR8.x hx9).x hX11).own hg13 hO11 (by decide), (hD9.fr (hX11.fr _)).own hg13 hO11 (by decide) (by decide) (by decide) (by decide), hI.up, X.of_below ((hX9.trans hX11).below.grown hg13 (hX9.trans hX11).size (fun g hg => by have := (hO11.lt g hg).1; have := hX0.size; omega)), oa2, oc2, _, rfl, hO13, by have := hg13.size; have := hX11.size; omega, (((hAn.x hx9).x hX11).own hg13 hO11).snoc fun h => absurd h3 h⟩
        case measure => simp [intOf]; omega
      obtain ⟨bb, hbb⟩ : ∃ bb, chgB d (nth l k) t = bb := ⟨_, rfl⟩
      obtain ⟨R, hR⟩ : ∃ R, chgR d (nth l k) t = R := ⟨_, rfl⟩
      have hchg : Calls Tryz.prog 118 #[.agg #[.slice fa d.l.length fc, .int .i64 d.kk, .slice da d.dl.length dc], .agg #[.int .i64 ((nth l k)).kind, .int .i64 ((nth l k)).file.root, .string ⟨((nth l k)).file.pkg.toArray⟩, .string ⟨((nth l k)).file.name.toArray⟩, .bool ((nth l k)).file.init, .int .i64 ((nth l k)).file.stamp, .slice ba bn bc, .int .i64 ((nth l k)).idx, .string ⟨((nth l k)).name.toArray⟩], .int .i64 t] W9 fun e w' => ∃ ya yc yda ydc, e = .returned (.tuple #[.agg #[.slice ya R.l.length yc, .int .i64 R.kk, .slice yda R.dl.length ydc], .bool bb]) ∧ DkO w' W9.heap.size (.agg #[.slice ya R.l.length yc, .int .i64 R.kk, .slice yda R.dl.length ydc]) R.l R.kk R.dl ∧ X W9 w' := by
        obtain ⟨fa', fc', da', dc', E1, e, e1, e2, hFE, hDO⟩ := hD9
        obtain ⟨⟨rfl, rfl⟩, rfl, rfl⟩ : (fa = fa' ∧ fc = fc') ∧ da = da' ∧ dc = dc' := by simpa using e
        have i1 := hI.ll
        have i2 := hI.kk
        have hnc : d.l.length ≤ fc := by obtain ⟨_, _, _, hr, _⟩ := hFE; exact own_cap hr
        have hdc : d.dl.length ≤ dc := by obtain ⟨_, _, _, hr, _⟩ := hDO; exact own_cap hr
        refine (change_i d.l fa _ fc d.kk d.dl da _ dc W0.heap.size (nth l k) ba bn bc B t W9 (hFE.o.at hI.okl) ((hDO.less e1).at hI.okd) (by omega) hI.ok hI.k0 (by omega) ht0 ht4 hok.1 hS9 hnc hdc (hG.mono hX9)).mono ?_
        rintro _ w' ⟨_, rfl, hO, hx⟩
        obtain ⟨ya, yc, yda, ydc, E2, rfl, hO2⟩ := id hO
        have hbb2 : chgB ⟨d.l, d.kk, d.dl⟩ (nth l k) t = bb := hbb
        have hR2 : chgR ⟨d.l, d.kk, d.dl⟩ (nth l k) t = R := hR
        rw [hR2] at hO ⊢
        rw [hbb2]
        exact ⟨_, _, _, _, rfl, hO, hx⟩
      have Hbb := Lib.hid hbb
      have HR := Lib.hid hR
      clear hbb hR
      go_wp2_with fail
      refine hchg.mono ?_
      rintro _ w10 ⟨ya, yc, yda, ydc, rfl, hY, hx10⟩
      clear hchg d0 d1 d2 ltd c0 c1 c2 c3 c4 c5 c6 c7 c8 lta
      go_upto_region 9 with fail
      refine wp_name (fun W11 hW11 => ?_)
      have hB12 : Td W11 w10.heap.size #[.slice ya R.l.length yc, .int .i64 R.kk, .slice yda R.dl.length ydc] := by rw [hW11]; exact Td.new _ _ rfl
      have hx11 : X w10 W11 := by rw [hW11]; (repeat (first | with_reducible exact X.refl _ | with_reducible assumption | with_reducible refine X.setCell ?_ (by first | (simp; done) | (simp; omega)) _ | with_reducible refine X.ext ?_ _ | with_reducible refine X.alloc ?_ _ | with_reducible refine X.drew ?_))
      clear hW11
      have hx := hx10.trans hx11
      have hX11 := hX9.trans hx
      have hO11 := own_fr hO9 (hx.fr _)
      have hB11 := hB9.x hx
      have hR11 := (hR8.x hx9).x hx
      have hs10 := hx10.size
      have hs11 := hx11.size
      cases hbv : bb
      · have hst := step_n h3 (Hbb.out.trans hbv)
        go_wp2_with (at_builtin; refine wpList_append_g outs_T rfl _ _ rfl (own_fr hO11 (X.fr ((X.refl _).alloc _) _)) rfl rfl (by simp) rfl (by simp [Value.oneCell']) (by omega) (by omega) (by first | omega | (simp; omega)) ?_; intro oa2 oc2 w13 hO13 hg13)
        go_roundw
        case rel =>
          have hX12 : X W11 ((W11.alloc (.cells #[.int .i64 0] 3)).alloc (.cells #[.slice (some ⟨W11.heap.size, 0, none⟩) 1 1] 75)) := ((X.refl _).alloc _).alloc _
          have hO12 := own_fr hO11 (hX12.fr _)
          exact ⟨k + 1, by omega, by go_num, d, fa, fc, da, dc, by rw [hnx.out, hst], (hB11.x hX12).own hg13 hO12 (by decide), (hR11.x hX12).own hg13 hO12 (by decide), ((hD9.fr (hx.fr _)).fr (hX12.fr _)).own hg13 hO12 (by decide) (by decide) (by decide) (by decide), hI.up, X.of_below ((hX11.trans hX12).below.grown hg13 (hX11.trans hX12).size (fun g hg => by have := (hO12.lt g hg).1; have := hX0.size; omega)), oa2, oc2, _, rfl, hO13, by have := hg13.size; have := hX12.size; omega, ((((hAn.x hx9).x hx).x hX12).own hg13 hO12).snoc fun _ => ⟨_, rfl, by rw [show ansN t l k = 0 by unfold ansN; rw [← hd.out, Hbb.out.trans hbv]; rfl]; exact ans_new rfl ((X.refl _).alloc _) hg13 hO12⟩⟩
        case measure => simp [intOf]; omega
      · have hcc := Hbb.out.trans hbv
        have hst := step_c h3 hcc
        have hR2 := Lib.hid (show R = chgD d (nth l k) t from HR.out.symm.trans (chgR_c hcc))
        obtain ⟨ltg, cg, _⟩ := hB12.bx.out
        have g0 := cg 0
        have g1 := cg 1
        have g2 := cg 2
        obtain ⟨ltr, cr, fr⟩ := hB11.bx.out
        have r0 := cr 0
        have r1 := cr 1
        have r2 := cr 2
        have fr0 := fr 0
        have fr1 := fr 1
        have fr2 := fr 2
        have hl8 : b8 < W9.heap.size := hB9.bx.out.1
        have hg8 : w.heap.size ≤ b8 := by have := Hb8.out; have := hX0.size; omega
        have hn8 : w.heap.size ≠ b8 := by have := Hb8.out; have := Hz0.out; omega
        clear cg cr fr
        go_upto_region 11 with fail
        refine wp_name (fun W12 hW12 => ?_)
        have hB12 : Td W12 b8 #[.slice ya R.l.length yc, .int .i64 R.kk, .slice yda R.dl.length ydc] := by rw [hW12]; exact hB11.set3 _ _ _
        have hR12 : Td W12 w.heap.size #[.slice none 0 0, .int .i64 0, .slice none 0 0] := by rw [hW12]; exact hR11.far3 hn8 _ _ _
        have hO12 : W12.ownsRow W0.heap.size 75 1 (.slice oa k oc) k ys := by rw [hW12]; exact own_far3 hO11 hB11 (by decide) rfl _ _ _
        have hD12 : DkO W12 W9.heap.size (.agg #[.slice ya R.l.length yc, .int .i64 R.kk, .slice yda R.dl.length ydc]) R.l R.kk R.dl := by rw [hW12]; exact (hY.fr (hx11.fr _)).fr (fr_set3 hl8 _ _ _)
        have hX12 : X w W12 := by rw [hW12]; exact x_set3 (b := b8) hX11 hg8 _ _ _
        have hA12 : AnsOk W12 t l ys k := by rw [hW12]; exact ((hAn.x hx9).x hx).set3 hB11 _ _ _
        have hs12 : W12.heap.size = W11.heap.size := by rw [hW12]; simp
        clear hW12 g0 g1 g2 ltg r0 r1 r2 fr0 fr1 fr2 ltr
        have Hs12 := Lib.hid hs12
        clear hs12
        go_wp2_with (at_builtin; refine wpList_append_g outs_T rfl _ _ rfl (own_fr hO12 (X.fr ((X.refl _).alloc _) _)) rfl rfl (by simp) rfl (by simp [Value.oneCell']) (by omega) (by omega) (by have := Hs12.out; first | omega | (simp; omega)) ?_; intro oa2 oc2 w13 hO13 hg13)
        go_roundw
        case rel =>
          have hX13 : X W12 ((W12.alloc (.cells #[.int .i64 1] 3)).alloc (.cells #[.slice (some ⟨W12.heap.size, 0, none⟩) 1 1] 75)) := ((X.refl _).alloc _).alloc _
          have hO14 := own_fr hO12 (hX13.fr _)
          exact ⟨k + 1, by omega, by go_num, R, ya, yc, yda, ydc, by rw [hnx.out, hst, hR2.out], (hB12.x hX13).own hg13 hO14 (by decide), (hR12.x hX13).own hg13 hO14 (by decide), ((hD12.less (by omega)).fr (hX13.fr _)).own hg13 hO14 (by decide) (by decide) (by decide) (by decide), by rw [hR2.out]; exact hI.chg hok.1 (by have := hS.1; have := hS.2.1; omega) hS.2.2.1 (by omega) ht0 ht4 hcc, X.of_below ((hX12.trans hX13).below.grown hg13 (hX12.trans hX13).size (fun g hg => by have := (hO14.lt g hg).1; have := hX0.size; omega)), oa2, oc2, _, rfl, hO13, by have := hg13.size; have := hX13.size; have := Hs12.out; omega, ((hA12.x hX13).own hg13 hO14).snoc fun _ => ⟨_, rfl, by rw [show ansN t l k = 1 by unfold ansN; rw [← hd.out, if_pos hcc]]; exact ans_new rfl ((X.refl _).alloc _) hg13 hO14⟩⟩
        case measure => simp [intOf]; omega
    · have hk1 : ¬ (k : Int) < (n : Int) := by omega
      obtain rfl : k = n := by omega
      obtain ⟨ltg, cg, _⟩ := hB8.bx.out
      have g0 := cg 0
      have g1 := cg 1
      have g2 := cg 2
      obtain ⟨ltr, cr, fr⟩ := hR8.bx.out
      have r0 := cr 0
      have r1 := cr 1
      have r2 := cr 2
      have fr0 := fr 0
      have fr1 := fr 1
      have fr2 := fr 2
      clear cg cr fr
      go_wp2
      obtain ⟨_, c9, _⟩ := (hR8.set3 (.slice fa d.l.length fc) (.int .i64 d.kk) (.slice da d.dl.length dc)).bx.out
      have q0 := c9 0
      have q1 := c9 1
      have q2 := c9 2
      clear c9
      refine bodyPost_ret (v := .tuple #[.agg #[.slice fa d.l.length fc, .int .i64 d.kk, .slice da d.dl.length dc], .slice oa k oc]) (by simp [results, Tryz.results64, go_sem, Result.andThen, q0, q1, q2]) rfl ?_
      obtain ⟨j1, j2⟩ := dk_end (b := w.heap.size) hX (Nat.le_refl _) (by have := Hz0.out; omega) hDk
      unfold WkR
      rw [← hd.out]
      have hOf := own_far3 hO hR8 (by decide) rfl (.slice fa d.l.length fc) (.int .i64 d.kk) (.slice da d.dl.length dc)
      exact ⟨_, _, _, _, rfl, j1, j2, own_less hOf (by have := Hz0.out; omega), hAn.set3 hR8 _ _ _⟩

end Go.Proofs.YtgjfjjhmgbemcaaGreatDoor

namespace Go.Proofs.YtgjfjjhmgbemcaaGreatDoor
open Go.RowKit

/-- That the run of an import returns, for every path that is laid. -/
def MachOk : Prop := ∀ (w : World) (pb : Nat) (pa : Option Addr) (pn pc : Nat) (path : List Int) (B : Nat), Bx w pb #[.slice pa pn pc] → IntsAt w B pa pn path → pn ≤ pc → pathB path = true → Gm w → RunsOk w pb
set_option maxRecDepth 100000 in
set_option maxHeartbeats 4000000 in
theorem RunFresh_c (hM : MachOk) (l : List Ac) (a : Option Addr) (n c B : Nat) (t : Int) (path : List Int) (pa : Option Addr) (pn pc B' : Nat) (w : World) (hA : ActsAt w B a n l) (hI : IntsAt w B' pa pn path) (hpc : pn ≤ pc) (hp : pathB path = true) (hb : aftB t l = true) (hG : Gm w) :
    Calls Tryz.prog 35 #[.slice a n c, .slice pa pn pc, .int .i64 t] w fun e w' => ∃ oa oc ys, e = .returned (.slice oa n oc) ∧ w'.ownsRow w.heap.size 75 1 (.slice oa n oc) n ys ∧ AnsOk w' t l ys n ∧ X w w' := by
  have h1a := hb
  unfold aftB at h1a
  obtain ⟨ha, ht⟩ := Bool.and_eq_true _ _ ▸ h1a
  obtain ⟨ht0, ht4⟩ := rangeB_iff.1 ht
  have hn20 := acts_20 ha
  have hnl := hA.len.1
  have Hn := Lib.hid (And.intro hnl hn20)
  clear hnl hn20 ht h1a
  go_enter Tryz.func35, Tryz.ntmps35
  go_upto_region 1 with fail
  refine wp_name (fun W0 hW0 => ?_)
  have hR0 : Bx W0 w.heap.size #[.slice pa pn pc] := by rw [hW0]; exact Bx.new _ _ _
  have hX0 : X w W0 := by rw [hW0]; (repeat (first | with_reducible exact X.refl _ | with_reducible assumption | with_reducible refine X.setCell ?_ (by first | (simp; done) | (simp; omega)) _ | with_reducible refine X.ext ?_ _ | with_reducible refine X.alloc ?_ _ | with_reducible refine X.drew ?_))
  clear hW0
  have hI0 := hI.mono (hX0.fr _)
  go_wp2_with fail
  refine (actsOk_c l a n c B t W0 (hA.mono (hX0.fr _)) (hG.mono hX0)).mono ?_
  rintro _ w1 ⟨rfl, hx1⟩
  rw [hb]
  have hR1 := hR0.x hx1
  have hX1 := hX0.trans hx1
  have hI1 := hI0.mono (hx1.fr _)
  obtain ⟨ltr, cr, _⟩ := hR1.out
  have r0 := cr 0
  clear cr
  go_wp2_with fail
  refine (ValidPath_c path pa pn pc B' w1 hI1 hpc).mono ?_
  rintro _ _ ⟨rfl, rfl⟩
  rw [hp]
  go_wp2_with fail
  refine (walkR_c l a n c B t w1 (hA.mono (hX1.fr _)) (by have := Hn.out; omega) ht0 ht4 (hG.mono hX1) w.heap.size (hM w1 w.heap.size pa pn pc path B' hR1 hI1 hpc hp (hG.mono hX1)) ha).mono ?_
  rintro _ w2 ⟨_, oa, oc, ys, rfl, hDk, hx2, hO, hAn⟩
  obtain ⟨ya, yc, yda, ydc, E2, rfl, hO2⟩ := id hDk
  have hX : X w2 (w2.alloc (.cells #[.slice ya (aftD t l n).l.length yc, .int .i64 (aftD t l n).kk, .slice yda (aftD t l n).dl.length ydc] 38)) := (X.refl _).alloc _
  go_wp2
  go_ret
  exact ⟨oa, oc, ys, rfl, own_less (own_fr hO (hX.fr _)) hX1.size, hAn.x hX, (hX1.trans hx2).trans hX⟩

end Go.Proofs.YtgjfjjhmgbemcaaGreatDoor
