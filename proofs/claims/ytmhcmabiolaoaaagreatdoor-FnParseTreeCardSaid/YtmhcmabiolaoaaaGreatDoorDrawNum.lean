/- The generators of statements, bodies, files and trees, with the numbers that are drawn. No condition but that the reader has not read too far. -/
import Derived.Test.YtmhcmabiolaoaaaGreatDoorMe
namespace Go.Proofs.YtmhcmabiolaoaaaGreatDoor
open Go.RowKit

/-- A drawn statement: its texts are short, its numbers have two digits. -/
def NmS (s : St) : Prop := (s.mod.length ≤ 20 ∧ s.name.length ≤ 20) ∧ (0 ≤ s.level ∧ s.level ≤ 99) ∧ 0 ≤ s.val ∧ s.val ≤ 99
def NmF (f : Fi) : Prop := (0 ≤ f.root ∧ f.root ≤ 99) ∧ (0 ≤ f.stamp ∧ f.stamp ≤ 99) ∧ ∀ s ∈ f.body, NmS s
theorem NmS.len {l : List St} (h : ∀ s ∈ l, NmS s) : ∀ s ∈ l, s.mod.length ≤ 20 ∧ s.name.length ≤ 20 := fun s hs => (h s hs).1
set_option maxRecDepth 100000 in
set_option maxHeartbeats 2000000 in
theorem someStmt_n (rb m : Nat) (w : World) (hr : Rdr w rb m) (hm : m + 12 ≤ 1000000000) :
    Calls Tryz.prog 117 #[.pointer (some ⟨rb, 0, none⟩)] w fun e w' => ∃ s : St, e = .returned (.agg #[.int .i64 (s).kind, .string ⟨(s).mod.toArray⟩, .int .i64 (s).level, .string ⟨(s).name.toArray⟩, .int .i64 (s).val]) ∧ NmS s ∧ Rdr w' rb (m + 12) ∧ Y rb w w' := by
  have hlt := hr.lt
  have hy : Y rb w (w.alloc (.cells #[.int .i64 0, .string ⟨#[]⟩, .int .i64 0, .string ⟨#[]⟩, .int .i64 0] 53)) := Y.of_x (by (repeat (first | exact X.refl _ | assumption | refine X.ext ?_ _ | refine X.alloc ?_ _ | refine X.drew ?_)))
  have hB := Bx.new w #[.int .i64 0, .string ⟨#[]⟩, .int .i64 0, .string ⟨#[]⟩, .int .i64 0] 53
  obtain ⟨hb, hc, hf⟩ := hB.out
  have hne : w.heap.size ≠ rb := by omega
  replace hr := hr.x (w' := (w.alloc (.cells #[.int .i64 0, .string ⟨#[]⟩, .int .i64 0, .string ⟨#[]⟩, .int .i64 0] 53))) (by (repeat (first | exact X.refl _ | assumption | refine X.ext ?_ _ | refine X.alloc ?_ _ | refine X.drew ?_)))
  go_enter Tryz.func117, Tryz.ntmps117
  go_wp2_with fail
  refine (pick_c rb _ _ _ hr (by omega) (by omega)).mono ?_
  rintro _ w' ⟨k, rfl, hk, hr', hy'⟩
  replace hB := (hB.x (by (repeat (first | exact X.refl _ | assumption | refine X.ext ?_ _ | refine X.alloc ?_ _ | refine X.drew ?_)))).y hy' hne; replace hy := hy.trans ((Y.of_x (by (repeat (first | exact X.refl _ | assumption | refine X.ext ?_ _ | refine X.alloc ?_ _ | refine X.drew ?_)))).trans hy'); replace hr := hr'; clear hr' hy' hb hc hf; obtain ⟨hb, hc, hf⟩ := hB.out
  go_wp2_with fail
  · go_wp2_with ((go_at_call 127; refine (aName_c rb _ _ (hr.x (by (repeat (first | exact X.refl _ | assumption | refine X.ext ?_ _ | refine X.alloc ?_ _ | refine X.drew ?_)))) (by omega)).mono ?_; rintro _ w' ⟨xs, rfl, hxs, hr', hy'⟩; replace hB := (hB.x (by (repeat (first | exact X.refl _ | assumption | refine X.ext ?_ _ | refine X.alloc ?_ _ | refine X.drew ?_)))).y hy' hne; replace hy := hy.trans ((Y.of_x (by (repeat (first | exact X.refl _ | assumption | refine X.ext ?_ _ | refine X.alloc ?_ _ | refine X.drew ?_)))).trans hy'); replace hr := hr'; clear hr' hy' hb hc hf; obtain ⟨hb, hc, hf⟩ := hB.out))
    refine bodyPost_row Tryz.results117 rfl (Bx.set (Bx.set (Bx.set (Bx.set (Bx.set hB 0 _) 1 _) 2 _) 3 _) 4 _) stmt_S rfl rfl ?_
    exact ⟨⟨0, xs, 0, [], 0⟩, rfl, ⟨⟨by first | omega | (simp; done) | (simp; omega), by first | omega | (simp; done) | (simp; omega)⟩, ⟨by first | omega | (simp; done) | (simp; omega), by first | omega | (simp; done) | (simp; omega)⟩, by first | omega | (simp; done) | (simp; omega), by first | omega | (simp; done) | (simp; omega)⟩, by (repeat (first | refine Rdr.set2 ?_ (by first | exact hlt | exact (Nat.lt_of_lt_of_le hlt hw4) | omega) _ | (refine Rdr.weak hr (by omega) (by omega)))), by (repeat (first | refine Y.set2 ?_ (by first | exact Nat.le_refl _ | exact hw4 | omega) _ | exact hy))⟩
  · go_wp2_with ((go_at_call 127; refine (aName_c rb _ _ (hr.x (by (repeat (first | exact X.refl _ | assumption | refine X.ext ?_ _ | refine X.alloc ?_ _ | refine X.drew ?_)))) (by omega)).mono ?_; rintro _ w' ⟨xs, rfl, hxs, hr', hy'⟩; replace hB := (hB.x (by (repeat (first | exact X.refl _ | assumption | refine X.ext ?_ _ | refine X.alloc ?_ _ | refine X.drew ?_)))).y hy' hne; replace hy := hy.trans ((Y.of_x (by (repeat (first | exact X.refl _ | assumption | refine X.ext ?_ _ | refine X.alloc ?_ _ | refine X.drew ?_)))).trans hy'); replace hr := hr'; clear hr' hy' hb hc hf; obtain ⟨hb, hc, hf⟩ := hB.out))
    refine bodyPost_row Tryz.results117 rfl (Bx.set (Bx.set (Bx.set (Bx.set (Bx.set hB 0 _) 1 _) 2 _) 3 _) 4 _) stmt_S rfl rfl ?_
    exact ⟨⟨0, xs, 0, [], 0⟩, rfl, ⟨⟨by first | omega | (simp; done) | (simp; omega), by first | omega | (simp; done) | (simp; omega)⟩, ⟨by first | omega | (simp; done) | (simp; omega), by first | omega | (simp; done) | (simp; omega)⟩, by first | omega | (simp; done) | (simp; omega), by first | omega | (simp; done) | (simp; omega)⟩, by (repeat (first | refine Rdr.set2 ?_ (by first | exact hlt | exact (Nat.lt_of_lt_of_le hlt hw4) | omega) _ | (refine Rdr.weak hr (by omega) (by omega)))), by (repeat (first | refine Y.set2 ?_ (by first | exact Nat.le_refl _ | exact hw4 | omega) _ | exact hy))⟩
  · go_wp2_with (go_at_call 50; refine (one_c rb _ [0, 1, 2, 1] _ _ _ (rb + 1) _ (hr.x (by (repeat (first | exact X.refl _ | assumption | refine X.ext ?_ _ | refine X.alloc ?_ _ | refine X.drew ?_)))) (by omega) (ints_lit rfl (by have := hr.lt; first | omega | (simp; omega)) rfl rfl (by decide)) (by omega) (by decide)).mono ?_; rintro _ w' ⟨n, rfl, hn, hr', hy'⟩; replace hB := (hB.x (by (repeat (first | exact X.refl _ | assumption | refine X.ext ?_ _ | refine X.alloc ?_ _ | refine X.drew ?_)))).y hy' hne; replace hy := hy.trans ((Y.of_x (by (repeat (first | exact X.refl _ | assumption | refine X.ext ?_ _ | refine X.alloc ?_ _ | refine X.drew ?_)))).trans hy'); replace hr := hr'; clear hr' hy' hb hc hf; obtain ⟨hb, hc, hf⟩ := hB.out)
    have hn2 : 0 ≤ n ∧ n ≤ 2 := by
      revert hn
      simp only [List.mem_cons, List.mem_nil_iff, or_false]
      omega
    go_wp2_with (first | (go_at_call 49; refine (pick_c rb _ _ _ (hr.x (by (repeat (first | exact X.refl _ | assumption | refine X.ext ?_ _ | refine X.alloc ?_ _ | refine X.drew ?_)))) (by omega) (by omega)).mono ?_; rintro _ w' ⟨k, rfl, hk, hr', hy'⟩; replace hB := (hB.x (by (repeat (first | exact X.refl _ | assumption | refine X.ext ?_ _ | refine X.alloc ?_ _ | refine X.drew ?_)))).y hy' hne; replace hy := hy.trans ((Y.of_x (by (repeat (first | exact X.refl _ | assumption | refine X.ext ?_ _ | refine X.alloc ?_ _ | refine X.drew ?_)))).trans hy'); replace hr := hr'; clear hr' hy' hb hc hf; obtain ⟨hb, hc, hf⟩ := hB.out) | (go_at_call 101; refine (aPart_c rb _ _ (hr.x (by (repeat (first | exact X.refl _ | assumption | refine X.ext ?_ _ | refine X.alloc ?_ _ | refine X.drew ?_)))) (by omega)).mono ?_; rintro _ w' ⟨xs, rfl, hxs, hr', hy'⟩; replace hB := (hB.x (by (repeat (first | exact X.refl _ | assumption | refine X.ext ?_ _ | refine X.alloc ?_ _ | refine X.drew ?_)))).y hy' hne; replace hy := hy.trans ((Y.of_x (by (repeat (first | exact X.refl _ | assumption | refine X.ext ?_ _ | refine X.alloc ?_ _ | refine X.drew ?_)))).trans hy'); replace hr := hr'; clear hr' hy' hb hc hf; obtain ⟨hb, hc, hf⟩ := hB.out) | (go_at_call 127; refine (aName_c rb _ _ (hr.x (by (repeat (first | exact X.refl _ | assumption | refine X.ext ?_ _ | refine X.alloc ?_ _ | refine X.drew ?_)))) (by omega)).mono ?_; rintro _ w' ⟨ms, rfl, hms, hr', hy'⟩; replace hB := (hB.x (by (repeat (first | exact X.refl _ | assumption | refine X.ext ?_ _ | refine X.alloc ?_ _ | refine X.drew ?_)))).y hy' hne; replace hy := hy.trans ((Y.of_x (by (repeat (first | exact X.refl _ | assumption | refine X.ext ?_ _ | refine X.alloc ?_ _ | refine X.drew ?_)))).trans hy'); replace hr := hr'; clear hr' hy' hb hc hf; obtain ⟨hb, hc, hf⟩ := hB.out))
    all_goals refine bodyPost_row Tryz.results117 rfl (Bx.set (Bx.set (Bx.set (Bx.set (Bx.set hB 0 _) 1 _) 2 _) 3 _) 4 _) stmt_S rfl rfl ?_
    · exact ⟨⟨1, [], n, xs, 0⟩, rfl, ⟨⟨by first | omega | (simp; done) | (simp; omega), by first | omega | (simp; done) | (simp; omega)⟩, ⟨by first | omega | (simp; done) | (simp; omega), by first | omega | (simp; done) | (simp; omega)⟩, by first | omega | (simp; done) | (simp; omega), by first | omega | (simp; done) | (simp; omega)⟩, by (repeat (first | refine Rdr.set2 ?_ (by first | exact hlt | exact (Nat.lt_of_lt_of_le hlt hw4) | omega) _ | (refine Rdr.weak hr (by omega) (by omega)))), by (repeat (first | refine Y.set2 ?_ (by first | exact Nat.le_refl _ | exact hw4 | omega) _ | exact hy))⟩
    · exact ⟨⟨1, ms, n, xs, 0⟩, rfl, ⟨⟨by first | omega | (simp; done) | (simp; omega), by first | omega | (simp; done) | (simp; omega)⟩, ⟨by first | omega | (simp; done) | (simp; omega), by first | omega | (simp; done) | (simp; omega)⟩, by first | omega | (simp; done) | (simp; omega), by first | omega | (simp; done) | (simp; omega)⟩, by (repeat (first | refine Rdr.set2 ?_ (by first | exact hlt | exact (Nat.lt_of_lt_of_le hlt hw4) | omega) _ | (refine Rdr.weak hr (by omega) (by omega)))), by (repeat (first | refine Y.set2 ?_ (by first | exact Nat.le_refl _ | exact hw4 | omega) _ | exact hy))⟩
    · exact ⟨⟨1, ms, n, xs, 0⟩, rfl, ⟨⟨by first | omega | (simp; done) | (simp; omega), by first | omega | (simp; done) | (simp; omega)⟩, ⟨by first | omega | (simp; done) | (simp; omega), by first | omega | (simp; done) | (simp; omega)⟩, by first | omega | (simp; done) | (simp; omega), by first | omega | (simp; done) | (simp; omega)⟩, by (repeat (first | refine Rdr.set2 ?_ (by first | exact hlt | exact (Nat.lt_of_lt_of_le hlt hw4) | omega) _ | (refine Rdr.weak hr (by omega) (by omega)))), by (repeat (first | refine Y.set2 ?_ (by first | exact Nat.le_refl _ | exact hw4 | omega) _ | exact hy))⟩
  · go_wp2_with ((go_at_call 127; refine (aName_c rb _ _ (hr.x (by (repeat (first | exact X.refl _ | assumption | refine X.ext ?_ _ | refine X.alloc ?_ _ | refine X.drew ?_)))) (by omega)).mono ?_; rintro _ w' ⟨xs, rfl, hxs, hr', hy'⟩; replace hB := (hB.x (by (repeat (first | exact X.refl _ | assumption | refine X.ext ?_ _ | refine X.alloc ?_ _ | refine X.drew ?_)))).y hy' hne; replace hy := hy.trans ((Y.of_x (by (repeat (first | exact X.refl _ | assumption | refine X.ext ?_ _ | refine X.alloc ?_ _ | refine X.drew ?_)))).trans hy'); replace hr := hr'; clear hr' hy' hb hc hf; obtain ⟨hb, hc, hf⟩ := hB.out))
    refine bodyPost_row Tryz.results117 rfl (Bx.set (Bx.set (Bx.set (Bx.set (Bx.set hB 0 _) 1 _) 2 _) 3 _) 4 _) stmt_S rfl rfl ?_
    exact ⟨⟨2, xs, 0, [], 0⟩, rfl, ⟨⟨by first | omega | (simp; done) | (simp; omega), by first | omega | (simp; done) | (simp; omega)⟩, ⟨by first | omega | (simp; done) | (simp; omega), by first | omega | (simp; done) | (simp; omega)⟩, by first | omega | (simp; done) | (simp; omega), by first | omega | (simp; done) | (simp; omega)⟩, by (repeat (first | refine Rdr.set2 ?_ (by first | exact hlt | exact (Nat.lt_of_lt_of_le hlt hw4) | omega) _ | (refine Rdr.weak hr (by omega) (by omega)))), by (repeat (first | refine Y.set2 ?_ (by first | exact Nat.le_refl _ | exact hw4 | omega) _ | exact hy))⟩
  · go_wp2_with (first | (go_at_call 49; refine (pick_c rb _ _ _ (hr.x (by (repeat (first | exact X.refl _ | assumption | refine X.ext ?_ _ | refine X.alloc ?_ _ | refine X.drew ?_)))) (by omega) (by omega)).mono ?_; rintro _ w' ⟨k, rfl, hk, hr', hy'⟩; replace hB := (hB.x (by (repeat (first | exact X.refl _ | assumption | refine X.ext ?_ _ | refine X.alloc ?_ _ | refine X.drew ?_)))).y hy' hne; replace hy := hy.trans ((Y.of_x (by (repeat (first | exact X.refl _ | assumption | refine X.ext ?_ _ | refine X.alloc ?_ _ | refine X.drew ?_)))).trans hy'); replace hr := hr'; clear hr' hy' hb hc hf; obtain ⟨hb, hc, hf⟩ := hB.out) | (go_at_call 89; refine (of_c rb _ [[120], [121], [122], [97]] _ _ _ (rb + 1) _ (hr.x (by (repeat (first | exact X.refl _ | assumption | refine X.ext ?_ _ | refine X.alloc ?_ _ | refine X.drew ?_)))) (by omega) (strs_lit rfl (by have := hr.lt; first | omega | (simp; omega)) rfl rfl (by decide) (by decide)) (by omega) (by decide)).mono ?_; rintro _ w' ⟨xs, rfl, hxs, hr', hy'⟩; replace hxs := of_len (n := 10) hxs (by decide); replace hB := (hB.x (by (repeat (first | exact X.refl _ | assumption | refine X.ext ?_ _ | refine X.alloc ?_ _ | refine X.drew ?_)))).y hy' hne; replace hy := hy.trans ((Y.of_x (by (repeat (first | exact X.refl _ | assumption | refine X.ext ?_ _ | refine X.alloc ?_ _ | refine X.drew ?_)))).trans hy'); replace hr := hr'; clear hr' hy' hb hc hf; obtain ⟨hb, hc, hf⟩ := hB.out))
    refine bodyPost_row Tryz.results117 rfl (Bx.set (Bx.set (Bx.set (Bx.set (Bx.set hB 0 _) 1 _) 2 _) 3 _) 4 _) stmt_S rfl rfl ?_
    exact ⟨⟨3, [], 0, xs, (k : Int)⟩, rfl, ⟨⟨by first | omega | (simp; done) | (simp; omega), by first | omega | (simp; done) | (simp; omega)⟩, ⟨by first | omega | (simp; done) | (simp; omega), by first | omega | (simp; done) | (simp; omega)⟩, by first | omega | (simp; done) | (simp; omega), by first | omega | (simp; done) | (simp; omega)⟩, by (repeat (first | refine Rdr.set2 ?_ (by first | exact hlt | exact (Nat.lt_of_lt_of_le hlt hw4) | omega) _ | (refine Rdr.weak hr (by omega) (by omega)))), by (repeat (first | refine Y.set2 ?_ (by first | exact Nat.le_refl _ | exact hw4 | omega) _ | exact hy))⟩
  · go_wp2_with (first | (go_at_call 49; refine (pick_c rb _ _ _ (hr.x (by (repeat (first | exact X.refl _ | assumption | refine X.ext ?_ _ | refine X.alloc ?_ _ | refine X.drew ?_)))) (by omega) (by omega)).mono ?_; rintro _ w' ⟨k, rfl, hk, hr', hy'⟩; replace hB := (hB.x (by (repeat (first | exact X.refl _ | assumption | refine X.ext ?_ _ | refine X.alloc ?_ _ | refine X.drew ?_)))).y hy' hne; replace hy := hy.trans ((Y.of_x (by (repeat (first | exact X.refl _ | assumption | refine X.ext ?_ _ | refine X.alloc ?_ _ | refine X.drew ?_)))).trans hy'); replace hr := hr'; clear hr' hy' hb hc hf; obtain ⟨hb, hc, hf⟩ := hB.out) | (go_at_call 89; refine (of_c rb _ [[120], [121], [122], [97]] _ _ _ (rb + 1) _ (hr.x (by (repeat (first | exact X.refl _ | assumption | refine X.ext ?_ _ | refine X.alloc ?_ _ | refine X.drew ?_)))) (by omega) (strs_lit rfl (by have := hr.lt; first | omega | (simp; omega)) rfl rfl (by decide) (by decide)) (by omega) (by decide)).mono ?_; rintro _ w' ⟨xs, rfl, hxs, hr', hy'⟩; replace hxs := of_len (n := 10) hxs (by decide); replace hB := (hB.x (by (repeat (first | exact X.refl _ | assumption | refine X.ext ?_ _ | refine X.alloc ?_ _ | refine X.drew ?_)))).y hy' hne; replace hy := hy.trans ((Y.of_x (by (repeat (first | exact X.refl _ | assumption | refine X.ext ?_ _ | refine X.alloc ?_ _ | refine X.drew ?_)))).trans hy'); replace hr := hr'; clear hr' hy' hb hc hf; obtain ⟨hb, hc, hf⟩ := hB.out))
    refine bodyPost_row Tryz.results117 rfl (Bx.set (Bx.set (Bx.set (Bx.set (Bx.set hB 0 _) 1 _) 2 _) 3 _) 4 _) stmt_S rfl rfl ?_
    exact ⟨⟨3, [], 0, xs, (k : Int)⟩, rfl, ⟨⟨by first | omega | (simp; done) | (simp; omega), by first | omega | (simp; done) | (simp; omega)⟩, ⟨by first | omega | (simp; done) | (simp; omega), by first | omega | (simp; done) | (simp; omega)⟩, by first | omega | (simp; done) | (simp; omega), by first | omega | (simp; done) | (simp; omega)⟩, by (repeat (first | refine Rdr.set2 ?_ (by first | exact hlt | exact (Nat.lt_of_lt_of_le hlt hw4) | omega) _ | (refine Rdr.weak hr (by omega) (by omega)))), by (repeat (first | refine Y.set2 ?_ (by first | exact Nat.le_refl _ | exact hw4 | omega) _ | exact hy))⟩
  · go_wp2_with (first | (go_at_call 49; refine (pick_c rb _ _ _ (hr.x (by (repeat (first | exact X.refl _ | assumption | refine X.ext ?_ _ | refine X.alloc ?_ _ | refine X.drew ?_)))) (by omega) (by omega)).mono ?_; rintro _ w' ⟨k, rfl, hk, hr', hy'⟩; replace hB := (hB.x (by (repeat (first | exact X.refl _ | assumption | refine X.ext ?_ _ | refine X.alloc ?_ _ | refine X.drew ?_)))).y hy' hne; replace hy := hy.trans ((Y.of_x (by (repeat (first | exact X.refl _ | assumption | refine X.ext ?_ _ | refine X.alloc ?_ _ | refine X.drew ?_)))).trans hy'); replace hr := hr'; clear hr' hy' hb hc hf; obtain ⟨hb, hc, hf⟩ := hB.out) | (go_at_call 89; refine (of_c rb _ [[120], [121], [122], [97]] _ _ _ (rb + 1) _ (hr.x (by (repeat (first | exact X.refl _ | assumption | refine X.ext ?_ _ | refine X.alloc ?_ _ | refine X.drew ?_)))) (by omega) (strs_lit rfl (by have := hr.lt; first | omega | (simp; omega)) rfl rfl (by decide) (by decide)) (by omega) (by decide)).mono ?_; rintro _ w' ⟨xs, rfl, hxs, hr', hy'⟩; replace hxs := of_len (n := 10) hxs (by decide); replace hB := (hB.x (by (repeat (first | exact X.refl _ | assumption | refine X.ext ?_ _ | refine X.alloc ?_ _ | refine X.drew ?_)))).y hy' hne; replace hy := hy.trans ((Y.of_x (by (repeat (first | exact X.refl _ | assumption | refine X.ext ?_ _ | refine X.alloc ?_ _ | refine X.drew ?_)))).trans hy'); replace hr := hr'; clear hr' hy' hb hc hf; obtain ⟨hb, hc, hf⟩ := hB.out))
    refine bodyPost_row Tryz.results117 rfl (Bx.set (Bx.set (Bx.set (Bx.set (Bx.set hB 0 _) 1 _) 2 _) 3 _) 4 _) stmt_S rfl rfl ?_
    exact ⟨⟨3, [], 0, xs, (k : Int)⟩, rfl, ⟨⟨by first | omega | (simp; done) | (simp; omega), by first | omega | (simp; done) | (simp; omega)⟩, ⟨by first | omega | (simp; done) | (simp; omega), by first | omega | (simp; done) | (simp; omega)⟩, by first | omega | (simp; done) | (simp; omega), by first | omega | (simp; done) | (simp; omega)⟩, by (repeat (first | refine Rdr.set2 ?_ (by first | exact hlt | exact (Nat.lt_of_lt_of_le hlt hw4) | omega) _ | (refine Rdr.weak hr (by omega) (by omega)))), by (repeat (first | refine Y.set2 ?_ (by first | exact Nat.le_refl _ | exact hw4 | omega) _ | exact hy))⟩
  · go_wp2_with (go_at_call 89; refine (of_c rb _ [[120], [121], [97], [98], [120]] _ _ _ (rb + 1) _ (hr.x (by (repeat (first | exact X.refl _ | assumption | refine X.ext ?_ _ | refine X.alloc ?_ _ | refine X.drew ?_)))) (by omega) (strs_lit rfl (by have := hr.lt; first | omega | (simp; omega)) rfl rfl (by decide) (by decide)) (by omega) (by decide)).mono ?_; rintro _ w' ⟨xs, rfl, hxs, hr', hy'⟩; replace hxs := of_len (n := 10) hxs (by decide); replace hB := (hB.x (by (repeat (first | exact X.refl _ | assumption | refine X.ext ?_ _ | refine X.alloc ?_ _ | refine X.drew ?_)))).y hy' hne; replace hy := hy.trans ((Y.of_x (by (repeat (first | exact X.refl _ | assumption | refine X.ext ?_ _ | refine X.alloc ?_ _ | refine X.drew ?_)))).trans hy'); replace hr := hr'; clear hr' hy' hb hc hf; obtain ⟨hb, hc, hf⟩ := hB.out)
    refine bodyPost_row Tryz.results117 rfl (Bx.set (Bx.set (Bx.set (Bx.set (Bx.set hB 0 _) 1 _) 2 _) 3 _) 4 _) stmt_S rfl rfl ?_
    exact ⟨⟨4, [], 0, xs, 0⟩, rfl, ⟨⟨by first | omega | (simp; done) | (simp; omega), by first | omega | (simp; done) | (simp; omega)⟩, ⟨by first | omega | (simp; done) | (simp; omega), by first | omega | (simp; done) | (simp; omega)⟩, by first | omega | (simp; done) | (simp; omega), by first | omega | (simp; done) | (simp; omega)⟩, by (repeat (first | refine Rdr.set2 ?_ (by first | exact hlt | exact (Nat.lt_of_lt_of_le hlt hw4) | omega) _ | (refine Rdr.weak hr (by omega) (by omega)))), by (repeat (first | refine Y.set2 ?_ (by first | exact Nat.le_refl _ | exact hw4 | omega) _ | exact hy))⟩
  · go_wp2_with ((go_at_call 49; refine (pick_c rb _ _ _ (hr.x (by (repeat (first | exact X.refl _ | assumption | refine X.ext ?_ _ | refine X.alloc ?_ _ | refine X.drew ?_)))) (by omega) (by omega)).mono ?_; rintro _ w' ⟨k, rfl, hk, hr', hy'⟩; replace hB := (hB.x (by (repeat (first | exact X.refl _ | assumption | refine X.ext ?_ _ | refine X.alloc ?_ _ | refine X.drew ?_)))).y hy' hne; replace hy := hy.trans ((Y.of_x (by (repeat (first | exact X.refl _ | assumption | refine X.ext ?_ _ | refine X.alloc ?_ _ | refine X.drew ?_)))).trans hy'); replace hr := hr'; clear hr' hy' hb hc hf; obtain ⟨hb, hc, hf⟩ := hB.out))
    · refine bodyPost_row Tryz.results117 rfl (Bx.set (Bx.set (Bx.set (Bx.set (Bx.set hB 0 _) 1 _) 2 _) 3 _) 4 _) stmt_S rfl rfl ?_
      exact ⟨⟨5, [], 0, [], 0⟩, rfl, ⟨⟨by first | omega | (simp; done) | (simp; omega), by first | omega | (simp; done) | (simp; omega)⟩, ⟨by first | omega | (simp; done) | (simp; omega), by first | omega | (simp; done) | (simp; omega)⟩, by first | omega | (simp; done) | (simp; omega), by first | omega | (simp; done) | (simp; omega)⟩, by (repeat (first | refine Rdr.set2 ?_ (by first | exact hlt | exact (Nat.lt_of_lt_of_le hlt hw4) | omega) _ | (refine Rdr.weak hr (by omega) (by omega)))), by (repeat (first | refine Y.set2 ?_ (by first | exact Nat.le_refl _ | exact hw4 | omega) _ | exact hy))⟩
    · refine bodyPost_row Tryz.results117 rfl (Bx.set (Bx.set (Bx.set (Bx.set (Bx.set hB 0 _) 1 _) 2 _) 3 _) 4 _) stmt_S rfl rfl ?_
      exact ⟨⟨3, [], 0, [120], (k : Int)⟩, rfl, ⟨⟨by first | omega | (simp; done) | (simp; omega), by first | omega | (simp; done) | (simp; omega)⟩, ⟨by first | omega | (simp; done) | (simp; omega), by first | omega | (simp; done) | (simp; omega)⟩, by first | omega | (simp; done) | (simp; omega), by first | omega | (simp; done) | (simp; omega)⟩, by (repeat (first | refine Rdr.set2 ?_ (by first | exact hlt | exact (Nat.lt_of_lt_of_le hlt hw4) | omega) _ | (refine Rdr.weak hr (by omega) (by omega)))), by (repeat (first | refine Y.set2 ?_ (by first | exact Nat.le_refl _ | exact hw4 | omega) _ | exact hy))⟩
set_option maxRecDepth 100000 in
set_option maxHeartbeats 1000000 in
theorem someBody_n (rb m : Nat) (w : World) (hr : Rdr w rb m) (hm : m + 60 ≤ 1000000000) :
    Calls Tryz.prog 100 #[.pointer (some ⟨rb, 0, none⟩)] w fun e w' => ∃ (l : List St) (a : Option Addr) (c : Nat), e = .returned (.slice a l.length c) ∧ w'.ownsRow w.heap.size 53 5 (.slice a l.length c) l.length (l.flatMap scells) ∧
      (l.length ≤ 4 ∧ ∀ s ∈ l, NmS s) ∧ Rdr w' rb (m + 60) ∧ Y rb w w' := by
  have hlt := hr.lt
  have hown : (w.alloc (.cells #[] 53)).ownsRow w.heap.size 53 5 (.slice (some ⟨w.heap.size, 0, none⟩) 0 0) 0 [] := own_lit (cs := #[]) rfl (Nat.le_refl _) rfl (by omega)
  have hy : Y rb w (w.alloc (.cells #[] 53)) := Y.of_x (by (repeat (first | exact X.refl _ | assumption | refine X.ext ?_ _ | refine X.alloc ?_ _ | refine X.drew ?_)))
  replace hr : Rdr (w.alloc (.cells #[] 53)) rb m := hr.x (by (repeat (first | exact X.refl _ | assumption | refine X.ext ?_ _ | refine X.alloc ?_ _ | refine X.drew ?_)))
  go_enter Tryz.func100, Tryz.ntmps100
  go_wp2_with fail
  refine (pick_c rb _ _ _ hr (by omega) (by omega)).mono ?_
  rintro _ w1 ⟨k, rfl, hk, hr', hy'⟩
  replace hown := own_fr hown (hy'.fr.mono (by omega))
  replace hy := hy.trans ((Y.of_x (by (repeat (first | exact X.refl _ | assumption | refine X.ext ?_ _ | refine X.alloc ?_ _ | refine X.drew ?_)))).trans hy'); replace hr := hr'; clear hr' hy'
  go_wp2_with fail
  refine (one_c rb _ [2, 1, 3, 0, 4] _ _ _ (rb + 1) _ (hr.x (by (repeat (first | exact X.refl _ | assumption | refine X.ext ?_ _ | refine X.alloc ?_ _ | refine X.drew ?_)))) (by omega) (ints_lit rfl (by have := hr.lt; omega) rfl rfl (by decide)) (by omega) (by decide)).mono ?_
  rintro _ w2 ⟨n, rfl, hn, hr', hy'⟩
  replace hown := own_fr (own_fr hown (X.fr (X.alloc (X.refl _) _) _)) (hy'.fr.mono (by omega))
  replace hy := hy.trans ((Y.of_x (by (repeat (first | exact X.refl _ | assumption | refine X.ext ?_ _ | refine X.alloc ?_ _ | refine X.drew ?_)))).trans hy'); replace hr := hr'; clear hr' hy'
  obtain ⟨N, rfl, hN⟩ : ∃ N : Nat, n = N ∧ N ≤ 4 := ⟨n.toNat, by revert hn; simp only [List.mem_cons, List.mem_nil_iff, or_false]; omega, by revert hn; simp only [List.mem_cons, List.mem_nil_iff, or_false]; omega⟩
  clear hn
  clear hk
  go_wp2
  generalize ((k : Int) == 0) = pl

  cases pl
  · go_loopw [3, 5] (fun v i wr => ∃ (k : Nat) (l : List St) (a : Option Addr) (c : Nat), k ≤ N ∧ i = .int .i64 k ∧ v = .slice a l.length c ∧ l.length ≤ N - k ∧ (∀ s ∈ l, NmS s) ∧
        wr.ownsRow w.heap.size 53 5 (.slice a l.length c) l.length (l.flatMap scells) ∧ Rdr wr rb (m + 2 + (N - k) * 13) ∧ Y rb w wr) (fun _ i _ => (intOf i).toNat)
    case atStart => exact ⟨N, [], _, _, Nat.le_refl _, rfl, rfl, by simp, by simp, hown, hr.weak (by omega) (by omega), hy⟩
    case round =>
      obtain ⟨j, l, a, c, hj, rfl, rfl, hl, hok, hown, hr, hy⟩ := hrel
      by_cases h0 : 0 < j
      · go_wp2_with fail
        refine (someStmt_n rb _ _ hr (by omega)).mono ?_
        rintro _ w3 ⟨s, rfl, hs1, hr', hy'⟩
        replace hown := own_fr hown (hy'.fr.mono (by omega))
        replace hy := hy.trans ((Y.of_x (by (repeat (first | exact X.refl _ | assumption | refine X.ext ?_ _ | refine X.alloc ?_ _ | refine X.drew ?_)))).trans hy'); replace hr := hr'; clear hr' hy'
        have hB := Bx.new w3 #[.int .i64 s.kind, .string ⟨(s.mod).toArray⟩, .int .i64 s.level, .string ⟨(s.name).toArray⟩, .int .i64 s.val] 53
        have hlt3 := hr.lt
        have hne : w3.heap.size ≠ rb := by omega
        have hw3 := hy.size
        have hX3 : Y rb w3 (w3.alloc (.cells #[.int .i64 s.kind, .string ⟨(s.mod).toArray⟩, .int .i64 s.level, .string ⟨(s.name).toArray⟩, .int .i64 s.val] 53)) := Y.of_x (by (repeat (first | exact X.refl _ | assumption | refine X.ext ?_ _ | refine X.alloc ?_ _ | refine X.drew ?_)))
        have Hpost := Lib.hid (show ∀ (t : St) (a' : Option Addr) (c' : Nat) (W : World), NmS t → W.ownsRow w.heap.size 53 5 (.slice a' (l.length + 1) c') (l.length + 1) (l.flatMap scells ++ scells t) → Rdr W rb (m + 2 + (N - j) * 13 + 13) → Y rb w W →
            ∃ (l' : List St), l'.length = l.length + 1 ∧ l'.length ≤ N - (j - 1) ∧ (∀ s ∈ l', NmS s) ∧ W.ownsRow w.heap.size 53 5 (.slice a' l'.length c') l'.length (l'.flatMap scells) ∧ Rdr W rb (m + 2 + (N - (j - 1)) * 13) ∧ Y rb w W from
          fun t a' c' W ht ho hr hy => ⟨l ++ [t], by simp, by simp; omega, fun s hs => by
            rcases List.mem_append.1 hs with hs | hs
            · exact hok s hs
            · rw [List.mem_singleton.1 hs]; exact ht, by rw [flat_snoc, List.length_append]; exact ho, hr.weak (by omega) (by omega), hy⟩)
        go_wp2_with (at_builtin; refine wpList_append_y stmt_T rfl _ _ rfl (w0 := w) (rb := rb) (m := m + 2 + (N - j) * 13 + 13) (B := w.heap.size) (own_fr hown (X.fr (X.alloc (X.refl _) _) _)) rfl rfl (by simp) rfl ?_ ?_ ?_ (hr.weak2 (by (repeat (first | exact X.refl _ | assumption | refine X.ext ?_ _ | refine X.alloc ?_ _ | refine X.drew ?_))) (by omega) (by omega)) (hy.trans (Y.of_x (by (repeat (first | exact X.refl _ | assumption | refine X.ext ?_ _ | refine X.alloc ?_ _ | refine X.drew ?_))))) (Nat.le_refl _) hlt ?_ ?_)
        · simp [Value.oneCell']
        · omega
        · omega
        · simp; omega
        · intro a' c' w' ho hr' hy' _
          obtain ⟨l', hl', h1, h2, h3, h4, h5⟩ := Hpost.out s a' c' w' (by first | exact hs1 | (refine ⟨⟨by simp, by simp⟩, ⟨by simp, by simp⟩, ?_, ?_⟩ <;> simp <;> omega)) (by simpa [scells] using ho) hr' hy'
          go_wp2
          go_roundw
          case rel => exact ⟨j - 1, l', a', c', by omega, by go_num, by rw [hl'], h1, h2, h3, h4, h5⟩
          case measure => simp [intOf]; omega
      · go_wp2
        go_ret
        exact ⟨l, a, c, rfl, hown, ⟨by omega, hok⟩, hr.weak (by omega) (by omega), hy⟩

  · go_loopw [3, 5] (fun v i wr => ∃ (k : Nat) (l : List St) (a : Option Addr) (c : Nat), k ≤ N ∧ i = .int .i64 k ∧ v = .slice a l.length c ∧ l.length ≤ N - k ∧ (∀ s ∈ l, NmS s) ∧
        wr.ownsRow w.heap.size 53 5 (.slice a l.length c) l.length (l.flatMap scells) ∧ Rdr wr rb (m + 2 + (N - k) * 13) ∧ Y rb w wr) (fun _ i _ => (intOf i).toNat)
    case atStart => exact ⟨N, [], _, _, Nat.le_refl _, rfl, rfl, by simp, by simp, hown, hr.weak (by omega) (by omega), hy⟩
    case round =>
      obtain ⟨j, l, a, c, hj, rfl, rfl, hl, hok, hown, hr, hy⟩ := hrel
      by_cases h0 : 0 < j
      · go_wp2_with fail
        refine (someStmt_n rb _ _ hr (by omega)).mono ?_
        rintro _ w3 ⟨s, rfl, hs1, hr', hy'⟩
        replace hown := own_fr hown (hy'.fr.mono (by omega))
        replace hy := hy.trans ((Y.of_x (by (repeat (first | exact X.refl _ | assumption | refine X.ext ?_ _ | refine X.alloc ?_ _ | refine X.drew ?_)))).trans hy'); replace hr := hr'; clear hr' hy'
        have hB := Bx.new w3 #[.int .i64 s.kind, .string ⟨(s.mod).toArray⟩, .int .i64 s.level, .string ⟨(s.name).toArray⟩, .int .i64 s.val] 53
        have hlt3 := hr.lt
        have hne : w3.heap.size ≠ rb := by omega
        have hw3 := hy.size
        have hX3 : Y rb w3 (w3.alloc (.cells #[.int .i64 s.kind, .string ⟨(s.mod).toArray⟩, .int .i64 s.level, .string ⟨(s.name).toArray⟩, .int .i64 s.val] 53)) := Y.of_x (by (repeat (first | exact X.refl _ | assumption | refine X.ext ?_ _ | refine X.alloc ?_ _ | refine X.drew ?_)))
        have Hpost := Lib.hid (show ∀ (t : St) (a' : Option Addr) (c' : Nat) (W : World), NmS t → W.ownsRow w.heap.size 53 5 (.slice a' (l.length + 1) c') (l.length + 1) (l.flatMap scells ++ scells t) → Rdr W rb (m + 2 + (N - j) * 13 + 13) → Y rb w W →
            ∃ (l' : List St), l'.length = l.length + 1 ∧ l'.length ≤ N - (j - 1) ∧ (∀ s ∈ l', NmS s) ∧ W.ownsRow w.heap.size 53 5 (.slice a' l'.length c') l'.length (l'.flatMap scells) ∧ Rdr W rb (m + 2 + (N - (j - 1)) * 13) ∧ Y rb w W from
          fun t a' c' W ht ho hr hy => ⟨l ++ [t], by simp, by simp; omega, fun s hs => by
            rcases List.mem_append.1 hs with hs | hs
            · exact hok s hs
            · rw [List.mem_singleton.1 hs]; exact ht, by rw [flat_snoc, List.length_append]; exact ho, hr.weak (by omega) (by omega), hy⟩)
        go_wp2_with (at_builtin; refine wpList_append_y stmt_T rfl _ _ rfl (w0 := w) (rb := rb) (m := m + 2 + (N - j) * 13 + 13) (B := w.heap.size) (own_fr hown (X.fr (X.alloc (X.refl _) _) _)) rfl rfl (by simp) rfl ?_ ?_ ?_ (hr.weak2 (by (repeat (first | exact X.refl _ | assumption | refine X.ext ?_ _ | refine X.alloc ?_ _ | refine X.drew ?_))) (by omega) (by omega)) (hy.trans (Y.of_x (by (repeat (first | exact X.refl _ | assumption | refine X.ext ?_ _ | refine X.alloc ?_ _ | refine X.drew ?_))))) (Nat.le_refl _) hlt ?_ ?_)
        · refine (pick_c rb _ _ _ (hr.x (by (repeat (first | exact X.refl _ | assumption | refine X.ext ?_ _ | refine X.alloc ?_ _ | refine X.drew ?_)))) (by omega) (by omega)).mono ?_
          rintro _ w4 ⟨k2, rfl, hk2, hr', hy'⟩
          have hB4 := Bx.y (Bx.new w3 _ _) hy' hne
          obtain ⟨hb, hc, hf⟩ := hB4.out
          have hy3 : Y rb w3 w4 := (Y.of_x (by (repeat (first | exact X.refl _ | assumption | refine X.ext ?_ _ | refine X.alloc ?_ _ | refine X.drew ?_)))).trans hy'
          replace hy := hy.trans ((Y.of_x (by (repeat (first | exact X.refl _ | assumption | refine X.ext ?_ _ | refine X.alloc ?_ _ | refine X.drew ?_)))).trans hy'); replace hr := hr'; clear hr' hy'
          go_wp2_with (at_builtin; refine wpList_append_y stmt_T rfl _ _ rfl (w0 := w) (rb := rb) (m := m + 2 + (N - j) * 13 + 13) (B := w.heap.size) (own_fr hown ((Y.fr (rb := rb) (by (repeat (first | refine Y.set2 ?_ (Nat.le_refl _) _ | exact hy3)))).mono (by omega))) rfl rfl (by simp) rfl ?_ ?_ ?_ ((by (repeat (first | refine Rdr.set2 ?_ (by first | exact hlt | exact (Nat.lt_of_lt_of_le hlt hw4) | omega) _ | (refine Rdr.weak hr (by omega) (by omega)))))) ((by (repeat (first | refine Y.set2 ?_ (by first | exact Nat.le_refl _ | exact hw4 | omega) _ | exact hy)))) (Nat.le_refl _) hlt ?_ ?_)
          · simp [Value.oneCell']
          · omega
          · omega
          · simp; omega
          · intro a' c' w' ho hr' hy' _
            obtain ⟨l', hl', h1, h2, h3, h4, h5⟩ := Hpost.out ⟨3, [], 0, [121], (k2 : Int)⟩ a' c' w' (by first | exact hs1 | (refine ⟨⟨by simp, by simp⟩, ⟨by simp, by simp⟩, ?_, ?_⟩ <;> simp <;> omega)) (by simpa [scells] using ho) hr' hy'
            go_wp2
            go_roundw
            case rel => exact ⟨j - 1, l', a', c', by omega, by go_num, by rw [hl'], h1, h2, h3, h4, h5⟩
            case measure => simp [intOf]; omega
        · refine (pick_c rb _ _ _ (hr.x (by (repeat (first | exact X.refl _ | assumption | refine X.ext ?_ _ | refine X.alloc ?_ _ | refine X.drew ?_)))) (by omega) (by omega)).mono ?_
          rintro _ w4 ⟨k2, rfl, hk2, hr', hy'⟩
          have hB4 := Bx.y (Bx.new w3 _ _) hy' hne
          obtain ⟨hb, hc, hf⟩ := hB4.out
          have hy3 : Y rb w3 w4 := (Y.of_x (by (repeat (first | exact X.refl _ | assumption | refine X.ext ?_ _ | refine X.alloc ?_ _ | refine X.drew ?_)))).trans hy'
          replace hy := hy.trans ((Y.of_x (by (repeat (first | exact X.refl _ | assumption | refine X.ext ?_ _ | refine X.alloc ?_ _ | refine X.drew ?_)))).trans hy'); replace hr := hr'; clear hr' hy'
          go_wp2_with (at_builtin; refine wpList_append_y stmt_T rfl _ _ rfl (w0 := w) (rb := rb) (m := m + 2 + (N - j) * 13 + 13) (B := w.heap.size) (own_fr hown ((Y.fr (rb := rb) (by (repeat (first | refine Y.set2 ?_ (Nat.le_refl _) _ | exact hy3)))).mono (by omega))) rfl rfl (by simp) rfl ?_ ?_ ?_ ((by (repeat (first | refine Rdr.set2 ?_ (by first | exact hlt | exact (Nat.lt_of_lt_of_le hlt hw4) | omega) _ | (refine Rdr.weak hr (by omega) (by omega)))))) ((by (repeat (first | refine Y.set2 ?_ (by first | exact Nat.le_refl _ | exact hw4 | omega) _ | exact hy)))) (Nat.le_refl _) hlt ?_ ?_)
          · simp [Value.oneCell']
          · omega
          · omega
          · simp; omega
          · intro a' c' w' ho hr' hy' _
            obtain ⟨l', hl', h1, h2, h3, h4, h5⟩ := Hpost.out ⟨3, [], 0, [121], (k2 : Int)⟩ a' c' w' (by first | exact hs1 | (refine ⟨⟨by simp, by simp⟩, ⟨by simp, by simp⟩, ?_, ?_⟩ <;> simp <;> omega)) (by simpa [scells] using ho) hr' hy'
            go_wp2
            go_roundw
            case rel => exact ⟨j - 1, l', a', c', by omega, by go_num, by rw [hl'], h1, h2, h3, h4, h5⟩
            case measure => simp [intOf]; omega
        · refine (pick_c rb _ _ _ (hr.x (by (repeat (first | exact X.refl _ | assumption | refine X.ext ?_ _ | refine X.alloc ?_ _ | refine X.drew ?_)))) (by omega) (by omega)).mono ?_
          rintro _ w4 ⟨k2, rfl, hk2, hr', hy'⟩
          have hB4 := Bx.y (Bx.new w3 _ _) hy' hne
          obtain ⟨hb, hc, hf⟩ := hB4.out
          have hy3 : Y rb w3 w4 := (Y.of_x (by (repeat (first | exact X.refl _ | assumption | refine X.ext ?_ _ | refine X.alloc ?_ _ | refine X.drew ?_)))).trans hy'
          replace hy := hy.trans ((Y.of_x (by (repeat (first | exact X.refl _ | assumption | refine X.ext ?_ _ | refine X.alloc ?_ _ | refine X.drew ?_)))).trans hy'); replace hr := hr'; clear hr' hy'
          go_wp2_with (at_builtin; refine wpList_append_y stmt_T rfl _ _ rfl (w0 := w) (rb := rb) (m := m + 2 + (N - j) * 13 + 13) (B := w.heap.size) (own_fr hown ((Y.fr (rb := rb) (by (repeat (first | refine Y.set2 ?_ (Nat.le_refl _) _ | exact hy3)))).mono (by omega))) rfl rfl (by simp) rfl ?_ ?_ ?_ ((by (repeat (first | refine Rdr.set2 ?_ (by first | exact hlt | exact (Nat.lt_of_lt_of_le hlt hw4) | omega) _ | (refine Rdr.weak hr (by omega) (by omega)))))) ((by (repeat (first | refine Y.set2 ?_ (by first | exact Nat.le_refl _ | exact hw4 | omega) _ | exact hy)))) (Nat.le_refl _) hlt ?_ ?_)
          · simp [Value.oneCell']
          · omega
          · omega
          · simp; omega
          · intro a' c' w' ho hr' hy' _
            obtain ⟨l', hl', h1, h2, h3, h4, h5⟩ := Hpost.out ⟨3, [], 0, [121], (k2 : Int)⟩ a' c' w' (by first | exact hs1 | (refine ⟨⟨by simp, by simp⟩, ⟨by simp, by simp⟩, ?_, ?_⟩ <;> simp <;> omega)) (by simpa [scells] using ho) hr' hy'
            go_wp2
            go_roundw
            case rel => exact ⟨j - 1, l', a', c', by omega, by go_num, by rw [hl'], h1, h2, h3, h4, h5⟩
            case measure => simp [intOf]; omega
        · simp [Value.oneCell']
        · omega
        · omega
        · simp; omega
        · intro a' c' w' ho hr' hy' _
          obtain ⟨l', hl', h1, h2, h3, h4, h5⟩ := Hpost.out s a' c' w' (by first | exact hs1 | (refine ⟨⟨by simp, by simp⟩, ⟨by simp, by simp⟩, ?_, ?_⟩ <;> simp <;> omega)) (by simpa [scells] using ho) hr' hy'
          go_wp2
          go_roundw
          case rel => exact ⟨j - 1, l', a', c', by omega, by go_num, by rw [hl'], h1, h2, h3, h4, h5⟩
          case measure => simp [intOf]; omega
      · go_wp2
        go_ret
        exact ⟨l, a, c, rfl, hown, ⟨by omega, hok⟩, hr.weak (by omega) (by omega), hy⟩
set_option maxRecDepth 100000 in
set_option maxHeartbeats 2000000 in
theorem someFile_n (rb m : Nat) (w : World) (hr : Rdr w rb m) (hm : m + 70 ≤ 1000000000) :
    Calls Tryz.prog 74 #[.pointer (some ⟨rb, 0, none⟩)] w fun e w' => ∃ (f : Fi) (ba : Option Addr) (bc : Nat), e = .returned (.agg #[.int .i64 (f).root, .string ⟨(f).pkg.toArray⟩, .string ⟨(f).name.toArray⟩, .bool (f).init, .int .i64 (f).stamp, .slice ba f.body.length bc]) ∧ w'.ownsRow w.heap.size 53 5 (.slice ba f.body.length bc) f.body.length (f.body.flatMap scells) ∧
      (f.pkg.length ≤ 20 ∧ f.name.length ≤ 20 ∧ (f.body.length ≤ 4 ∧ NmF f)) ∧ Rdr w' rb (m + 70) ∧ Y rb w w' := by
  have hlt := hr.lt
  have hy : Y rb w (w.alloc (.cells #[.int .i64 0, .string ⟨#[]⟩, .string ⟨#[]⟩, .bool false, .int .i64 0, .slice none 0 0] 36)) := Y.of_x (by (repeat (first | exact X.refl _ | assumption | refine X.ext ?_ _ | refine X.alloc ?_ _ | refine X.drew ?_)))
  have hBr := Bx.new w #[.int .i64 0, .string ⟨#[]⟩, .string ⟨#[]⟩, .bool false, .int .i64 0, .slice none 0 0] 36
  have hner : w.heap.size ≠ rb := by omega
  replace hr := hr.x (w' := (w.alloc (.cells #[.int .i64 0, .string ⟨#[]⟩, .string ⟨#[]⟩, .bool false, .int .i64 0, .slice none 0 0] 36))) (by (repeat (first | exact X.refl _ | assumption | refine X.ext ?_ _ | refine X.alloc ?_ _ | refine X.drew ?_)))
  go_enter Tryz.func74, Tryz.ntmps74
  go_wp2_with fail
  refine (one_c rb _ [0, 0, 1, 2, 1] _ _ _ (rb + 1) _ (hr.x (by (repeat (first | exact X.refl _ | assumption | refine X.ext ?_ _ | refine X.alloc ?_ _ | refine X.drew ?_)))) (by omega) (ints_lit (by simp) (by omega) rfl rfl (by decide)) (by omega) (by decide)).mono ?_
  rintro _ w1 ⟨n, rfl, hn, hr', hy'⟩
  replace hBr := (hBr.x (by (repeat (first | exact X.refl _ | assumption | refine X.ext ?_ _ | refine X.alloc ?_ _ | refine X.drew ?_)))).y hy' hner
  replace hy := hy.trans ((Y.of_x (by (repeat (first | exact X.refl _ | assumption | refine X.ext ?_ _ | refine X.alloc ?_ _ | refine X.drew ?_)))).trans hy'); replace hr := hr'; clear hr' hy'
  have hn2 : 0 ≤ n ∧ n ≤ 99 := by
    revert hn
    simp only [List.mem_cons, List.mem_nil_iff, or_false]
    omega
  clear hn
  go_wp2_with fail
  refine (pick_c rb _ _ _ hr (by omega) (by omega)).mono ?_
  rintro _ w2 ⟨k, rfl, hk, hr', hy'⟩
  replace hBr := hBr.y hy' hner
  replace hy := hy.trans ((Y.of_x (by (repeat (first | exact X.refl _ | assumption | refine X.ext ?_ _ | refine X.alloc ?_ _ | refine X.drew ?_)))).trans hy'); replace hr := hr'; clear hr' hy'
  have hk2 : 0 ≤ (k : Int) ∧ (k : Int) ≤ 99 := by omega
  clear hk
  go_wp2_with fail
  have hBr2 := hBr
  refine (someBody_n rb _ _ hr (by omega)).mono ?_
  rintro _ w4 ⟨body, ba, bc, rfl, hown, hbody, hr', hy'⟩
  replace hBr := hBr.y hy' hner
  replace hown := own_less hown (B' := w.heap.size + 1) (by have := hBr2.lt; omega)
  replace hy := hy.trans ((Y.of_x (by (repeat (first | exact X.refl _ | assumption | refine X.ext ?_ _ | refine X.alloc ?_ _ | refine X.drew ?_)))).trans hy'); replace hr := hr'; clear hr' hy'
  have hw4 := hy.size
  have hfr : w.heap.size ≠ w4.heap.size := Nat.ne_of_lt hBr.lt
  have hnef : w4.heap.size ≠ rb := by omega
  have hBf := Bx.new w4 #[.int .i64 n, .string ⟨#[]⟩, .string ⟨#[]⟩, .bool false, .int .i64 (k : Int), .slice ba body.length bc] 36
  replace hBr := hBr.x (w' := (w4.alloc (.cells #[.int .i64 n, .string ⟨#[]⟩, .string ⟨#[]⟩, .bool false, .int .i64 (k : Int), .slice ba body.length bc] 36))) (by (repeat (first | exact X.refl _ | assumption | refine X.ext ?_ _ | refine X.alloc ?_ _ | refine X.drew ?_)))
  replace hy := hy.trans (Y.of_x (w' := (w4.alloc (.cells #[.int .i64 n, .string ⟨#[]⟩, .string ⟨#[]⟩, .bool false, .int .i64 (k : Int), .slice ba body.length bc] 36))) (by (repeat (first | exact X.refl _ | assumption | refine X.ext ?_ _ | refine X.alloc ?_ _ | refine X.drew ?_))))
  replace hr := hr.x (w' := (w4.alloc (.cells #[.int .i64 n, .string ⟨#[]⟩, .string ⟨#[]⟩, .bool false, .int .i64 (k : Int), .slice ba body.length bc] 36))) (by (repeat (first | exact X.refl _ | assumption | refine X.ext ?_ _ | refine X.alloc ?_ _ | refine X.drew ?_)))
  have hy4 : Y rb w4 (w4.alloc (.cells #[.int .i64 n, .string ⟨#[]⟩, .string ⟨#[]⟩, .bool false, .int .i64 (k : Int), .slice ba body.length bc] 36)) := Y.of_x (by (repeat (first | exact X.refl _ | assumption | refine X.ext ?_ _ | refine X.alloc ?_ _ | refine X.drew ?_)))
  obtain ⟨hb, hc, hf⟩ := hBf.out
  go_wp2_with fail
  refine (pick_c rb _ _ _ hr (by omega) (by omega)).mono ?_
  rintro _ w' ⟨q, rfl, hq, hr', hy'⟩
  replace hBf := Bx.y (rb := rb) (by (first | exact hBf | exact Bx.set hBf _ _ | exact Bx.far hBf hfr _ | exact Bx.set (Bx.set hBf _ _) _ _ | exact Bx.far (Bx.far hBf hfr _) hfr _)) hy' hnef; replace hBr := Bx.y (rb := rb) (by (first | exact hBr | exact Bx.set hBr _ _ | exact Bx.far hBr hfr _ | exact Bx.set (Bx.set hBr _ _) _ _ | exact Bx.far (Bx.far hBr hfr _) hfr _)) hy' hner; replace hy4 := Y.trans (rb := rb) (by (first | exact hy4 | exact Y.set2 hy4 (Nat.le_refl _) _ | exact Y.set2 (Y.set2 hy4 (Nat.le_refl _) _) (Nat.le_refl _) _)) hy'; replace hy := Y.trans (rb := rb) (by (first | exact hy | exact Y.set2 hy (hw4) _ | exact Y.set2 (Y.set2 hy (hw4) _) (hw4) _)) hy'; replace hr := hr'; clear hr' hy' hb hc hf; obtain ⟨hb, hc, hf⟩ := hBf.out; obtain ⟨hb', hc', hf'⟩ := hBr.out
  go_wp2_with fail
  · go_wp2_with fail
    refine (aPart_c rb _ _ (by (first | exact hr | exact Rdr.set2 hr (Nat.lt_of_lt_of_le hlt hw4) _ | exact Rdr.set2 (Rdr.set2 hr (Nat.lt_of_lt_of_le hlt hw4) _) (Nat.lt_of_lt_of_le hlt hw4) _)) (by omega)).mono ?_
    rintro _ w' ⟨x1, rfl, hx1, hr', hy'⟩
    clear hb' hc' hf'
    replace hBf := Bx.y (rb := rb) (by (first | exact hBf | exact Bx.set hBf _ _ | exact Bx.far hBf hfr _ | exact Bx.set (Bx.set hBf _ _) _ _ | exact Bx.far (Bx.far hBf hfr _) hfr _)) hy' hnef; replace hBr := Bx.y (rb := rb) (by (first | exact hBr | exact Bx.set hBr _ _ | exact Bx.far hBr hfr _ | exact Bx.set (Bx.set hBr _ _) _ _ | exact Bx.far (Bx.far hBr hfr _) hfr _)) hy' hner; replace hy4 := Y.trans (rb := rb) (by (first | exact hy4 | exact Y.set2 hy4 (Nat.le_refl _) _ | exact Y.set2 (Y.set2 hy4 (Nat.le_refl _) _) (Nat.le_refl _) _)) hy'; replace hy := Y.trans (rb := rb) (by (first | exact hy | exact Y.set2 hy (hw4) _ | exact Y.set2 (Y.set2 hy (hw4) _) (hw4) _)) hy'; replace hr := hr'; clear hr' hy' hb hc hf; obtain ⟨hb, hc, hf⟩ := hBf.out; obtain ⟨hb', hc', hf'⟩ := hBr.out
    go_wp2
    refine bodyPost_row Tryz.results74 rfl (Bx.set (Bx.set (Bx.set (Bx.set (Bx.set (Bx.set (by (repeat (first | refine Bx.set ?_ _ _ | refine Bx.far ?_ (by first | exact hfr | exact hfr.symm) _ | exact hBr)) : Bx _ _ #[.int .i64 0, .string ⟨#[]⟩, .string ⟨#[]⟩, .bool false, .int .i64 0, .slice none 0 0]) 0 _) 1 _) 2 _) 3 _) 4 _) 5 _) file_S rfl rfl ?_
    refine ⟨⟨n, [], x1, false, k, body⟩, ba, bc, rfl, own_less (own_fr hown (by (repeat (first | refine Fr.set ?_ (by first | exact .inl (Nat.le_refl _) | exact .inr (Nat.lt_succ_self _)) _ | exact hy4.fr.mono (by omega))))) (by omega), ⟨by first | (simp; done) | (simp; omega), by first | (simp; done) | (simp; omega), ⟨hbody.1, ⟨hn2, hk2, hbody.2⟩⟩⟩, by (repeat (first | refine Rdr.set2 ?_ (by first | exact hlt | exact (Nat.lt_of_lt_of_le hlt hw4) | omega) _ | (refine Rdr.weak hr (by omega) (by omega)))), by (repeat (first | refine Y.set2 ?_ (by first | exact Nat.le_refl _ | exact hw4 | omega) _ | exact hy))⟩
  · go_wp2_with fail
    refine (aPart_c rb _ _ (by (first | exact hr | exact Rdr.set2 hr (Nat.lt_of_lt_of_le hlt hw4) _ | exact Rdr.set2 (Rdr.set2 hr (Nat.lt_of_lt_of_le hlt hw4) _) (Nat.lt_of_lt_of_le hlt hw4) _)) (by omega)).mono ?_
    rintro _ w' ⟨x1, rfl, hx1, hr', hy'⟩
    clear hb' hc' hf'
    replace hBf := Bx.y (rb := rb) (by (first | exact hBf | exact Bx.set hBf _ _ | exact Bx.far hBf hfr _ | exact Bx.set (Bx.set hBf _ _) _ _ | exact Bx.far (Bx.far hBf hfr _) hfr _)) hy' hnef; replace hBr := Bx.y (rb := rb) (by (first | exact hBr | exact Bx.set hBr _ _ | exact Bx.far hBr hfr _ | exact Bx.set (Bx.set hBr _ _) _ _ | exact Bx.far (Bx.far hBr hfr _) hfr _)) hy' hner; replace hy4 := Y.trans (rb := rb) (by (first | exact hy4 | exact Y.set2 hy4 (Nat.le_refl _) _ | exact Y.set2 (Y.set2 hy4 (Nat.le_refl _) _) (Nat.le_refl _) _)) hy'; replace hy := Y.trans (rb := rb) (by (first | exact hy | exact Y.set2 hy (hw4) _ | exact Y.set2 (Y.set2 hy (hw4) _) (hw4) _)) hy'; replace hr := hr'; clear hr' hy' hb hc hf; obtain ⟨hb, hc, hf⟩ := hBf.out; obtain ⟨hb', hc', hf'⟩ := hBr.out
    go_wp2
    refine bodyPost_row Tryz.results74 rfl (Bx.set (Bx.set (Bx.set (Bx.set (Bx.set (Bx.set (by (repeat (first | refine Bx.set ?_ _ _ | refine Bx.far ?_ (by first | exact hfr | exact hfr.symm) _ | exact hBr)) : Bx _ _ #[.int .i64 0, .string ⟨#[]⟩, .string ⟨#[]⟩, .bool false, .int .i64 0, .slice none 0 0]) 0 _) 1 _) 2 _) 3 _) 4 _) 5 _) file_S rfl rfl ?_
    refine ⟨⟨n, [], x1, false, k, body⟩, ba, bc, rfl, own_less (own_fr hown (by (repeat (first | refine Fr.set ?_ (by first | exact .inl (Nat.le_refl _) | exact .inr (Nat.lt_succ_self _)) _ | exact hy4.fr.mono (by omega))))) (by omega), ⟨by first | (simp; done) | (simp; omega), by first | (simp; done) | (simp; omega), ⟨hbody.1, ⟨hn2, hk2, hbody.2⟩⟩⟩, by (repeat (first | refine Rdr.set2 ?_ (by first | exact hlt | exact (Nat.lt_of_lt_of_le hlt hw4) | omega) _ | (refine Rdr.weak hr (by omega) (by omega)))), by (repeat (first | refine Y.set2 ?_ (by first | exact Nat.le_refl _ | exact hw4 | omega) _ | exact hy))⟩
  · go_wp2_with fail
    refine (aPart_c rb _ _ (by (first | exact hr | exact Rdr.set2 hr (Nat.lt_of_lt_of_le hlt hw4) _ | exact Rdr.set2 (Rdr.set2 hr (Nat.lt_of_lt_of_le hlt hw4) _) (Nat.lt_of_lt_of_le hlt hw4) _)) (by omega)).mono ?_
    rintro _ w' ⟨x1, rfl, hx1, hr', hy'⟩
    clear hb' hc' hf'
    replace hBf := Bx.y (rb := rb) (by (first | exact hBf | exact Bx.set hBf _ _ | exact Bx.far hBf hfr _ | exact Bx.set (Bx.set hBf _ _) _ _ | exact Bx.far (Bx.far hBf hfr _) hfr _)) hy' hnef; replace hBr := Bx.y (rb := rb) (by (first | exact hBr | exact Bx.set hBr _ _ | exact Bx.far hBr hfr _ | exact Bx.set (Bx.set hBr _ _) _ _ | exact Bx.far (Bx.far hBr hfr _) hfr _)) hy' hner; replace hy4 := Y.trans (rb := rb) (by (first | exact hy4 | exact Y.set2 hy4 (Nat.le_refl _) _ | exact Y.set2 (Y.set2 hy4 (Nat.le_refl _) _) (Nat.le_refl _) _)) hy'; replace hy := Y.trans (rb := rb) (by (first | exact hy | exact Y.set2 hy (hw4) _ | exact Y.set2 (Y.set2 hy (hw4) _) (hw4) _)) hy'; replace hr := hr'; clear hr' hy' hb hc hf; obtain ⟨hb, hc, hf⟩ := hBf.out; obtain ⟨hb', hc', hf'⟩ := hBr.out
    go_wp2_with fail
    refine (aPart_c rb _ _ (by (first | exact hr | exact Rdr.set2 hr (Nat.lt_of_lt_of_le hlt hw4) _ | exact Rdr.set2 (Rdr.set2 hr (Nat.lt_of_lt_of_le hlt hw4) _) (Nat.lt_of_lt_of_le hlt hw4) _)) (by omega)).mono ?_
    rintro _ w' ⟨x2, rfl, hx2, hr', hy'⟩
    clear hb' hc' hf'
    replace hBf := Bx.y (rb := rb) (by (first | exact hBf | exact Bx.set hBf _ _ | exact Bx.far hBf hfr _ | exact Bx.set (Bx.set hBf _ _) _ _ | exact Bx.far (Bx.far hBf hfr _) hfr _)) hy' hnef; replace hBr := Bx.y (rb := rb) (by (first | exact hBr | exact Bx.set hBr _ _ | exact Bx.far hBr hfr _ | exact Bx.set (Bx.set hBr _ _) _ _ | exact Bx.far (Bx.far hBr hfr _) hfr _)) hy' hner; replace hy4 := Y.trans (rb := rb) (by (first | exact hy4 | exact Y.set2 hy4 (Nat.le_refl _) _ | exact Y.set2 (Y.set2 hy4 (Nat.le_refl _) _) (Nat.le_refl _) _)) hy'; replace hy := Y.trans (rb := rb) (by (first | exact hy | exact Y.set2 hy (hw4) _ | exact Y.set2 (Y.set2 hy (hw4) _) (hw4) _)) hy'; replace hr := hr'; clear hr' hy' hb hc hf; obtain ⟨hb, hc, hf⟩ := hBf.out; obtain ⟨hb', hc', hf'⟩ := hBr.out
    go_wp2
    refine bodyPost_row Tryz.results74 rfl (Bx.set (Bx.set (Bx.set (Bx.set (Bx.set (Bx.set (by (repeat (first | refine Bx.set ?_ _ _ | refine Bx.far ?_ (by first | exact hfr | exact hfr.symm) _ | exact hBr)) : Bx _ _ #[.int .i64 0, .string ⟨#[]⟩, .string ⟨#[]⟩, .bool false, .int .i64 0, .slice none 0 0]) 0 _) 1 _) 2 _) 3 _) 4 _) 5 _) file_S rfl rfl ?_
    refine ⟨⟨n, x1, x2, false, k, body⟩, ba, bc, rfl, own_less (own_fr hown (by (repeat (first | refine Fr.set ?_ (by first | exact .inl (Nat.le_refl _) | exact .inr (Nat.lt_succ_self _)) _ | exact hy4.fr.mono (by omega))))) (by omega), ⟨by first | (simp; done) | (simp; omega), by first | (simp; done) | (simp; omega), ⟨hbody.1, ⟨hn2, hk2, hbody.2⟩⟩⟩, by (repeat (first | refine Rdr.set2 ?_ (by first | exact hlt | exact (Nat.lt_of_lt_of_le hlt hw4) | omega) _ | (refine Rdr.weak hr (by omega) (by omega)))), by (repeat (first | refine Y.set2 ?_ (by first | exact Nat.le_refl _ | exact hw4 | omega) _ | exact hy))⟩
  · go_wp2_with fail
    refine (aPart_c rb _ _ (by (first | exact hr | exact Rdr.set2 hr (Nat.lt_of_lt_of_le hlt hw4) _ | exact Rdr.set2 (Rdr.set2 hr (Nat.lt_of_lt_of_le hlt hw4) _) (Nat.lt_of_lt_of_le hlt hw4) _)) (by omega)).mono ?_
    rintro _ w' ⟨x1, rfl, hx1, hr', hy'⟩
    clear hb' hc' hf'
    replace hBf := Bx.y (rb := rb) (by (first | exact hBf | exact Bx.set hBf _ _ | exact Bx.far hBf hfr _ | exact Bx.set (Bx.set hBf _ _) _ _ | exact Bx.far (Bx.far hBf hfr _) hfr _)) hy' hnef; replace hBr := Bx.y (rb := rb) (by (first | exact hBr | exact Bx.set hBr _ _ | exact Bx.far hBr hfr _ | exact Bx.set (Bx.set hBr _ _) _ _ | exact Bx.far (Bx.far hBr hfr _) hfr _)) hy' hner; replace hy4 := Y.trans (rb := rb) (by (first | exact hy4 | exact Y.set2 hy4 (Nat.le_refl _) _ | exact Y.set2 (Y.set2 hy4 (Nat.le_refl _) _) (Nat.le_refl _) _)) hy'; replace hy := Y.trans (rb := rb) (by (first | exact hy | exact Y.set2 hy (hw4) _ | exact Y.set2 (Y.set2 hy (hw4) _) (hw4) _)) hy'; replace hr := hr'; clear hr' hy' hb hc hf; obtain ⟨hb, hc, hf⟩ := hBf.out; obtain ⟨hb', hc', hf'⟩ := hBr.out
    go_wp2_with fail
    refine (aPart_c rb _ _ (by (first | exact hr | exact Rdr.set2 hr (Nat.lt_of_lt_of_le hlt hw4) _ | exact Rdr.set2 (Rdr.set2 hr (Nat.lt_of_lt_of_le hlt hw4) _) (Nat.lt_of_lt_of_le hlt hw4) _)) (by omega)).mono ?_
    rintro _ w' ⟨x2, rfl, hx2, hr', hy'⟩
    clear hb' hc' hf'
    replace hBf := Bx.y (rb := rb) (by (first | exact hBf | exact Bx.set hBf _ _ | exact Bx.far hBf hfr _ | exact Bx.set (Bx.set hBf _ _) _ _ | exact Bx.far (Bx.far hBf hfr _) hfr _)) hy' hnef; replace hBr := Bx.y (rb := rb) (by (first | exact hBr | exact Bx.set hBr _ _ | exact Bx.far hBr hfr _ | exact Bx.set (Bx.set hBr _ _) _ _ | exact Bx.far (Bx.far hBr hfr _) hfr _)) hy' hner; replace hy4 := Y.trans (rb := rb) (by (first | exact hy4 | exact Y.set2 hy4 (Nat.le_refl _) _ | exact Y.set2 (Y.set2 hy4 (Nat.le_refl _) _) (Nat.le_refl _) _)) hy'; replace hy := Y.trans (rb := rb) (by (first | exact hy | exact Y.set2 hy (hw4) _ | exact Y.set2 (Y.set2 hy (hw4) _) (hw4) _)) hy'; replace hr := hr'; clear hr' hy' hb hc hf; obtain ⟨hb, hc, hf⟩ := hBf.out; obtain ⟨hb', hc', hf'⟩ := hBr.out
    go_wp2
    refine bodyPost_row Tryz.results74 rfl (Bx.set (Bx.set (Bx.set (Bx.set (Bx.set (Bx.set (by (repeat (first | refine Bx.set ?_ _ _ | refine Bx.far ?_ (by first | exact hfr | exact hfr.symm) _ | exact hBr)) : Bx _ _ #[.int .i64 0, .string ⟨#[]⟩, .string ⟨#[]⟩, .bool false, .int .i64 0, .slice none 0 0]) 0 _) 1 _) 2 _) 3 _) 4 _) 5 _) file_S rfl rfl ?_
    refine ⟨⟨n, x1, x2, false, k, body⟩, ba, bc, rfl, own_less (own_fr hown (by (repeat (first | refine Fr.set ?_ (by first | exact .inl (Nat.le_refl _) | exact .inr (Nat.lt_succ_self _)) _ | exact hy4.fr.mono (by omega))))) (by omega), ⟨by first | (simp; done) | (simp; omega), by first | (simp; done) | (simp; omega), ⟨hbody.1, ⟨hn2, hk2, hbody.2⟩⟩⟩, by (repeat (first | refine Rdr.set2 ?_ (by first | exact hlt | exact (Nat.lt_of_lt_of_le hlt hw4) | omega) _ | (refine Rdr.weak hr (by omega) (by omega)))), by (repeat (first | refine Y.set2 ?_ (by first | exact Nat.le_refl _ | exact hw4 | omega) _ | exact hy))⟩
  · go_wp2_with fail
    refine (aPart_c rb _ _ (by (first | exact hr | exact Rdr.set2 hr (Nat.lt_of_lt_of_le hlt hw4) _ | exact Rdr.set2 (Rdr.set2 hr (Nat.lt_of_lt_of_le hlt hw4) _) (Nat.lt_of_lt_of_le hlt hw4) _)) (by omega)).mono ?_
    rintro _ w' ⟨x1, rfl, hx1, hr', hy'⟩
    clear hb' hc' hf'
    replace hBf := Bx.y (rb := rb) (by (first | exact hBf | exact Bx.set hBf _ _ | exact Bx.far hBf hfr _ | exact Bx.set (Bx.set hBf _ _) _ _ | exact Bx.far (Bx.far hBf hfr _) hfr _)) hy' hnef; replace hBr := Bx.y (rb := rb) (by (first | exact hBr | exact Bx.set hBr _ _ | exact Bx.far hBr hfr _ | exact Bx.set (Bx.set hBr _ _) _ _ | exact Bx.far (Bx.far hBr hfr _) hfr _)) hy' hner; replace hy4 := Y.trans (rb := rb) (by (first | exact hy4 | exact Y.set2 hy4 (Nat.le_refl _) _ | exact Y.set2 (Y.set2 hy4 (Nat.le_refl _) _) (Nat.le_refl _) _)) hy'; replace hy := Y.trans (rb := rb) (by (first | exact hy | exact Y.set2 hy (hw4) _ | exact Y.set2 (Y.set2 hy (hw4) _) (hw4) _)) hy'; replace hr := hr'; clear hr' hy' hb hc hf; obtain ⟨hb, hc, hf⟩ := hBf.out; obtain ⟨hb', hc', hf'⟩ := hBr.out
    go_wp2
    refine bodyPost_row Tryz.results74 rfl (Bx.set (Bx.set (Bx.set (Bx.set (Bx.set (Bx.set (by (repeat (first | refine Bx.set ?_ _ _ | refine Bx.far ?_ (by first | exact hfr | exact hfr.symm) _ | exact hBr)) : Bx _ _ #[.int .i64 0, .string ⟨#[]⟩, .string ⟨#[]⟩, .bool false, .int .i64 0, .slice none 0 0]) 0 _) 1 _) 2 _) 3 _) 4 _) 5 _) file_S rfl rfl ?_
    refine ⟨⟨n, x1, [], true, k, body⟩, ba, bc, rfl, own_less (own_fr hown (by (repeat (first | refine Fr.set ?_ (by first | exact .inl (Nat.le_refl _) | exact .inr (Nat.lt_succ_self _)) _ | exact hy4.fr.mono (by omega))))) (by omega), ⟨by first | (simp; done) | (simp; omega), by first | (simp; done) | (simp; omega), ⟨hbody.1, ⟨hn2, hk2, hbody.2⟩⟩⟩, by (repeat (first | refine Rdr.set2 ?_ (by first | exact hlt | exact (Nat.lt_of_lt_of_le hlt hw4) | omega) _ | (refine Rdr.weak hr (by omega) (by omega)))), by (repeat (first | refine Y.set2 ?_ (by first | exact Nat.le_refl _ | exact hw4 | omega) _ | exact hy))⟩
  · go_wp2_with fail
    refine (aPart_c rb _ _ (by (first | exact hr | exact Rdr.set2 hr (Nat.lt_of_lt_of_le hlt hw4) _ | exact Rdr.set2 (Rdr.set2 hr (Nat.lt_of_lt_of_le hlt hw4) _) (Nat.lt_of_lt_of_le hlt hw4) _)) (by omega)).mono ?_
    rintro _ w' ⟨x1, rfl, hx1, hr', hy'⟩
    clear hb' hc' hf'
    replace hBf := Bx.y (rb := rb) (by (first | exact hBf | exact Bx.set hBf _ _ | exact Bx.far hBf hfr _ | exact Bx.set (Bx.set hBf _ _) _ _ | exact Bx.far (Bx.far hBf hfr _) hfr _)) hy' hnef; replace hBr := Bx.y (rb := rb) (by (first | exact hBr | exact Bx.set hBr _ _ | exact Bx.far hBr hfr _ | exact Bx.set (Bx.set hBr _ _) _ _ | exact Bx.far (Bx.far hBr hfr _) hfr _)) hy' hner; replace hy4 := Y.trans (rb := rb) (by (first | exact hy4 | exact Y.set2 hy4 (Nat.le_refl _) _ | exact Y.set2 (Y.set2 hy4 (Nat.le_refl _) _) (Nat.le_refl _) _)) hy'; replace hy := Y.trans (rb := rb) (by (first | exact hy | exact Y.set2 hy (hw4) _ | exact Y.set2 (Y.set2 hy (hw4) _) (hw4) _)) hy'; replace hr := hr'; clear hr' hy' hb hc hf; obtain ⟨hb, hc, hf⟩ := hBf.out; obtain ⟨hb', hc', hf'⟩ := hBr.out
    go_wp2_with fail
    refine (aPart_c rb _ _ (by (first | exact hr | exact Rdr.set2 hr (Nat.lt_of_lt_of_le hlt hw4) _ | exact Rdr.set2 (Rdr.set2 hr (Nat.lt_of_lt_of_le hlt hw4) _) (Nat.lt_of_lt_of_le hlt hw4) _)) (by omega)).mono ?_
    rintro _ w' ⟨x2, rfl, hx2, hr', hy'⟩
    clear hb' hc' hf'
    replace hBf := Bx.y (rb := rb) (by (first | exact hBf | exact Bx.set hBf _ _ | exact Bx.far hBf hfr _ | exact Bx.set (Bx.set hBf _ _) _ _ | exact Bx.far (Bx.far hBf hfr _) hfr _)) hy' hnef; replace hBr := Bx.y (rb := rb) (by (first | exact hBr | exact Bx.set hBr _ _ | exact Bx.far hBr hfr _ | exact Bx.set (Bx.set hBr _ _) _ _ | exact Bx.far (Bx.far hBr hfr _) hfr _)) hy' hner; replace hy4 := Y.trans (rb := rb) (by (first | exact hy4 | exact Y.set2 hy4 (Nat.le_refl _) _ | exact Y.set2 (Y.set2 hy4 (Nat.le_refl _) _) (Nat.le_refl _) _)) hy'; replace hy := Y.trans (rb := rb) (by (first | exact hy | exact Y.set2 hy (hw4) _ | exact Y.set2 (Y.set2 hy (hw4) _) (hw4) _)) hy'; replace hr := hr'; clear hr' hy' hb hc hf; obtain ⟨hb, hc, hf⟩ := hBf.out; obtain ⟨hb', hc', hf'⟩ := hBr.out
    go_wp2_with fail
    refine (pick_c rb _ _ _ (by (first | exact hr | exact Rdr.set2 hr (Nat.lt_of_lt_of_le hlt hw4) _ | exact Rdr.set2 (Rdr.set2 hr (Nat.lt_of_lt_of_le hlt hw4) _) (Nat.lt_of_lt_of_le hlt hw4) _)) (by omega) (by omega)).mono ?_
    rintro _ w' ⟨u, rfl, hu, hr', hy'⟩
    clear hb' hc' hf'
    replace hBf := Bx.y (rb := rb) (by (first | exact hBf | exact Bx.set hBf _ _ | exact Bx.far hBf hfr _ | exact Bx.set (Bx.set hBf _ _) _ _ | exact Bx.far (Bx.far hBf hfr _) hfr _)) hy' hnef; replace hBr := Bx.y (rb := rb) (by (first | exact hBr | exact Bx.set hBr _ _ | exact Bx.far hBr hfr _ | exact Bx.set (Bx.set hBr _ _) _ _ | exact Bx.far (Bx.far hBr hfr _) hfr _)) hy' hner; replace hy4 := Y.trans (rb := rb) (by (first | exact hy4 | exact Y.set2 hy4 (Nat.le_refl _) _ | exact Y.set2 (Y.set2 hy4 (Nat.le_refl _) _) (Nat.le_refl _) _)) hy'; replace hy := Y.trans (rb := rb) (by (first | exact hy | exact Y.set2 hy (hw4) _ | exact Y.set2 (Y.set2 hy (hw4) _) (hw4) _)) hy'; replace hr := hr'; clear hr' hy' hb hc hf; obtain ⟨hb, hc, hf⟩ := hBf.out; obtain ⟨hb', hc', hf'⟩ := hBr.out
    go_wp2_with fail
    · go_wp2
      refine bodyPost_row Tryz.results74 rfl (Bx.set (Bx.set (Bx.set (Bx.set (Bx.set (Bx.set (by (repeat (first | refine Bx.set ?_ _ _ | refine Bx.far ?_ (by first | exact hfr | exact hfr.symm) _ | exact hBr)) : Bx _ _ #[.int .i64 0, .string ⟨#[]⟩, .string ⟨#[]⟩, .bool false, .int .i64 0, .slice none 0 0]) 0 _) 1 _) 2 _) 3 _) 4 _) 5 _) file_S rfl rfl ?_
      refine ⟨⟨n, x1 ++ 46 :: x2, [], true, k, body⟩, ba, bc, rfl, own_less (own_fr hown (by (repeat (first | refine Fr.set ?_ (by first | exact .inl (Nat.le_refl _) | exact .inr (Nat.lt_succ_self _)) _ | exact hy4.fr.mono (by omega))))) (by omega), ⟨by first | (simp; done) | (simp; omega), by first | (simp; done) | (simp; omega), ⟨hbody.1, ⟨hn2, hk2, hbody.2⟩⟩⟩, by (repeat (first | refine Rdr.set2 ?_ (by first | exact hlt | exact (Nat.lt_of_lt_of_le hlt hw4) | omega) _ | (refine Rdr.weak hr (by omega) (by omega)))), by (repeat (first | refine Y.set2 ?_ (by first | exact Nat.le_refl _ | exact hw4 | omega) _ | exact hy))⟩
    · refine (aPart_c rb _ _ (by (first | exact hr | exact Rdr.set2 hr (Nat.lt_of_lt_of_le hlt hw4) _ | exact Rdr.set2 (Rdr.set2 hr (Nat.lt_of_lt_of_le hlt hw4) _) (Nat.lt_of_lt_of_le hlt hw4) _)) (by omega)).mono ?_
      rintro _ w' ⟨x3, rfl, hx3, hr', hy'⟩
      clear hb' hc' hf'
      replace hBf := Bx.y (rb := rb) (by (first | exact hBf | exact Bx.set hBf _ _ | exact Bx.far hBf hfr _ | exact Bx.set (Bx.set hBf _ _) _ _ | exact Bx.far (Bx.far hBf hfr _) hfr _)) hy' hnef; replace hBr := Bx.y (rb := rb) (by (first | exact hBr | exact Bx.set hBr _ _ | exact Bx.far hBr hfr _ | exact Bx.set (Bx.set hBr _ _) _ _ | exact Bx.far (Bx.far hBr hfr _) hfr _)) hy' hner; replace hy4 := Y.trans (rb := rb) (by (first | exact hy4 | exact Y.set2 hy4 (Nat.le_refl _) _ | exact Y.set2 (Y.set2 hy4 (Nat.le_refl _) _) (Nat.le_refl _) _)) hy'; replace hy := Y.trans (rb := rb) (by (first | exact hy | exact Y.set2 hy (hw4) _ | exact Y.set2 (Y.set2 hy (hw4) _) (hw4) _)) hy'; replace hr := hr'; clear hr' hy' hb hc hf; obtain ⟨hb, hc, hf⟩ := hBf.out; obtain ⟨hb', hc', hf'⟩ := hBr.out
      go_wp2
      refine bodyPost_row Tryz.results74 rfl (Bx.set (Bx.set (Bx.set (Bx.set (Bx.set (Bx.set (by (repeat (first | refine Bx.set ?_ _ _ | refine Bx.far ?_ (by first | exact hfr | exact hfr.symm) _ | exact hBr)) : Bx _ _ #[.int .i64 0, .string ⟨#[]⟩, .string ⟨#[]⟩, .bool false, .int .i64 0, .slice none 0 0]) 0 _) 1 _) 2 _) 3 _) 4 _) 5 _) file_S rfl rfl ?_
      refine ⟨⟨n, x1 ++ 46 :: x2, x3, false, k, body⟩, ba, bc, rfl, own_less (own_fr hown (by (repeat (first | refine Fr.set ?_ (by first | exact .inl (Nat.le_refl _) | exact .inr (Nat.lt_succ_self _)) _ | exact hy4.fr.mono (by omega))))) (by omega), ⟨by first | (simp; done) | (simp; omega), by first | (simp; done) | (simp; omega), ⟨hbody.1, ⟨hn2, hk2, hbody.2⟩⟩⟩, by (repeat (first | refine Rdr.set2 ?_ (by first | exact hlt | exact (Nat.lt_of_lt_of_le hlt hw4) | omega) _ | (refine Rdr.weak hr (by omega) (by omega)))), by (repeat (first | refine Y.set2 ?_ (by first | exact Nat.le_refl _ | exact hw4 | omega) _ | exact hy))⟩
set_option maxRecDepth 100000 in
set_option maxHeartbeats 2000000 in
theorem someTree_n (rb m : Nat) (w : World) (hr : Rdr w rb m) (hm : m + 720 ≤ 1000000000) :
    Calls Tryz.prog 48 #[.pointer (some ⟨rb, 0, none⟩)] w fun e w' => ∃ (vs : List (Fi × Value)) (a : Option Addr) (c : Nat), e = .returned (.agg #[.slice a vs.length c]) ∧ TreeO w' w.heap.size a c vs ∧ vs.length ≤ 10 ∧ (∀ x ∈ vs, x.1.body.length ≤ 4 ∧ NmF x.1) ∧
      Rdr w' rb (m + 720) ∧ Y rb w w' := by
  have hlt := hr.lt
  have hBr := Bx.new w #[.slice none 0 0] 24
  have hBt := Bx.new (w.alloc (.cells #[.slice none 0 0] 24)) #[.slice none 0 0] 24
  replace hBr := hBr.x (w' := (w.alloc (.cells #[.slice none 0 0] 24)).alloc (.cells #[.slice none 0 0] 24)) (by (repeat (first | exact X.refl _ | assumption | refine X.ext ?_ _ | refine X.alloc ?_ _ | refine X.drew ?_)))
  have hy : Y rb w ((w.alloc (.cells #[.slice none 0 0] 24)).alloc (.cells #[.slice none 0 0] 24)) := Y.of_x (by (repeat (first | exact X.refl _ | assumption | refine X.ext ?_ _ | refine X.alloc ?_ _ | refine X.drew ?_)))
  replace hr := hr.x (w' := (w.alloc (.cells #[.slice none 0 0] 24)).alloc (.cells #[.slice none 0 0] 24)) (by (repeat (first | exact X.refl _ | assumption | refine X.ext ?_ _ | refine X.alloc ?_ _ | refine X.drew ?_)))
  rw [World.size_alloc] at hBt
  have hner : w.heap.size ≠ rb := by omega
  have hnet : w.heap.size + 1 ≠ rb := by omega
  go_enter Tryz.func48, Tryz.ntmps48
  go_wp2_with fail
  refine (one_c rb _ [5, 4, 6, 3, 8, 1, 0, 10] _ _ _ (rb + 1) _ (hr.x (by (repeat (first | exact X.refl _ | assumption | refine X.ext ?_ _ | refine X.alloc ?_ _ | refine X.drew ?_)))) (by omega) (ints_lit (by simp) (by omega) rfl rfl (by decide)) (by omega) (by decide)).mono ?_
  rintro _ w1 ⟨n, rfl, hn, hr', hy'⟩
  replace hBr := (hBr.x (by (repeat (first | exact X.refl _ | assumption | refine X.ext ?_ _ | refine X.alloc ?_ _ | refine X.drew ?_)))).y hy' hner
  replace hBt := (hBt.x (by (repeat (first | exact X.refl _ | assumption | refine X.ext ?_ _ | refine X.alloc ?_ _ | refine X.drew ?_)))).y hy' hnet
  replace hy := hy.trans ((Y.of_x (by (repeat (first | exact X.refl _ | assumption | refine X.ext ?_ _ | refine X.alloc ?_ _ | refine X.drew ?_)))).trans hy'); replace hr := hr'; clear hr' hy'
  obtain ⟨N, rfl, hN⟩ : ∃ N : Nat, n = N ∧ N ≤ 10 := ⟨n.toNat, by revert hn; simp only [List.mem_cons, List.mem_nil_iff, or_false]; omega, by revert hn; simp only [List.mem_cons, List.mem_nil_iff, or_false]; omega⟩
  clear hn
  go_wp2
  go_loopw [4, 5] (fun i _ wr => ∃ (k : Nat) (vs : List (Fi × Value)) (a : Option Addr) (c : Nat), k ≤ N ∧ i = .int .i64 k ∧ vs.length ≤ N - k ∧ (∀ x ∈ vs, x.1.body.length ≤ 4 ∧ NmF x.1) ∧ TreeO wr (w.heap.size + 2) a c vs ∧
        Bx wr w.heap.size #[.slice none 0 0] ∧ Bx wr (w.heap.size + 1) #[.slice a vs.length c] ∧ Rdr wr rb (m + 1 + (N - k) * 70) ∧ Y rb w wr) (fun i _ _ => (intOf i).toNat)
  case atStart => exact ⟨N, [], none, 0, Nat.le_refl _, rfl, by simp, by simp, TreeO.nil, hBr, hBt, hr.weak (by omega) (by omega), hy⟩
  case round =>
    obtain ⟨j, vs, a, c, hj, rfl, hl, h4, hT, hBr, hBt, hr, hy⟩ := hrel
    have hw := hy.size
    by_cases h0 : 0 < j
    · go_wp2_with fail
      refine (someFile_n rb _ _ hr (by omega)).mono ?_
      rintro _ w3 ⟨f, ba, bc, rfl, hown, ⟨hf1, hf2, ⟨hf3a, hfn⟩⟩, hr', hy'⟩
      have hltr := hBt.lt
      have hrow := hT.row
      have hne : ∀ y ∈ vs, y.2.ownBlock = none ∨ (Value.slice ba f.body.length bc).ownBlock = none ∨ (Value.slice ba f.body.length bc).ownBlock ≠ y.2.ownBlock := fun y hm => by
        obtain ⟨b1, c1, e1, h1⟩ := hT.body y hm
        rw [e1]
        exact row_far h1 rfl hown
      clear hrow
      replace hBr := hBr.y hy' hner
      replace hBt := hBt.y hy' hnet
      replace hT := hT.fr (hy'.fr.mono (by omega))
      replace hown := own_less hown (B' := w.heap.size + 2) (by omega)
      replace hy := hy.trans ((Y.of_x (by (repeat (first | exact X.refl _ | assumption | refine X.ext ?_ _ | refine X.alloc ?_ _ | refine X.drew ?_)))).trans hy'); replace hr := hr'; clear hr' hy'
      have hw3 := hy.size
      obtain ⟨hb, hc, hf⟩ := hBt.out
      go_wp2_with fail
      refine (fileAt_c (vs.map (·.1)) _ _ _ (w.heap.size + 2) f _ _ ((hT.fr (X.fr (by (repeat (first | exact X.refl _ | assumption | refine X.ext ?_ _ | refine X.alloc ?_ _ | refine X.drew ?_))) _)).files (by omega))).mono ?_
      rintro _ W ⟨rfl, hx⟩
      have hxx : X w3 W := X.trans (by (repeat (first | exact X.refl _ | assumption | refine X.ext ?_ _ | refine X.alloc ?_ _ | refine X.drew ?_))) hx
      have hBf := Bx.x (Bx.new w3 _ _) hx
      replace hBt := hBt.x hxx
      replace hBr := hBr.x hxx
      replace hT := hT.fr (hxx.fr _)
      replace hown := own_fr hown (hxx.fr _)
      replace hr := hr.x hxx
      replace hy := hy.trans (Y.of_x hxx)
      clear hb hc hf hx
      obtain ⟨hb, hc, hf⟩ := hBt.out
      obtain ⟨hb', hc', hf'⟩ := hBf.out
      generalize fidx (vs.map (·.1)) f = q
      have hwW := hy.size
      go_wp2_with (at_builtin; refine wpList_append_g file_T rfl _ _ rfl hT.row rfl rfl rfl rfl (by simp [Value.oneCell']) (by omega) (by omega) (by omega) ?_)
      · intro a' c' W2 hrow' hg'
        have hxl : Y rb w (W.alloc (.cells #[.int .i64 f.root, .string ⟨(f.pkg).toArray⟩, .string ⟨(f.name).toArray⟩, .bool f.init, .int .i64 f.stamp, .slice ba f.body.length bc] 36)) := hy.trans (Y.of_x (by (repeat (first | exact X.refl _ | assumption | refine X.ext ?_ _ | refine X.alloc ?_ _ | refine X.drew ?_))))
        have hT2 := TreeO.push (x := (f, .slice ba f.body.length bc)) (hT.fr (X.fr (X.alloc (X.refl _) _) _)) hg' hrow' ⟨hf1, hf2, Nat.le_trans hf3a (by decide), NmS.len hfn.2.2⟩ ⟨ba, bc, rfl, own_fr hown (X.fr (X.alloc (X.refl _) _) _)⟩ hne
        have hBt2 := (hBt.x (X.alloc (X.refl _) _)).grown hg' (own_ge hT.row (by omega))
        have hBr2 := (hBr.x (X.alloc (X.refl _) _)).grown hg' (own_ge hT.row (by omega))
        have hr2 := (hr.x (X.alloc (X.refl _) _)).grown hg' (fun k hk => by have := (hT.row.lt k hk).1; omega)
        have hy2 := hxl.grown hg' (fun k hk => by have := (hT.row.lt k hk).1; omega)
        clear hBt hBr hr hy hxl hg' hb hc hf hb' hc' hf' hBf hxx
        obtain ⟨hb, hc, hf⟩ := hBt2.out
        go_wp2
        go_roundw
        case rel => exact ⟨j - 1, vs ++ [(f, .slice ba f.body.length bc)], a', c', by omega, by go_num, by rw [List.length_append, List.length_singleton]; omega, fun y hm => by
            rcases List.mem_append.1 hm with hm | hm
            · exact h4 y hm
            · rw [List.mem_singleton.1 hm]; exact ⟨hf3a, hfn⟩, hT2.fr (Fr.set (Fr.refl _ _) (.inr (by simp)) _), Bx.far hBr2 (by simp) _, by simpa using Bx.set hBt2 0 _, Rdr.set2 (hr2.weak (by omega) (by omega)) (by simp; omega) _, Y.set2 hy2 (by simp) _⟩
        case measure => simp [intOf]; omega
      · go_roundw
        case rel => exact ⟨j - 1, vs, a, c, by omega, by go_num, by omega, h4, hT, hBr, hBt, hr.weak (by omega) (by omega), hy⟩
        case measure => simp [intOf]; omega
    · obtain ⟨hb, hc, hf⟩ := hBt.out
      obtain ⟨hb', hc', hf'⟩ := hBr.out
      go_wp2
      refine bodyPost_row Tryz.results48 rfl (Bx.set hBr 0 _) tree_Sr rfl rfl ?_
      exact ⟨vs, a, c, rfl, (hT.fr (Fr.set (Fr.refl _ _) (.inr (by simp)) _)).less (by omega), by omega, h4, Rdr.set2 (hr.weak (by omega) (by omega)) hlt _, Y.set2 hy (Nat.le_refl _) _⟩

end Go.Proofs.YtmhcmabiolaoaaaGreatDoor
