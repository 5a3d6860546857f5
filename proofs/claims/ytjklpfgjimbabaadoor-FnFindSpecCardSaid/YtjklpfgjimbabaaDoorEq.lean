/- Equality of lists and of specs, as the laws test it. No condition. -/
import Derived.Test.YtjklpfgjimbabaaDoorFind
namespace Go.Proofs.YtjklpfgjimbabaaDoor
open Go.RowKit

theorem nth_ext {α : Type} [Inhabited α] {l m : List α} (hl : l.length = m.length) (h : ∀ k, k < l.length → nth l k = nth m k) : l = m := by
  refine List.ext_getElem hl fun k h1 h2 => ?_
  have := h k h1
  rwa [nth_eq h1, nth_eq h2] at this
set_option maxHeartbeats 400000 in
theorem equalInts_c (l m : List Int) (a a' : Option Addr) (n n' c c' B B' : Nat) (w : World) (hL : IntsAt w B a n l) (hM : IntsAt w B' a' n' m) :
    Calls Tryd.prog 17 #[.slice a n c, .slice a' n' c'] w fun e w' => e = .returned (.bool (decide (l = m))) ∧ X w w' := by
  have h1 := hL.1
  have h2 := hM.1
  have hn := hL.2.1
  have Hl := Lib.hid h1
  have Hm := Lib.hid h2
  by_cases hne : n = n'
  · subst hne
    clear h1 h2
    go_enter Tryd.func17, Tryd.ntmps17
    go_wp2
    go_loopw [5] (fun i wr => ∃ k : Nat, k ≤ n ∧ i = .int .i64 k ∧ allN (fun k => nth l k == nth m k) k = true ∧ ∃ x, wr = World.ext w x) (fun i _ => n - (intOf i).toNat)
    case atStart => exact ⟨0, by omega, rfl, rfl, X.refl _⟩
    case round =>
      obtain ⟨k, hk, rfl, hall, x, rfl⟩ := hrel
      by_cases hlt : k < n
      · obtain ⟨b, off, rfl, _, hb, hc⟩ := hL.at_ hlt
        obtain ⟨b', off', rfl, _, hb', hc'⟩ := hM.at_ hlt
        go_wp2
        refine wp_region_grow (by kernel_rfl) (by kernel_rfl) ?_
        repeat (go_big_quiet_step ((fail)))
        refine wpQuiet_nil ?_
        rintro _ ⟨y, rfl⟩
        go_wp2
        · go_ret
          have h0 : (nth l k != nth m k) = true := by assumption
          have hs : ¬ nth l k = nth m k := by simpa using h0
          exact ⟨ret_bool (by rw [decide_eq_false]; intro e; exact hs (by rw [e])), by (repeat (first | exact X.refl _ | assumption | refine X.ext ?_ _ | refine X.alloc ?_ _ | refine X.drew ?_))⟩
        · have h0 : (nth l k != nth m k) = false := by assumption
          have hs : nth l k = nth m k := by simpa using h0
          go_roundw
          case rel => exact ⟨k + 1, by omega, by go_num, allN_next hall (by simp [hs]), _, rfl⟩
          case measure => simp [intOf]; omega
      · obtain rfl : k = n := by omega
        go_wp2
        go_ret
        refine ⟨ret_bool ?_, by (repeat (first | exact X.refl _ | assumption | refine X.ext ?_ _ | refine X.alloc ?_ _ | refine X.drew ?_))⟩
        rw [decide_eq_true]
        exact nth_ext (by rw [← Hl.out, ← Hm.out]) fun j hj => by simpa using allN_iff.1 hall j (by rw [Hl.out]; exact hj)
  · go_enter Tryd.func17, Tryd.ntmps17
    go_wp2
    go_ret
    exact ⟨ret_bool (by rw [decide_eq_false]; intro e; apply hne; rw [h1, h2, e]), by (repeat (first | exact X.refl _ | assumption | refine X.ext ?_ _ | refine X.alloc ?_ _ | refine X.drew ?_))⟩

theorem SpecAt.ints {w : World} {B : Nat} {a : Option Addr} {c : Nat} {r : List Int} (h : w.ownsRow B 3 1 (.slice a r.length c) r.length (ints r)) (hn : r.length ≤ 2097152) : IntsAt w B a r.length r := ⟨rfl, hn, Sl.of_own h⟩
set_option maxHeartbeats 400000 in
theorem equalSpec_c (r s : Sp) (a a' : Option Addr) (c c' B B' : Nat) (w : World) (hL : IntsAt w B a r.roots.length r.roots) (hM : IntsAt w B' a' s.roots.length s.roots) :
    Calls Tryd.prog 13 #[.agg #[.int .i64 r.kind, .int .i64 r.file, .slice a r.roots.length c], .agg #[.int .i64 s.kind, .int .i64 s.file, .slice a' s.roots.length c']] w fun e w' => e = .returned (.bool (decide (r = s))) ∧ X w w' := by
  obtain ⟨k, f, ro⟩ := r
  obtain ⟨k', f', ro'⟩ := s
  have hR : decide ((⟨k, f, ro⟩ : Sp) = ⟨k', f', ro'⟩) = ((k == k') && (f == f') && decide (ro = ro')) := by
    rw [Bool.eq_iff_iff]; simp [and_assoc]
  rw [hR]
  clear hR
  cases h1 : (k == k') <;> cases h2 : (f == f')
  all_goals
    go_enter Tryd.func13, Tryd.ntmps13
    go_wp2_with (go_at_call 17; refine (equalInts_c _ _ _ _ _ _ _ _ _ _ _ (hL.mono (X.fr (by (repeat (first | exact X.refl _ | assumption | refine X.ext ?_ _ | refine X.alloc ?_ _ | refine X.drew ?_))) _)) (hM.mono (X.fr (by (repeat (first | exact X.refl _ | assumption | refine X.ext ?_ _ | refine X.alloc ?_ _ | refine X.drew ?_))) _))).mono ?_; rintro _ _ ⟨rfl, hx⟩; first | obtain ⟨x, rfl⟩ := hx.of_ext | obtain ⟨x, rfl⟩ := hx)
    go_ret
    exact ⟨by simp, by (repeat (first | exact X.refl _ | assumption | refine X.ext ?_ _ | refine X.alloc ?_ _ | refine X.drew ?_))⟩

end Go.Proofs.YtjklpfgjimbabaaDoor
