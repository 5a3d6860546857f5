/- Several texts in one: MaL, MaM, MaO, MaP, MaQ, MaR. No condition but lengths. -/
import Derived.Test.YtgjfjjhmgbemcaaGreatDoorLp
import Derived.Test.YtgjfjjhmgbemcaaGreatDoorLk
import Derived.Test.YtgjfjjhmgbemcaaGreatDoorLc
import Derived.Test.YtgjfjjhmgbemcaaGreatDoorLn
import Derived.Test.YtgjfjjhmgbemcaaGreatDoorLm
namespace Go.Proofs.YtgjfjjhmgbemcaaGreatDoor
open Go.RowKit

theorem midx_cases (ms : List Mp) (nm : List UInt8) : midx ms nm ms.length = -1 ∨ ∃ k : Nat, midx ms nm ms.length = (k : Int) ∧ k < ms.length := by
  unfold midx
  rcases firstN_cases (fun k => (nth ms k).mo.cached && (nth ms k).mo.name == nm) ms.length with ⟨_, h⟩ | ⟨k, hk, _, _, h⟩
  · exact .inl h
  · exact .inr ⟨k, h, hk⟩
set_option maxRecDepth 100000 in
set_option maxHeartbeats 8000000 in
theorem load_n (w0 : World) (mb : Nat) (fa : Option Addr) (n fc : Nat) (pa : Option Addr) (pn pc : Nat) (l : List Fi) (path : List Int) (hE : EnvM w0 fa n fc pa pn l path) (L : Nat) (hBody : BodyOk w0 mb fa n fc pa pn pc L) : ∀ (m : Nat) (W : World) (left q : Nat) (ms : List Mp) (nm : List UInt8), X w0 W → MaW W w0.heap.size mb (.slice fa n fc) (.slice pa pn pc) left q ms → left ≤ L → nameB nm = true → partsN nm = m + 1 → q + 20 * left + 3 * (m + 1) ≤ 400009 →
    Calls Tryz.prog 89 #[.pointer (some ⟨mb, 0, none⟩), .string ⟨(nm).toArray⟩] W fun e w' => LoadE w0 mb fa n fc pa pn pc W w' (q + 20 * left + 3 * (m + 1)) left ms e := by
  obtain ⟨⟨Bt, hF⟩, hnc, ⟨Bp, hI⟩, ht, hG⟩ := hE
  intro m
  induction m with
  | zero =>
    intro W left q ms nm hX hS hL hn hm hP
    have hp : parentF nm = [] := by
      rcases name_parts hn with ⟨h, _⟩ | ⟨m, h, _⟩
      · exact h
      · unfold partsN at hm; omega
    have hn12 := nameB_len hn
    go_enter Tryz.func89, Tryz.ntmps89
    go_wp2_with fail
    refine (cached_c w0.heap.size mb _ _ left q ms nm W hS (by omega)).mono ?_
    rintro _ w1 ⟨rfl, hx1⟩
    have hX1 := hX.trans hx1
    have hK1 := Kp.of_x hx1 hX.size
    rcases midx_cases ms nm with hj | ⟨j, hj, hjl⟩
    · rw [hj]
      go_wp2_with fail
      refine (ParentOf_c nm w1 (by omega) (hG.mono hX1)).mono ?_
      rintro _ W3 ⟨rfl, hx3⟩
      rw [hp]
      obtain ⟨leftr, hlq⟩ : ∃ leftr, leftr = left := ⟨_, rfl⟩
      obtain ⟨qr, hqq⟩ : ∃ qr, qr = q := ⟨_, rfl⟩
      obtain ⟨msr, hmm⟩ : ∃ msr, msr = ms := ⟨_, rfl⟩
      have hSr : MaW W3 w0.heap.size mb (.slice fa n fc) (.slice pa pn pc) leftr qr msr := by rw [hlq, hqq, hmm]; exact hS.x (hx1.trans hx3)
      have hXr := hX1.trans hx3
      have hKr := hK1.trans (Kp.of_x hx3 hX1.size)
      have hEr : Ext ms msr := by rw [hmm]; exact Ext.refl _
      have hlr : leftr ≤ left := by omega
      have hpr : qr + 20 * leftr + 3 ≤ q + 20 * left + 3 * (0 + 1) := by omega
      clear hlq hqq hmm
      go_wp2_with fail
      refine (look_c w0.heap.size mb leftr qr fa n fc pa pn pc msr l path Bt Bp nm W3 hSr (by omega) (hF.mono (hXr.fr Bt)) (hI.mono (hXr.fr Bp)) ht (hG.mono hXr) hn).mono ?_
      rintro _ w4 ⟨kd, fi, ra, rc, r, rfl, hx4, hfi, hrl, hrO⟩
      go_upto_region 13 with fail
      refine wp_name (fun W5 hW5 => ?_)
      have hSp5 : W5.heap[w4.heap.size]? = some (.cells #[.int .i64 kd, .int .i64 fi, .slice ra r.length rc] 173 (0, 0)) := by rw [hW5]; exact heap_alloc_new _ _
      have hx45 : X w4 W5 := by rw [hW5]; (repeat (first | with_reducible exact X.refl _ | with_reducible assumption | with_reducible refine X.setCell ?_ (by first | (simp; done) | (simp; omega)) _ | with_reducible refine X.ext ?_ _ | with_reducible refine X.alloc ?_ _ | with_reducible refine X.drew ?_))
      clear hW5
      have hx5 := hx4.trans hx45
      have hX5 := hXr.trans hx5
      have hB5 := hX5.size
      have hS5 := hSr.x hx5
      have hK5 := hKr.trans (Kp.of_x hx5 hXr.size)
      have hSl := Sl.of_own (own_fr hrO (hx45.fr _))
      obtain ⟨ls5, cs5, -⟩ := Bx.out ⟨_, hSp5⟩
      have s05 := cs5 0
      clear cs5
      by_cases hkd : kd = 0
      · subst hkd
        go_wp2
        refine bodyPost_ret (v := .tuple #[.int .i64 (-1), .int .i64 1]) (by simp [results, Tryz.results89, go_sem]) rfl ?_
        exact ⟨leftr, qr, msr, -1, 1, rfl, (fun h => absurd h (by decide)), hS5, hK5, hEr, hlr, by omega⟩
      · have hkd' : (kd == 0) = false := by simpa using hkd
        have hSlen : (ints r).length = r.length * 1 := flat_length 1 _ (fun _ => rfl) r
        have hS1c : ∀ u ∈ ints r, u.oneCell' = true := fun u hu => by
          unfold ints at hu
          obtain ⟨z, _, hz⟩ := List.mem_flatMap.1 hu
          rw [List.mem_singleton.1 hz]
          rfl
        go_wp2_with fail
        refine wp_region_inv (fun L v W => X W5 W
            ∧ (L 6 = true → L 3 = true)
            ∧ (L 8 = true → L 6 = true ∧ L 7 = true ∧ v 8 = .agg #[.string ⟨(nm).toArray⟩, .int .i64 kd, v 6, .bool true, .bool false, v 7])
            ∧ (L 9 = true → L 8 = true)
            ∧ (L 10 = true → L 9 = true ∧ v 10 = v 9)
            ∧ (L 3 = true → ∃ gA, v 3 = .slice (some ⟨gA, 0, none⟩) 0 0 ∧ (L 6 = false → W.ownsRow W5.heap.size 3 1 (.slice (some ⟨gA, 0, none⟩) 0 0) 0 []))
            ∧ (L 6 = true → ∃ ga gc, v 6 = .slice ga r.length gc ∧ W.ownsRow W5.heap.size 3 1 (.slice ga r.length gc) r.length (ints r))
            ∧ (L 7 = true → ∃ gB, v 7 = .slice (some ⟨gB, 0, none⟩) 0 0 ∧ W.ownsRow W5.heap.size 213 3 (.slice (some ⟨gB, 0, none⟩) 0 0) 0 [])
            ∧ (L 9 = true → ∃ xb, v 9 = .pointer (some ⟨xb, 0, none⟩) ∧ W5.heap.size ≤ xb ∧ W.heap[xb]? = some (.cells #[.string ⟨(nm).toArray⟩, .int .i64 kd, v 6, .bool true, .bool false, v 7] 178 (0, 0)))
            ∧ (L 0 = true → v 0 = .string ⟨(nm).toArray⟩)
            ∧ (L 1 = true → v 1 = .pointer (some ⟨w4.heap.size, 0, none⟩))
            ∧ (L 2 = true → v 2 = .int .i64 kd)
            ∧ (L 4 = true → v 4 = .pointer (some ⟨w4.heap.size, 2, none⟩))
            ∧ (L 5 = true → v 5 = .slice ra r.length rc)) (by kernel_rfl) (by kernel_rfl) ?_ ?_ (l := [(51, 0), (52, 1), (53, 2), (54, 3), (55, 4), (56, 5), (57, 6), (58, 7), (59, 8), (60, 9), (12, 10)]) (by kernel_rfl) (n := 11) rfl ?_
        · intro v
          exact ⟨(X.refl _).drew, fun h => Bool.noConfusion h, fun h => Bool.noConfusion h, fun h => Bool.noConfusion h, fun h => Bool.noConfusion h, fun h => Bool.noConfusion h, fun h => Bool.noConfusion h, fun h => Bool.noConfusion h, fun h => Bool.noConfusion h, fun h => Bool.noConfusion h, fun h => Bool.noConfusion h, fun h => Bool.noConfusion h, fun h => Bool.noConfusion h, fun h => Bool.noConfusion h⟩
        · intro i hi
          have hi' : i = 0 ∨ i = 1 ∨ i = 2 ∨ i = 3 ∨ i = 4 ∨ i = 5 ∨ i = 6 ∨ i = 7 ∨ i = 8 ∨ i = 9 ∨ i = 10 := by
            have : i < 11 := hi
            omega
          clear hi
          rcases hi' with rfl | rfl | rfl | rfl | rfl | rfl | rfl | rfl | rfl | rfl | rfl
          all_goals
            intro o ho L v aa W hI hS hL hA K hK
            cases (show some _ = some o from ho)
            obtain ⟨xx, d6, d8, d9, d10, v3x, v6x, v7x, v9x, v0, v1, v2, v4, v5⟩ := hI
          · have o1 := hS.old 1 (by kernel_rfl) rfl
            clear hS ho hA
            go_simp
            exact hK _ W ⟨xx, d6, d8, d9, d10, v3x, v6x, v7x, v9x, fun _ => rfl, v1, v2, v4, v5⟩
          · have o11 := hS.old 11 (by kernel_rfl) rfl
            clear hS ho hA
            go_simp
            exact hK _ W ⟨xx, d6, d8, d9, d10, v3x, v6x, v7x, v9x, v0, fun _ => rfl, v2, v4, v5⟩
          · have l1 : L 1 = true := hA ⟨1, .data⟩ (by simp) rfl
            have g1 := hS.get 1 52 rfl l1 (v1 l1)
            obtain ⟨lW, ct, _⟩ := Bx.out ⟨_, at_x2' hSp5 xx⟩
            have t0 := ct 0
            have t2 := ct 2
            clear ct
            clear hS ho hA
            go_simp
            exact hK _ W ⟨xx, d6, d8, d9, d10, v3x, v6x, v7x, v9x, v0, v1, fun _ => rfl, v4, v5⟩
          · have n6 : L 6 = false := by rcases h : L 6 with _ | _; (· rfl); (· have := d6 h; simp [hL] at this)
            have n8 : L 8 = false := by rcases h : L 8 with _ | _; (· rfl); (· have := d6 (d8 h).1; simp [hL] at this)
            have n9 : L 9 = false := by rcases h : L 9 with _ | _; (· rfl); (· have := d6 (d8 (d9 h)).1; simp [hL] at this)
            clear hS ho hA
            go_simp
            exact hK _ _ ⟨xx.alloc _, fun _ => rfl, d8, d9, d10, fun _ => ⟨_, rfl, fun _ => own_lit (n := 0) (size := 1) (cs := #[]) rfl xx.size rfl (by omega)⟩, fun h => let ⟨ga, gc, e, ho⟩ := v6x h; ⟨ga, gc, e, ho.alloc _⟩, fun h => let ⟨gB, e, ho⟩ := v7x h; ⟨gB, e, ho.alloc _⟩, fun h => Bool.noConfusion (n9.symm.trans h), v0, v1, v2, v4, v5⟩
          · have o11 := hS.old 11 (by kernel_rfl) rfl
            clear hS ho hA
            go_simp
            exact hK _ W ⟨xx, d6, d8, d9, d10, v3x, v6x, v7x, v9x, v0, v1, v2, fun _ => rfl, v5⟩
          · have l4 : L 4 = true := hA ⟨4, .data⟩ (by simp) rfl
            have g4 := hS.get 4 55 rfl l4 (v4 l4)
            obtain ⟨lW, ct, _⟩ := Bx.out ⟨_, at_x2' hSp5 xx⟩
            have t0 := ct 0
            have t2 := ct 2
            clear ct
            clear hS ho hA
            go_simp
            exact hK _ W ⟨xx, d6, d8, d9, d10, v3x, v6x, v7x, v9x, v0, v1, v2, v4, fun _ => rfl⟩
          · have l3 : L 3 = true := hA ⟨3, .data⟩ (by simp) rfl
            have l5 : L 5 = true := hA ⟨5, .data⟩ (by simp) rfl
            have g5 := hS.get 5 56 rfl l5 (v5 l5)
            have n8 : L 8 = false := by rcases h : L 8 with _ | _; (· rfl); (· have := (d8 h).1; simp [hL] at this)
            have n9 : L 9 = false := by rcases h : L 9 with _ | _; (· rfl); (· have := (d8 (d9 h)).1; simp [hL] at this)
            obtain ⟨gA, e3, hoA⟩ := v3x l3
            refine unwantM (E := True) (by exact rfl) (step_append_slK (ops := #[]) int_T rfl _ _ rfl (hoA hL) ((hS.eval_on 3 54 rfl l3).trans e3) ((hS.eval_on 5 56 rfl l5).trans (v5 l5)) (hSl.mono (xx.fr _)) hSlen hS1c (by omega) (by unfold maxLen; omega) xx.size ?_)
            intro ga gc w6
            rw [Nat.zero_add, List.nil_append]
            intro hO6 hg6 _
            have xx6 : X W5 w6 := x_ownA xx (hoA hL) (Nat.le_refl _) hg6
            exact hK _ w6 ⟨xx6, fun _ => l3, fun h => Bool.noConfusion (n8.symm.trans h), d9, d10, fun h => let ⟨gA, e, _⟩ := v3x h; ⟨gA, e, fun h6 => Bool.noConfusion h6⟩, fun _ => ⟨ga, gc, rfl, hO6⟩, fun h => let ⟨gB, e, ho⟩ := v7x h; ⟨gB, e, ho.kept hg6 (row_ne ho (hoA hL) (by decide))⟩, fun h => Bool.noConfusion (n9.symm.trans h), v0, v1, v2, v4, v5⟩
          · have n8 : L 8 = false := by rcases h : L 8 with _ | _; (· rfl); (· have := (d8 h).2.1; simp [hL] at this)
            have n9 : L 9 = false := by rcases h : L 9 with _ | _; (· rfl); (· have := (d8 (d9 h)).2.1; simp [hL] at this)
            clear hS ho hA
            go_simp
            exact hK _ _ ⟨xx.alloc _, d6, fun h => Bool.noConfusion (n8.symm.trans h), d9, d10, fun h => let ⟨gA, e, ho⟩ := v3x h; ⟨gA, e, fun h6 => (ho h6).alloc _⟩, fun h => let ⟨ga, gc, e, ho⟩ := v6x h; ⟨ga, gc, e, ho.alloc _⟩, fun _ => ⟨_, rfl, own_lit (n := 0) (size := 3) (cs := #[]) rfl xx.size rfl (by omega)⟩, fun h => Bool.noConfusion (n9.symm.trans h), v0, v1, v2, v4, v5⟩
          · have l0 : L 0 = true := hA ⟨0, .data⟩ (by simp) rfl
            have g0 := hS.get 0 51 rfl l0 (v0 l0)
            have l2 : L 2 = true := hA ⟨2, .data⟩ (by simp) rfl
            have g2 := hS.get 2 53 rfl l2 (v2 l2)
            have l6 : L 6 = true := hA ⟨6, .data⟩ (by simp) rfl
            have l7 : L 7 = true := hA ⟨7, .data⟩ (by simp) rfl
            obtain ⟨ga, gc, e6, -⟩ := v6x l6
            obtain ⟨gB, e7, -⟩ := v7x l7
            have g6 := hS.get 6 57 rfl l6 e6
            have g7 := hS.get 7 58 rfl l7 e7
            clear hS ho hA
            go_simp
            exact hK _ W ⟨xx, d6, fun _ => ⟨l6, l7, show (.agg #[.string ⟨(nm).toArray⟩, .int .i64 kd, .slice ga r.length gc, .bool true, .bool false, .slice (some ⟨gB, 0, none⟩) 0 0] : Value) = .agg #[.string ⟨(nm).toArray⟩, .int .i64 kd, v 6, .bool true, .bool false, v 7] by rw [e6, e7]⟩, fun _ => rfl, d10, v3x, v6x, v7x, v9x, v0, v1, v2, v4, v5⟩
          · have l8 : L 8 = true := hA ⟨8, .data⟩ (by simp) rfl
            obtain ⟨l6, l7, e8⟩ := d8 l8
            obtain ⟨ga, gc, e6, -⟩ := v6x l6
            obtain ⟨gB, e7, -⟩ := v7x l7
            have e8x : v 8 = .agg #[.string ⟨(nm).toArray⟩, .int .i64 kd, .slice ga r.length gc, .bool true, .bool false, .slice (some ⟨gB, 0, none⟩) 0 0] := by rw [e8, e6, e7]
            have g8 := hS.get 8 59 rfl l8 e8x
            have n10 : L 10 = false := by rcases h : L 10 with _ | _; (· rfl); (· have := (d10 h).1; simp [hL] at this)
            clear hS ho hA
            go_simp
            exact hK _ _ ⟨xx.alloc _, d6, d8, fun _ => l8, fun h => Bool.noConfusion (n10.symm.trans h), fun h => let ⟨gA, e, ho⟩ := v3x h; ⟨gA, e, fun h6 => (ho h6).alloc _⟩, fun h => let ⟨ga, gc, e, ho⟩ := v6x h; ⟨ga, gc, e, ho.alloc _⟩, fun h => let ⟨gB, e, ho⟩ := v7x h; ⟨gB, e, ho.alloc _⟩, fun _ => ⟨_, rfl, xx.size, show (W.alloc (.cells #[.string ⟨(nm).toArray⟩, .int .i64 kd, .slice ga r.length gc, .bool true, .bool false, .slice (some ⟨gB, 0, none⟩) 0 0] 178)).heap[W.heap.size]? = some (.cells #[.string ⟨(nm).toArray⟩, .int .i64 kd, v 6, .bool true, .bool false, v 7] 178 (0, 0)) by rw [e6, e7]; exact heap_alloc_new _ _⟩, v0, v1, v2, v4, v5⟩
          · have l9 : L 9 = true := hA ⟨9, .data⟩ (by simp) rfl
            obtain ⟨xb, e9, -, -⟩ := v9x l9
            have g9 := hS.get 9 60 rfl l9 e9
            clear hS ho hA
            go_simp
            exact hK _ W ⟨xx, d6, d8, d9, fun _ => ⟨l9, show (.pointer (some ⟨xb, 0, none⟩) : Value) = v 9 by rw [e9]⟩, v3x, v6x, v7x, v9x, v0, v1, v2, v4, v5⟩
        intro v W6 hI
        obtain ⟨xx, d6, d8, d9, d10, v3x, v6x, v7x, v9x, v0, v1, v2, v4, v5⟩ := hI
        have e0 := v0 rfl
        have e1 := v1 rfl
        have e2 := v2 rfl
        have e4 := v4 rfl
        have e5 := v5 rfl
        clear v0 v1 v2 v4 v5
        obtain ⟨ga, gc, e6, hO6⟩ := v6x rfl
        obtain ⟨gB, e7, hO7⟩ := v7x rfl
        obtain ⟨gA, e3, -⟩ := v3x rfl
        obtain ⟨xb, e9, hxb, hbx⟩ := v9x rfl
        have e8 := (d8 rfl).2.2
        have e10 := (d10 rfl).2
        rw [e9] at e10
        rw [e6, e7] at e8 hbx
        clear d6 d8 d9 d10 v3x v6x v7x v9x
        simp only [putL, List.foldl, List.setIfInBounds_toArray, List.set_cons_zero, List.set_cons_succ, e0, e1, e2, e4, e5, e3, e6, e7, e8, e9, e10]
        clear e0 e1 e2 e4 e5
        clear e3 e6 e7 e8 e9 e10
        have hS5' := hS5
        obtain ⟨mv, ov, lv, qv, hMX5⟩ := hS5'
        have hMX6 := hMX5.x xx
        obtain ⟨x, hxd⟩ : ∃ x : Mp, x = ⟨xb, ⟨nm, kd, r, true, false, []⟩, .slice ga r.length gc, .slice (some ⟨gB, 0, none⟩) 0 0⟩ := ⟨_, rfl⟩
        have hMo6 : MoW W6 w0.heap.size x := by
          subst hxd
          exact ⟨hbx, Nat.le_trans hB5 hxb, ⟨_, _, rfl, own_less hO7 hB5⟩, ⟨_, _, rfl, own_less hO6 hB5⟩, hn, hrl, (fun _ h => by cases h), List.Pairwise.nil⟩
        have hsA : ∀ i, i < msr.length → (nth msr i).b ≠ x.b ∧ Apm (nth msr i).av x.av := fun i hi => by
          have hMi := hMX5.mods i hi
          have := (mo_out hMi.box).1
          subst hxd
          exact ⟨by show (nth msr i).b ≠ xb; omega, Apm.new (w := W5) (own_blk hMi.arow) (fun b hb => (hO7.lt b hb).1)⟩
        have hsO : Apm x.rv ov := by
          subst hxd
          obtain ⟨_, _, _, _, _, ho⟩ := hMX5.orow
          exact (Apm.new (w := W5) (own_blk ho) (fun b hb => (hO6.lt b hb).1)).symm
        have hxb2 : x.b = xb := by rw [hxd]
        have e1 : (msr ++ [x]).length = msr.length + 1 := by simp
        have e2 : mptrs (msr ++ [x]) = mptrs msr ++ [.pointer (some ⟨xb, 0, none⟩)] := by rw [← hxb2]; simp [mptrs]
        have Hx := Lib.hid (And.intro hxb2 (And.intro e1 e2))
        have hB6 := Nat.le_trans hB5 xx.size
        clear hxd hxb2 e1 e2 hbx hO6 hO7 s05 ls5 hxb
        obtain ⟨ma, mc, rfl, hMO⟩ := hMX6.mrow
        obtain ⟨lm6, fm6, -, -, -, -, m46, -, -, -, -⟩ := ma_out hMX6.box
        clear fm6
        have hmlen : msr.length ≤ 1000000 := by have := hMX6.len; omega
        go_upto_region 18 with (at_builtin; refine wpList_append_g mp_T rfl _ _ rfl hMO rfl rfl rfl rfl (by simp [Value.oneCell']) (by omega) (by omega) (by omega) ?_; intro a7 c7 w7 hO7 hg7; replace hg7 := X.grown ((X.refl W6).alloc _) hg7; have hb7 := at_grown hMX6.box hg7 (own_ne_at hMO hMX6.box (by decide)); obtain ⟨l7, f7, -, -, -, -, k47, -, -, -, -⟩ := ma_out hb7)
        refine wp_name (fun W8 hW8 => ?_)
        have hMX8 : MaX W8 w0.heap.size mb (.slice fa n fc) (.slice pa pn pc) leftr (qr + 1) (msr ++ [x]) (.slice a7 (msr.length + 1) c7) ov lv qv := by
          rw [hW8]
          have := hMX6.snoc (a' := a7) (c' := c7) hg7 (by rw [Hx.out.2.1, Hx.out.2.2]; exact hO7) hMo6 hsA hsO
          rw [Hx.out.2.1] at this
          exact this
        have hK8 : Kp w0.heap.size W6 W8 := by
          rw [hW8]
          exact (Kp.grown hg7 hMO (by unfold KT; decide) (Nat.le_refl _) hB6).trans (Kp.set hb7 hMX6.lo (by unfold KT; decide) _ _)
        clear hW8 hb7 l7 f7 k47 hg7 hO7 m46 lm6
        have hSp8 := hK8.2 _ _ _ (by unfold KT; decide) (at_x2' hSp5 xx)
        have hK08 := (hK5.trans (Kp.of_x xx hB5)).trans hK8
        have hX8 := hK08.X hX
        obtain ⟨ls8, cs8, -⟩ := Bx.out ⟨_, hSp8⟩
        have s08 := cs8 0
        have s18 := cs8 1
        have s28 := cs8 2
        clear cs8
        go_wp2_with fail
        refine (hBody W8 leftr (qr + 1) (msr ++ [x]) msr.length kd fi ra r.length rc hX8 ⟨_, _, _, _, hMX8⟩ (by omega) (by rw [Hx.out.2.1]; omega) hfi (by omega)).mono ?_
        rintro _ w9 ⟨left9, q9, ms9, en, rfl, hS9, hK9, hE9, hl9, hp9⟩
        have hlt9 : msr.length < ms9.length := by
          have h1 := hE9.1
          rw [Hx.out.2.1] at h1
          omega
        have hb9 : (nth ms9 msr.length).b = xb := by
          have h1 := hE9.2 msr.length (by rw [Hx.out.2.1]; omega)
          rw [nth_snoc, Hx.out.1] at h1
          exact h1
        have hEr9 := (hEr.trans (Ext.snoc msr x)).trans hE9
        have hK09 := hK08.trans hK9
        have hX9 := hK09.X hX
        have hB9 := hX9.size
        obtain ⟨mv9, ov9, lv9, qv9, hMX9⟩ := hS9
        have hM9 := hMX9.mods msr.length hlt9
        subst hb9
        obtain ⟨lx9, fx9, -, -, -, -, -, -⟩ := mo_out hM9.box
        obtain ⟨-, cx9, -⟩ := Bx.out ⟨_, hM9.box⟩
        have x39 : w9.cell? ⟨(nth ms9 msr.length).b, 3, none⟩ = some (.bool (nth ms9 msr.length).mo.cached) := cx9 3
        have x49 : w9.cell? ⟨(nth ms9 msr.length).b, 4, none⟩ = some (.bool (nth ms9 msr.length).mo.done) := cx9 4
        clear cx9 s08 s18 s28
        by_cases hen : en = 0
        · subst hen
          obtain ⟨ms10, hMX10, hE10⟩ := hMX9.doneF hlt9 true
          have hK10 := Kp.set hM9.box hM9.lo (by unfold KT; decide) 4 (.bool true)
          go_wp2_with fail
          refine calls_name (fun W10 hW10 => ?_)
          rw [← hW10] at hMX10 hK10
          have hK010 := hK09.trans hK10
          have hB10 := (hK010.X hX).size
          clear hW10 x39 x49
          refine (cached_c w0.heap.size mb _ _ left9 q9 ms10 [] W10 ⟨_, _, _, _, hMX10⟩ (by omega)).mono ?_
          rintro _ w11 ⟨rfl, hx11⟩
          go_wp2
          refine bodyPost_ret (v := .tuple #[.int .i64 (msr.length : Int), .int .i64 0]) (by simp [results, Tryz.results89, go_sem]) rfl ?_
          exact ⟨left9, q9, ms10, (msr.length : Int), 0, rfl, (fun _ => ⟨msr.length, rfl, Nat.lt_of_lt_of_le hlt9 hE10.1⟩), ⟨_, _, _, _, hMX10.x hx11⟩, hK010.trans (Kp.of_x hx11 hB10), hEr9.trans hE10, by omega, by omega⟩
        · have hen' : (en == 0) = false := by simpa using hen
          obtain ⟨ms10, hMX10, hE10⟩ := hMX9.cachedF hlt9 false
          go_wp2
          refine bodyPost_ret (v := .tuple #[.int .i64 (-1), .int .i64 en]) (by simp [results, Tryz.results89, go_sem]) rfl ?_
          exact ⟨left9, q9, ms10, -1, en, rfl, (fun h => absurd h hen), ⟨_, _, _, _, hMX10⟩, hK09.trans (Kp.set hM9.box hM9.lo (by unfold KT; decide) 3 (.bool false)), hEr9.trans hE10, by omega, by omega⟩
    · rw [hj]
      go_wp2_with fail
      refine (hit_c w0.heap.size mb left q _ _ ms j w1 (hS.x hx1) hjl (by omega) hX1.size).mono ?_
      rintro _ w3 ⟨rfl, hS3, hK3⟩
      go_wp2
      refine bodyPost_ret (v := .tuple #[.int .i64 (j : Int), .int .i64 0]) (by simp [results, Tryz.results89, go_sem]) rfl ?_
      exact ⟨left, q + 2, ms, j, 0, rfl, (fun _ => ⟨j, rfl, hjl⟩), hS3, hK1.trans hK3, Ext.refl _, Nat.le_refl _, by omega⟩
  | succ m ih =>
    intro W left q ms nm hX hS hL hn hm hP
    obtain ⟨hpn, hpp, hpart⟩ : nameB (parentF nm) = true ∧ partsN (parentF nm) = m + 1 ∧ partB (lastF nm) = true := by
      rcases name_parts hn with ⟨_, _, h, _⟩ | ⟨k, hk, e1, e2, _⟩
      · unfold partsN at hm; omega
      · unfold partsN at hm ⊢
        obtain rfl : k = m := by omega
        rw [e1, e2]
        exact ⟨pfx_name hn (by omega), by rw [pfx_split hn (by omega), List.length_take]; omega, part_at hn (by omega)⟩
    obtain ⟨p, hp⟩ : ∃ p, parentF nm = p := ⟨_, rfl⟩
    have Hp := Lib.hid hp
    rw [hp] at hpn hpp
    clear hp
    have hp0 : (p == []) = false := by
      cases p with
      | nil => rw [nameB_nil] at hpn; cases hpn
      | cons a b => rfl
    have hn12 := nameB_len hn
    go_enter Tryz.func89, Tryz.ntmps89
    go_wp2_with fail
    refine (cached_c w0.heap.size mb _ _ left q ms nm W hS (by omega)).mono ?_
    rintro _ w1 ⟨rfl, hx1⟩
    have hX1 := hX.trans hx1
    have hK1 := Kp.of_x hx1 hX.size
    rcases midx_cases ms nm with hj | ⟨j, hj, hjl⟩
    · rw [hj]
      go_wp2_with fail
      refine (ParentOf_c nm w1 (by omega) (hG.mono hX1)).mono ?_
      rintro _ W2 ⟨rfl, hx2⟩
      rw [Hp.out]
      have hX2 := hX1.trans hx2
      have hK2 := hK1.trans (Kp.of_x hx2 hX1.size)
      go_wp2_with fail
      refine (ih W2 left q ms p hX2 (hS.x (hx1.trans hx2)) hL hpn hpp (by omega)).mono ?_
      rintro _ w3 ⟨leftr, qr, msr, i3, en3, rfl, hi3, hS3, hK3, hEr, hlr, hp3⟩
      have hK03 := hK2.trans hK3
      have hX3 := hK03.X hX
      by_cases hen3 : en3 = 0
      · subst hen3
        go_wp2_with fail
        refine (cached_c w0.heap.size mb _ _ leftr qr msr nm w3 hS3 (by omega)).mono ?_
        rintro _ W3 ⟨rfl, hx3⟩
        have hXr := hX3.trans hx3
        have hKr := hK03.trans (Kp.of_x hx3 hX3.size)
        have hSr := hS3.x hx3
        rcases midx_cases msr nm with hj3 | ⟨j3, hj3, hjl3⟩
        · rw [hj3]
          have hpr : qr + 20 * leftr + 3 ≤ q + 20 * left + 3 * (m + 1 + 1) := by omega
          go_wp2_with fail
          refine (look_c w0.heap.size mb leftr qr fa n fc pa pn pc msr l path Bt Bp nm W3 hSr (by omega) (hF.mono (hXr.fr Bt)) (hI.mono (hXr.fr Bp)) ht (hG.mono hXr) hn).mono ?_
          rintro _ w4 ⟨kd, fi, ra, rc, r, rfl, hx4, hfi, hrl, hrO⟩
          go_upto_region 13 with fail
          refine wp_name (fun W5 hW5 => ?_)
          have hSp5 : W5.heap[w4.heap.size]? = some (.cells #[.int .i64 kd, .int .i64 fi, .slice ra r.length rc] 173 (0, 0)) := by rw [hW5]; exact heap_alloc_new _ _
          have hx45 : X w4 W5 := by rw [hW5]; (repeat (first | with_reducible exact X.refl _ | with_reducible assumption | with_reducible refine X.setCell ?_ (by first | (simp; done) | (simp; omega)) _ | with_reducible refine X.ext ?_ _ | with_reducible refine X.alloc ?_ _ | with_reducible refine X.drew ?_))
          clear hW5
          have hx5 := hx4.trans hx45
          have hX5 := hXr.trans hx5
          have hB5 := hX5.size
          have hS5 := hSr.x hx5
          have hK5 := hKr.trans (Kp.of_x hx5 hXr.size)
          have hSl := Sl.of_own (own_fr hrO (hx45.fr _))
          obtain ⟨ls5, cs5, -⟩ := Bx.out ⟨_, hSp5⟩
          have s05 := cs5 0
          clear cs5
          by_cases hkd : kd = 0
          · subst hkd
            go_wp2
            refine bodyPost_ret (v := .tuple #[.int .i64 (-1), .int .i64 1]) (by simp [results, Tryz.results89, go_sem]) rfl ?_
            exact ⟨leftr, qr, msr, -1, 1, rfl, (fun h => absurd h (by decide)), hS5, hK5, hEr, hlr, by omega⟩
          · have hkd' : (kd == 0) = false := by simpa using hkd
            have hSlen : (ints r).length = r.length * 1 := flat_length 1 _ (fun _ => rfl) r
            have hS1c : ∀ u ∈ ints r, u.oneCell' = true := fun u hu => by
              unfold ints at hu
              obtain ⟨z, _, hz⟩ := List.mem_flatMap.1 hu
              rw [List.mem_singleton.1 hz]
              rfl
            go_wp2_with fail
            refine wp_region_inv (fun L v W => X W5 W
                ∧ (L 6 = true → L 3 = true)
                ∧ (L 8 = true → L 6 = true ∧ L 7 = true ∧ v 8 = .agg #[.string ⟨(nm).toArray⟩, .int .i64 kd, v 6, .bool true, .bool false, v 7])
                ∧ (L 9 = true → L 8 = true)
                ∧ (L 10 = true → L 9 = true ∧ v 10 = v 9)
                ∧ (L 3 = true → ∃ gA, v 3 = .slice (some ⟨gA, 0, none⟩) 0 0 ∧ (L 6 = false → W.ownsRow W5.heap.size 3 1 (.slice (some ⟨gA, 0, none⟩) 0 0) 0 []))
                ∧ (L 6 = true → ∃ ga gc, v 6 = .slice ga r.length gc ∧ W.ownsRow W5.heap.size 3 1 (.slice ga r.length gc) r.length (ints r))
                ∧ (L 7 = true → ∃ gB, v 7 = .slice (some ⟨gB, 0, none⟩) 0 0 ∧ W.ownsRow W5.heap.size 213 3 (.slice (some ⟨gB, 0, none⟩) 0 0) 0 [])
                ∧ (L 9 = true → ∃ xb, v 9 = .pointer (some ⟨xb, 0, none⟩) ∧ W5.heap.size ≤ xb ∧ W.heap[xb]? = some (.cells #[.string ⟨(nm).toArray⟩, .int .i64 kd, v 6, .bool true, .bool false, v 7] 178 (0, 0)))
                ∧ (L 0 = true → v 0 = .string ⟨(nm).toArray⟩)
                ∧ (L 1 = true → v 1 = .pointer (some ⟨w4.heap.size, 0, none⟩))
                ∧ (L 2 = true → v 2 = .int .i64 kd)
                ∧ (L 4 = true → v 4 = .pointer (some ⟨w4.heap.size, 2, none⟩))
                ∧ (L 5 = true → v 5 = .slice ra r.length rc)) (by kernel_rfl) (by kernel_rfl) ?_ ?_ (l := [(51, 0), (52, 1), (53, 2), (54, 3), (55, 4), (56, 5), (57, 6), (58, 7), (59, 8), (60, 9), (12, 10)]) (by kernel_rfl) (n := 11) rfl ?_
            · intro v
              exact ⟨(X.refl _).drew, fun h => Bool.noConfusion h, fun h => Bool.noConfusion h, fun h => Bool.noConfusion h, fun h => Bool.noConfusion h, fun h => Bool.noConfusion h, fun h => Bool.noConfusion h, fun h => Bool.noConfusion h, fun h => Bool.noConfusion h, fun h => Bool.noConfusion h, fun h => Bool.noConfusion h, fun h => Bool.noConfusion h, fun h => Bool.noConfusion h, fun h => Bool.noConfusion h⟩
            · intro i hi
              have hi' : i = 0 ∨ i = 1 ∨ i = 2 ∨ i = 3 ∨ i = 4 ∨ i = 5 ∨ i = 6 ∨ i = 7 ∨ i = 8 ∨ i = 9 ∨ i = 10 := by
                have : i < 11 := hi
                omega
              clear hi
              rcases hi' with rfl | rfl | rfl | rfl | rfl | rfl | rfl | rfl | rfl | rfl | rfl
              all_goals
                intro o ho L v aa W hI hS hL hA K hK
                cases (show some _ = some o from ho)
                obtain ⟨xx, d6, d8, d9, d10, v3x, v6x, v7x, v9x, v0, v1, v2, v4, v5⟩ := hI
              · have o1 := hS.old 1 (by kernel_rfl) rfl
                clear hS ho hA
                go_simp
                exact hK _ W ⟨xx, d6, d8, d9, d10, v3x, v6x, v7x, v9x, fun _ => rfl, v1, v2, v4, v5⟩
              · have o11 := hS.old 11 (by kernel_rfl) rfl
                clear hS ho hA
                go_simp
                exact hK _ W ⟨xx, d6, d8, d9, d10, v3x, v6x, v7x, v9x, v0, fun _ => rfl, v2, v4, v5⟩
              · have l1 : L 1 = true := hA ⟨1, .data⟩ (by simp) rfl
                have g1 := hS.get 1 52 rfl l1 (v1 l1)
                obtain ⟨lW, ct, _⟩ := Bx.out ⟨_, at_x2' hSp5 xx⟩
                have t0 := ct 0
                have t2 := ct 2
                clear ct
                clear hS ho hA
                go_simp
                exact hK _ W ⟨xx, d6, d8, d9, d10, v3x, v6x, v7x, v9x, v0, v1, fun _ => rfl, v4, v5⟩
              · have n6 : L 6 = false := by rcases h : L 6 with _ | _; (· rfl); (· have := d6 h; simp [hL] at this)
                have n8 : L 8 = false := by rcases h : L 8 with _ | _; (· rfl); (· have := d6 (d8 h).1; simp [hL] at this)
                have n9 : L 9 = false := by rcases h : L 9 with _ | _; (· rfl); (· have := d6 (d8 (d9 h)).1; simp [hL] at this)
                clear hS ho hA
                go_simp
                exact hK _ _ ⟨xx.alloc _, fun _ => rfl, d8, d9, d10, fun _ => ⟨_, rfl, fun _ => own_lit (n := 0) (size := 1) (cs := #[]) rfl xx.size rfl (by omega)⟩, fun h => let ⟨ga, gc, e, ho⟩ := v6x h; ⟨ga, gc, e, ho.alloc _⟩, fun h => let ⟨gB, e, ho⟩ := v7x h; ⟨gB, e, ho.alloc _⟩, fun h => Bool.noConfusion (n9.symm.trans h), v0, v1, v2, v4, v5⟩
              · have o11 := hS.old 11 (by kernel_rfl) rfl
                clear hS ho hA
                go_simp
                exact hK _ W ⟨xx, d6, d8, d9, d10, v3x, v6x, v7x, v9x, v0, v1, v2, fun _ => rfl, v5⟩
              · have l4 : L 4 = true := hA ⟨4, .data⟩ (by simp) rfl
                have g4 := hS.get 4 55 rfl l4 (v4 l4)
                obtain ⟨lW, ct, _⟩ := Bx.out ⟨_, at_x2' hSp5 xx⟩
                have t0 := ct 0
                have t2 := ct 2
                clear ct
                clear hS ho hA
                go_simp
                exact hK _ W ⟨xx, d6, d8, d9, d10, v3x, v6x, v7x, v9x, v0, v1, v2, v4, fun _ => rfl⟩
              · have l3 : L 3 = true := hA ⟨3, .data⟩ (by simp) rfl
                have l5 : L 5 = true := hA ⟨5, .data⟩ (by simp) rfl
                have g5 := hS.get 5 56 rfl l5 (v5 l5)
                have n8 : L 8 = false := by rcases h : L 8 with _ | _; (· rfl); (· have := (d8 h).1; simp [hL] at this)
                have n9 : L 9 = false := by rcases h : L 9 with _ | _; (· rfl); (· have := (d8 (d9 h)).1; simp [hL] at this)
                obtain ⟨gA, e3, hoA⟩ := v3x l3
                refine unwantM (E := True) (by exact rfl) (step_append_slK (ops := #[]) int_T rfl _ _ rfl (hoA hL) ((hS.eval_on 3 54 rfl l3).trans e3) ((hS.eval_on 5 56 rfl l5).trans (v5 l5)) (hSl.mono (xx.fr _)) hSlen hS1c (by omega) (by unfold maxLen; omega) xx.size ?_)
                intro ga gc w6
                rw [Nat.zero_add, List.nil_append]
                intro hO6 hg6 _
                have xx6 : X W5 w6 := x_ownA xx (hoA hL) (Nat.le_refl _) hg6
                exact hK _ w6 ⟨xx6, fun _ => l3, fun h => Bool.noConfusion (n8.symm.trans h), d9, d10, fun h => let ⟨gA, e, _⟩ := v3x h; ⟨gA, e, fun h6 => Bool.noConfusion h6⟩, fun _ => ⟨ga, gc, rfl, hO6⟩, fun h => let ⟨gB, e, ho⟩ := v7x h; ⟨gB, e, ho.kept hg6 (row_ne ho (hoA hL) (by decide))⟩, fun h => Bool.noConfusion (n9.symm.trans h), v0, v1, v2, v4, v5⟩
              · have n8 : L 8 = false := by rcases h : L 8 with _ | _; (· rfl); (· have := (d8 h).2.1; simp [hL] at this)
                have n9 : L 9 = false := by rcases h : L 9 with _ | _; (· rfl); (· have := (d8 (d9 h)).2.1; simp [hL] at this)
                clear hS ho hA
                go_simp
                exact hK _ _ ⟨xx.alloc _, d6, fun h => Bool.noConfusion (n8.symm.trans h), d9, d10, fun h => let ⟨gA, e, ho⟩ := v3x h; ⟨gA, e, fun h6 => (ho h6).alloc _⟩, fun h => let ⟨ga, gc, e, ho⟩ := v6x h; ⟨ga, gc, e, ho.alloc _⟩, fun _ => ⟨_, rfl, own_lit (n := 0) (size := 3) (cs := #[]) rfl xx.size rfl (by omega)⟩, fun h => Bool.noConfusion (n9.symm.trans h), v0, v1, v2, v4, v5⟩
              · have l0 : L 0 = true := hA ⟨0, .data⟩ (by simp) rfl
                have g0 := hS.get 0 51 rfl l0 (v0 l0)
                have l2 : L 2 = true := hA ⟨2, .data⟩ (by simp) rfl
                have g2 := hS.get 2 53 rfl l2 (v2 l2)
                have l6 : L 6 = true := hA ⟨6, .data⟩ (by simp) rfl
                have l7 : L 7 = true := hA ⟨7, .data⟩ (by simp) rfl
                obtain ⟨ga, gc, e6, -⟩ := v6x l6
                obtain ⟨gB, e7, -⟩ := v7x l7
                have g6 := hS.get 6 57 rfl l6 e6
                have g7 := hS.get 7 58 rfl l7 e7
                clear hS ho hA
                go_simp
                exact hK _ W ⟨xx, d6, fun _ => ⟨l6, l7, show (.agg #[.string ⟨(nm).toArray⟩, .int .i64 kd, .slice ga r.length gc, .bool true, .bool false, .slice (some ⟨gB, 0, none⟩) 0 0] : Value) = .agg #[.string ⟨(nm).toArray⟩, .int .i64 kd, v 6, .bool true, .bool false, v 7] by rw [e6, e7]⟩, fun _ => rfl, d10, v3x, v6x, v7x, v9x, v0, v1, v2, v4, v5⟩
              · have l8 : L 8 = true := hA ⟨8, .data⟩ (by simp) rfl
                obtain ⟨l6, l7, e8⟩ := d8 l8
                obtain ⟨ga, gc, e6, -⟩ := v6x l6
                obtain ⟨gB, e7, -⟩ := v7x l7
                have e8x : v 8 = .agg #[.string ⟨(nm).toArray⟩, .int .i64 kd, .slice ga r.length gc, .bool true, .bool false, .slice (some ⟨gB, 0, none⟩) 0 0] := by rw [e8, e6, e7]
                have g8 := hS.get 8 59 rfl l8 e8x
                have n10 : L 10 = false := by rcases h : L 10 with _ | _; (· rfl); (· have := (d10 h).1; simp [hL] at this)
                clear hS ho hA
                go_simp
                exact hK _ _ ⟨xx.alloc _, d6, d8, fun _ => l8, fun h => Bool.noConfusion (n10.symm.trans h), fun h => let ⟨gA, e, ho⟩ := v3x h; ⟨gA, e, fun h6 => (ho h6).alloc _⟩, fun h => let ⟨ga, gc, e, ho⟩ := v6x h; ⟨ga, gc, e, ho.alloc _⟩, fun h => let ⟨gB, e, ho⟩ := v7x h; ⟨gB, e, ho.alloc _⟩, fun _ => ⟨_, rfl, xx.size, show (W.alloc (.cells #[.string ⟨(nm).toArray⟩, .int .i64 kd, .slice ga r.length gc, .bool true, .bool false, .slice (some ⟨gB, 0, none⟩) 0 0] 178)).heap[W.heap.size]? = some (.cells #[.string ⟨(nm).toArray⟩, .int .i64 kd, v 6, .bool true, .bool false, v 7] 178 (0, 0)) by rw [e6, e7]; exact heap_alloc_new _ _⟩, v0, v1, v2, v4, v5⟩
              · have l9 : L 9 = true := hA ⟨9, .data⟩ (by simp) rfl
                obtain ⟨xb, e9, -, -⟩ := v9x l9
                have g9 := hS.get 9 60 rfl l9 e9
                clear hS ho hA
                go_simp
                exact hK _ W ⟨xx, d6, d8, d9, fun _ => ⟨l9, show (.pointer (some ⟨xb, 0, none⟩) : Value) = v 9 by rw [e9]⟩, v3x, v6x, v7x, v9x, v0, v1, v2, v4, v5⟩
            intro v W6 hI
            obtain ⟨xx, d6, d8, d9, d10, v3x, v6x, v7x, v9x, v0, v1, v2, v4, v5⟩ := hI
            have e0 := v0 rfl
            have e1 := v1 rfl
            have e2 := v2 rfl
            have e4 := v4 rfl
            have e5 := v5 rfl
            clear v0 v1 v2 v4 v5
            obtain ⟨ga, gc, e6, hO6⟩ := v6x rfl
            obtain ⟨gB, e7, hO7⟩ := v7x rfl
            obtain ⟨gA, e3, -⟩ := v3x rfl
            obtain ⟨xb, e9, hxb, hbx⟩ := v9x rfl
            have e8 := (d8 rfl).2.2
            have e10 := (d10 rfl).2
            rw [e9] at e10
            rw [e6, e7] at e8 hbx
            clear d6 d8 d9 d10 v3x v6x v7x v9x
            simp only [putL, List.foldl, List.setIfInBounds_toArray, List.set_cons_zero, List.set_cons_succ, e0, e1, e2, e4, e5, e3, e6, e7, e8, e9, e10]
            clear e0 e1 e2 e4 e5
            clear e3 e6 e7 e8 e9 e10
            have hS5' := hS5
            obtain ⟨mv, ov, lv, qv, hMX5⟩ := hS5'
            have hMX6 := hMX5.x xx
            obtain ⟨x, hxd⟩ : ∃ x : Mp, x = ⟨xb, ⟨nm, kd, r, true, false, []⟩, .slice ga r.length gc, .slice (some ⟨gB, 0, none⟩) 0 0⟩ := ⟨_, rfl⟩
            have hMo6 : MoW W6 w0.heap.size x := by
              subst hxd
              exact ⟨hbx, Nat.le_trans hB5 hxb, ⟨_, _, rfl, own_less hO7 hB5⟩, ⟨_, _, rfl, own_less hO6 hB5⟩, hn, hrl, (fun _ h => by cases h), List.Pairwise.nil⟩
            have hsA : ∀ i, i < msr.length → (nth msr i).b ≠ x.b ∧ Apm (nth msr i).av x.av := fun i hi => by
              have hMi := hMX5.mods i hi
              have := (mo_out hMi.box).1
              subst hxd
              exact ⟨by show (nth msr i).b ≠ xb; omega, Apm.new (w := W5) (own_blk hMi.arow) (fun b hb => (hO7.lt b hb).1)⟩
            have hsO : Apm x.rv ov := by
              subst hxd
              obtain ⟨_, _, _, _, _, ho⟩ := hMX5.orow
              exact (Apm.new (w := W5) (own_blk ho) (fun b hb => (hO6.lt b hb).1)).symm
            have hxb2 : x.b = xb := by rw [hxd]
            have e1 : (msr ++ [x]).length = msr.length + 1 := by simp
            have e2 : mptrs (msr ++ [x]) = mptrs msr ++ [.pointer (some ⟨xb, 0, none⟩)] := by rw [← hxb2]; simp [mptrs]
            have Hx := Lib.hid (And.intro hxb2 (And.intro e1 e2))
            have hB6 := Nat.le_trans hB5 xx.size
            clear hxd hxb2 e1 e2 hbx hO6 hO7 s05 ls5 hxb
            obtain ⟨ma, mc, rfl, hMO⟩ := hMX6.mrow
            obtain ⟨lm6, fm6, -, -, -, -, m46, -, -, -, -⟩ := ma_out hMX6.box
            clear fm6
            have hmlen : msr.length ≤ 1000000 := by have := hMX6.len; omega
            go_upto_region 18 with (at_builtin; refine wpList_append_g mp_T rfl _ _ rfl hMO rfl rfl rfl rfl (by simp [Value.oneCell']) (by omega) (by omega) (by omega) ?_; intro a7 c7 w7 hO7 hg7; replace hg7 := X.grown ((X.refl W6).alloc _) hg7; have hb7 := at_grown hMX6.box hg7 (own_ne_at hMO hMX6.box (by decide)); obtain ⟨l7, f7, -, -, -, -, k47, -, -, -, -⟩ := ma_out hb7)
            refine wp_name (fun W8 hW8 => ?_)
            have hMX8 : MaX W8 w0.heap.size mb (.slice fa n fc) (.slice pa pn pc) leftr (qr + 1) (msr ++ [x]) (.slice a7 (msr.length + 1) c7) ov lv qv := by
              rw [hW8]
              have := hMX6.snoc (a' := a7) (c' := c7) hg7 (by rw [Hx.out.2.1, Hx.out.2.2]; exact hO7) hMo6 hsA hsO
              rw [Hx.out.2.1] at this
              exact this
            have hK8 : Kp w0.heap.size W6 W8 := by
              rw [hW8]
              exact (Kp.grown hg7 hMO (by unfold KT; decide) (Nat.le_refl _) hB6).trans (Kp.set hb7 hMX6.lo (by unfold KT; decide) _ _)
            clear hW8 hb7 l7 f7 k47 hg7 hO7 m46 lm6
            have hSp8 := hK8.2 _ _ _ (by unfold KT; decide) (at_x2' hSp5 xx)
            have hK08 := (hK5.trans (Kp.of_x xx hB5)).trans hK8
            have hX8 := hK08.X hX
            obtain ⟨ls8, cs8, -⟩ := Bx.out ⟨_, hSp8⟩
            have s08 := cs8 0
            have s18 := cs8 1
            have s28 := cs8 2
            clear cs8
            go_wp2_with fail
            refine (hBody W8 leftr (qr + 1) (msr ++ [x]) msr.length kd fi ra r.length rc hX8 ⟨_, _, _, _, hMX8⟩ (by omega) (by rw [Hx.out.2.1]; omega) hfi (by omega)).mono ?_
            rintro _ w9 ⟨left9, q9, ms9, en, rfl, hS9, hK9, hE9, hl9, hp9⟩
            have hlt9 : msr.length < ms9.length := by
              have h1 := hE9.1
              rw [Hx.out.2.1] at h1
              omega
            have hb9 : (nth ms9 msr.length).b = xb := by
              have h1 := hE9.2 msr.length (by rw [Hx.out.2.1]; omega)
              rw [nth_snoc, Hx.out.1] at h1
              exact h1
            have hEr9 := (hEr.trans (Ext.snoc msr x)).trans hE9
            have hK09 := hK08.trans hK9
            have hX9 := hK09.X hX
            have hB9 := hX9.size
            obtain ⟨mv9, ov9, lv9, qv9, hMX9⟩ := hS9
            have hM9 := hMX9.mods msr.length hlt9
            subst hb9
            obtain ⟨lx9, fx9, -, -, -, -, -, -⟩ := mo_out hM9.box
            obtain ⟨-, cx9, -⟩ := Bx.out ⟨_, hM9.box⟩
            have x39 : w9.cell? ⟨(nth ms9 msr.length).b, 3, none⟩ = some (.bool (nth ms9 msr.length).mo.cached) := cx9 3
            have x49 : w9.cell? ⟨(nth ms9 msr.length).b, 4, none⟩ = some (.bool (nth ms9 msr.length).mo.done) := cx9 4
            clear cx9 s08 s18 s28
            by_cases hen : en = 0
            · subst hen
              obtain ⟨ms10, hMX10, hE10⟩ := hMX9.doneF hlt9 true
              have hK10 := Kp.set hM9.box hM9.lo (by unfold KT; decide) 4 (.bool true)
              go_wp2_with fail
              refine calls_name (fun W10 hW10 => ?_)
              rw [← hW10] at hMX10 hK10
              have hK010 := hK09.trans hK10
              have hB10 := (hK010.X hX).size
              clear hW10 x39 x49
              refine (cached_c w0.heap.size mb _ _ left9 q9 ms10 p W10 ⟨_, _, _, _, hMX10⟩ (by omega)).mono ?_
              rintro _ w11 ⟨rfl, hx11⟩
              have hMX11 := hMX10.x hx11
              have hK011 := hK010.trans (Kp.of_x hx11 hB10)
              have hX11 := hK011.X hX
              have hB11 := hX11.size
              rcases midx_cases ms10 p with hj | ⟨j, hj, hjl⟩
              · rw [hj]
                go_wp2
                refine bodyPost_ret (v := .tuple #[.int .i64 (msr.length : Int), .int .i64 0]) (by simp [results, Tryz.results89, go_sem]) rfl ?_
                exact ⟨left9, q9, ms10, (msr.length : Int), 0, rfl, (fun _ => ⟨msr.length, rfl, Nat.lt_of_lt_of_le hlt9 hE10.1⟩), ⟨_, _, _, _, hMX11⟩, hK011, hEr9.trans hE10, by omega, by omega⟩
              · rw [hj]
                obtain ⟨g11, mc11, hmv11, hjc, hgl11, c011, hMy⟩ := hMX11.at_ hjl
                obtain ⟨lm11, -, -, -, -, -, m411, -, -, -, -⟩ := ma_out hMX11.box
                rw [hmv11] at m411
                obtain ⟨y, hy⟩ : ∃ y, nth ms10 j = y := ⟨_, rfl⟩
                rw [hy] at c011 hMy
                have Hy := Lib.hid (And.intro hy hmv11)
                have hG11 := hG.mono hX11
                clear hy hmv11
                go_wp2_with fail
                refine wp_region_inv (fun L v W => (L 11 = false → X w11 W)
                    ∧ (L 11 = true → L 3 = true ∧ L 6 = true ∧ L 8 = true)
                    ∧ (L 6 = true → L 3 = true)
                    ∧ (L 5 = true → L 3 = true)
                    ∧ (L 11 = true → GivP w11 W w0.heap.size y)
                    ∧ (L 0 = true → v 0 = .pointer (some ⟨mb, 0, none⟩))
                    ∧ (L 1 = true → v 1 = .pointer (some ⟨mb, 0, none⟩))
                    ∧ (L 2 = true → v 2 = .pointer (some ⟨mb, 4, none⟩))
                    ∧ (L 3 = true → v 3 = .slice (some ⟨g11, 0, none⟩) ms10.length mc11)
                    ∧ (L 4 = true → v 4 = .int .i64 (j : Int))
                    ∧ (L 5 = true → v 5 = .pointer (some ⟨g11, j, none⟩))
                    ∧ (L 6 = true → v 6 = .pointer (some ⟨y.b, 0, none⟩))
                    ∧ (L 7 = true → v 7 = .string ⟨(nm).toArray⟩)
                    ∧ (L 8 = true → v 8 = .string ⟨(lastF nm).toArray⟩)
                    ∧ (L 9 = true → v 9 = .int .i64 (msr.length : Int))
                    ∧ (L 10 = true → v 10 = .agg #[.int .i64 1, .int .i64 (msr.length : Int)])
                    ∧ (L 11 = true → v 11 = .tuple #[])) (by kernel_rfl) (by kernel_rfl) ?_ ?_ (l := [(98, 0), (99, 1), (100, 2), (101, 3), (102, 4), (103, 5), (104, 6), (105, 7), (106, 8), (107, 9), (108, 10), (109, 11)]) (by kernel_rfl) (n := 12) rfl ?_
                · intro v
                  exact ⟨fun _ => (X.refl _).drew, fun h => Bool.noConfusion h, fun h => Bool.noConfusion h, fun h => Bool.noConfusion h, fun h => Bool.noConfusion h, fun h => Bool.noConfusion h, fun h => Bool.noConfusion h, fun h => Bool.noConfusion h, fun h => Bool.noConfusion h, fun h => Bool.noConfusion h, fun h => Bool.noConfusion h, fun h => Bool.noConfusion h, fun h => Bool.noConfusion h, fun h => Bool.noConfusion h, fun h => Bool.noConfusion h, fun h => Bool.noConfusion h, fun h => Bool.noConfusion h⟩
                · intro i hi
                  have hi' : i = 0 ∨ i = 1 ∨ i = 2 ∨ i = 3 ∨ i = 4 ∨ i = 5 ∨ i = 6 ∨ i = 7 ∨ i = 8 ∨ i = 9 ∨ i = 10 ∨ i = 11 := by
                    have : i < 12 := hi
                    omega
                  clear hi
                  rcases hi' with rfl | rfl | rfl | rfl | rfl | rfl | rfl | rfl | rfl | rfl | rfl | rfl
                  all_goals
                    intro o ho L v aa W hI hS hL hA K hK
                    cases (show some _ = some o from ho)
                    obtain ⟨nn, d11, d6, d5, gv, v0, v1, v2, v3, v4, v5, v6, v7, v8, v9, v10, v11⟩ := hI
                  · have o0 := hS.old 0 (by kernel_rfl) rfl
                    clear hS ho hA
                    go_simp
                    exact hK _ W ⟨nn, d11, d6, d5, gv, fun _ => rfl, v1, v2, v3, v4, v5, v6, v7, v8, v9, v10, v11⟩
                  · have l0 : L 0 = true := hA ⟨0, .data⟩ (by simp) rfl
                    have g0 := hS.get 0 98 rfl l0 (v0 l0)
                    clear hS ho hA
                    go_simp
                    exact hK _ W ⟨nn, d11, d6, d5, gv, v0, fun _ => rfl, v2, v3, v4, v5, v6, v7, v8, v9, v10, v11⟩
                  · have l1 : L 1 = true := hA ⟨1, .data⟩ (by simp) rfl
                    have g1 := hS.get 1 99 rfl l1 (v1 l1)
                    clear hS ho hA
                    go_simp
                    exact hK _ W ⟨nn, d11, d6, d5, gv, v0, v1, fun _ => rfl, v3, v4, v5, v6, v7, v8, v9, v10, v11⟩
                  · have l2 : L 2 = true := hA ⟨2, .data⟩ (by simp) rfl
                    have g2 := hS.get 2 100 rfl l2 (v2 l2)
                    have n11 : L 11 = false := by rcases h : L 11 with _ | _; (· rfl); (· have := (d11 h).1; simp [hL] at this)
                    have xx := nn n11
                    have cW := (xx.cell (p := ⟨mb, 4, none⟩) lm11).trans m411
                    have lW := Nat.lt_of_lt_of_le lm11 xx.size
                    clear hS ho hA
                    go_simp
                    exact hK _ W ⟨nn, fun h => ⟨rfl, (d11 h).2⟩, fun _ => rfl, fun _ => rfl, gv, v0, v1, v2, fun _ => rfl, v4, v5, v6, v7, v8, v9, v10, v11⟩
                  · have o15 := hS.old 15 (by kernel_rfl) rfl
                    clear hS ho hA
                    go_simp
                    exact hK _ W ⟨nn, d11, d6, d5, gv, v0, v1, v2, v3, fun _ => rfl, v5, v6, v7, v8, v9, v10, v11⟩
                  · have l3 : L 3 = true := hA ⟨3, .data⟩ (by simp) rfl
                    have g3 := hS.get 3 101 rfl l3 (v3 l3)
                    have l4 : L 4 = true := hA ⟨4, .data⟩ (by simp) rfl
                    have g4 := hS.get 4 102 rfl l4 (v4 l4)
                    clear hS ho hA
                    go_simp
                    exact hK _ W ⟨nn, d11, d6, fun _ => l3, gv, v0, v1, v2, v3, v4, fun _ => rfl, v6, v7, v8, v9, v10, v11⟩
                  · have l5 : L 5 = true := hA ⟨5, .data⟩ (by simp) rfl
                    have g5 := hS.get 5 103 rfl l5 (v5 l5)
                    have n11 : L 11 = false := by rcases h : L 11 with _ | _; (· rfl); (· have := (d11 h).2.1; simp [hL] at this)
                    have xx := nn n11
                    have cW := (xx.cell (p := ⟨g11, j, none⟩) hgl11).trans c011
                    have lW := Nat.lt_of_lt_of_le hgl11 xx.size
                    clear hS ho hA
                    go_simp
                    exact hK _ W ⟨nn, fun h => ⟨(d11 h).1, rfl, (d11 h).2.2⟩, fun _ => d5 l5, d5, gv, v0, v1, v2, v3, v4, v5, fun _ => rfl, v7, v8, v9, v10, v11⟩
                  · have o1 := hS.old 1 (by kernel_rfl) rfl
                    clear hS ho hA
                    go_simp
                    exact hK _ W ⟨nn, d11, d6, d5, gv, v0, v1, v2, v3, v4, v5, v6, fun _ => rfl, v8, v9, v10, v11⟩
                  · have l7 : L 7 = true := hA ⟨7, .data⟩ (by simp) rfl
                    have g7 := hS.get 7 105 rfl l7 (v7 l7)
                    have n11 : L 11 = false := by rcases h : L 11 with _ | _; (· rfl); (· have := (d11 h).2.2; simp [hL] at this)
                    have xx := nn n11
                    clear hS ho hA
                    go_simp
                    refine (LastOf_c nm W (by omega) (hG11.mono xx)).mono ?_
                    rintro _ w3 ⟨rfl, hx⟩
                    exact hK _ w3 ⟨fun h => (nn h).trans hx, fun h => ⟨(d11 h).1, (d11 h).2.1, rfl⟩, d6, d5, fun h => Bool.noConfusion (n11.symm.trans h), v0, v1, v2, v3, v4, v5, v6, v7, fun _ => rfl, v9, v10, v11⟩
                  · have o13 := hS.old 13 (by kernel_rfl) rfl
                    clear hS ho hA
                    go_simp
                    exact hK _ W ⟨nn, d11, d6, d5, gv, v0, v1, v2, v3, v4, v5, v6, v7, v8, fun _ => rfl, v10, v11⟩
                  · have l9 : L 9 = true := hA ⟨9, .data⟩ (by simp) rfl
                    have g9 := hS.get 9 107 rfl l9 (v9 l9)
                    clear hS ho hA
                    go_simp
                    exact hK _ W ⟨nn, d11, d6, d5, gv, v0, v1, v2, v3, v4, v5, v6, v7, v8, v9, fun _ => rfl, v11⟩
                  · have l6 : L 6 = true := hA ⟨6, .data⟩ (by simp) rfl
                    have g6 := hS.get 6 104 rfl l6 (v6 l6)
                    have l8 : L 8 = true := hA ⟨8, .data⟩ (by simp) rfl
                    have g8 := hS.get 8 106 rfl l8 (v8 l8)
                    have l10 : L 10 = true := hA ⟨10, .data⟩ (by simp) rfl
                    have g10 := hS.get 10 108 rfl l10 (v10 l10)
                    have xx := nn hL
                    clear hS ho hA
                    go_simp
                    refine (give_c y w0.heap.size (lastF nm) 1 (msr.length : Int) W (hMy.x xx) hpart (Nat.le_trans hB11 xx.size)).mono ?_
                    rintro _ w3 ⟨rfl, hgv⟩
                    exact hK _ w3 ⟨fun h => Bool.noConfusion h, fun _ => ⟨d6 l6, l6, l8⟩, d6, d5, fun _ => GivP.of_x xx hgv, v0, v1, v2, v3, v4, v5, v6, v7, v8, v9, v10, fun _ => rfl⟩
                intro v W12 hI
                obtain ⟨nn, d11, d6, d5, gv, v0, v1, v2, v3, v4, v5, v6, v7, v8, v9, v10, v11⟩ := hI
                have e0 := v0 rfl
                have e1 := v1 rfl
                have e2 := v2 rfl
                have e3 := v3 rfl
                have e4 := v4 rfl
                have e5 := v5 rfl
                have e6 := v6 rfl
                have e7 := v7 rfl
                have e8 := v8 rfl
                have e9 := v9 rfl
                have e10 := v10 rfl
                have e11 := v11 rfl
                clear v0 v1 v2 v3 v4 v5 v6 v7 v8 v9 v10 v11
                have hgv := gv rfl
                clear nn d11 d6 d5 gv
                simp only [putL, List.foldl, List.setIfInBounds_toArray, List.set_cons_zero, List.set_cons_succ, e0, e1, e2, e3, e4, e5, e6, e7, e8, e9, e10, e11]
                clear e0 e1 e2 e3 e4 e5 e6 e7 e8 e9 e10 e11
                go_wp2
                refine bodyPost_ret (v := .tuple #[.int .i64 (msr.length : Int), .int .i64 0]) (by simp [results, Tryz.results89, go_sem]) rfl ?_
                have hBm := hMy
                obtain ⟨y', k1, k2, k3, k4, k5⟩ := hgv
                have hy := Hy.out.1
                have hmod := hMX11.mod hjl (x := y') (by rw [hy]; exact k4) k3 (by rw [hy]; exact k1) (by rw [hy]; exact k2) (by rw [hy]; exact k5)
                have hE12 := Ext.set hjl (x := y') (by rw [hy]; exact k1)
                exact ⟨left9, q9, ms10.set j y', (msr.length : Int), 0, rfl, (fun _ => ⟨msr.length, rfl, Nat.lt_of_lt_of_le hlt9 (Nat.le_trans hE10.1 hE12.1)⟩), ⟨_, _, _, _, hmod⟩, hK011.trans (k4.kp hBm hB11), (hEr9.trans hE10).trans hE12, by omega, by omega⟩
            · have hen' : (en == 0) = false := by simpa using hen
              obtain ⟨ms10, hMX10, hE10⟩ := hMX9.cachedF hlt9 false
              go_wp2
              refine bodyPost_ret (v := .tuple #[.int .i64 (-1), .int .i64 en]) (by simp [results, Tryz.results89, go_sem]) rfl ?_
              exact ⟨left9, q9, ms10, -1, en, rfl, (fun h => absurd h hen), ⟨_, _, _, _, hMX10⟩, hK09.trans (Kp.set hM9.box hM9.lo (by unfold KT; decide) 3 (.bool false)), hEr9.trans hE10, by omega, by omega⟩
        · rw [hj3]
          go_wp2_with fail
          refine (hit_c w0.heap.size mb leftr qr _ _ msr j3 W3 hSr hjl3 (by omega) hXr.size).mono ?_
          rintro _ w5 ⟨rfl, hS5, hK5⟩
          go_wp2
          refine bodyPost_ret (v := .tuple #[.int .i64 (j3 : Int), .int .i64 0]) (by simp [results, Tryz.results89, go_sem]) rfl ?_
          exact ⟨leftr, qr + 2, msr, j3, 0, rfl, (fun _ => ⟨j3, rfl, hjl3⟩), hS5, hKr.trans hK5, hEr, hlr, by omega⟩
      · have hen3' : (en3 == 0) = false := by simpa using hen3
        go_wp2
        refine bodyPost_ret (v := .tuple #[.int .i64 (-1), .int .i64 en3]) (by simp [results, Tryz.results89, go_sem]) rfl ?_
        exact ⟨leftr, qr, msr, -1, en3, rfl, (fun h => absurd h hen3), hS3, hK03, hEr, hlr, by omega⟩
    · rw [hj]
      go_wp2_with fail
      refine (hit_c w0.heap.size mb left q _ _ ms j w1 (hS.x hx1) hjl (by omega) hX1.size).mono ?_
      rintro _ w3 ⟨rfl, hS3, hK3⟩
      go_wp2
      refine bodyPost_ret (v := .tuple #[.int .i64 (j : Int), .int .i64 0]) (by simp [results, Tryz.results89, go_sem]) rfl ?_
      exact ⟨left, q + 2, ms, j, 0, rfl, (fun _ => ⟨j, rfl, hjl⟩), hS3, hK1.trans hK3, Ext.refl _, Nat.le_refl _, by omega⟩
theorem load_s (w0 : World) (mb : Nat) (fa : Option Addr) (n fc : Nat) (pa : Option Addr) (pn pc : Nat) (l : List Fi) (path : List Int) (hE : EnvM w0 fa n fc pa pn l path) (L : Nat) (hBody : BodyOk w0 mb fa n fc pa pn pc L) : LoadOk w0 mb fa n fc pa pn pc L := by
  intro W left q ms nm hX hS hL hn hP
  obtain ⟨m, hm⟩ : ∃ m, partsN nm = m + 1 := ⟨partsN nm - 1, by have := splitL_pos 46 nm; unfold partsN; omega⟩
  rw [hm] at hP ⊢
  exact load_n w0 mb fa n fc pa pn pc l path hE L hBody m W left q ms nm hX hS hL hn hm hP

end Go.Proofs.YtgjfjjhmgbemcaaGreatDoor

namespace Go.Proofs.YtgjfjjhmgbemcaaGreatDoor
open Go.RowKit

/-- A statement of one kind returns. -/
def DoKd (w0 : World) (mb : Nat) (fa : Option Addr) (n fc : Nat) (pa : Option Addr) (pn pc : Nat) (L : Nat) (c : Int) : Prop := ∀ (W : World) (left q : Nat) (ms : List Mp) (k : Nat) (s : St), X w0 W → MaW W w0.heap.size mb (.slice fa n fc) (.slice pa pn pc) left q ms → left ≤ L → k < ms.length → stB s = true → Oks s → q + 20 * left ≤ 399990 → s.kind = c →
  Calls Tryz.prog 182 #[.pointer (some ⟨mb, 0, none⟩), .int .i64 (k : Int), .agg #[.int .i64 (s).kind, .string ⟨(s).mod.toArray⟩, .int .i64 (s).level, .string ⟨(s).name.toArray⟩, .int .i64 (s).val]] W fun e w' => EndE w0 mb fa n fc pa pn pc W w' (q + 20 * left + 20) left ms e
theorem stB_0 {s : St} (h : stB s = true) (hk : s.kind = 0 ∨ s.kind = 2) : nameB s.mod = true := by
  unfold stB at h
  rw [if_pos hk] at h
  simp only [Bool.and_eq_true] at h
  exact h.1.1.1
theorem stB_1 {s : St} (h : stB s = true) (hk : s.kind = 1) : pkgB s.mod = true ∧ 0 ≤ s.level ∧ s.level ≤ 3 ∧ partB s.name = true := by
  unfold stB at h
  rw [if_neg (by omega), if_pos hk] at h
  simp only [Bool.and_eq_true] at h
  exact ⟨h.1.1.1.1, (rangeB_iff.1 h.1.1.1.2).1, (rangeB_iff.1 h.1.1.1.2).2, h.1.2⟩
theorem stB_3 {s : St} (h : stB s = true) (hk : s.kind = 3) : partB s.name = true := by
  unfold stB at h
  rw [if_neg (by omega), if_neg (by omega), if_pos hk] at h
  simp only [Bool.and_eq_true] at h
  exact h.1.2
theorem stB_kinds {s : St} (h : stB s = true) : s.kind = 0 ∨ s.kind = 1 ∨ s.kind = 2 ∨ s.kind = 3 ∨ s.kind = 4 ∨ s.kind = 5 := by
  unfold stB at h
  by_cases h0 : s.kind = 0 ∨ s.kind = 2
  · omega
  rw [if_neg h0] at h
  by_cases h1 : s.kind = 1
  · omega
  rw [if_neg h1] at h
  by_cases h3 : s.kind = 3
  · omega
  rw [if_neg h3] at h
  by_cases h4 : s.kind = 4
  · omega
  rw [if_neg h4] at h
  by_cases h5 : s.kind = 5
  · omega
  rw [if_neg h5] at h
  cases h
theorem parts_3 {nm : List UInt8} (h : nameB nm = true) : partsN nm ≤ 3 := by
  unfold nameB at h
  have := (Bool.and_eq_true _ _ ▸ h).2
  unfold partsN
  simpa using this

set_option maxRecDepth 100000 in
set_option maxHeartbeats 4000000 in
theorem do_fail (w0 : World) (mb : Nat) (fa : Option Addr) (n fc : Nat) (pa : Option Addr) (pn pc : Nat) (l : List Fi) (path : List Int) (hE : EnvM w0 fa n fc pa pn l path) (L : Nat) : DoKd w0 mb fa n fc pa pn pc L 5 := by
  intro W left q ms k s hX hS hL hk hst hOk hP hkind
  obtain ⟨⟨Bt, hF⟩, hnc, ⟨Bp, hI⟩, ht, hG⟩ := hE
  have hB : w0.heap.size ≤ W.heap.size := hX.size
  have hS0 := hS
  obtain ⟨mv, ov, lv, qv, hMX⟩ := hS
  obtain ⟨g, mc, rfl, hkc, hgl, c0, hM⟩ := hMX.at_ hk
  obtain ⟨lm, -, -, -, -, -, m4, -, -, -, -⟩ := ma_out hMX.box
  obtain ⟨xb, hxb⟩ : ∃ xb, (nth ms k).b = xb := ⟨_, rfl⟩
  rw [hxb] at c0
  have Hxb := Lib.hid hxb
  clear hMX hM hxb
  go_enter Tryz.func182, Tryz.ntmps182
  go_upto_region 1 with fail
  refine wp_name (fun W0 hW0 => ?_)
  have hSt0 : W0.heap[W.heap.size]? = some (.cells #[.int .i64 s.kind, .string ⟨(s.mod).toArray⟩, .int .i64 s.level, .string ⟨(s.name).toArray⟩, .int .i64 s.val] 148 (0, 0)) := by rw [hW0, hkind]; exact heap_alloc_new _ _
  have hX0 : X W W0 := by rw [hW0]; (repeat (first | with_reducible exact X.refl _ | with_reducible assumption | with_reducible refine X.setCell ?_ (by first | (simp; done) | (simp; omega)) _ | with_reducible refine X.ext ?_ _ | with_reducible refine X.alloc ?_ _ | with_reducible refine X.drew ?_))
  clear hW0
  have c0 := (hX0.cell (p := ⟨g, k, none⟩) hgl).trans c0
  have m4 := (hX0.cell (p := ⟨mb, 4, none⟩) lm).trans m4
  have hgl := Nat.lt_of_lt_of_le hgl hX0.size
  have lm := Nat.lt_of_lt_of_le lm hX0.size
  have hS0 := hS0.x hX0
  have hB0 := Nat.le_trans hB hX0.size
  have hXw0 := hX.trans hX0
  have hK0 := Kp.of_x hX0 hB
  obtain ⟨ls0, cs0, -⟩ := Bx.out ⟨_, hSt0⟩
  have s00 := cs0 0
  have s10 := cs0 1
  have s20 := cs0 2
  have s30 := cs0 3
  have s40 := cs0 4
  clear cs0
  rw [hkind] at s00
  go_wp2
  go_ret
  exact ⟨left, q, ms, 4, rfl, hS0, hK0, Ext.refl _, Nat.le_refl _, by omega⟩
set_option maxRecDepth 100000 in
set_option maxHeartbeats 4000000 in
theorem do_set (w0 : World) (mb : Nat) (fa : Option Addr) (n fc : Nat) (pa : Option Addr) (pn pc : Nat) (l : List Fi) (path : List Int) (hE : EnvM w0 fa n fc pa pn l path) (L : Nat) : DoKd w0 mb fa n fc pa pn pc L 3 := by
  intro W left q ms k s hX hS hL hk hst hOk hP hkind
  obtain ⟨⟨Bt, hF⟩, hnc, ⟨Bp, hI⟩, ht, hG⟩ := hE
  have hB : w0.heap.size ≤ W.heap.size := hX.size
  have hS0 := hS
  obtain ⟨mv, ov, lv, qv, hMX⟩ := hS
  obtain ⟨g, mc, rfl, hkc, hgl, c0, hM⟩ := hMX.at_ hk
  obtain ⟨lm, -, -, -, -, -, m4, -, -, -, -⟩ := ma_out hMX.box
  obtain ⟨xb, hxb⟩ : ∃ xb, (nth ms k).b = xb := ⟨_, rfl⟩
  rw [hxb] at c0
  have Hxb := Lib.hid hxb
  clear hMX hM hxb
  go_enter Tryz.func182, Tryz.ntmps182
  go_upto_region 1 with fail
  refine wp_name (fun W0 hW0 => ?_)
  have hSt0 : W0.heap[W.heap.size]? = some (.cells #[.int .i64 s.kind, .string ⟨(s.mod).toArray⟩, .int .i64 s.level, .string ⟨(s.name).toArray⟩, .int .i64 s.val] 148 (0, 0)) := by rw [hW0, hkind]; exact heap_alloc_new _ _
  have hX0 : X W W0 := by rw [hW0]; (repeat (first | with_reducible exact X.refl _ | with_reducible assumption | with_reducible refine X.setCell ?_ (by first | (simp; done) | (simp; omega)) _ | with_reducible refine X.ext ?_ _ | with_reducible refine X.alloc ?_ _ | with_reducible refine X.drew ?_))
  clear hW0
  have c0 := (hX0.cell (p := ⟨g, k, none⟩) hgl).trans c0
  have m4 := (hX0.cell (p := ⟨mb, 4, none⟩) lm).trans m4
  have hgl := Nat.lt_of_lt_of_le hgl hX0.size
  have lm := Nat.lt_of_lt_of_le lm hX0.size
  have hS0 := hS0.x hX0
  have hB0 := Nat.le_trans hB hX0.size
  have hXw0 := hX.trans hX0
  have hK0 := Kp.of_x hX0 hB
  obtain ⟨ls0, cs0, -⟩ := Bx.out ⟨_, hSt0⟩
  have s00 := cs0 0
  have s10 := cs0 1
  have s20 := cs0 2
  have s30 := cs0 3
  have s40 := cs0 4
  clear cs0
  rw [hkind] at s00
  have hpart := stB_3 hst hkind
  have hM0 := hS0.mo hk
  go_wp2_with fail
  rw [← Hxb.out]
  refine (give_c (nth ms k) w0.heap.size s.name 0 s.val W0 hM0 hpart hB0).mono ?_
  rintro _ w3 ⟨rfl, hgv⟩
  obtain ⟨ms3, hS3, hK3, hE3⟩ := hS0.give hk hB0 hgv
  go_wp2
  go_ret
  exact ⟨left, q, ms3, 0, rfl, hS3, hK0.trans hK3, hE3, Nat.le_refl _, by omega⟩
set_option maxRecDepth 100000 in
set_option maxHeartbeats 4000000 in
theorem do_import (w0 : World) (mb : Nat) (fa : Option Addr) (n fc : Nat) (pa : Option Addr) (pn pc : Nat) (l : List Fi) (path : List Int) (hE : EnvM w0 fa n fc pa pn l path) (L : Nat) (hLoad : LoadOk w0 mb fa n fc pa pn pc L) : DoKd w0 mb fa n fc pa pn pc L 0 := by
  intro W left q ms k s hX hS hL hk hst hOk hP hkind
  obtain ⟨⟨Bt, hF⟩, hnc, ⟨Bp, hI⟩, ht, hG⟩ := hE
  have hB : w0.heap.size ≤ W.heap.size := hX.size
  have hS0 := hS
  obtain ⟨mv, ov, lv, qv, hMX⟩ := hS
  obtain ⟨g, mc, rfl, hkc, hgl, c0, hM⟩ := hMX.at_ hk
  obtain ⟨lm, -, -, -, -, -, m4, -, -, -, -⟩ := ma_out hMX.box
  obtain ⟨xb, hxb⟩ : ∃ xb, (nth ms k).b = xb := ⟨_, rfl⟩
  rw [hxb] at c0
  have Hxb := Lib.hid hxb
  clear hMX hM hxb
  go_enter Tryz.func182, Tryz.ntmps182
  go_upto_region 1 with fail
  refine wp_name (fun W0 hW0 => ?_)
  have hSt0 : W0.heap[W.heap.size]? = some (.cells #[.int .i64 s.kind, .string ⟨(s.mod).toArray⟩, .int .i64 s.level, .string ⟨(s.name).toArray⟩, .int .i64 s.val] 148 (0, 0)) := by rw [hW0, hkind]; exact heap_alloc_new _ _
  have hX0 : X W W0 := by rw [hW0]; (repeat (first | with_reducible exact X.refl _ | with_reducible assumption | with_reducible refine X.setCell ?_ (by first | (simp; done) | (simp; omega)) _ | with_reducible refine X.ext ?_ _ | with_reducible refine X.alloc ?_ _ | with_reducible refine X.drew ?_))
  clear hW0
  have c0 := (hX0.cell (p := ⟨g, k, none⟩) hgl).trans c0
  have m4 := (hX0.cell (p := ⟨mb, 4, none⟩) lm).trans m4
  have hgl := Nat.lt_of_lt_of_le hgl hX0.size
  have lm := Nat.lt_of_lt_of_le lm hX0.size
  have hS0 := hS0.x hX0
  have hB0 := Nat.le_trans hB hX0.size
  have hXw0 := hX.trans hX0
  have hK0 := Kp.of_x hX0 hB
  obtain ⟨ls0, cs0, -⟩ := Bx.out ⟨_, hSt0⟩
  have s00 := cs0 0
  have s10 := cs0 1
  have s20 := cs0 2
  have s30 := cs0 3
  have s40 := cs0 4
  clear cs0
  rw [hkind] at s00
  have hn := stB_0 hst (.inl hkind)
  have hn12 := nameB_len hn
  have hp3 := parts_3 hn
  go_wp2_with fail
  refine (hLoad W0 left q ms s.mod hXw0 hS0 hL hn (by omega)).mono ?_
  rintro _ w3 ⟨left3, q3, ms3, i3, en3, rfl, hi3, hS3, hK3, hE3, hl3, hq3⟩
  have hSt3 := hK3.2 _ _ _ (by unfold KT; decide) hSt0
  have hK03 := hK0.trans hK3
  have hX3 := hK03.X hX
  obtain ⟨ls3, cs3, -⟩ := Bx.out ⟨_, hSt3⟩
  have s13 := cs3 1
  clear cs3 c0 m4 hgl lm s00 s10 s20 s30 s40 ls0
  by_cases hen : en3 = 0
  · subst hen
    go_wp2_with fail
    refine (Cut_c s.mod w3 (by omega) (hG.mono hX3)).mono ?_
    rintro _ w4 ⟨t4, b4, rfl, hx4⟩
    have hpart : partB (nth (splitL 46 s.mod) 0) = true := part_at hn (splitL_pos 46 s.mod)
    obtain ⟨first, hfi⟩ : ∃ first, nth (splitL 46 s.mod) 0 = first := ⟨_, rfl⟩
    rw [hfi] at hpart ⊢
    have hK04 := hK03.trans (Kp.of_x hx4 hX3.size)
    have hX4 := hK04.X hX
    have hS4 := hS3.x hx4
    go_wp2_with fail
    refine (cached_c w0.heap.size mb _ _ left3 q3 ms3 first w4 hS4 (by omega)).mono ?_
    rintro _ w5 ⟨rfl, hx5⟩
    have hK05 := hK04.trans (Kp.of_x hx5 hX4.size)
    have hX5 := hK05.X hX
    have hS5 := hS4.x hx5
    rcases midx_cases ms3 first with hj | ⟨j, hj, hjl⟩
    · rw [hj]
      go_wp2
      go_ret
      exact ⟨left3, q3, ms3, 1, rfl, hS5, hK05, hE3, hl3, by omega⟩
    · rw [hj]
      have hk3 := Nat.lt_of_lt_of_le hk hE3.1
      have hM5 := hS5.mo hk3
      have hxb5 : (nth ms3 k).b = xb := (hE3.2 k hk).trans Hxb.out
      go_wp2_with fail
      rw [← hxb5]
      refine (give_c (nth ms3 k) w0.heap.size first 1 (j : Int) w5 hM5 hpart hX5.size).mono ?_
      rintro _ w6 ⟨rfl, hgv⟩
      obtain ⟨ms6, hS6, hK6, hE6⟩ := hS5.give hk3 hX5.size hgv
      go_wp2
      go_ret
      exact ⟨left3, q3, ms6, 0, rfl, hS6, hK05.trans hK6, hE3.trans hE6, hl3, by omega⟩
  · have hen' : (en3 == 0) = false := by simpa using hen
    go_wp2
    go_ret
    exact ⟨left3, q3, ms3, en3, rfl, hS3, hK03, hE3, hl3, by omega⟩

end Go.Proofs.YtgjfjjhmgbemcaaGreatDoor

namespace Go.Proofs.YtgjfjjhmgbemcaaGreatDoor
open Go.RowKit

theorem ints_snoc (out : List Int) (x : Int) : ints (out ++ [x]) = ints out ++ [.int .i64 x] := by simp [ints]
/-- What is printed has grown by one: the state behind it. -/
theorem MaX.printed {w w' : World} {B mb left q : Nat} {tv pv mv lv qv : Value} {ms : List Mp} {out : List Int} {oa a' : Option Addr} {oc c' : Nat} {x : Int} (h : MaX w B mb tv pv left q ms mv (.slice oa out.length oc) lv qv) (hB : B ≤ w.heap.size) (hq : out.length ≤ q) (hO : w.ownsRow B 3 1 (.slice oa out.length oc) out.length (ints out))
    (hg : w.grownBy w' (Value.slice oa out.length oc).ownBlock) (hL : w'.ownsRow B 3 1 (.slice a' (out.length + 1) c') (out.length + 1) (ints out ++ [.int .i64 x])) (hm : Mv w (.slice oa out.length oc) (.slice a' (out.length + 1) c')) :
    MaW (w'.setCell ⟨mb, 5, none⟩ (.slice a' (out.length + 1) c')) B mb tv pv left (q + 1) ms ∧ Kp B w (w'.setCell ⟨mb, 5, none⟩ (.slice a' (out.length + 1) c')) := by
  have e1 : (out ++ [x]).length = out.length + 1 := by simp
  have hb' := at_grown h.box hg (own_ne_at hO h.box (by decide))
  have := h.out (out := out ++ [x]) (a' := a') (c' := c') hg (by rw [e1, ints_snoc]; exact hL) (by omega) (by rw [e1]; exact hm)
  rw [e1] at this
  exact ⟨⟨_, _, _, _, this⟩, (Kp.grown hg hO (by unfold KT; decide) (Nat.le_refl _) hB).trans (Kp.set hb' h.lo (by unfold KT; decide) _ _)⟩
set_option maxRecDepth 100000 in
set_option maxHeartbeats 4000000 in
theorem do_print (w0 : World) (mb : Nat) (fa : Option Addr) (n fc : Nat) (pa : Option Addr) (pn pc : Nat) (l : List Fi) (path : List Int) (hE : EnvM w0 fa n fc pa pn l path) (L : Nat) : DoKd w0 mb fa n fc pa pn pc L 4 := by
  intro W left q ms k s hX hS hL hk hst hOk hP hkind
  obtain ⟨⟨Bt, hF⟩, hnc, ⟨Bp, hI⟩, ht, hG⟩ := hE
  have hB : w0.heap.size ≤ W.heap.size := hX.size
  have hS0 := hS
  obtain ⟨mv, ov, lv, qv, hMX⟩ := hS
  obtain ⟨g, mc, rfl, hkc, hgl, c0, hM⟩ := hMX.at_ hk
  obtain ⟨lm, -, -, -, -, -, m4, -, -, -, -⟩ := ma_out hMX.box
  obtain ⟨xb, hxb⟩ : ∃ xb, (nth ms k).b = xb := ⟨_, rfl⟩
  rw [hxb] at c0
  have Hxb := Lib.hid hxb
  clear hMX hM hxb
  go_enter Tryz.func182, Tryz.ntmps182
  go_upto_region 1 with fail
  refine wp_name (fun W0 hW0 => ?_)
  have hSt0 : W0.heap[W.heap.size]? = some (.cells #[.int .i64 s.kind, .string ⟨(s.mod).toArray⟩, .int .i64 s.level, .string ⟨(s.name).toArray⟩, .int .i64 s.val] 148 (0, 0)) := by rw [hW0, hkind]; exact heap_alloc_new _ _
  have hX0 : X W W0 := by rw [hW0]; (repeat (first | with_reducible exact X.refl _ | with_reducible assumption | with_reducible refine X.setCell ?_ (by first | (simp; done) | (simp; omega)) _ | with_reducible refine X.ext ?_ _ | with_reducible refine X.alloc ?_ _ | with_reducible refine X.drew ?_))
  clear hW0
  have c0 := (hX0.cell (p := ⟨g, k, none⟩) hgl).trans c0
  have m4 := (hX0.cell (p := ⟨mb, 4, none⟩) lm).trans m4
  have hgl := Nat.lt_of_lt_of_le hgl hX0.size
  have lm := Nat.lt_of_lt_of_le lm hX0.size
  have hS0 := hS0.x hX0
  have hB0 := Nat.le_trans hB hX0.size
  have hXw0 := hX.trans hX0
  have hK0 := Kp.of_x hX0 hB
  obtain ⟨ls0, cs0, -⟩ := Bx.out ⟨_, hSt0⟩
  have s00 := cs0 0
  have s10 := cs0 1
  have s20 := cs0 2
  have s30 := cs0 3
  have s40 := cs0 4
  clear cs0
  rw [hkind] at s00
  have hM0 := hS0.mo hk
  go_wp2_with fail
  rw [← Hxb.out]
  refine (attr_c (nth ms k) w0.heap.size s.name W0 hM0).mono ?_
  rintro _ w3 ⟨rfl, hx3⟩
  obtain ⟨ag, hag⟩ : ∃ ag, attrG (nth ms k) s.name = ag := ⟨_, rfl⟩
  rw [hag]
  obtain ⟨ak, av, ab⟩ := ag
  dsimp only
  clear hag
  go_upto_region 44 with fail
  refine wp_name (fun W4 hW4 => ?_)
  have hV4 : W4.heap[w3.heap.size]? = some (.cells #[.int .i64 ak, .int .i64 av] 182 (0, 0)) := by rw [hW4]; exact heap_alloc_new _ _
  have hx34 : X w3 W4 := by rw [hW4]; (repeat (first | with_reducible exact X.refl _ | with_reducible assumption | with_reducible refine X.setCell ?_ (by first | (simp; done) | (simp; omega)) _ | with_reducible refine X.ext ?_ _ | with_reducible refine X.alloc ?_ _ | with_reducible refine X.drew ?_))
  clear hW4
  have hx4 := hx3.trans hx34
  have hK4 := hK0.trans (Kp.of_x hx4 hB0)
  have hB4 := Nat.le_trans hB0 hx4.size
  have hS4 := hS0.x hx4
  have hS4' := hS4
  obtain ⟨mv4, ov4, lv4', qv4, hMX4⟩ := hS4'
  obtain ⟨out, oa, oc, rfl, hoq, hrow⟩ := hMX4.orow
  obtain ⟨lm4, fm4, -, -, -, -, -, m54, -, -, -⟩ := ma_out hMX4.box
  clear fm4
  obtain ⟨lv4, cv4, -⟩ := Bx.out ⟨_, hV4⟩
  have v04 : W4.cell? ⟨w3.heap.size, 0, none⟩ = some (.int .i64 ak) := cv4 0
  have v14 : W4.cell? ⟨w3.heap.size, 1, none⟩ = some (.int .i64 av) := cv4 1
  clear cv4 s00 s10 s20 s30 s40 ls0 c0 m4 hgl lm hS0 hM0 hV4
  cases ab
  · go_wp2
    go_ret
    exact ⟨left, q, ms, 3, rfl, hS4, hK4, Ext.refl _, Nat.le_refl _, by omega⟩
  have hno : out.length ≤ 1000000 := by omega
  by_cases hak : ak = 1
  · subst hak
    go_wp2_with (at_builtin; refine wpList_append_m int_T rfl _ _ rfl hrow rfl rfl rfl rfl (by simp [Value.oneCell']) (by omega) (by omega) (by omega) ?_; intro a6 c6 w6 hO6 hg6 hm6; have hb6 := at_grown hMX4.box hg6 (own_ne_at hrow hMX4.box (by decide)); obtain ⟨l6, f6, -, -, -, -, -, k6, -, -, -⟩ := ma_out hb6)
    go_ret
    obtain ⟨h7, hK7⟩ := hMX4.printed hB4 hoq hrow hg6 hO6 hm6
    exact ⟨left, q + 1, ms, 0, rfl, h7, hK4.trans hK7, Ext.refl _, Nat.le_refl _, by omega⟩
  · have hak' : (ak == 1) = false := by simpa using hak
    have hbx := hMX4.box
    obtain ⟨no, hnoe⟩ : ∃ no, out.length = no := ⟨_, rfl⟩
    rw [hnoe] at hrow m54 hno
    have Hno := Lib.hid (And.intro hnoe (And.intro hMX4 hoq))
    clear hnoe hMX4 hoq
    go_wp2_with fail
    refine wp_region_inv (fun L v W => (L 8 = false → X W4 W)
        ∧ (L 8 = true → L 11 = false → ∃ g8 c8, v 8 = .slice (some ⟨g8, 0, none⟩) (no + 1) c8 ∧ W.ownsRow w0.heap.size 3 1 (.slice (some ⟨g8, 0, none⟩) (no + 1) c8) (no + 1) (ints out ++ [.int .i64 av]) ∧ W4.grownBy W (.slice oa no oc : Value).ownBlock ∧ Mv W4 (.slice oa no oc) (.slice (some ⟨g8, 0, none⟩) (no + 1) c8))
        ∧ (L 11 = true → L 8 = true)
        ∧ (L 8 = true → L 4 = true ∧ L 7 = true)
        ∧ (L 7 = true → L 6 = true)
        ∧ (L 0 = true → v 0 = .pointer (some ⟨mb, 0, none⟩))
        ∧ (L 1 = true → v 1 = .pointer (some ⟨mb, 0, none⟩))
        ∧ (L 2 = true → v 2 = .pointer (some ⟨mb, 0, none⟩))
        ∧ (L 3 = true → v 3 = .pointer (some ⟨mb, 5, none⟩))
        ∧ (L 4 = true → v 4 = .slice oa no oc)
        ∧ (L 5 = true → v 5 = .pointer (some ⟨w3.heap.size, 1, none⟩))
        ∧ (L 6 = true → v 6 = .int .i64 av)
        ∧ (L 7 = true → ∃ g, v 7 = .slice (some ⟨g, 0, none⟩) 1 1 ∧ (L 8 = false → W.heap[g]? = some (.cells #[.int .i64 av] 3 (0, 0))))
        ∧ (L 9 = true → v 9 = .pointer (some ⟨mb, 0, none⟩))
        ∧ (L 10 = true → v 10 = .pointer (some ⟨mb, 5, none⟩))
        ∧ (L 11 = true → ∃ w8 g8 c8, W = w8.setCell ⟨mb, 5, none⟩ (.slice (some ⟨g8, 0, none⟩) (no + 1) c8) ∧ w8.ownsRow w0.heap.size 3 1 (.slice (some ⟨g8, 0, none⟩) (no + 1) c8) (no + 1) (ints out ++ [.int .i64 av]) ∧ W4.grownBy w8 (.slice oa no oc : Value).ownBlock ∧ Mv W4 (.slice oa no oc) (.slice (some ⟨g8, 0, none⟩) (no + 1) c8))) (by kernel_rfl) (by kernel_rfl) ?_ ?_ (l := [(207, 0), (208, 1), (209, 2), (210, 3), (211, 4), (212, 5), (213, 6), (214, 7), (215, 8), (216, 9), (217, 10)]) (by kernel_rfl) (n := 12) rfl ?_
    · intro v
      exact ⟨fun _ => (X.refl _).drew, fun h => Bool.noConfusion h, fun h => Bool.noConfusion h, fun h => Bool.noConfusion h, fun h => Bool.noConfusion h, fun h => Bool.noConfusion h, fun h => Bool.noConfusion h, fun h => Bool.noConfusion h, fun h => Bool.noConfusion h, fun h => Bool.noConfusion h, fun h => Bool.noConfusion h, fun h => Bool.noConfusion h, fun h => Bool.noConfusion h, fun h => Bool.noConfusion h, fun h => Bool.noConfusion h, fun h => Bool.noConfusion h⟩
    · intro i hi
      have hi' : i = 0 ∨ i = 1 ∨ i = 2 ∨ i = 3 ∨ i = 4 ∨ i = 5 ∨ i = 6 ∨ i = 7 ∨ i = 8 ∨ i = 9 ∨ i = 10 ∨ i = 11 := by
        have : i < 12 := hi
        omega
      clear hi
      rcases hi' with rfl | rfl | rfl | rfl | rfl | rfl | rfl | rfl | rfl | rfl | rfl | rfl
      all_goals
        intro o ho L v aa W hI hS hL hA K hK
        cases (show some _ = some o from ho)
        obtain ⟨xx, ap, dS, dA, dL, v0, v1, v2, v3, v4, v5, v6, v7, v9, v10, fin⟩ := hI
      · have a0 := hS.old 0 (by kernel_rfl) rfl
        clear hS ho hA
        go_simp
        exact hK _ W ⟨xx, ap, dS, dA, dL, fun _ => rfl, v1, v2, v3, v4, v5, v6, v7, v9, v10, fin⟩
      · have a0 := hS.old 0 (by kernel_rfl) rfl
        clear hS ho hA
        go_simp
        exact hK _ W ⟨xx, ap, dS, dA, dL, v0, fun _ => rfl, v2, v3, v4, v5, v6, v7, v9, v10, fin⟩
      · have l1 : L 1 = true := hA ⟨1, .data⟩ (by simp) rfl
        have a1 := hS.get 1 208 rfl l1 (v1 l1)
        clear hS ho hA
        go_simp
        exact hK _ W ⟨xx, ap, dS, dA, dL, v0, v1, fun _ => rfl, v3, v4, v5, v6, v7, v9, v10, fin⟩
      · have l2 : L 2 = true := hA ⟨2, .data⟩ (by simp) rfl
        have a2 := hS.get 2 209 rfl l2 (v2 l2)
        clear hS ho hA
        go_simp
        exact hK _ W ⟨xx, ap, dS, dA, dL, v0, v1, v2, fun _ => rfl, v4, v5, v6, v7, v9, v10, fin⟩
      · have l3 : L 3 = true := hA ⟨3, .data⟩ (by simp) rfl
        have a3 := hS.get 3 210 rfl l3 (v3 l3)
        have n8 : L 8 = false := by rcases h : L 8 with _ | _; (· rfl); (· have := (dA h).1; simp [hL] at this)
        have XW := xx n8
        have cW := (XW.cell (p := ⟨mb, 5, none⟩) lm4).trans m54
        have lW := Nat.lt_of_lt_of_le lm4 XW.size
        clear hS ho hA
        go_simp
        exact hK _ W ⟨xx, ap, dS, fun h => ⟨rfl, (dA h).2⟩, dL, v0, v1, v2, v3, fun _ => rfl, v5, v6, v7, v9, v10, fin⟩
      · have a0 := hS.old 26 (by kernel_rfl) rfl
        clear hS ho hA
        go_simp
        exact hK _ W ⟨xx, ap, dS, dA, dL, v0, v1, v2, v3, v4, fun _ => rfl, v6, v7, v9, v10, fin⟩
      · have l5 : L 5 = true := hA ⟨5, .data⟩ (by simp) rfl
        have a5 := hS.get 5 212 rfl l5 (v5 l5)
        have n8 : L 8 = false := by rcases h : L 8 with _ | _; (· rfl); (· have := (dL (dA h).2); simp [hL] at this)
        have XW := xx n8
        have cW := (XW.cell (p := ⟨w3.heap.size, 1, none⟩) lv4).trans v14
        have lW := Nat.lt_of_lt_of_le lv4 XW.size
        clear hS ho hA
        go_simp
        exact hK _ W ⟨xx, ap, dS, dA, fun _ => rfl, v0, v1, v2, v3, v4, v5, fun _ => rfl, v7, v9, v10, fin⟩
      · have l6 : L 6 = true := hA ⟨6, .data⟩ (by simp) rfl
        have a6 := hS.get 6 213 rfl l6 (v6 l6)
        have n8 : L 8 = false := by rcases h : L 8 with _ | _; (· rfl); (· have := (dA h).2; simp [hL] at this)
        have n11 : L 11 = false := by rcases h : L 11 with _ | _; (· rfl); (· have := (dA (dS h)).2; simp [hL] at this)
        clear hS ho hA
        go_simp
        exact hK _ _ ⟨fun h => (xx h).alloc _, fun h => Bool.noConfusion (n8.symm.trans h), dS, fun h => ⟨(dA h).1, rfl⟩, fun _ => l6, v0, v1, v2, v3, v4, v5, v6, fun _ => ⟨_, rfl, fun _ => heap_alloc_new _ _⟩, v9, v10, fun h => Bool.noConfusion (n11.symm.trans h)⟩
      · have l4 : L 4 = true := hA ⟨4, .data⟩ (by simp) rfl
        have l7 : L 7 = true := hA ⟨7, .data⟩ (by simp) rfl
        have n11 : L 11 = false := by rcases h : L 11 with _ | _; (· rfl); (· have := dS h; simp [hL] at this)
        obtain ⟨gl, el, hgl⟩ := v7 l7
        refine unwantM (E := True) (by exact rfl) (step_append_m (ops := #[]) int_T rfl _ _ rfl (xx hL) hrow ((hS.eval_on 4 211 rfl l4).trans (v4 l4)) ((hS.eval_on 7 214 rfl l7).trans el) (hgl hL) rfl (by simp [Value.oneCell']) (by omega) (by omega) hB4 ?_)
        intro g8 c8 w8 hO8 hg8 hm8
        exact hK _ w8 ⟨fun h => Bool.noConfusion h, fun _ _ => ⟨g8, c8, rfl, hO8, hg8, hm8⟩, fun _ => rfl, fun _ => ⟨l4, l7⟩, dL, v0, v1, v2, v3, v4, v5, v6, fun h => let ⟨g, e, _⟩ := v7 h; ⟨g, e, fun h => Bool.noConfusion h⟩, v9, v10, fun h => Bool.noConfusion (n11.symm.trans h)⟩
      · have l0 : L 0 = true := hA ⟨0, .data⟩ (by simp) rfl
        have a0 := hS.get 0 207 rfl l0 (v0 l0)
        clear hS ho hA
        go_simp
        exact hK _ W ⟨xx, ap, dS, dA, dL, v0, v1, v2, v3, v4, v5, v6, v7, fun _ => rfl, v10, fin⟩
      · have l9 : L 9 = true := hA ⟨9, .data⟩ (by simp) rfl
        have a9 := hS.get 9 216 rfl l9 (v9 l9)
        clear hS ho hA
        go_simp
        exact hK _ W ⟨xx, ap, dS, dA, dL, v0, v1, v2, v3, v4, v5, v6, v7, v9, fun _ => rfl, fin⟩
      · have l10 : L 10 = true := hA ⟨10, .data⟩ (by simp) rfl
        have l8 : L 8 = true := hA ⟨8, .data⟩ (by simp) rfl
        have a10 := hS.get 10 217 rfl l10 (v10 l10)
        obtain ⟨g8, c8, e8, hO8, hg8, hm8⟩ := ap l8 hL
        have a8 := hS.get 8 215 rfl l8 e8
        obtain ⟨lt, ct, ft⟩ := Bx.out ⟨_, at_grown hbx hg8 (own_ne_at hrow hbx (by decide))⟩
        have cst := ct 5
        clear ct
        clear hS ho hA
        go_simp
        exact hK undef _ ⟨fun h => Bool.noConfusion (l8.symm.trans h), fun _ h => Bool.noConfusion h, fun _ => l8, dA, dL, v0, v1, v2, v3, v4, v5, v6, fun h => let ⟨g, e, _⟩ := v7 h; ⟨g, e, fun h => Bool.noConfusion (l8.symm.trans h)⟩, v9, v10, fun _ => ⟨W, g8, c8, rfl, hO8, hg8, hm8⟩⟩
    intro v W9 hI
    obtain ⟨xx, ap, dS, dA, dL, v0, v1, v2, v3, v4, v5, v6, v7, v9, v10, fin⟩ := hI
    obtain ⟨w8, g8, c8, rfl, hO8, hg8, hm8⟩ := fin rfl
    clear fin xx ap dS dA dL v0 v1 v2 v3 v4 v5 v6 v7 v9 v10
    simp only [putL, List.foldl, List.setIfInBounds_toArray, List.set_cons_zero, List.set_cons_succ]
    go_wp2
    go_ret
    have hMX4 := Hno.out.2.1
    have hoq := Hno.out.2.2
    rw [← Hno.out.1] at hO8 hg8 hm8 hrow ⊢
    obtain ⟨h7, hK7⟩ := hMX4.printed hB4 hoq hrow hg8 hO8 hm8
    exact ⟨left, q + 1, ms, 0, rfl, h7, hK4.trans hK7, Ext.refl _, Nat.le_refl _, by omega⟩

end Go.Proofs.YtgjfjjhmgbemcaaGreatDoor

namespace Go.Proofs.YtgjfjjhmgbemcaaGreatDoor
open Go.RowKit

theorem attrs_one (aL : List At) : ∀ u ∈ aL.flatMap atcells, u.oneCell' = true := fun u hu => by
  obtain ⟨a, _, ha⟩ := List.mem_flatMap.1 hu
  unfold atcells at ha
  rcases List.mem_cons.1 ha with rfl | ha
  · rfl
  · rcases List.mem_cons.1 ha with rfl | ha
    · rfl
    · rw [List.mem_singleton.1 ha]; rfl
/-- A row of attributes, by its elements. -/
theorem ats_at {W : World} {B n c : Nat} {a : Option Addr} {aL : List At} (ho : W.ownsRow B 213 3 (.slice a n c) n (aL.flatMap atcells)) (hn : aL.length = n) {k : Nat} (hk : k < n) : ∃ g, a = some ⟨g, 0, none⟩ ∧ n ≤ c ∧ B ≤ g ∧ g < W.heap.size ∧
    W.cell? ⟨g, k * 3, none⟩ = some (.string ⟨((nth aL k).name).toArray⟩) ∧ W.cell? ⟨g, k * 3 + 1, none⟩ = some (.int .i64 (nth aL k).kind) ∧ W.cell? ⟨g, k * 3 + 2, none⟩ = some (.int .i64 (nth aL k).num) := by
  obtain ⟨g, rfl, hB, hl⟩ := own_form ho (by omega)
  have hc : ∀ j, j < 3 → W.cell? ⟨g, k * 3 + j, none⟩ = (atcells (nth aL k))[j]? := fun j hj => by
    have h1 : k * 3 + j < (aL.flatMap atcells).length := by rw [flat_length 3 atcells atcells_3]; omega
    have h2 := flat_get 3 atcells atcells_3 aL k j (by omega) hj h1
    rw [nth_eq (by omega), List.getElem?_eq_getElem (by rw [atcells_3]; exact hj), ← h2]
    exact row_cell ho _ _ (List.getElem?_eq_getElem h1)
  exact ⟨g, rfl, own_cap ho, hB, hl, hc 0 (by omega), hc 1 (by omega), hc 2 (by omega)⟩
set_option maxRecDepth 100000 in
set_option maxHeartbeats 4000000 in
theorem do_star (w0 : World) (mb : Nat) (fa : Option Addr) (n fc : Nat) (pa : Option Addr) (pn pc : Nat) (l : List Fi) (path : List Int) (hE : EnvM w0 fa n fc pa pn l path) (L : Nat) (hLoad : LoadOk w0 mb fa n fc pa pn pc L) : DoKd w0 mb fa n fc pa pn pc L 2 := by
  intro W left q ms k s hX hS hL hk hst hOk hP hkind
  obtain ⟨⟨Bt, hF⟩, hnc, ⟨Bp, hI⟩, ht, hG⟩ := hE
  have hB : w0.heap.size ≤ W.heap.size := hX.size
  have hS0 := hS
  obtain ⟨mv, ov, lv, qv, hMX⟩ := hS
  obtain ⟨g, mc, rfl, hkc, hgl, c0, hM⟩ := hMX.at_ hk
  obtain ⟨lm, -, -, -, -, -, m4, -, -, -, -⟩ := ma_out hMX.box
  obtain ⟨xb, hxb⟩ : ∃ xb, (nth ms k).b = xb := ⟨_, rfl⟩
  rw [hxb] at c0
  have Hxb := Lib.hid hxb
  clear hMX hM hxb
  go_enter Tryz.func182, Tryz.ntmps182
  go_upto_region 1 with fail
  refine wp_name (fun W0 hW0 => ?_)
  have hSt0 : W0.heap[W.heap.size]? = some (.cells #[.int .i64 s.kind, .string ⟨(s.mod).toArray⟩, .int .i64 s.level, .string ⟨(s.name).toArray⟩, .int .i64 s.val] 148 (0, 0)) := by rw [hW0, hkind]; exact heap_alloc_new _ _
  have hX0 : X W W0 := by rw [hW0]; (repeat (first | with_reducible exact X.refl _ | with_reducible assumption | with_reducible refine X.setCell ?_ (by first | (simp; done) | (simp; omega)) _ | with_reducible refine X.ext ?_ _ | with_reducible refine X.alloc ?_ _ | with_reducible refine X.drew ?_))
  clear hW0
  have c0 := (hX0.cell (p := ⟨g, k, none⟩) hgl).trans c0
  have m4 := (hX0.cell (p := ⟨mb, 4, none⟩) lm).trans m4
  have hgl := Nat.lt_of_lt_of_le hgl hX0.size
  have lm := Nat.lt_of_lt_of_le lm hX0.size
  have hS0 := hS0.x hX0
  have hB0 := Nat.le_trans hB hX0.size
  have hXw0 := hX.trans hX0
  have hK0 := Kp.of_x hX0 hB
  obtain ⟨ls0, cs0, -⟩ := Bx.out ⟨_, hSt0⟩
  have s00 := cs0 0
  have s10 := cs0 1
  have s20 := cs0 2
  have s30 := cs0 3
  have s40 := cs0 4
  clear cs0
  rw [hkind] at s00
  have hn := stB_0 hst (.inr hkind)
  have hn12 := nameB_len hn
  have hp3 := parts_3 hn
  go_wp2_with fail
  refine (hLoad W0 left q ms s.mod hXw0 hS0 hL hn (by omega)).mono ?_
  rintro _ w3 ⟨left3, q3, ms3, i3, en3, rfl, hi3, hS3, hK3, hE3, hl3, hq3⟩
  have hK03 := hK0.trans hK3
  have hX3 := hK03.X hX
  have hB3 := hX3.size
  clear c0 m4 hgl lm s00 s10 s20 s30 s40 ls0
  by_cases hen : en3 = 0
  · subst hen
    obtain ⟨j3, rfl, hjl⟩ := hi3 rfl
    have hS3' := hS3
    obtain ⟨mv3, ov3, lv3, qv3, hMX3⟩ := hS3'
    obtain ⟨g3, mc3, rfl, hjc3, hgl3, c03, hMj⟩ := hMX3.at_ hjl
    obtain ⟨lm3, -, -, -, -, -, m43, -, -, -, -⟩ := ma_out hMX3.box
    obtain ⟨y, hy⟩ : ∃ y, nth ms3 j3 = y := ⟨_, rfl⟩
    rw [hy] at c03 hMj
    obtain ⟨ly, -, -, -, -, -, -, y5⟩ := mo_out hMj.box
    obtain ⟨ya, yc, hav, hrow⟩ := hMj.atr
    have hfew := hMj.ok.few
    have hparts := hMj.ok.2.2.1
    obtain ⟨aL, has⟩ : ∃ aL, y.mo.attrs = aL := ⟨_, rfl⟩
    obtain ⟨na, hna⟩ : ∃ na, aL.length = na := ⟨_, rfl⟩
    rw [has] at hav hrow hfew hparts
    rw [hna] at hav hrow hfew
    rw [hav] at y5 hrow
    have hk3 := Nat.lt_of_lt_of_le hk hE3.1
    have hMk3 := hMX3.mods k hk3
    have hsl := Sl.of_own hrow
    have hlen : (aL.flatMap atcells).length = na * 3 := by rw [flat_length 3 atcells atcells_3, hna]
    have Hn := Lib.hid hna
    have Hlen := Lib.hid hlen
    clear hna hlen has hy hMX3 hMj
    go_wp2_with (at_builtin; refine wpList_append_sl at_T rfl _ _ rfl (own_lit (B := w3.heap.size) (n := 0) (size := 3) rfl (Nat.le_refl _) rfl (by omega)) rfl rfl (hsl.mono (X.fr (by (repeat (first | with_reducible exact X.refl _ | with_reducible assumption | with_reducible refine X.setCell ?_ (by first | (simp; done) | (simp; omega)) _ | with_reducible refine X.ext ?_ _ | with_reducible refine X.alloc ?_ _ | with_reducible refine X.drew ?_))) _)) Hlen.out (attrs_one aL) (by omega) (by unfold maxLen; omega) (by simp) ?_; intro a' c' w5 hO5 hg5; rw [List.nil_append, Nat.zero_add] at hO5; rw [Nat.zero_add]; have hx5 : X w3 w5 := X.of_litR hg5 (by simp [Value.ownBlock]))
    have hK05 := hK03.trans (Kp.of_x hx5 hB3)
    have hS5 := hS3.x hx5
    have hA5 : Apm (nth ms3 k).av (.slice a' na c') := Apm.new (w := w3) (own_blk hMk3.arow) (fun b hb => (hO5.lt b hb).1)
    go_loopw [174] (fun i wr => ∃ (j : Nat) (msr : List Mp), j ≤ na ∧ i = .int .i64 j ∧ MaW wr w0.heap.size mb (.slice fa n fc) (.slice pa pn pc) left3 q3 msr ∧ Kp w0.heap.size W wr ∧ Ext ms3 msr ∧ wr.ownsRow w3.heap.size 213 3 (.slice a' na c') na (aL.flatMap atcells) ∧ Apm (nth msr k).av (.slice a' na c')) (fun i _ => na - (intOf i).toNat)
    case atStart => exact ⟨0, ms3, by omega, rfl, hS5, hK05, Ext.refl _, hO5, hA5⟩
    case round =>
      obtain ⟨j, msr, hj, rfl, hSr, hKr, hEr, hOr, hAr⟩ := hrel
      have hBr := (hKr.X hX).size
      by_cases hlt : j < na
      · obtain ⟨gr, rfl, hcap, hBg, hgl, a0, a1, a2⟩ := ats_at hOr Hn.out hlt
        have hap : partB (nth aL j).name = true := hparts _ (nth_mem (by have := Hn.out; omega))
        have hal := partB_len hap
        have hpos : 0 < (nth aL j).name.length := by omega
        go_wp2_with fail
        · refine calls_name (fun W6 hW6 => ?_)
          have hx6 : X wr W6 := by rw [hW6]; exact (X.refl _).alloc _
          clear hW6
          have hkr := Nat.lt_of_lt_of_le hk3 hEr.1
          have hS6 := hSr.x hx6
          have hMk := hS6.mo hkr
          have hO6 := own_fr hOr (hx6.fr _)
          have hB6 := Nat.le_trans hBr hx6.size
          have hxbr : (nth msr k).b = xb := ((hE3.trans hEr).2 k hk).trans Hxb.out
          rw [← hxbr]
          refine (give_c (nth msr k) w0.heap.size (nth aL j).name _ _ W6 hMk hap hB6).mono ?_
          rintro _ w7 ⟨rfl, y', k1, k2, k3, k4, k5⟩
          obtain ⟨mv7, ov7, lv7, qv7, hMX7⟩ := hS6
          have hmod := hMX7.mod hkr k4 k3 k1 k2 k5
          have hO7 := own_same hO6 (fun b hb => k4.block b (own_blk hO6 b hb) (own_not hO6 hMk.box (by decide) b hb) (apm_nor hAr.symm b hb))
          have hK7 := (hKr.trans (Kp.of_x hx6 hBr)).trans (k4.kp hMk hB6)
          have hA7 : Apm y'.av (.slice (some ⟨gr, 0, none⟩) na c') := (hAr.symm.mv k5 (own_blk hO6)).symm
          go_wp2_with fail
          go_roundw
          case rel => exact ⟨j + 1, msr.set k y', by omega, by go_num, ⟨_, _, _, _, hmod⟩, hK7, hEr.trans (Ext.set hkr k1), hO7, by rw [nth_setM hkr, if_pos rfl]; exact hA7⟩
          case measure => simp [intOf]; omega
        · go_roundw
          case rel => exact ⟨j + 1, msr, by omega, by go_num, hSr.x ((X.refl _).alloc _), hKr.trans (Kp.of_x ((X.refl _).alloc _) hBr), hEr, own_fr hOr (X.fr ((X.refl _).alloc _) _), hAr⟩
          case measure => simp [intOf]; omega
      · obtain rfl : na = j := by omega
        go_wp2
        go_ret
        exact ⟨left3, q3, msr, 0, rfl, hSr, hKr, hE3.trans hEr, hl3, by omega⟩
  · have hen' : (en3 == 0) = false := by simpa using hen
    go_wp2
    go_ret
    exact ⟨left3, q3, ms3, en3, rfl, hS3, hK03, hE3, hl3, by omega⟩

end Go.Proofs.YtgjfjjhmgbemcaaGreatDoor

namespace Go.Proofs.YtgjfjjhmgbemcaaGreatDoor
open Go.RowKit

theorem Kp.setNew {B b : Nat} {W a : World} (h : Kp B W a) (hb : W.heap.size ≤ b) (hB : B ≤ b) (i : Nat) (u : Value) : Kp B W (a.setCell ⟨b, i, none⟩ u) :=
  ⟨⟨h.1.os, h.1.tape, h.1.output, by simpa [World.setCell] using h.1.size, fun k hk => (heap_setCell_other a ⟨b, i, none⟩ k u (by show k ≠ b; omega)).trans (h.1.block k hk)⟩, fun b' cs t ht hb' => (heap_setCell_other a ⟨b, i, none⟩ b' u (by show b' ≠ b; have := (Bx.out ⟨_, hb'⟩).1; omega)).trans (h.2 b' cs t ht hb')⟩
theorem MaW.farV {w : World} {B mb left q b : Nat} {tv pv : Value} {ms : List Mp} {cs : Array Value} (h : MaW w B mb tv pv left q ms) (hb : w.heap[b]? = some (.cells cs 182 (0, 0))) (i : Nat) (u : Value) : MaW (w.setCell ⟨b, i, none⟩ u) B mb tv pv left q ms := by
  obtain ⟨mv, ov, lv, qv, h1, h2, h3, ⟨a1, c1, e1, o1⟩, ⟨p2, a2, c2, e2, l2, o2⟩, ⟨a3, k3, c3, p3, e3, l3, o3⟩, ⟨p4, a4, c4, e4, l4, m4, o4⟩, h8, h9, h10⟩ := h
  have hne : mb ≠ b := fun e => by
    rw [e, hb] at h1
    injection h1 with h1
    injection h1 with _ h1
    exact absurd h1 (by decide)
  exact ⟨mv, ov, lv, qv, (heap_setCell_other w ⟨b, i, none⟩ mb u hne).trans h1, h2, h3, ⟨a1, c1, e1, own_set_far o1 hb (by decide) _ _⟩, ⟨p2, a2, c2, e2, l2, own_set_far o2 hb (by decide) _ _⟩, ⟨a3, k3, c3, p3, e3, l3, own_set_far o3 hb (by decide) _ _⟩, ⟨p4, a4, c4, e4, l4, m4, own_set_far o4 hb (by decide) _ _⟩, fun i hi => (h8 i hi).far hb (by decide) (by decide) (by decide) _ _, h9, h10⟩
theorem childOf_name {p s : List UInt8} : childOf p s = [] ∨ nameB (childOf p s) = true := by
  unfold childOf
  split
  · rename_i h
    simp only [Bool.and_eq_true] at h
    exact .inr h.2
  · exact .inl rfl
set_option maxRecDepth 100000 in
set_option maxHeartbeats 8000000 in
theorem do_from (w0 : World) (mb : Nat) (fa : Option Addr) (n fc : Nat) (pa : Option Addr) (pn pc : Nat) (l : List Fi) (path : List Int) (hE : EnvM w0 fa n fc pa pn l path) (L : Nat) (hLoad : LoadOk w0 mb fa n fc pa pn pc L) : DoKd w0 mb fa n fc pa pn pc L 1 := by
  intro W left q ms k s hX hS hL hk hst hOk hP hkind
  obtain ⟨⟨Bt, hF⟩, hnc, ⟨Bp, hI⟩, ht, hG⟩ := hE
  have hB : w0.heap.size ≤ W.heap.size := hX.size
  have hS0 := hS
  obtain ⟨mv, ov, lv, qv, hMX⟩ := hS
  obtain ⟨g, mc, rfl, hkc, hgl, c0, hM⟩ := hMX.at_ hk
  obtain ⟨lm, -, -, -, -, -, m4, -, -, -, -⟩ := ma_out hMX.box
  obtain ⟨xb, hxb⟩ : ∃ xb, (nth ms k).b = xb := ⟨_, rfl⟩
  rw [hxb] at c0
  have Hxb := Lib.hid hxb
  clear hMX hM hxb
  go_enter Tryz.func182, Tryz.ntmps182
  go_upto_region 1 with fail
  refine wp_name (fun W0 hW0 => ?_)
  have hSt0 : W0.heap[W.heap.size]? = some (.cells #[.int .i64 s.kind, .string ⟨(s.mod).toArray⟩, .int .i64 s.level, .string ⟨(s.name).toArray⟩, .int .i64 s.val] 148 (0, 0)) := by rw [hW0, hkind]; exact heap_alloc_new _ _
  have hX0 : X W W0 := by rw [hW0]; (repeat (first | with_reducible exact X.refl _ | with_reducible assumption | with_reducible refine X.setCell ?_ (by first | (simp; done) | (simp; omega)) _ | with_reducible refine X.ext ?_ _ | with_reducible refine X.alloc ?_ _ | with_reducible refine X.drew ?_))
  clear hW0
  have c0 := (hX0.cell (p := ⟨g, k, none⟩) hgl).trans c0
  have m4 := (hX0.cell (p := ⟨mb, 4, none⟩) lm).trans m4
  have hgl := Nat.lt_of_lt_of_le hgl hX0.size
  have lm := Nat.lt_of_lt_of_le lm hX0.size
  have hS0 := hS0.x hX0
  have hB0 := Nat.le_trans hB hX0.size
  have hXw0 := hX.trans hX0
  have hK0 := Kp.of_x hX0 hB
  obtain ⟨ls0, cs0, -⟩ := Bx.out ⟨_, hSt0⟩
  have s00 := cs0 0
  have s10 := cs0 1
  have s20 := cs0 2
  have s30 := cs0 3
  have s40 := cs0 4
  clear cs0
  rw [hkind] at s00
  obtain ⟨hmod, hl0, hlv3, hpart⟩ := stB_1 hst hkind
  have hM0 := hS0.mo hk
  have hpk := pkgF_pkg hM0.ok
  have hG0 := hG.mono hXw0
  go_wp2_with fail
  rw [← Hxb.out]
  refine wp_region_grow0 (by kernel_rfl) (by kernel_rfl) ?_
  repeat (go_big_quiet_step (((first | (go_at_call 207; refine grow_of (packageOf_c (nth ms k) w0.heap.size _ (hM0.x (by (repeat (first | exact X.refl _ | assumption | refine X.ext ?_ _ | refine X.alloc ?_ _ | refine X.drew ?_)))) (hG0.mono (by (repeat (first | exact X.refl _ | assumption | refine X.ext ?_ _ | refine X.alloc ?_ _ | refine X.drew ?_)))))) | (go_at_call 206; refine grow_of (ResolveName_c _ s.mod s.level _ hpk hmod hl0 hlv3 (hG0.mono (by (repeat (first | exact X.refl _ | assumption | refine X.ext ?_ _ | refine X.alloc ?_ _ | refine X.drew ?_))))))))))
  refine wpQuiet_nil ?_
  rintro _ ⟨y, rfl⟩
  obtain ⟨W1, hW1⟩ : ∃ W1, W1 = World.ext W0 y := ⟨_, rfl⟩
  rw [← hW1]
  have hx1 : X W0 W1 := ⟨y, hW1⟩
  clear hW1
  have hK01 := hK0.trans (Kp.of_x hx1 hB0)
  have hX1 := hK01.X hX
  have hS1 := hS0.x hx1
  have hSt1 := at_x2' hSt0 hx1
  obtain ⟨nm, hnm⟩ : ∃ nm, resN (pkgF (nth ms k)) s.level s.mod = nm := ⟨_, rfl⟩
  rw [hnm]
  have hnm2 : nm = [] ∨ nameB nm = true := by
    rw [← hnm]
    unfold resN
    split
    · rename_i h; exact .inr h
    · exact .inl rfl
  clear hnm c0 m4 hgl lm s00 s10 s20 s30 s40 ls0 hM0 hS0 hSt0
  rcases hnm2 with rfl | hn
  · go_wp2
    go_ret
    exact ⟨left, q, ms, 5, rfl, hS1, hK01, Ext.refl _, Nat.le_refl _, by omega⟩
  have hne : (nm == []) = false := by
    cases nm with
    | nil => rw [nameB_nil] at hn; cases hn
    | cons a b => rfl
  have hn12 := nameB_len hn
  have hp3 := parts_3 hn
  go_wp2_with fail
  refine (hLoad W1 left q ms nm hX1 hS1 hL hn (by omega)).mono ?_
  rintro _ w3 ⟨left3, q3, ms3, i3, en3, rfl, hi3, hS3, hK3, hE3, hl3, hq3⟩
  have hK03 := hK01.trans hK3
  have hX3 := hK03.X hX
  have hB3 := hX3.size
  have hSt3 := hK3.2 _ _ _ (by unfold KT; decide) hSt1
  by_cases hen : en3 = 0
  · subst hen
    obtain ⟨j3, rfl, hjl⟩ := hi3 rfl
    have hS3' := hS3
    obtain ⟨mv3, ov3, lv3, qv3, hMX3⟩ := hS3'
    obtain ⟨g3, mc3, rfl, hjc3, hgl3, c03, hMj⟩ := hMX3.at_ hjl
    obtain ⟨lm3, -, -, -, -, -, m43, -, -, -, -⟩ := ma_out hMX3.box
    obtain ⟨y3, hy3⟩ : ∃ y3, nth ms3 j3 = y3 := ⟨_, rfl⟩
    rw [hy3] at c03 hMj
    obtain ⟨ls3, cs3, -⟩ := Bx.out ⟨_, hSt3⟩
    have s33 := cs3 3
    clear cs3 hMX3
    have Hy3 := Lib.hid hy3
    clear hy3
    obtain ⟨WS, hWS⟩ : ∃ WS, WS = W.heap.size := ⟨_, rfl⟩
    rw [← hWS] at hSt3 ls3 s33 ⊢
    have HWS := Lib.hid hWS
    clear hWS
    obtain ⟨ag, hag⟩ : ∃ ag, attrG y3 s.name = ag := ⟨_, rfl⟩
    obtain ⟨ak, av, ab⟩ := ag
    have Hag := Lib.hid hag
    clear hag
    go_wp2_with fail
    refine wp_region_inv (fun L v W => (L 14 = false → X w3 W)
        ∧ (L 14 = true → L 3 = true ∧ L 6 = true ∧ L 8 = true ∧ L 9 = true ∧ L 13 = true)
        ∧ (L 13 = true → ∃ vb, v 13 = .pointer (some ⟨vb, 0, none⟩) ∧ w3.heap.size ≤ vb ∧ (L 14 = false → W.heap[vb]? = some (.cells #[.int .i64 0, .int .i64 0] 182 (0, 0))) ∧ (L 14 = true → ∃ w4, X w3 w4 ∧ w4.heap[vb]? = some (.cells #[.int .i64 0, .int .i64 0] 182 (0, 0)) ∧ W = (w4.setCell ⟨vb, 0, none⟩ (.int .i64 ak)).setCell ⟨vb, 1, none⟩ (.int .i64 av)))
        ∧ (L 0 = true → v 0 = .pointer (some ⟨mb, 0, none⟩))
        ∧ (L 1 = true → v 1 = .pointer (some ⟨mb, 0, none⟩))
        ∧ (L 2 = true → v 2 = .pointer (some ⟨mb, 4, none⟩))
        ∧ (L 3 = true → v 3 = .slice (some ⟨g3, 0, none⟩) ms3.length mc3)
        ∧ (L 4 = true → v 4 = .int .i64 (j3 : Int))
        ∧ (L 5 = true → v 5 = .pointer (some ⟨g3, j3, none⟩))
        ∧ (L 6 = true → v 6 = .pointer (some ⟨y3.b, 0, none⟩))
        ∧ (L 7 = true → v 7 = .pointer (some ⟨WS, 3, none⟩))
        ∧ (L 8 = true → v 8 = .string ⟨(s.name).toArray⟩)
        ∧ (L 9 = true → v 9 = .tuple #[.agg #[.int .i64 ak, .int .i64 av], .bool ab])
        ∧ (L 10 = true → v 10 = .tuple #[.agg #[.int .i64 ak, .int .i64 av], .bool ab])
        ∧ (L 11 = true → v 11 = .agg #[.int .i64 ak, .int .i64 av])
        ∧ (L 12 = true → v 12 = .bool ab)
        ∧ (L 15 = true → v 15 = .bool ab)) (by kernel_rfl) (by kernel_rfl) ?_ ?_ (l := [(87, 0), (88, 1), (89, 2), (90, 3), (91, 4), (92, 5), (93, 6), (94, 7), (95, 8), (96, 9), (86, 10), (97, 11), (98, 12), (17, 13), (18, 15)]) (by kernel_rfl) (n := 16) rfl ?_
    · intro v
      exact ⟨fun _ => (X.refl _).drew, fun h => Bool.noConfusion h, fun h => Bool.noConfusion h, fun h => Bool.noConfusion h, fun h => Bool.noConfusion h, fun h => Bool.noConfusion h, fun h => Bool.noConfusion h, fun h => Bool.noConfusion h, fun h => Bool.noConfusion h, fun h => Bool.noConfusion h, fun h => Bool.noConfusion h, fun h => Bool.noConfusion h, fun h => Bool.noConfusion h, fun h => Bool.noConfusion h, fun h => Bool.noConfusion h, fun h => Bool.noConfusion h, fun h => Bool.noConfusion h⟩
    · intro i hi
      have hi' : i = 0 ∨ i = 1 ∨ i = 2 ∨ i = 3 ∨ i = 4 ∨ i = 5 ∨ i = 6 ∨ i = 7 ∨ i = 8 ∨ i = 9 ∨ i = 10 ∨ i = 11 ∨ i = 12 ∨ i = 13 ∨ i = 14 ∨ i = 15 := by
        have : i < 16 := hi
        omega
      clear hi
      rcases hi' with rfl | rfl | rfl | rfl | rfl | rfl | rfl | rfl | rfl | rfl | rfl | rfl | rfl | rfl | rfl | rfl
      all_goals
        intro o ho L v aa W hI hS hL hA K hK
        cases (show some _ = some o from ho)
        obtain ⟨nn, dS, bx, v0, v1, v2, v3, v4, v5, v6, v7, v8, v9, v10, v11, v12, v15⟩ := hI
      · have o0 := hS.old 0 (by kernel_rfl) rfl
        clear hS ho hA
        go_simp
        exact hK _ W ⟨nn, dS, bx, fun _ => rfl, v1, v2, v3, v4, v5, v6, v7, v8, v9, v10, v11, v12, v15⟩
      · have l0 : L 0 = true := hA ⟨0, .data⟩ (by simp) rfl
        have g0 := hS.get 0 87 rfl l0 (v0 l0)
        clear hS ho hA
        go_simp
        exact hK _ W ⟨nn, dS, bx, v0, fun _ => rfl, v2, v3, v4, v5, v6, v7, v8, v9, v10, v11, v12, v15⟩
      · have l1 : L 1 = true := hA ⟨1, .data⟩ (by simp) rfl
        have g1 := hS.get 1 88 rfl l1 (v1 l1)
        clear hS ho hA
        go_simp
        exact hK _ W ⟨nn, dS, bx, v0, v1, fun _ => rfl, v3, v4, v5, v6, v7, v8, v9, v10, v11, v12, v15⟩
      · have l2 : L 2 = true := hA ⟨2, .data⟩ (by simp) rfl
        have g2 := hS.get 2 89 rfl l2 (v2 l2)
        have n14 : L 14 = false := by rcases h : L 14 with _ | _; (· rfl); (· have := (dS h).1; simp [hL] at this)
        have xx := nn n14
        have cW := (xx.cell (p := ⟨mb, 4, none⟩) lm3).trans m43
        have lW := Nat.lt_of_lt_of_le lm3 xx.size
        clear hS ho hA
        go_simp
        exact hK _ W ⟨nn, fun h => ⟨rfl, (dS h).2.1, (dS h).2.2.1, (dS h).2.2.2.1, (dS h).2.2.2.2⟩, bx, v0, v1, v2, fun _ => rfl, v4, v5, v6, v7, v8, v9, v10, v11, v12, v15⟩
      · have o15 := hS.old 15 (by kernel_rfl) rfl
        clear hS ho hA
        go_simp
        exact hK _ W ⟨nn, dS, bx, v0, v1, v2, v3, fun _ => rfl, v5, v6, v7, v8, v9, v10, v11, v12, v15⟩
      · have l3 : L 3 = true := hA ⟨3, .data⟩ (by simp) rfl
        have g3 := hS.get 3 90 rfl l3 (v3 l3)
        have l4 : L 4 = true := hA ⟨4, .data⟩ (by simp) rfl
        have g4 := hS.get 4 91 rfl l4 (v4 l4)
        clear hS ho hA
        go_simp
        exact hK _ W ⟨nn, dS, bx, v0, v1, v2, v3, v4, fun _ => rfl, v6, v7, v8, v9, v10, v11, v12, v15⟩
      · have l5 : L 5 = true := hA ⟨5, .data⟩ (by simp) rfl
        have g5 := hS.get 5 92 rfl l5 (v5 l5)
        have n14 : L 14 = false := by rcases h : L 14 with _ | _; (· rfl); (· have := (dS h).2.1; simp [hL] at this)
        have xx := nn n14
        have cW := (xx.cell (p := ⟨g3, j3, none⟩) hgl3).trans c03
        have lW := Nat.lt_of_lt_of_le hgl3 xx.size
        clear hS ho hA
        go_simp
        exact hK _ W ⟨nn, fun h => ⟨(dS h).1, rfl, (dS h).2.2.1, (dS h).2.2.2.1, (dS h).2.2.2.2⟩, bx, v0, v1, v2, v3, v4, v5, fun _ => rfl, v7, v8, v9, v10, v11, v12, v15⟩
      · have o5 := hS.old 5 (by kernel_rfl) rfl
        clear hS ho hA
        go_simp
        exact hK _ W ⟨nn, dS, bx, v0, v1, v2, v3, v4, v5, v6, fun _ => rfl, v8, v9, v10, v11, v12, v15⟩
      · have l7 : L 7 = true := hA ⟨7, .data⟩ (by simp) rfl
        have g7 := hS.get 7 94 rfl l7 (v7 l7)
        have n14 : L 14 = false := by rcases h : L 14 with _ | _; (· rfl); (· have := (dS h).2.2.1; simp [hL] at this)
        have xx := nn n14
        have cW := (xx.cell (p := ⟨WS, 3, none⟩) ls3).trans s33
        have lW := Nat.lt_of_lt_of_le ls3 xx.size
        clear hS ho hA
        go_simp
        exact hK _ W ⟨nn, fun h => ⟨(dS h).1, (dS h).2.1, rfl, (dS h).2.2.2.1, (dS h).2.2.2.2⟩, bx, v0, v1, v2, v3, v4, v5, v6, v7, fun _ => rfl, v9, v10, v11, v12, v15⟩
      · have l6 : L 6 = true := hA ⟨6, .data⟩ (by simp) rfl
        have g6 := hS.get 6 93 rfl l6 (v6 l6)
        have l8 : L 8 = true := hA ⟨8, .data⟩ (by simp) rfl
        have g8 := hS.get 8 95 rfl l8 (v8 l8)
        have n14 : L 14 = false := by rcases h : L 14 with _ | _; (· rfl); (· have := (dS h).2.2.2.1; simp [hL] at this)
        have xx := nn n14
        clear hS ho hA
        go_simp
        refine (attr_c y3 w0.heap.size s.name W (hMj.x xx)).mono ?_
        rintro _ w4 ⟨rfl, hx⟩
        rw [Hag.out]
        exact hK _ w4 ⟨fun h => (nn h).trans hx, fun h => ⟨(dS h).1, (dS h).2.1, (dS h).2.2.1, rfl, (dS h).2.2.2.2⟩, fun h => let ⟨vb, e, h1, h2, _⟩ := bx h; ⟨vb, e, h1, fun _ => at_x2' (h2 n14) hx, fun h => Bool.noConfusion (n14.symm.trans h)⟩, v0, v1, v2, v3, v4, v5, v6, v7, v8, fun _ => rfl, v10, v11, v12, v15⟩
      · have l9 : L 9 = true := hA ⟨9, .data⟩ (by simp) rfl
        have g9 := hS.get 9 96 rfl l9 (v9 l9)
        clear hS ho hA
        go_simp
        exact hK _ W ⟨nn, dS, bx, v0, v1, v2, v3, v4, v5, v6, v7, v8, v9, fun _ => rfl, v11, v12, v15⟩
      · have l10 : L 10 = true := hA ⟨10, .data⟩ (by simp) rfl
        have g10 := hS.get 10 86 rfl l10 (v10 l10)
        clear hS ho hA
        go_simp
        exact hK _ W ⟨nn, dS, bx, v0, v1, v2, v3, v4, v5, v6, v7, v8, v9, v10, fun _ => rfl, v12, v15⟩
      · have l10 : L 10 = true := hA ⟨10, .data⟩ (by simp) rfl
        have g10 := hS.get 10 86 rfl l10 (v10 l10)
        clear hS ho hA
        go_simp
        exact hK _ W ⟨nn, dS, bx, v0, v1, v2, v3, v4, v5, v6, v7, v8, v9, v10, v11, fun _ => rfl, v15⟩
      · have n14 : L 14 = false := by rcases h : L 14 with _ | _; (· rfl); (· have := (dS h).2.2.2.2; simp [hL] at this)
        have xx := nn n14
        clear hS ho hA
        go_simp
        exact hK _ _ ⟨fun h => (nn h).alloc _, fun h => ⟨(dS h).1, (dS h).2.1, (dS h).2.2.1, (dS h).2.2.2.1, rfl⟩, fun _ => ⟨_, rfl, xx.size, fun _ => heap_alloc_new _ _, fun h => Bool.noConfusion (n14.symm.trans h)⟩, v0, v1, v2, v3, v4, v5, v6, v7, v8, v9, v10, v11, v12, v15⟩
      · have l13 : L 13 = true := hA ⟨13, .data⟩ (by simp) rfl
        have l11 : L 11 = true := hA ⟨11, .data⟩ (by simp) rfl
        have g11 := hS.get 11 97 rfl l11 (v11 l11)
        have l3 : L 3 = true := hA ⟨3, .phase⟩ (by simp) rfl
        have l6 : L 6 = true := hA ⟨6, .phase⟩ (by simp) rfl
        have l8 : L 8 = true := hA ⟨8, .phase⟩ (by simp) rfl
        have l9 : L 9 = true := hA ⟨9, .phase⟩ (by simp) rfl
        have xx := nn hL
        obtain ⟨vb, e13, h13, hz13, -⟩ := bx l13
        have hb13 := hz13 hL
        have g13 := hS.get 13 17 rfl l13 e13
        obtain ⟨lvb, cvb, fvb⟩ := Bx.out ⟨_, hb13⟩
        have c0b := cvb 0
        have c1b := cvb 1
        have f0b := fvb 0
        have f1b := fvb 1
        clear cvb fvb
        clear hS ho hA
        go_simp
        exact hK undef _ ⟨fun h => Bool.noConfusion h, fun _ => ⟨l3, l6, l8, l9, l13⟩, fun _ => ⟨vb, e13, h13, fun h => Bool.noConfusion h, fun _ => ⟨W, xx, hb13, rfl⟩⟩, v0, v1, v2, v3, v4, v5, v6, v7, v8, v9, v10, v11, v12, v15⟩
      · have l12 : L 12 = true := hA ⟨12, .data⟩ (by simp) rfl
        have g12 := hS.get 12 98 rfl l12 (v12 l12)
        clear hS ho hA
        go_simp
        exact hK _ W ⟨nn, dS, bx, v0, v1, v2, v3, v4, v5, v6, v7, v8, v9, v10, v11, v12, fun _ => rfl⟩
    intro v W5 hI
    obtain ⟨nn, dS, bx, v0, v1, v2, v3, v4, v5, v6, v7, v8, v9, v10, v11, v12, v15⟩ := hI
    have e0 := v0 rfl
    have e1 := v1 rfl
    have e2 := v2 rfl
    have e3 := v3 rfl
    have e4 := v4 rfl
    have e5 := v5 rfl
    have e6 := v6 rfl
    have e7 := v7 rfl
    have e8 := v8 rfl
    have e9 := v9 rfl
    have e10 := v10 rfl
    have e11 := v11 rfl
    have e12 := v12 rfl
    have e15 := v15 rfl
    clear v0 v1 v2 v3 v4 v5 v6 v7 v8 v9 v10 v11 v12 v15
    obtain ⟨vb, e13, hvb, -, hbx⟩ := bx rfl
    obtain ⟨w4, hx4, hb4, hW5⟩ := hbx rfl
    clear nn dS bx hbx
    simp only [putL, List.foldl, List.setIfInBounds_toArray, List.set_cons_zero, List.set_cons_succ, e0, e1, e2, e3, e4, e5, e6, e7, e8, e9, e10, e11, e12, e15, e13]
    clear e0 e1 e2 e3 e4 e5 e6 e7 e8 e9 e10 e11 e12 e15
    clear e13
    have hV5 : W5.heap[vb]? = some (.cells #[.int .i64 ak, .int .i64 av] 182 (0, 0)) := by
      rw [hW5]
      exact heap_setCell_same _ vb 1 #[.int .i64 ak, .int .i64 0] 182 _ (heap_setCell_same _ vb 0 #[.int .i64 0, .int .i64 0] 182 _ hb4)
    have hx5 : X w3 W5 := by rw [hW5]; exact X.setCell (X.setCell hx4 hvb _) hvb _
    clear hW5 hb4 hx4
    have hvbB := Nat.le_trans hB3 hvb
    have hvbW : W.heap.size ≤ vb := Nat.le_trans hK03.size hvb
    have hvbS : WS ≠ vb := by omega
    have hK05 := hK03.trans (Kp.of_x hx5 hB3)
    have hX5 := hX3.trans hx5
    have hS5 := hS3.x hx5
    have hSt5 := at_x2' hSt3 hx5
    cases ab
    · obtain ⟨l5s, c5s, -⟩ := Bx.out ⟨_, hSt5⟩
      have s53 := c5s 3
      clear c5s
      go_wp2_with fail
      refine (ChildOf_c nm s.name W5 (by omega) hOk.2 (hG.mono hX5)).mono ?_
      rintro _ w6 ⟨rfl, hx6⟩
      obtain ⟨child, hch⟩ : ∃ child, childOf nm s.name = child := ⟨_, rfl⟩
      rw [hch]
      have hcn2 : child = [] ∨ nameB child = true := by rw [← hch]; exact childOf_name
      clear hch s53 l5s
      have hx36 := hx5.trans hx6
      have hK06 := hK05.trans (Kp.of_x hx6 hX5.size)
      have hX6 := hK06.X hX
      have hS6 := hS5.x hx6
      have hSt6 := at_x2' hSt5 hx6
      have hV6 := at_x2' hV5 hx6
      have hM6 := hMj.x hx36
      obtain ⟨l6y, -, -, y61, -, -, -, -⟩ := mo_out hM6.box
      have m46 := (hx36.cell (p := ⟨mb, 4, none⟩) lm3).trans m43
      have lm6 := Nat.lt_of_lt_of_le lm3 hx36.size
      have c06 := (hx36.cell (p := ⟨g3, j3, none⟩) hgl3).trans c03
      have hgl6 := Nat.lt_of_lt_of_le hgl3 hx36.size
      clear m43 lm3 c03 hgl3 s33 ls3
      by_cases hk1 : y3.mo.kind = 1
      · rw [hk1] at y61
        go_wp2_with fail
        go_ret
        exact ⟨left3, q3, ms3, 2, rfl, hS6, hK06, hE3, hl3, by omega⟩
      have hk1' : (y3.mo.kind == 1) = false := by simpa using hk1
      rcases hcn2 with rfl | hcn
      · go_wp2_with fail
        go_ret
        exact ⟨left3, q3, ms3, 2, rfl, hS6, hK06, hE3, hl3, by omega⟩
      have hce : (child == []) = false := by
        cases child with
        | nil => rw [nameB_nil] at hcn; cases hcn
        | cons a b => rfl
      go_wp2_with fail
      refine (cached_c w0.heap.size mb _ _ left3 q3 ms3 child w6 hS6 (by omega)).mono ?_
      rintro _ wa ⟨rfl, hxa⟩
      have hK0a := hK06.trans (Kp.of_x hxa hX6.size)
      have hXa := hK0a.X hX
      have hSa := hS6.x hxa
      have hSta := at_x2' hSt6 hxa
      have hVa := at_x2' hV6 hxa
      clear m46 lm6 c06 hgl6 l6y y61
      rcases midx_cases ms3 child with hj | ⟨j, hj, hjl7⟩
      · rw [hj]
        go_wp2_with fail
        refine (look_c w0.heap.size mb left3 q3 fa n fc pa pn pc ms3 l path Bt Bp child wa hSa (by omega) (hF.mono (hXa.fr Bt)) (hI.mono (hXa.fr Bp)) ht (hG.mono hXa) hcn).mono ?_
        rintro _ w7 ⟨kd8, fi8, ra8, rc8, r8, rfl, hx7, -, -, -⟩
        have hK07 := hK0a.trans (Kp.of_x hx7 hXa.size)
        have hS7 := hSa.x hx7
        have hSt7 := at_x2' hSta hx7
        have hV7 := at_x2' hVa hx7
        by_cases hk8 : kd8 = 0
        · subst hk8
          go_wp2_with fail
          go_ret
          exact ⟨left3, q3, ms3, 2, rfl, hS7, hK07, hE3, hl3, by omega⟩
        · have hk8' : (kd8 == 0) = false := by simpa using hk8
          have hnc12 := nameB_len hcn
          have hpc3 := parts_3 hcn
          have hX7 := hK07.X hX
          go_wp2_with fail
          refine (hLoad w7 left3 q3 ms3 child hX7 hS7 (by omega) hcn (by omega)).mono ?_
          rintro _ w9 ⟨left9, q9, ms9, i9, en9, rfl, hi9, hS9, hK9, hE9, hl9, hq9⟩
          have hK09 := hK07.trans hK9
          have hX9 := hK09.X hX
          have hSt9 := hK9.2 _ _ _ (by unfold KT; decide) hSt7
          have hV9 := hK9.2 _ _ _ (by unfold KT; decide) hV7
          by_cases hen9 : en9 = 0
          · subst hen9
            obtain ⟨j9, rfl, hjl9⟩ := hi9 rfl
            obtain ⟨lv9, cv9, fv9⟩ := Bx.out ⟨_, hV9⟩
            have v90 := cv9 0
            have v91 := cv9 1
            have f90 := fv9 0
            have f91 := fv9 1
            clear cv9 fv9
            go_upto_region 28 with fail
            refine wp_name (fun Wz hWz => ?_)
            have hVz : Wz.heap[vb]? = some (.cells #[.int .i64 1, .int .i64 (j9 : Int)] 182 (0, 0)) := by
              rw [hWz]
              exact heap_setCell_same _ vb 1 #[.int .i64 1, .int .i64 av] 182 _ (heap_setCell_same _ vb 0 #[.int .i64 ak, .int .i64 av] 182 _ hV9)
            have hKz : Kp w0.heap.size W Wz := by
              rw [hWz]
              exact (hK09.setNew hvbW hvbB 0 _).setNew hvbW hvbB 1 _
            have hSz : MaW Wz w0.heap.size mb (.slice fa n fc) (.slice pa pn pc) left9 q9 ms9 := by
              rw [hWz]
              exact (hS9.farV hV9 0 _).farV (heap_setCell_same _ vb 0 #[.int .i64 ak, .int .i64 av] 182 _ hV9) 1 _
            have hStz : Wz.heap[WS]? = some (.cells #[.int .i64 s.kind, .string ⟨(s.mod).toArray⟩, .int .i64 s.level, .string ⟨(s.name).toArray⟩, .int .i64 s.val] 148 (0, 0)) := by
              rw [hWz]
              exact (heap_setCell_other _ ⟨vb, 1, none⟩ WS _ hvbS).trans ((heap_setCell_other _ ⟨vb, 0, none⟩ WS _ hvbS).trans hSt9)
            clear hWz v90 v91 f90 f91 lv9
            have hEz := hE3.trans hE9
            obtain ⟨leftz, hle⟩ : ∃ z, z = left9 := ⟨_, rfl⟩
            obtain ⟨qz, hqe⟩ : ∃ z, z = q9 := ⟨_, rfl⟩
            obtain ⟨msz, hme⟩ : ∃ z, z = ms9 := ⟨_, rfl⟩
            rw [← hle, ← hqe, ← hme] at hSz
            rw [← hme] at hEz
            have hlz : leftz ≤ left := by omega
            have hqz : qz + 20 * leftz ≤ q + 20 * left + 18 := by omega
            clear hle hqe hme
            have hkz := Nat.lt_of_lt_of_le hk hEz.1
            have hMz := hSz.mo hkz
            have hXz := hKz.X hX
            have hxz : (nth msz k).b = (nth ms k).b := hEz.2 k hk
            obtain ⟨lvz, cvz, -⟩ := Bx.out ⟨_, hVz⟩
            have vz0 := cvz 0
            have vz1 := cvz 1
            obtain ⟨lsz, csz, -⟩ := Bx.out ⟨_, hStz⟩
            have sz3 := csz 3
            clear cvz csz
            go_wp2_with fail
            rw [← hxz]
            refine (give_c (nth msz k) w0.heap.size s.name _ _ Wz hMz hpart hXz.size).mono ?_
            rintro _ wf ⟨rfl, hgv⟩
            obtain ⟨msf, hSf, hKf, hEf⟩ := hSz.give hkz hXz.size hgv
            go_wp2
            go_ret
            exact ⟨leftz, qz, msf, 0, rfl, hSf, hKz.trans hKf, hEz.trans hEf, hlz, by omega⟩
          · have hen9' : (en9 == 0) = false := by simpa using hen9
            go_wp2
            go_ret
            exact ⟨left9, q9, ms9, en9, rfl, hS9, hK09, hE3.trans hE9, by omega, by omega⟩
      · rw [hj]
        have hj0 : ((j : Int) < 0) = False := eq_false (by omega)
        obtain ⟨w7, hw7⟩ : ∃ z, z = wa := ⟨_, rfl⟩
        have hK07 := hK0a
        have hS7 := hSa
        have hSt7 := hSta
        have hV7 := hVa
        rw [← hw7] at hK07 hS7 hSt7 hV7 ⊢
        clear hw7
        have hnc12 := nameB_len hcn
        have hpc3 := parts_3 hcn
        have hX7 := hK07.X hX
        go_wp2_with fail
        refine (hLoad w7 left3 q3 ms3 child hX7 hS7 (by omega) hcn (by omega)).mono ?_
        rintro _ w9 ⟨left9, q9, ms9, i9, en9, rfl, hi9, hS9, hK9, hE9, hl9, hq9⟩
        have hK09 := hK07.trans hK9
        have hX9 := hK09.X hX
        have hSt9 := hK9.2 _ _ _ (by unfold KT; decide) hSt7
        have hV9 := hK9.2 _ _ _ (by unfold KT; decide) hV7
        by_cases hen9 : en9 = 0
        · subst hen9
          obtain ⟨j9, rfl, hjl9⟩ := hi9 rfl
          obtain ⟨lv9, cv9, fv9⟩ := Bx.out ⟨_, hV9⟩
          have v90 := cv9 0
          have v91 := cv9 1
          have f90 := fv9 0
          have f91 := fv9 1
          clear cv9 fv9
          go_upto_region 28 with fail
          refine wp_name (fun Wz hWz => ?_)
          have hVz : Wz.heap[vb]? = some (.cells #[.int .i64 1, .int .i64 (j9 : Int)] 182 (0, 0)) := by
            rw [hWz]
            exact heap_setCell_same _ vb 1 #[.int .i64 1, .int .i64 av] 182 _ (heap_setCell_same _ vb 0 #[.int .i64 ak, .int .i64 av] 182 _ hV9)
          have hKz : Kp w0.heap.size W Wz := by
            rw [hWz]
            exact (hK09.setNew hvbW hvbB 0 _).setNew hvbW hvbB 1 _
          have hSz : MaW Wz w0.heap.size mb (.slice fa n fc) (.slice pa pn pc) left9 q9 ms9 := by
            rw [hWz]
            exact (hS9.farV hV9 0 _).farV (heap_setCell_same _ vb 0 #[.int .i64 ak, .int .i64 av] 182 _ hV9) 1 _
          have hStz : Wz.heap[WS]? = some (.cells #[.int .i64 s.kind, .string ⟨(s.mod).toArray⟩, .int .i64 s.level, .string ⟨(s.name).toArray⟩, .int .i64 s.val] 148 (0, 0)) := by
            rw [hWz]
            exact (heap_setCell_other _ ⟨vb, 1, none⟩ WS _ hvbS).trans ((heap_setCell_other _ ⟨vb, 0, none⟩ WS _ hvbS).trans hSt9)
          clear hWz v90 v91 f90 f91 lv9
          have hEz := hE3.trans hE9
          obtain ⟨leftz, hle⟩ : ∃ z, z = left9 := ⟨_, rfl⟩
          obtain ⟨qz, hqe⟩ : ∃ z, z = q9 := ⟨_, rfl⟩
          obtain ⟨msz, hme⟩ : ∃ z, z = ms9 := ⟨_, rfl⟩
          rw [← hle, ← hqe, ← hme] at hSz
          rw [← hme] at hEz
          have hlz : leftz ≤ left := by omega
          have hqz : qz + 20 * leftz ≤ q + 20 * left + 18 := by omega
          clear hle hqe hme
          have hkz := Nat.lt_of_lt_of_le hk hEz.1
          have hMz := hSz.mo hkz
          have hXz := hKz.X hX
          have hxz : (nth msz k).b = (nth ms k).b := hEz.2 k hk
          obtain ⟨lvz, cvz, -⟩ := Bx.out ⟨_, hVz⟩
          have vz0 := cvz 0
          have vz1 := cvz 1
          obtain ⟨lsz, csz, -⟩ := Bx.out ⟨_, hStz⟩
          have sz3 := csz 3
          clear cvz csz
          go_wp2_with fail
          rw [← hxz]
          refine (give_c (nth msz k) w0.heap.size s.name _ _ Wz hMz hpart hXz.size).mono ?_
          rintro _ wf ⟨rfl, hgv⟩
          obtain ⟨msf, hSf, hKf, hEf⟩ := hSz.give hkz hXz.size hgv
          go_wp2
          go_ret
          exact ⟨leftz, qz, msf, 0, rfl, hSf, hKz.trans hKf, hEz.trans hEf, hlz, by omega⟩
        · have hen9' : (en9 == 0) = false := by simpa using hen9
          go_wp2
          go_ret
          exact ⟨left9, q9, ms9, en9, rfl, hS9, hK09, hE3.trans hE9, by omega, by omega⟩
    · obtain ⟨Wz, hWz⟩ : ∃ z, z = W5 := ⟨_, rfl⟩
      obtain ⟨leftz, hle⟩ : ∃ z, z = left3 := ⟨_, rfl⟩
      obtain ⟨qz, hqe⟩ : ∃ z, z = q3 := ⟨_, rfl⟩
      obtain ⟨msz, hme⟩ : ∃ z, z = ms3 := ⟨_, rfl⟩
      have hSz : MaW Wz w0.heap.size mb (.slice fa n fc) (.slice pa pn pc) leftz qz msz := by rw [hWz, hle, hqe, hme]; exact hS5
      have hVz := hV5
      have hStz := hSt5
      have hKz := hK05
      have hEz := hE3
      rw [← hWz] at hVz hStz hKz ⊢
      rw [← hme] at hEz
      have hlz : leftz ≤ left := by omega
      have hqz : qz + 20 * leftz ≤ q + 20 * left + 18 := by omega
      clear hWz hle hqe hme
      have hkz := Nat.lt_of_lt_of_le hk hEz.1
      have hMz := hSz.mo hkz
      have hXz := hKz.X hX
      have hxz : (nth msz k).b = (nth ms k).b := hEz.2 k hk
      obtain ⟨lvz, cvz, -⟩ := Bx.out ⟨_, hVz⟩
      have vz0 := cvz 0
      have vz1 := cvz 1
      obtain ⟨lsz, csz, -⟩ := Bx.out ⟨_, hStz⟩
      have sz3 := csz 3
      clear cvz csz
      go_wp2_with fail
      rw [← hxz]
      refine (give_c (nth msz k) w0.heap.size s.name _ _ Wz hMz hpart hXz.size).mono ?_
      rintro _ wf ⟨rfl, hgv⟩
      obtain ⟨msf, hSf, hKf, hEf⟩ := hSz.give hkz hXz.size hgv
      go_wp2
      go_ret
      exact ⟨leftz, qz, msf, 0, rfl, hSf, hKz.trans hKf, hEz.trans hEf, hlz, by omega⟩
  · have hen' : (en3 == 0) = false := by simpa using hen
    go_wp2
    go_ret
    exact ⟨left3, q3, ms3, en3, rfl, hS3, hK03, hE3, hl3, by omega⟩

end Go.Proofs.YtgjfjjhmgbemcaaGreatDoor

namespace Go.Proofs.YtgjfjjhmgbemcaaGreatDoor
open Go.RowKit

theorem do_s (w0 : World) (mb : Nat) (fa : Option Addr) (n fc : Nat) (pa : Option Addr) (pn pc : Nat) (l : List Fi) (path : List Int) (hE : EnvM w0 fa n fc pa pn l path) (L : Nat) (hLoad : LoadOk w0 mb fa n fc pa pn pc L) : DoOk w0 mb fa n fc pa pn pc L := by
  intro W left q ms k s hX hS hL hk hst hOk hP
  rcases stB_kinds hst with h | h | h | h | h | h
  · exact do_import w0 mb fa n fc pa pn pc l path hE L hLoad W left q ms k s hX hS hL hk hst hOk hP h
  · exact do_from w0 mb fa n fc pa pn pc l path hE L hLoad W left q ms k s hX hS hL hk hst hOk hP h
  · exact do_star w0 mb fa n fc pa pn pc l path hE L hLoad W left q ms k s hX hS hL hk hst hOk hP h
  · exact do_set w0 mb fa n fc pa pn pc l path hE L W left q ms k s hX hS hL hk hst hOk hP h
  · exact do_print w0 mb fa n fc pa pn pc l path hE L W left q ms k s hX hS hL hk hst hOk hP h
  · exact do_fail w0 mb fa n fc pa pn pc l path hE L W left q ms k s hX hS hL hk hst hOk hP h
theorem all_s (w0 : World) (mb : Nat) (fa : Option Addr) (n fc : Nat) (pa : Option Addr) (pn pc : Nat) (l : List Fi) (path : List Int) (hE : EnvM w0 fa n fc pa pn l path) (L : Nat) : LoadOk w0 mb fa n fc pa pn pc L ∧ DoOk w0 mb fa n fc pa pn pc L := by
  induction L using Nat.strongRecOn with
  | ind L ih =>
    have hB := body_s w0 mb fa n fc pa pn pc l path hE L (fun L' h => (ih L' h).2)
    have hL := load_s w0 mb fa n fc pa pn pc l path hE L hB
    exact ⟨hL, do_s w0 mb fa n fc pa pn pc l path hE L hL⟩
set_option maxRecDepth 100000 in
set_option maxHeartbeats 4000000 in
theorem mach_ok : MachOk := by
  intro w pb pa pn pc path B hBx hI hpc hp hG W d fa fc da dc nm hX hD hok hOkL _ hn
  obtain ⟨a', c', da', dc', E1, e, -, -, hFE, -⟩ := hD
  injection e with e
  have e1 : (Value.slice fa d.l.length fc) = .slice a' d.l.length c' := by
    have := congrArg (fun x => x[0]?) e
    simpa using this
  injection e1 with e1 _ e2
  subst e1 e2
  have hF := hFE.o.at hOkL
  have ht := diskB_tree hok
  have hnc : d.l.length ≤ fc := by
    obtain ⟨_, _, _, ho, _⟩ := hFE.o
    exact own_cap ho
  obtain ⟨lp, cp, -⟩ := (hBx.x hX).out
  have p0 := cp 0
  clear cp
  obtain ⟨l, hl⟩ : ∃ l, d.l = l := ⟨_, rfl⟩
  obtain ⟨n, hn2⟩ : ∃ n, d.l.length = n := ⟨_, rfl⟩
  obtain ⟨dn, hdn⟩ : ∃ dn, d.dl.length = dn := ⟨_, rfl⟩
  rw [hn2] at hF hnc ⊢
  rw [hdn]
  rw [hl] at hF ht
  have hn12 := nameB_len hn
  have hp3 := parts_3 hn
  clear e hn2 hdn hFE hok hOkL
  go_enter Tryz.func87, Tryz.ntmps87
  go_upto_region 1 with fail
  refine wp_name (fun W0 hW0 => ?_)
  have hD0 : Bx W0 W.heap.size #[.slice fa n fc, .int .i64 d.kk, .slice da dn dc] := by rw [hW0]; exact Bx.new _ _ _
  have hX0 : X W W0 := by rw [hW0]; (repeat (first | with_reducible exact X.refl _ | with_reducible assumption | with_reducible refine X.setCell ?_ (by first | (simp; done) | (simp; omega)) _ | with_reducible refine X.ext ?_ _ | with_reducible refine X.alloc ?_ _ | with_reducible refine X.drew ?_))
  clear hW0
  obtain ⟨ld, cd, -⟩ := hD0.out
  have d0 := cd 0
  clear cd
  have p00 := (hX0.cell (p := ⟨pb, 0, none⟩) lp).trans p0
  have lp0 := Nat.lt_of_lt_of_le lp hX0.size
  have hXw0 := hX.trans hX0
  have hE : EnvM W0 fa n fc pa pn l path := ⟨⟨_, hF.mono (hX0.fr _)⟩, hnc, ⟨_, hI.mono (hXw0.fr B)⟩, ht, hG.mono hXw0⟩
  go_wp2_with fail
  refine (newMachine_c fa n fc pa pn pc 120 W0).mono ?_
  rintro _ w1 ⟨mb, rfl, hS1, hx1⟩
  go_wp2_with fail
  refine ((all_s W0 mb fa n fc pa pn pc l path hE 120).1 w1 120 0 [] nm hx1 hS1 (Nat.le_refl _) hn (by omega)).mono ?_
  rintro _ w2 ⟨left2, q2, ms2, i2, en2, rfl, -, hS2, hK2, -, -, hq2⟩
  have hX2 := hK2.X hx1
  obtain ⟨mv2, ov2, lv2, qv2, hMX2⟩ := hS2
  obtain ⟨out, oa, oc, rfl, hoq, hrow⟩ := hMX2.orow
  obtain ⟨lm2, -, -, -, -, -, -, m52, -, -, -⟩ := ma_out hMX2.box
  have hsl := Sl.of_own hrow
  have hol : out.length ≤ 1000000 := by omega
  obtain ⟨no, hno⟩ : ∃ no, out.length = no := ⟨_, rfl⟩
  have hlen : (ints out).length = out.length * 1 := flat_length 1 _ (fun _ => rfl) out
  have hone : ∀ u ∈ ints out, u.oneCell' = true := fun u hu => by
    unfold ints at hu
    obtain ⟨z, _, hz⟩ := List.mem_flatMap.1 hu
    rw [List.mem_singleton.1 hz]
    rfl
  rw [hno] at hsl m52 hol hlen
  clear hno hrow hMX2 hoq
  go_wp2_with (at_builtin; refine wpList_append_sl int_T rfl _ _ rfl (own_lit (B := w2.heap.size) (n := 1) (size := 1) rfl (Nat.le_refl _) rfl (by omega)) rfl rfl (hsl.mono (X.fr (by (repeat (first | with_reducible exact X.refl _ | with_reducible assumption | with_reducible refine X.setCell ?_ (by first | (simp; done) | (simp; omega)) _ | with_reducible refine X.ext ?_ _ | with_reducible refine X.alloc ?_ _ | with_reducible refine X.drew ?_))) _)) hlen hone (by omega) (by unfold maxLen; omega) (by simp) ?_; intro a5 c5 w5 hO5 hg5; have hx5 : X w2 w5 := X.of_litR hg5 (by simp [Value.ownBlock]))
  go_ret
  exact ⟨⟨a5, _, c5, rfl⟩, (hX0.trans hX2).trans hx5⟩

end Go.Proofs.YtgjfjjhmgbemcaaGreatDoor
