/- WrongFiles, both sides: the walks. No condition but lengths. -/
import Derived.Test.YtjlooplpjliaiaaDoorLoadI
import Derived.Test.YtjlooplpjliaiaaDoorSameB
namespace Go.Proofs.YtjlooplpjliaiaaDoor
open Go.RowKit

def wrongK (l : List Co) (f : Fi) : Bool := !decide (bodyLd l f = f.body)
def wrongN (l : List Co) (t : List Fi) (n : Nat) : List Int := ((List.range n).filter (fun i => wrongK l (nth t i))).map fun i : Nat => (i : Int)
def wrongL (l : List Co) (t : List Fi) : List Int := if storeB l && treeB t then wrongN l t t.length else []
theorem wrongN_next {l : List Co} {t : List Fi} {k : Nat} : wrongN l t (k + 1) = if wrongK l (nth t k) then wrongN l t k ++ [(k : Int)] else wrongN l t k := by
  rw [wrongN, List.range_succ, List.filter_append, List.map_append]
  cases h : wrongK l (nth t k) <;> simp [h, wrongN]
theorem wrongN_len {l : List Co} {t : List Fi} {n : Nat} : (wrongN l t n).length ≤ n := by
  rw [wrongN, List.length_map]
  exact Nat.le_trans (List.length_filter_le _ _) (by simp)
theorem wrongL_len {l : List Co} {t : List Fi} : (wrongL l t).length ≤ t.length := by
  unfold wrongL
  split
  · exact wrongN_len
  · simp
theorem loadV_bodyW {l : List Co} {f : Fi} {mode : Int} (h : OkC l) (h2 : f.body.length ≤ 2097152) (h3 : ∀ s ∈ f.body, Oks s) : (loadV l f mode).1.length ≤ 2097152 ∧ ∀ s ∈ (loadV l f mode).1, Oks s := by
  unfold loadV
  split
  · show (bodyLd l f).length ≤ _ ∧ _
    rcases cix_cases l f with hc | ⟨k, hk, hc⟩
    · rw [(load_none hc).2.1]; exact ⟨h2, h3⟩
    · rw [(load_some hc).2.1]
      split
      · exact (h.2 _ (nth_mem hk)).2
      · exact ⟨h2, h3⟩
  · exact ⟨by simp, fun s hs => by cases hs⟩
theorem int_Tw : AppT Tryd.prog 57 3 1 8 := AppT.of (z := .int .i64 0) (by kernel_rfl) (by kernel_rfl) rfl (by omega)
theorem wrong_yes {l : List Co} {t : List Fi} {k : Nat} (h : decide (bodyLd l (nth t k) = (nth t k).body) = false) : wrongN l t (k + 1) = wrongN l t k ++ [(k : Int)] := by rw [wrongN_next, wrongK, h]; rfl
theorem wrong_no {l : List Co} {t : List Fi} {k : Nat} (h : decide (bodyLd l (nth t k) = (nth t k).body) = true) : wrongN l t (k + 1) = wrongN l t k := by rw [wrongN_next, wrongK, h]; rfl

set_option maxRecDepth 100000 in
set_option maxHeartbeats 4000000 in
theorem WrongFiles_i (l : List Co) (a : Option Addr) (n c B : Nat) (t : List Fi) (ta : Option Addr) (tn tc B2 : Nat) (w : World) (hD : CosAt w B a n l) (hF : FilesAt w B2 ta tn t) (htc : tn ≤ tc) (hG : Gm w) :
    Calls Tryd.prog 30 #[.slice a n c, .agg #[.slice ta tn tc]] w fun e w' => ∃ ra rc, e = .returned (.slice ra (wrongL l t).length rc) ∧ w'.ownsRow w.heap.size 3 1 (.slice ra (wrongL l t).length rc) (wrongL l t).length (ints (wrongL l t)) ∧ X w w' := by
  obtain ⟨hl, hn⟩ := hF.len
  have Hl := Lib.hid hl
  cases q1 : storeB l <;> cases q2 : treeB t
  case true.true =>
    rw [show wrongL l t = wrongN l t tn by rw [wrongL, q1, q2, hl]; rfl]
    clear hl
    go_enter Tryd.func30, Tryd.ntmps30
    go_wp2_with fail
    refine calls_name (fun W0 hW0 => ?_)
    obtain ⟨hT0, hE0, hX0⟩ := bx2 hW0
    have hrow0 : W0.ownsRow (w.heap.size + 1) 3 1 (.slice (some ⟨w.heap.size + 1, 0, none⟩) 0 0) 0 [] := by
      rw [hW0]
      exact own_lit (w := w.alloc (.cells #[.slice ta tn tc] 30)) (cs := #[]) (e := 3) (B := w.heap.size + 1) (g := w.heap.size + 1) (size := 1) (n := 0) (by simp) (by simp) rfl (by omega)
    have hs0 : w.heap.size + 1 < W0.heap.size := hE0.lt
    clear hW0 hE0
    refine (ValidStore_c l a n c B W0 (hD.mono (hX0.fr _)) (hG.mono hX0)).mono ?_
    rintro _ w1 ⟨rfl, hx1⟩
    rw [q1]
    obtain ⟨lt2, ct2, _⟩ := (hT0.x hx1).out
    have t0 := ct2 0
    clear ct2
    go_wp2_with fail
    refine (ValidTree_c t ta tn tc B2 w1 (hF.mono (X.fr (hX0.trans hx1) _)) htc (hG.mono (hX0.trans hx1))).mono ?_
    rintro _ w2 ⟨rfl, hx2⟩
    rw [q2]
    clear t0 lt2
    have hT2 := (hT0.x hx1).x hx2
    have hXw := (hX0.trans hx1).trans hx2
    have hrow2 := own_fr hrow0 ((hx1.trans hx2).fr _)
    obtain ⟨lt2, ct2, _⟩ := hT2.out
    have t0 := ct2 0
    clear ct2 hx1 hx2 hX0 hrow0 hT0
    go_wp2
    go_loopw [5, 24] (fun v i wr => ∃ (k : Nat) (ra : Option Addr) (rc : Nat), k ≤ tn ∧ i = .int .i64 k ∧ v = .slice ra (wrongN l t k).length rc ∧ wr.ownsRow (w.heap.size + 1) 3 1 (.slice ra (wrongN l t k).length rc) (wrongN l t k).length (ints (wrongN l t k)) ∧ X w wr ∧ w.heap.size + 1 ≤ wr.heap.size) (fun _ i _ => tn - (intOf i).toNat)
    case atStart => exact ⟨0, _, _, Nat.zero_le _, rfl, rfl, hrow2, hXw, lt2⟩
    case round =>
      obtain ⟨k, ra, rc, hk, rfl, rfl, hrow, hX, hsz⟩ := hrel
      clear hXw hrow2 t0 lt2
      have hln := @wrongN_len l t k
      by_cases hlt : k < tn
      · obtain ⟨b, off, ba, bn, bc, rfl, _, hb, hok, hbc, hSb, g0, g1, g2, g3, g4, g5⟩ := (hF.mono (hX.fr _)).at_ hlt
        have Hbn := Lib.hid hSb.1
        have hfb := treeB_file q2 (k := k) (by rw [← Hl.out]; exact hlt)
        have hV := loadV_good (l := l) (f := nth t k) (mode := 0) (by rw [loadOk, q1, hfb]; rfl)
        have hbd := loadV_bodyW (f := nth t k) (mode := 0) hD.okC (by have := hSb.1; have := hSb.2.1; omega) hSb.2.2.1
        rw [hV] at hbd
        dsimp only at hbd
        have Hy := Lib.hid (@wrong_yes l t k)
        have Hn := Lib.hid (@wrong_no l t k)
        generalize nth t k = f at *
        go_wp2_with fail
        refine calls_name (fun W3 hW3 => ?_)
        have hB3 : Bx W3 wr.heap.size #[.int .i64 f.root, .string ⟨(f.pkg).toArray⟩, .string ⟨(f.name).toArray⟩, .bool f.init, .int .i64 f.stamp, .slice ba bn bc] := by rw [hW3]; exact Bx.new _ _ _
        have hX3 : X wr W3 := by rw [hW3]; (repeat (first | with_reducible exact X.refl _ | with_reducible assumption | with_reducible refine X.setCell ?_ (by first | (simp; done) | (simp; omega)) _ | with_reducible refine X.ext ?_ _ | with_reducible refine X.alloc ?_ _ | with_reducible refine X.drew ?_))
        clear hW3
        refine (LoadBody_i l a n c B f 0 ba bn bc B2 W3 (hD.mono (X.fr (hX.trans hX3) _)) hok (hSb.mono (hX3.fr _)) (hG.mono (hX.trans hX3))).mono ?_
        rw [hV]
        rintro _ w4 ⟨b6, c6, r6, rc6, B1, E1, E2, rfl, hO6, _, _, _, _, _, _, hx4⟩
        dsimp only at hO6 ⊢
        have hS6 : StmtsAt w4 E2 b6 (bodyLd l f).length (bodyLd l f) := ⟨rfl, hbd.1, hbd.2, Sl.of_own hO6⟩
        clear hV hO6
        obtain ⟨t0, t1, t2, t3, t4, t5⟩ := keepT (hB3.x hx4)
        have hlT := (hB3.x hx4).lt
        generalize bodyLd l f = bd at *
        generalize storeLd l f 0 = st at *
        generalize hadB l f = had at *
        have hX4 : X wr w4 := hX3.trans hx4
        go_wp2_with fail
        refine (EqualS_c bd f.body b6 ba _ bn c6 bc E2 B2 w4 hS6 (hSb.mono (hX4.fr _))).mono ?_
        rintro _ w5 ⟨rfl, hx5⟩
        have hX5 : X wr w5 := hX4.trans hx5
        have hrow5 := own_fr hrow (hX5.fr _)
        have hsz5 : w.heap.size + 1 ≤ w5.heap.size := Nat.le_trans hsz hX5.size
        cases hd : decide (bd = f.body)
        · have He := Lib.hid (Hy.out hd)
          go_wp2_with (at_builtin; refine wpList_append_g int_Tw rfl _ _ rfl hrow5 rfl rfl rfl rfl (by simp [Value.oneCell']) (by omega) (by omega) hsz5 ?_; intro a' c' w' hrow' hg')
          have hXw' : X w w' := X.of_below (((X.alloc (hX.trans hX5) _).below).grown hg' (X.size (X.alloc (hX.trans hX5) _)) (fun g hg => by have := (hrow5.lt g hg).1; omega))
          go_roundw
          case rel => exact ⟨k + 1, a', c', by omega, by go_num, by rw [He.out, List.length_append, List.length_singleton], by rw [He.out, List.length_append, List.length_singleton]; simpa [flat_snoc] using hrow', hXw', Nat.le_trans hsz5 (by have := hg'.size; rw [World.size_alloc] at this; omega)⟩
          case measure => simp [intOf]; omega
        · have He := Lib.hid (Hn.out hd)
          go_wp2
          go_roundw
          case rel => exact ⟨k + 1, ra, rc, by omega, by go_num, by rw [He.out], by rw [He.out]; exact hrow5, hX.trans hX5, hsz5⟩
          case measure => simp [intOf]; omega
      · obtain rfl : k = tn := by omega
        go_wp2
        go_ret
        exact ⟨ra, rc, rfl, own_less hrow (by omega), hX⟩
  all_goals
    rw [show wrongL l t = [] by rw [wrongL, q1, q2]; rfl]
    clear hl
    go_enter Tryd.func30, Tryd.ntmps30
    go_wp2_with fail
    refine calls_name (fun W0 hW0 => ?_)
    obtain ⟨hT0, hE0, hX0⟩ := bx2 hW0
    have hrow0 : W0.ownsRow (w.heap.size + 1) 3 1 (.slice (some ⟨w.heap.size + 1, 0, none⟩) 0 0) 0 [] := by
      rw [hW0]
      exact own_lit (w := w.alloc (.cells #[.slice ta tn tc] 30)) (cs := #[]) (e := 3) (B := w.heap.size + 1) (g := w.heap.size + 1) (size := 1) (n := 0) (by simp) (by simp) rfl (by omega)
    clear hW0 hE0
    refine (ValidStore_c l a n c B W0 (hD.mono (hX0.fr _)) (hG.mono hX0)).mono ?_
    rintro _ w1 ⟨rfl, hx1⟩
    rw [q1]
    obtain ⟨lt2, ct2, _⟩ := (hT0.x hx1).out
    have t0 := ct2 0
    clear ct2
    have hXw := hX0.trans hx1
    have hrow1 := own_fr hrow0 (hx1.fr _)
    go_wp2_with (go_at_call 39; refine (ValidTree_c t ta tn tc B2 w1 (hF.mono (X.fr hXw _)) htc (hG.mono hXw)).mono ?_; rintro _ w2 ⟨rfl, hx2⟩; rw [q2]; replace hXw := hXw.trans hx2; replace hrow1 := own_fr hrow1 (hx2.fr _))
    go_ret
    exact ⟨_, _, rfl, own_less hrow1 (by omega), hXw⟩

set_option maxRecDepth 100000 in
set_option maxHeartbeats 4000000 in
theorem WrongFiles_s (l : List Co) (a : Option Addr) (n c B : Nat) (t : List Fi) (ta : Option Addr) (tn tc B2 : Nat) (w : World) (hD : CosAt w B a n l) (hF : FilesAt w B2 ta tn t) :
    Calls Tryd.prog 29 #[.slice a n c, .agg #[.slice ta tn tc]] w fun e w' => ∃ ra rc, e = .returned (.slice ra (wrongL l t).length rc) ∧ w'.ownsRow w.heap.size 3 1 (.slice ra (wrongL l t).length rc) (wrongL l t).length (ints (wrongL l t)) ∧ X w w' := by
  obtain ⟨hl, hn⟩ := hF.len
  have Hl := Lib.hid hl
  have Hnl := Lib.hid hD.len.1
  cases q1 : storeB l <;> cases q2 : treeB t
  case true.true =>
    rw [show wrongL l t = wrongN l t tn by rw [wrongL, q1, q2, hl]; rfl]
    clear hl
    go_enter Tryd.func29, Tryd.ntmps29
    go_wp2_with fail
    refine calls_name (fun W0 hW0 => ?_)
    have hT0 : Bx W0 w.heap.size #[.slice ta tn tc] := by rw [hW0]; exact Bx.new _ _ _
    have hX0 : X w W0 := by rw [hW0]; (repeat (first | with_reducible exact X.refl _ | with_reducible assumption | with_reducible refine X.setCell ?_ (by first | (simp; done) | (simp; omega)) _ | with_reducible refine X.ext ?_ _ | with_reducible refine X.alloc ?_ _ | with_reducible refine X.drew ?_))
    clear hW0
    refine (validStore_c l a n c B W0 (hD.mono (hX0.fr _))).mono ?_
    rintro _ w1 ⟨rfl, hx1⟩
    rw [q1]
    obtain ⟨lt2, ct2, _⟩ := (hT0.x hx1).out
    have t0 := ct2 0
    clear ct2
    go_wp2_with fail
    refine (validTree_c t ta tn tc B2 w1 (hF.mono (X.fr (hX0.trans hx1) _))).mono ?_
    rintro _ w2 ⟨rfl, hx2⟩
    rw [q2]
    clear t0 lt2
    have hT2 := (hT0.x hx1).x hx2
    have hXw := (hX0.trans hx1).trans hx2
    clear hx1 hx2 hX0 hT0
    go_wp2
    refine wp_name (fun W2 hW2 => ?_)
    have hrow2 : W2.ownsRow (w.heap.size + 1) 3 1 (.slice (some ⟨w2.heap.size, 0, none⟩) 0 0) 0 [] := by
      rw [hW2]
      exact own_lit (w := w2) (cs := #[]) (e := 3) (B := w.heap.size + 1) (g := w2.heap.size) (size := 1) (n := 0) rfl hT2.lt rfl (by omega)
    have hX2 : X w2 W2 := by rw [hW2]; (repeat (first | with_reducible exact X.refl _ | with_reducible assumption | with_reducible refine X.setCell ?_ (by first | (simp; done) | (simp; omega)) _ | with_reducible refine X.ext ?_ _ | with_reducible refine X.alloc ?_ _ | with_reducible refine X.drew ?_))
    clear hW2
    have hT := hT2.x hX2
    replace hXw := hXw.trans hX2
    clear hT2 hX2
    go_loopw [5, 6] (fun v i wr => ∃ (k : Nat) (ra : Option Addr) (rc : Nat), k ≤ tn ∧ i = .int .i64 k ∧ v = .slice ra (wrongN l t k).length rc ∧ wr.ownsRow (w.heap.size + 1) 3 1 (.slice ra (wrongN l t k).length rc) (wrongN l t k).length (ints (wrongN l t k)) ∧ X w wr ∧ Bx wr w.heap.size #[.slice ta tn tc]) (fun _ i _ => tn - (intOf i).toNat)
    case atStart => exact ⟨0, _, _, Nat.zero_le _, rfl, rfl, hrow2, hXw, hT⟩
    case round =>
      obtain ⟨k, ra, rc, hk, rfl, rfl, hrow, hX, hT⟩ := hrel
      clear hXw hrow2
      have hsz : w.heap.size + 1 ≤ wr.heap.size := hT.lt
      have hln := @wrongN_len l t k
      obtain ⟨ltT, cT, _⟩ := hT.out
      have z0 := cT 0
      clear cT
      by_cases hlt : k < tn
      · obtain ⟨b, off, ba, bn, bc, rfl, _, hb, hok, hbc, hSb, g0, g1, g2, g3, g4, g5⟩ := (hF.mono (hX.fr _)).at_ hlt
        have Hbn := Lib.hid hSb.1
        have hfb := treeB_file q2 (k := k) (by rw [← Hl.out]; exact hlt)
        have hDr := hD.mono (hX.fr _)
        have Hy := Lib.hid (@wrong_yes l t k)
        have Hn := Lib.hid (@wrong_no l t k)
        generalize nth t k = f at *
        go_wp2
        refine wp_name (fun W3 hW3 => ?_)
        have hB3 : Bx W3 wr.heap.size #[.int .i64 f.root, .string ⟨(f.pkg).toArray⟩, .string ⟨(f.name).toArray⟩, .bool f.init, .int .i64 f.stamp, .slice ba bn bc] := by rw [hW3]; exact Bx.new _ _ _
        have hX3 : X wr W3 := by rw [hW3]; (repeat (first | with_reducible exact X.refl _ | with_reducible assumption | with_reducible refine X.setCell ?_ (by first | (simp; done) | (simp; omega)) _ | with_reducible refine X.ext ?_ _ | with_reducible refine X.alloc ?_ _ | with_reducible refine X.drew ?_))
        clear hW3
        obtain ⟨t0, t1, t2, t3, t4, t5⟩ := keepT hB3
        have hlT := hB3.lt
        have hD3 := hDr.mono (hX3.fr _)
        have hS3 := hSb.mono (hX3.fr _)
        have hrow3 := own_fr hrow (hX3.fr _)
        refine wp_region_grow0 (by kernel_rfl) (by kernel_rfl) ?_
        repeat (go_big_quiet_step (((first | (go_at_call 62; refine grow_of (moduleName_c f _ _ hok)) | (go_at_call 65; refine grow_of (compiledAt_s l a n c _ f.root (moduleB f) f.init _ (hD3.mono (X.fr (by (repeat (first | exact X.refl _ | assumption | refine X.ext ?_ _ | refine X.alloc ?_ _ | refine X.drew ?_))) _))))))))
        refine wpQuiet_nil ?_
        rintro _ ⟨y, rfl⟩
        rcases cix_cases l f with hc | ⟨j, hjl, hc⟩
        · have hc2 : cidx l f.root (moduleB f) f.init n = -1 := by rw [Hnl.out]; exact hc
          have He := Lib.hid (Hn.out (by rw [(load_none hc).2.1]; exact decide_eq_true rfl))
          rw [hc2]
          clear hc hc2
          go_wp2
          refine wp_region_grow (by kernel_rfl) (by kernel_rfl) ?_
          repeat (go_big_quiet_step ((fail)))
          refine wpQuiet_nil ?_
          rintro _ ⟨y, rfl⟩
          go_wp2
          go_roundw
          case rel => exact ⟨k + 1, ra, rc, by omega, by go_num, by rw [He.out], by rw [He.out]; exact own_fr hrow3 (X.fr (by (repeat (first | exact X.refl _ | assumption | refine X.ext ?_ _ | refine X.alloc ?_ _ | refine X.drew ?_))) _), hX.trans (hX3.trans (by (repeat (first | exact X.refl _ | assumption | refine X.ext ?_ _ | refine X.alloc ?_ _ | refine X.drew ?_)))), (hT.x hX3).x (by (repeat (first | exact X.refl _ | assumption | refine X.ext ?_ _ | refine X.alloc ?_ _ | refine X.drew ?_)))⟩
          case measure => simp [intOf]; omega
        · have hc2 : cidx l f.root (moduleB f) f.init n = (j : Int) := by rw [Hnl.out]; exact hc
          have hjn : j < n := by rw [Hnl.out]; exact hjl
          obtain ⟨cb, coff, ka, kn, kc, rfl, _, hcb, _, hkc, hSk, u0, u1, u2, u3, u4, u5, u6, u7⟩ := hD3.at_ hjn
          have hji : (j : Int) < (n : Int) := by omega
          rw [hc2]
          cases hu : usableB (nth l j) f
          · have He := Lib.hid (Hn.out (by rw [(load_some hc).2.1, hu]; exact decide_eq_true rfl))
            have hus : ∀ w', X W3 w' → Calls Tryd.prog 66 #[.agg #[.int .i64 ((nth l j)).root, .string ⟨((nth l j)).mod.toArray⟩, .bool ((nth l j)).init, .int .i64 ((nth l j)).mode, .int .i64 ((nth l j)).stamp, .int .i64 ((nth l j)).size, .int .i64 ((nth l j)).hash, .slice ka kn kc], .agg #[.int .i64 (f).root, .string ⟨(f).pkg.toArray⟩, .string ⟨(f).name.toArray⟩, .bool (f).init, .int .i64 (f).stamp, .slice ba bn bc]] w' fun e w'' => e = .returned (.bool false) ∧ X w' w'' := fun w' hx => by
              have := usable_s (nth l j) (.slice ka kn kc) f ba bn bc _ w' (hS3.mono (hx.fr _)) (fileB_body hfb)
              rwa [hu] at this
            clear hc hc2
            go_wp2
            refine wp_region_grow (by kernel_rfl) (by kernel_rfl) ?_
            repeat (go_big_quiet_step (((go_at_call 66; refine grow_of (hus _ (by (repeat (first | exact X.refl _ | assumption | refine X.ext ?_ _ | refine X.alloc ?_ _ | refine X.drew ?_))))))))
            refine wpQuiet_nil ?_
            rintro _ ⟨y, rfl⟩
            go_wp2
            go_roundw
            case rel => exact ⟨k + 1, ra, rc, by omega, by go_num, by rw [He.out], by rw [He.out]; exact own_fr hrow3 (X.fr (by (repeat (first | exact X.refl _ | assumption | refine X.ext ?_ _ | refine X.alloc ?_ _ | refine X.drew ?_))) _), hX.trans (hX3.trans (by (repeat (first | exact X.refl _ | assumption | refine X.ext ?_ _ | refine X.alloc ?_ _ | refine X.drew ?_)))), (hT.x hX3).x (by (repeat (first | exact X.refl _ | assumption | refine X.ext ?_ _ | refine X.alloc ?_ _ | refine X.drew ?_)))⟩
            case measure => simp [intOf]; omega
          · have hbq : bodyLd l f = (nth l j).body := by rw [(load_some hc).2.1, hu, if_pos rfl]
            have hus : ∀ w', X W3 w' → Calls Tryd.prog 66 #[.agg #[.int .i64 ((nth l j)).root, .string ⟨((nth l j)).mod.toArray⟩, .bool ((nth l j)).init, .int .i64 ((nth l j)).mode, .int .i64 ((nth l j)).stamp, .int .i64 ((nth l j)).size, .int .i64 ((nth l j)).hash, .slice ka kn kc], .agg #[.int .i64 (f).root, .string ⟨(f).pkg.toArray⟩, .string ⟨(f).name.toArray⟩, .bool (f).init, .int .i64 (f).stamp, .slice ba bn bc]] w' fun e w'' => e = .returned (.bool true) ∧ X w' w'' := fun w' hx => by
              have := usable_s (nth l j) (.slice ka kn kc) f ba bn bc _ w' (hS3.mono (hx.fr _)) (fileB_body hfb)
              rwa [hu] at this
            clear hc hc2
            cases hd : decide ((nth l j).body = f.body)
            · have He := Lib.hid (Hy.out (by rw [hbq]; exact hd))
              have hsb : ∀ w', X W3 w' → Calls Tryd.prog 67 #[.slice ka kn kc, .slice ba bn bc] w' fun e w'' => e = .returned (.bool false) ∧ X w' w'' := fun w' hx => by
                have := sameBody_c (nth l j).body f.body ka ba kn bn kc bc _ _ w' (hSk.mono (hx.fr _)) (hS3.mono (hx.fr _))
                rwa [hd] at this
              clear hbq
              go_wp2
              refine wp_region_grow (by kernel_rfl) (by kernel_rfl) ?_
              repeat (go_big_quiet_step (((first | (go_at_call 66; refine grow_of (hus _ (by (repeat (first | exact X.refl _ | assumption | refine X.ext ?_ _ | refine X.alloc ?_ _ | refine X.drew ?_))))) | (go_at_call 67; refine grow_of (hsb _ (by (repeat (first | exact X.refl _ | assumption | refine X.ext ?_ _ | refine X.alloc ?_ _ | refine X.drew ?_)))))))))
              refine wpQuiet_nil ?_
              rintro _ ⟨y, rfl⟩
              have hX5 : X W3 (World.ext W3 y) := ⟨y, rfl⟩
              generalize World.ext W3 y = w5 at *
              have hrow5 := own_fr hrow3 (hX5.fr _)
              have hsz5 : w.heap.size + 1 ≤ w5.heap.size := Nat.le_trans hsz (Nat.le_trans hX3.size hX5.size)
              go_wp2_with (at_builtin; refine wpList_append_g int_Tw rfl _ _ rfl hrow5 rfl rfl rfl rfl (by simp [Value.oneCell']) (by omega) (by omega) hsz5 ?_; intro a' c' w' hrow' hg')
              have hXw5 := hX.trans (hX3.trans hX5)
              have hXw' : X w w' := X.of_below (((X.alloc hXw5 _).below).grown hg' (X.size (X.alloc hXw5 _)) (fun g hg => by have := (hrow5.lt g hg).1; omega))
              have hga : w5.grownBy w' (Value.slice ra (wrongN l t k).length rc).ownBlock := X.grown ((X.refl w5).alloc _) hg'
              have hT' := ((hT.x hX3).x hX5).grown hga (fun g hg => by have := (hrow5.lt g hg).1; omega)
              go_roundw
              case rel => exact ⟨k + 1, a', c', by omega, by go_num, by rw [He.out, List.length_append, List.length_singleton], by rw [He.out, List.length_append, List.length_singleton]; simpa [flat_snoc] using hrow', hXw', hT'⟩
              case measure => simp [intOf]; omega
            · have He := Lib.hid (Hn.out (by rw [hbq]; exact hd))
              have hsb : ∀ w', X W3 w' → Calls Tryd.prog 67 #[.slice ka kn kc, .slice ba bn bc] w' fun e w'' => e = .returned (.bool true) ∧ X w' w'' := fun w' hx => by
                have := sameBody_c (nth l j).body f.body ka ba kn bn kc bc _ _ w' (hSk.mono (hx.fr _)) (hS3.mono (hx.fr _))
                rwa [hd] at this
              clear hbq
              go_wp2
              refine wp_region_grow (by kernel_rfl) (by kernel_rfl) ?_
              repeat (go_big_quiet_step (((first | (go_at_call 66; refine grow_of (hus _ (by (repeat (first | exact X.refl _ | assumption | refine X.ext ?_ _ | refine X.alloc ?_ _ | refine X.drew ?_))))) | (go_at_call 67; refine grow_of (hsb _ (by (repeat (first | exact X.refl _ | assumption | refine X.ext ?_ _ | refine X.alloc ?_ _ | refine X.drew ?_)))))))))
              refine wpQuiet_nil ?_
              rintro _ ⟨y, rfl⟩
              have hX5 : X W3 (World.ext W3 y) := ⟨y, rfl⟩
              go_wp2
              go_roundw
              case rel => exact ⟨k + 1, ra, rc, by omega, by go_num, by rw [He.out], by rw [He.out]; exact own_fr hrow3 (X.fr (by (repeat (first | exact X.refl _ | assumption | refine X.ext ?_ _ | refine X.alloc ?_ _ | refine X.drew ?_))) _), hX.trans (hX3.trans (by (repeat (first | exact X.refl _ | assumption | refine X.ext ?_ _ | refine X.alloc ?_ _ | refine X.drew ?_)))), (hT.x hX3).x (by (repeat (first | exact X.refl _ | assumption | refine X.ext ?_ _ | refine X.alloc ?_ _ | refine X.drew ?_)))⟩
              case measure => simp [intOf]; omega
      · obtain rfl : k = tn := by omega
        go_wp2
        go_ret
        exact ⟨ra, rc, rfl, own_less hrow (by omega), hX⟩
  all_goals
    rw [show wrongL l t = [] by rw [wrongL, q1, q2]; rfl]
    clear hl
    go_enter Tryd.func29, Tryd.ntmps29
    go_wp2_with fail
    refine calls_name (fun W0 hW0 => ?_)
    have hT0 : Bx W0 w.heap.size #[.slice ta tn tc] := by rw [hW0]; exact Bx.new _ _ _
    have hX0 : X w W0 := by rw [hW0]; (repeat (first | with_reducible exact X.refl _ | with_reducible assumption | with_reducible refine X.setCell ?_ (by first | (simp; done) | (simp; omega)) _ | with_reducible refine X.ext ?_ _ | with_reducible refine X.alloc ?_ _ | with_reducible refine X.drew ?_))
    clear hW0
    refine (validStore_c l a n c B W0 (hD.mono (hX0.fr _))).mono ?_
    rintro _ w1 ⟨rfl, hx1⟩
    rw [q1]
    obtain ⟨lt2, ct2, _⟩ := (hT0.x hx1).out
    have t0 := ct2 0
    clear ct2
    have hXw := hX0.trans hx1
    go_wp2_with (go_at_call 35; refine (validTree_c t ta tn tc B2 w1 (hF.mono (X.fr hXw _))).mono ?_; rintro _ w2 ⟨rfl, hx2⟩; rw [q2]; replace hXw := hXw.trans hx2)
    go_ret
    exact ⟨none, 0, rfl, ⟨rfl, .inl ⟨rfl, rfl⟩⟩, hXw⟩

end Go.Proofs.YtjlooplpjliaiaaDoor
