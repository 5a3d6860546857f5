/- The reference's hash of any body: some number; what is compiled of any file. No condition but lengths. -/
import Derived.Test.YtebnjkjllinabaaDoorGe
namespace Go.Proofs.YtebnjkjllinabaaDoor
open Go.RowKit

def mixW (n k : Int) : Int := (wrap64 (wrap64 (wrap64 (n * 131) + k) + 1)).tmod 1000003
def textW (n : Int) (s : List UInt8) : Int := mixW (s.foldl (fun n b => mixW n (b.toNat : Int)) n) 0
theorem mixed_w (n k : Int) (w : World) : Calls Tryd.prog 87 #[.int .i64 n, .int .i64 k] w fun e w' => e = .returned (.int .i64 (mixW n k)) ∧ w = w' := by
  go_enter Tryd.func87, Tryd.ntmps87
  go_wp2
  go_ret
  exact ⟨rfl, rfl⟩
set_option maxRecDepth 100000 in
set_option maxHeartbeats 1000000 in
theorem mixedText_w (n : Int) (s : List UInt8) (w : World) (hs : s.length ≤ 4194304) :
    Calls Tryd.prog 88 #[.int .i64 n, .string ⟨(s).toArray⟩] w fun e w' => e = .returned (.int .i64 (textW n s)) ∧ w = w' := by
  have Hn := Lib.hid (show ∀ k, k < s.length → (s.take (k + 1)).foldl (fun n b => mixW n (b.toNat : Int)) n = mixW ((s.take k).foldl (fun n b => mixW n (b.toNat : Int)) n) ((nth s k).toNat : Int) from fun k hk => by
    rw [take_succ_nth hk, List.foldl_append]; rfl)
  go_enter Tryd.func88, Tryd.ntmps88
  go_wp2
  go_loopw [0, 5] (fun v i wr => ∃ (k : Nat) (m : Int), k ≤ s.length ∧ i = .int .i64 k ∧ v = .int .i64 m ∧ m = (s.take k).foldl (fun n b => mixW n (b.toNat : Int)) n ∧ wr = w) (fun _ i _ => s.length - (intOf i).toNat)
  case atStart => exact ⟨0, n, by omega, rfl, rfl, rfl, rfl⟩
  case round =>
    obtain ⟨k, m, hk, rfl, rfl, hm, rfl⟩ := hrel
    have Hm := Lib.hid hm
    clear hm
    by_cases hlt : k < s.length
    · have hb : (nth s k).toNat < 256 := (nth s k).toNat_lt
      go_wp2_with (go_at_call 87; refine (mixed_w m ((nth s k).toNat : Int) _).mono ?_; rintro _ _ ⟨rfl, rfl⟩)
      go_roundw
      case rel => exact ⟨k + 1, mixW m ((nth s k).toNat : Int), by omega, by go_num, rfl, by rw [Hn.out k hlt, Hm.out], trivial⟩
      case measure => simp [intOf]; omega
    · obtain rfl : k = s.length := by omega
      go_wp2_with (go_at_call 87; refine (mixed_w m 0 _).mono ?_; rintro _ _ ⟨rfl, rfl⟩)
      go_ret
      exact ⟨ret_intH (by rw [textW, Hm.out, List.take_length]), rfl⟩
set_option maxRecDepth 100000 in
set_option maxHeartbeats 1000000 in
theorem hashOf_any (l : List St) (a : Option Addr) (n c B : Nat) (w : World) (hS : StmtsAt w B a n l) :
    Calls Tryd.prog 69 #[.slice a n c] w fun e w' => ∃ h : Int, e = .returned (.int .i64 h) ∧ X w w' := by
  have hn := hS.2.1
  go_enter Tryd.func69, Tryd.ntmps69
  go_wp2
  go_loopw [3, 4] (fun v i wr => ∃ (k : Nat) (m : Int), k ≤ n ∧ i = .int .i64 k ∧ v = .int .i64 m ∧ X w wr) (fun _ i _ => n - (intOf i).toNat)
  case atStart => exact ⟨0, 1, by omega, rfl, rfl, X.refl _⟩
  case round =>
    obtain ⟨k, m, hk, rfl, rfl, hX⟩ := hrel
    by_cases hlt : k < n
    · obtain ⟨b, off, rfl, _, hb, hok, g0, g1, g2, g3, g4⟩ := (hS.mono (hX.fr _)).at_ hlt
      obtain ⟨k1, k3⟩ : (nth l k).mod.length ≤ 1048576 ∧ (nth l k).name.length ≤ 1048576 := hok
      go_wp2
      refine wp_region_grow0 (by kernel_rfl) (by kernel_rfl) ?_
      repeat (go_big_quiet_step (((go_at_call 87; refine grow_same (mixed_w _ _ _)))))
      refine wpQuiet_nil ?_
      rintro _ ⟨y, rfl⟩
      go_wp2
      refine wp_region_grow (by kernel_rfl) (by kernel_rfl) ?_
      repeat (go_big_quiet_step (((go_at_call 88; refine grow_same (mixedText_w _ _ _ (by omega))))))
      refine wpQuiet_nil ?_
      rintro _ ⟨y, rfl⟩
      go_wp2
      go_roundw
      case rel => exact ⟨k + 1, _, by omega, by go_num, rfl, hX.trans (by (repeat (first | exact X.refl _ | assumption | refine X.ext ?_ _ | refine X.alloc ?_ _ | refine X.drew ?_)))⟩
      case measure => simp [intOf]; omega
    · obtain rfl : k = n := by omega
      go_wp2
      go_ret
      exact ⟨m, rfl, hX⟩

set_option maxRecDepth 100000 in
set_option maxHeartbeats 4000000 in
/-- What is compiled of a file, be it valid or not: its body is that of the file. -/
theorem compiled_any (f : Fi) (mode : Int) (ba : Option Addr) (bn bc B : Nat) (w : World) (hf : Okf f) (hS : StmtsAt w B ba bn f.body) :
    Calls Tryd.prog 39 #[.agg #[.int .i64 (f).root, .string ⟨(f).pkg.toArray⟩, .string ⟨(f).name.toArray⟩, .bool (f).init, .int .i64 (f).stamp, .slice ba bn bc], .int .i64 mode] w fun e w' => ∃ (h : Int) (ra : Option Addr) (rc : Nat), e = .returned (.agg #[.int .i64 (({ compB f mode with hash := h } : Co)).root, .string ⟨(({ compB f mode with hash := h } : Co)).mod.toArray⟩, .bool (({ compB f mode with hash := h } : Co)).init, .int .i64 (({ compB f mode with hash := h } : Co)).mode, .int .i64 (({ compB f mode with hash := h } : Co)).stamp, .int .i64 (({ compB f mode with hash := h } : Co)).size, .int .i64 (({ compB f mode with hash := h } : Co)).hash, .slice ra bn rc]) ∧ w'.ownsRow w.heap.size 66 5 (.slice ra bn rc) bn (f.body.flatMap scells) ∧ X w w' := by
  have hn := hS.2.1
  have Hl := Lib.hid (show (f.body.flatMap scells).length = bn * 5 by rw [scells_len, hS.1])
  go_enter Tryd.func39, Tryd.ntmps39
  go_wp2
  refine wp_name (fun W hW => ?_)
  obtain ⟨hT, hR, hX0⟩ := bx2 hW
  have Hsz := Lib.hid (show W.heap.size = w.heap.size + 2 by rw [hW]; simp)
  have hne : w.heap.size ≠ w.heap.size + 1 := by omega
  clear hW
  obtain ⟨t0, t1, t2, t3, t4, t5⟩ := keepT hT
  have hS0 := hS.mono (hX0.fr _)
  go_region_held_law (fun w' => w'.cell? ⟨w.heap.size, 0, none⟩ = some (.int .i64 f.root) ∧ w'.cell? ⟨w.heap.size, 1, none⟩ = some (.string ⟨(f.pkg).toArray⟩) ∧ w'.cell? ⟨w.heap.size, 2, none⟩ = some (.string ⟨(f.name).toArray⟩) ∧ w'.cell? ⟨w.heap.size, 3, none⟩ = some (.bool f.init) ∧ w'.cell? ⟨w.heap.size, 4, none⟩ = some (.int .i64 f.stamp) ∧ w'.cell? ⟨w.heap.size, 5, none⟩ = some (.slice ba bn bc))
    (first
      | (refine keepT (hT.x ?_); (repeat (first | with_reducible exact X.refl _ | with_reducible assumption | with_reducible refine X.alloc ?_ _ | with_reducible refine X.drew ?_)); done)
      | (refine keepT (Bx.far8 (hT.x ?_) hne _ _ _ _ _ _ _ _); with_reducible assumption))
    (first
      | (go_at_call 51; refine (moduleName_c f _ _ hf).mono ?_; rintro _ wm ⟨rfl, hxm⟩; (have hXm : X W wm := X.trans (by (repeat (first | with_reducible exact X.refl _ | with_reducible assumption | with_reducible refine X.setCell ?_ (by first | (simp; done) | (simp; omega)) _ | with_reducible refine X.ext ?_ _ | with_reducible refine X.alloc ?_ _ | with_reducible refine X.drew ?_))) hxm); (first | replace hrow := own_fr hrow (hxm.fr _) | have hrow := own_fr (show (W.drew.alloc (.cells #[] 66)).ownsRow W.heap.size 66 5 (.slice (some ⟨W.heap.size, 0, none⟩) 0 0) 0 [] from own_lit (cs := #[]) (n := 0) rfl (Nat.le_refl _) rfl (by omega)) (hxm.fr _) | have hrow := own_fr (own_lit (B := W.heap.size) (n := 0) (size := 5) (cs := #[]) (e := 66) rfl (X.size (by (repeat (first | with_reducible exact X.refl _ | with_reducible assumption | with_reducible refine X.setCell ?_ (by first | (simp; done) | (simp; omega)) _ | with_reducible refine X.ext ?_ _ | with_reducible refine X.alloc ?_ _ | with_reducible refine X.drew ?_)))) rfl (by omega)) (hxm.fr _) | skip); (try replace hO := own_fr hO (hxm.fr _)); ((try clear m0 m1 m2 m3 m4 m5 m6 m7 hfm); obtain ⟨m0, m1, m2, m3, m4, m5, m6, m7, hfm⟩ := cellsR (hR.x hXm)))
      | (go_at_call 68; refine (sizeOf_c f.body ba bn bc B _ (hS0.mono (X.fr (by (repeat (first | with_reducible exact X.refl _ | with_reducible assumption | with_reducible refine X.setCell ?_ (by first | (simp; done) | (simp; omega)) _ | with_reducible refine X.ext ?_ _ | with_reducible refine X.alloc ?_ _ | with_reducible refine X.drew ?_))) _))).mono ?_; rintro _ wm ⟨rfl, hxm⟩; (have hXm : X W wm := X.trans (by (repeat (first | with_reducible exact X.refl _ | with_reducible assumption | with_reducible refine X.setCell ?_ (by first | (simp; done) | (simp; omega)) _ | with_reducible refine X.ext ?_ _ | with_reducible refine X.alloc ?_ _ | with_reducible refine X.drew ?_))) hxm); (first | replace hrow := own_fr hrow (hxm.fr _) | have hrow := own_fr (show (W.drew.alloc (.cells #[] 66)).ownsRow W.heap.size 66 5 (.slice (some ⟨W.heap.size, 0, none⟩) 0 0) 0 [] from own_lit (cs := #[]) (n := 0) rfl (Nat.le_refl _) rfl (by omega)) (hxm.fr _) | have hrow := own_fr (own_lit (B := W.heap.size) (n := 0) (size := 5) (cs := #[]) (e := 66) rfl (X.size (by (repeat (first | with_reducible exact X.refl _ | with_reducible assumption | with_reducible refine X.setCell ?_ (by first | (simp; done) | (simp; omega)) _ | with_reducible refine X.ext ?_ _ | with_reducible refine X.alloc ?_ _ | with_reducible refine X.drew ?_)))) rfl (by omega)) (hxm.fr _) | skip); (try replace hO := own_fr hO (hxm.fr _)); ((try clear m0 m1 m2 m3 m4 m5 m6 m7 hfm); obtain ⟨m0, m1, m2, m3, m4, m5, m6, m7, hfm⟩ := cellsR (hR.x hXm)))
      | (go_at_call 69; refine (hashOf_any f.body ba bn bc B _ (hS0.mono (X.fr (by (repeat (first | with_reducible exact X.refl _ | with_reducible assumption | with_reducible refine X.setCell ?_ (by first | (simp; done) | (simp; omega)) _ | with_reducible refine X.ext ?_ _ | with_reducible refine X.alloc ?_ _ | with_reducible refine X.drew ?_))) _))).mono ?_; rintro _ wm ⟨hh, rfl, hxm⟩; (have hXm : X W wm := X.trans (by (repeat (first | with_reducible exact X.refl _ | with_reducible assumption | with_reducible refine X.setCell ?_ (by first | (simp; done) | (simp; omega)) _ | with_reducible refine X.ext ?_ _ | with_reducible refine X.alloc ?_ _ | with_reducible refine X.drew ?_))) hxm); (first | replace hrow := own_fr hrow (hxm.fr _) | have hrow := own_fr (show (W.drew.alloc (.cells #[] 66)).ownsRow W.heap.size 66 5 (.slice (some ⟨W.heap.size, 0, none⟩) 0 0) 0 [] from own_lit (cs := #[]) (n := 0) rfl (Nat.le_refl _) rfl (by omega)) (hxm.fr _) | have hrow := own_fr (own_lit (B := W.heap.size) (n := 0) (size := 5) (cs := #[]) (e := 66) rfl (X.size (by (repeat (first | with_reducible exact X.refl _ | with_reducible assumption | with_reducible refine X.setCell ?_ (by first | (simp; done) | (simp; omega)) _ | with_reducible refine X.ext ?_ _ | with_reducible refine X.alloc ?_ _ | with_reducible refine X.drew ?_)))) rfl (by omega)) (hxm.fr _) | skip); (try replace hO := own_fr hO (hxm.fr _)); ((try clear m0 m1 m2 m3 m4 m5 m6 m7 hfm); obtain ⟨m0, m1, m2, m3, m4, m5, m6, m7, hfm⟩ := cellsR (hR.x hXm)))
      | (refine step_append_sl (B := W.heap.size) (xs := []) (n := 0) stmt_T' rfl _ _ rfl (by first | exact hrow | exact own_lit (n := 0) (size := 5) (cs := #[]) rfl (X.size (by (repeat (first | with_reducible exact X.refl _ | with_reducible assumption | with_reducible refine X.setCell ?_ (by first | (simp; done) | (simp; omega)) _ | with_reducible refine X.ext ?_ _ | with_reducible refine X.alloc ?_ _ | with_reducible refine X.drew ?_)))) rfl (by omega)) rfl rfl (hS0.mono (X.fr (by (repeat (first | with_reducible exact X.refl _ | with_reducible assumption | with_reducible refine X.setCell ?_ (by first | (simp; done) | (simp; omega)) _ | with_reducible refine X.ext ?_ _ | with_reducible refine X.alloc ?_ _ | with_reducible refine X.drew ?_))) _)).2.2.2 Hl.out (scells_one f.body) (by omega) (by unfold maxLen; omega) (X.size (by (repeat (first | with_reducible exact X.refl _ | with_reducible assumption | with_reducible refine X.setCell ?_ (by first | (simp; done) | (simp; omega)) _ | with_reducible refine X.ext ?_ _ | with_reducible refine X.alloc ?_ _ | with_reducible refine X.drew ?_)))) ?_; intro ra rc wm hO hxm hgB; have hXm : X W wm := X.of_below ((X.below (w := W) (by (repeat (first | with_reducible exact X.refl _ | with_reducible assumption | with_reducible refine X.setCell ?_ (by first | (simp; done) | (simp; omega)) _ | with_reducible refine X.ext ?_ _ | with_reducible refine X.alloc ?_ _ | with_reducible refine X.drew ?_)))).grown hxm (X.size (by (repeat (first | with_reducible exact X.refl _ | with_reducible assumption | with_reducible refine X.setCell ?_ (by first | (simp; done) | (simp; omega)) _ | with_reducible refine X.ext ?_ _ | with_reducible refine X.alloc ?_ _ | with_reducible refine X.drew ?_)))) hgB); ((try clear m0 m1 m2 m3 m4 m5 m6 m7 hfm); obtain ⟨m0, m1, m2, m3, m4, m5, m6, m7, hfm⟩ := cellsR (hR.x hXm))))
  all_goals
    rw [List.nil_append] at hO
    rw [Nat.zero_add] at hO
    go_wp2
    refine bodyPost_row Tryd.results39 rfl (Bx.set8 (hR.x hXm) _ _ _ _ _ _ _ _) co_S rfl rfl ?_
    have hXw := hX0.trans hXm
    have hsz := Hsz.out
    refine ⟨hh, ra, rc, rfl, own_less (own_fr hO (by (repeat (first | with_reducible exact Fr.refl _ _ | with_reducible assumption | with_reducible refine Fr.set ?_ (.inr (by first | (simp; done) | (simp; omega))) _)))) (by omega), by (repeat (first | with_reducible exact X.refl _ | with_reducible assumption | with_reducible refine X.setCell ?_ (by first | (simp; done) | (simp; omega)) _ | with_reducible refine X.ext ?_ _ | with_reducible refine X.alloc ?_ _ | with_reducible refine X.drew ?_))⟩

end Go.Proofs.YtebnjkjllinabaaDoor
