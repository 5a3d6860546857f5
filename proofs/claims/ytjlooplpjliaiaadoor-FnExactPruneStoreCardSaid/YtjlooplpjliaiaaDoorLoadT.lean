/- LoadBody of the reference, as it is called: the walk. No condition but lengths. -/
import Derived.Test.YtjlooplpjliaiaaDoorLoadS
namespace Go.Proofs.YtjlooplpjliaiaaDoor
open Go.RowKit

theorem compB_okC {f : Fi} (mode : Int) (h1 : Okf f) (h2 : f.body.length ≤ 2097152) (h3 : ∀ s ∈ f.body, Oks s) : (compB f mode).mod.length ≤ 4194304 ∧ (compB f mode).body.length ≤ 2097152 ∧ ∀ s ∈ (compB f mode).body, Oks s := by
  refine ⟨?_, h2, h3⟩
  show (moduleB f).length ≤ 4194304
  have := childL_length f.pkg f.name h1.1 h1.2
  have := h1.1
  unfold moduleB
  split <;> omega
theorem okC_set {l : List Co} (h : OkC l) {c : Co} (hc : c.mod.length ≤ 4194304 ∧ c.body.length ≤ 2097152 ∧ ∀ s ∈ c.body, Oks s) (k : Nat) : OkC (l.set k c) :=
  ⟨by rw [List.length_set]; exact h.1, fun x hx => by
    rcases List.mem_or_eq_of_mem_set hx with hx | rfl
    · exact h.2 x hx
    · exact hc⟩
theorem okC_snoc {l : List Co} (h : OkC l) (hl : l.length < 2097152) {c : Co} (hc : c.mod.length ≤ 4194304 ∧ c.body.length ≤ 2097152 ∧ ∀ s ∈ c.body, Oks s) : OkC (l ++ [c]) :=
  ⟨by rw [List.length_append, List.length_singleton]; omega, fun x hx => by
    rcases List.mem_append.1 hx with hx | hx
    · exact h.2 x hx
    · rw [List.mem_singleton.1 hx]; exact hc⟩
theorem okC_nil : OkC [] := ⟨by simp, fun c hc => by cases hc⟩
theorem storeLd_ok {l : List Co} {f : Fi} (mode : Int) (h : OkC l) (hc : (compB f mode).mod.length ≤ 4194304 ∧ (compB f mode).body.length ≤ 2097152 ∧ ∀ s ∈ (compB f mode).body, Oks s) : OkC (storeLd l f mode) := by
  unfold storeLd
  split
  · exact h
  · split
    · exact okC_set h hc _
    · split
      · exact okC_snoc h (by omega) hc
      · exact h
theorem loadV_ok {l : List Co} {f : Fi} (mode : Int) (h : OkC l) (h1 : Okf f) (h2 : f.body.length ≤ 2097152) (h3 : ∀ s ∈ f.body, Oks s) : OkC (loadV l f mode).2.1 := by
  unfold loadV
  split
  · exact storeLd_ok mode h (compB_okC mode h1 h2 h3)
  · exact okC_nil
theorem storeLd_len (l : List Co) (f : Fi) (mode : Int) : (storeLd l f mode).length ≤ l.length + 1 := by
  unfold storeLd
  split
  · omega
  · split
    · rw [List.length_set]; omega
    · split
      · rw [List.length_append, List.length_singleton]; omega
      · omega
theorem wtC_set (l : List Co) (k : Nat) (c : Co) : wtC (l.set k c) ≤ wtC l + (7 + 5 * c.body.length) := by
  induction l generalizing k with
  | nil => simp [wtC]
  | cons x l ih =>
    cases k with
    | zero => simp only [List.set_cons_zero, wtC]; omega
    | succ k => simp only [List.set_cons_succ, wtC]; have := ih k; omega
theorem storeLd_wt (l : List Co) (f : Fi) (mode : Int) : wtC (storeLd l f mode) ≤ wtC l + (7 + 5 * f.body.length) := by
  unfold storeLd
  split
  · omega
  · split
    · exact wtC_set l _ _
    · split
      · rw [wtC_append]; simp [wtC, compB_len]
      · omega
theorem loadV_bad {l : List Co} {f : Fi} {mode : Int} (h : loadOk l f mode = false) : loadV l f mode = ([], [], false) := by rw [loadV, h]; rfl
theorem loadV_good {l : List Co} {f : Fi} {mode : Int} (h : loadOk l f mode = true) : loadV l f mode = (bodyLd l f, storeLd l f mode, hadB l f) := by rw [loadV, if_pos h]

theorem cosAt_nil (w : World) (B : Nat) : CosAt w B none 0 [] := ⟨[], rfl, rfl, by simp, (fun _ h => by cases h), fun h => absurd h (by simp), fun _ h => by cases h⟩
set_option maxRecDepth 100000 in
set_option maxHeartbeats 4000000 in
theorem LoadBody_s (l : List Co) (a : Option Addr) (n c B : Nat) (f : Fi) (mode : Int) (ba : Option Addr) (bn bc B2 : Nat) (w : World) (hD : CosAt w B a n l) (hf : Okf f) (hS : StmtsAt w B2 ba bn f.body) :
    Calls Tryd.prog 18 #[.slice a n c, .agg #[.int .i64 (f).root, .string ⟨(f).pkg.toArray⟩, .string ⟨(f).name.toArray⟩, .bool (f).init, .int .i64 (f).stamp, .slice ba bn bc], .int .i64 mode] w fun e w' => ∃ b1 c1 r1 rc, e = .returned (.tuple #[.slice b1 (loadV l f mode).1.length c1, .slice r1 (loadV l f mode).2.1.length rc, .bool (loadV l f mode).2.2]) ∧ StmtsAt w' 0 b1 (loadV l f mode).1.length (loadV l f mode).1 ∧
      CosAt w' 0 r1 (loadV l f mode).2.1.length (loadV l f mode).2.1 ∧ X w w' := by
  cases q1 : storeB l <;> cases q2 : fileB f <;> cases q3 : rangeB mode 0 2
  case true.true.true =>
    rw [loadV_good (by simp [loadOk, *])]
    dsimp only
    have hl12 := storeB_12 q1
    have hok := hD.okC
    have hn12 : n ≤ 12 := by have := hD.len.1; omega
    have hok2 := storeLd_ok (l := l) mode hok (compB_okC mode hf (by have := hS.1; have := hS.2.1; omega) hS.2.2.1)
    clear hl12
    go_enter Tryd.func18, Tryd.ntmps18
    go_wp2_with fail
    refine calls_name (fun W0 hW0 => ?_)
    have hT : Bx W0 w.heap.size #[.int .i64 f.root, .string ⟨(f.pkg).toArray⟩, .string ⟨(f.name).toArray⟩, .bool f.init, .int .i64 f.stamp, .slice ba bn bc] := by rw [hW0]; exact Bx.new _ _ _
    have hX0 : X w W0 := by rw [hW0]; (repeat (first | with_reducible exact X.refl _ | with_reducible assumption | with_reducible refine X.setCell ?_ (by first | (simp; done) | (simp; omega)) _ | with_reducible refine X.ext ?_ _ | with_reducible refine X.alloc ?_ _ | with_reducible refine X.drew ?_))
    clear hW0
    refine (validStore_c l a n c B W0 (hD.mono (hX0.fr _))).mono ?_
    rintro _ w1 ⟨rfl, hx1⟩
    rw [q1]
    obtain ⟨t0, t1, t2, t3, t4, t5⟩ := keepT (hT.x hx1)
    have hlT := (hT.x hx1).lt
    go_wp2_with fail
    refine (validFile_c f ba bn bc B2 w1 hf (hS.mono ((hX0.trans hx1).fr _))).mono ?_
    rintro _ W ⟨rfl, hx2⟩
    rw [q2]
    have hTW := (hT.x hx1).x hx2
    have hXW := (hX0.trans hx1).trans hx2
    clear t0 t1 t2 t3 t4 t5 hlT
    obtain ⟨t0, t1, t2, t3, t4, t5⟩ := keepT hTW
    have hlT := hTW.lt
    clear hx1 hx2 hX0
    go_wp2_with (go_at_call 36; refine (inRange_c mode 0 2 _).mono ?_; rintro _ _ ⟨rfl, rfl⟩; rw [q3])
    have hDW := hD.mono (hXW.fr B)
    have hSW := hS.mono (hXW.fr B2)
    go_region_held_law (fun w' => w'.cell? ⟨w.heap.size, 0, none⟩ = some (.int .i64 f.root) ∧ w'.cell? ⟨w.heap.size, 1, none⟩ = some (.string ⟨(f.pkg).toArray⟩) ∧ w'.cell? ⟨w.heap.size, 2, none⟩ = some (.string ⟨(f.name).toArray⟩) ∧ w'.cell? ⟨w.heap.size, 3, none⟩ = some (.bool f.init) ∧ w'.cell? ⟨w.heap.size, 4, none⟩ = some (.int .i64 f.stamp) ∧ w'.cell? ⟨w.heap.size, 5, none⟩ = some (.slice ba bn bc))
      (first | (refine keepT (hTW.x ?_); (repeat (first | with_reducible exact X.refl _ | with_reducible assumption | with_reducible refine X.alloc ?_ _ | with_reducible refine X.drew ?_)); done) | fail)
      (first
        | (go_at_call 51; refine (copyStore_c l a n c B _ (hDW.mono (X.fr (by (repeat (first | with_reducible exact X.refl _ | with_reducible assumption | with_reducible refine X.setCell ?_ (by first | (simp; done) | (simp; omega)) _ | with_reducible refine X.ext ?_ _ | with_reducible refine X.alloc ?_ _ | with_reducible refine X.drew ?_))) _))).mono ?_; rintro _ wm ⟨sa, sc, rfl, hO, hxm⟩; replace hO := own_lessC hO (X.size (w := W) (by (repeat (first | with_reducible exact X.refl _ | with_reducible assumption | with_reducible refine X.setCell ?_ (by first | (simp; done) | (simp; omega)) _ | with_reducible refine X.ext ?_ _ | with_reducible refine X.alloc ?_ _ | with_reducible refine X.drew ?_)))); have hXm : X W wm := X.trans (by (repeat (first | with_reducible exact X.refl _ | with_reducible assumption | with_reducible refine X.setCell ?_ (by first | (simp; done) | (simp; omega)) _ | with_reducible refine X.ext ?_ _ | with_reducible refine X.alloc ?_ _ | with_reducible refine X.drew ?_))) hxm)
        | (go_at_call 50; refine (loadBody_s l n sc sa f mode ba bn bc B2 W _ hXm hO hok hn12 hf hSW q2).mono ?_; rintro _ wn ⟨b1, c1, r1, rc, rfl, hBd, hCs, hXn⟩))
    all_goals
      have hBd' := hBd.2.2.2
      have hn1 := hBd.2.1
      have ho1 := hBd.2.2.1
      have Hlb := Lib.hid (show ((bodyLd l f).flatMap scells).length = (bodyLd l f).length * 5 from scells_len _)
      generalize e1 : bodyLd l f = bd at *
      generalize e2 : storeLd l f mode = st at *
      generalize e3 : hadB l f = had at *
      have He := Lib.hid (And.intro e1 (And.intro e2 e3))
      clear e1 e2 e3
      go_wp2_with (at_builtin; refine wpList_append_sl stmt_T' rfl _ _ rfl (own_lit (B := wn.heap.size) (n := 0) (size := 5) rfl (Nat.le_refl _) rfl (by omega)) rfl rfl (hBd'.mono (X.fr (by (repeat (first | with_reducible exact X.refl _ | with_reducible assumption | with_reducible refine X.setCell ?_ (by first | (simp; done) | (simp; omega)) _ | with_reducible refine X.ext ?_ _ | with_reducible refine X.alloc ?_ _ | with_reducible refine X.drew ?_))) _)) Hlb.out (scells_one bd) (by omega) (by unfold maxLen; omega) (by simp) ?_; intro a' c' w' hO' hg'; rw [List.nil_append, Nat.zero_add] at hO'; rw [Nat.zero_add]; have hX' : X wn w' := X.of_litR hg' (by simp [Value.ownBlock]))
      refine bodyPost_ret (v := (.tuple #[.slice a' bd.length c', .slice r1 st.length rc, .bool had])) (by simp [results, Tryd.results18, go_sem]) rfl ?_
      rw [He.out.1, He.out.2.1, He.out.2.2]
      exact ⟨a', c', r1, rc, rfl, ⟨rfl, hn1, ho1, (Sl.of_own hO').less (Nat.zero_le _)⟩, ((hCs.fr (hX'.fr _)).at hok2).less (Nat.zero_le _), (hXW.trans hXn).trans hX'⟩
  all_goals
    rw [loadV_bad (by simp [loadOk, *])]
    go_enter Tryd.func18, Tryd.ntmps18
    go_wp2_with (first
      | (go_at_call 48; refine (validStore_c l a n c B _ (hD.mono (X.fr (by (repeat (first | with_reducible exact X.refl _ | with_reducible assumption | with_reducible refine X.setCell ?_ (by first | (simp; done) | (simp; omega)) _ | with_reducible refine X.ext ?_ _ | with_reducible refine X.alloc ?_ _ | with_reducible refine X.drew ?_))) _))).mono ?_; rintro _ _ ⟨rfl, hx⟩; obtain ⟨x, rfl⟩ := hx; rw [q1])
      | (go_at_call 49; refine (validFile_c f ba bn bc B2 _ hf (hS.mono (X.fr (by (repeat (first | with_reducible exact X.refl _ | with_reducible assumption | with_reducible refine X.setCell ?_ (by first | (simp; done) | (simp; omega)) _ | with_reducible refine X.ext ?_ _ | with_reducible refine X.alloc ?_ _ | with_reducible refine X.drew ?_))) _))).mono ?_; rintro _ _ ⟨rfl, hx⟩; obtain ⟨x, rfl⟩ := hx.of_ext; rw [q2])
      | (go_at_call 36; refine (inRange_c mode 0 2 _).mono ?_; rintro _ _ ⟨rfl, rfl⟩; rw [q3]))
    refine bodyPost_ret (v := (.tuple #[.slice none 0 0, .slice none 0 0, .bool false])) (by simp [results, Tryd.results18, go_sem]) rfl ?_
    exact ⟨none, 0, none, 0, rfl, ⟨rfl, by simp, (fun _ h => by cases h), fun h => absurd h (by simp)⟩, cosAt_nil _ _, by (repeat (first | with_reducible exact X.refl _ | with_reducible assumption | with_reducible refine X.setCell ?_ (by first | (simp; done) | (simp; omega)) _ | with_reducible refine X.ext ?_ _ | with_reducible refine X.alloc ?_ _ | with_reducible refine X.drew ?_))⟩

end Go.Proofs.YtjlooplpjliaiaaDoor
