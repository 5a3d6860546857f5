/- NeedsOf of the reference, whole: the walk. No condition but lengths. -/
import Derived.Test.YtlpbgingggnjpaaGreatDoorNeedS
import Derived.Test.YtlpbgingggnjpaaGreatDoorIc
namespace Go.Proofs.YtlpbgingggnjpaaGreatDoor
open Go.RowKit

theorem findGo_k0 (l : List Fi) (p s : List UInt8) : ∀ (path acc : List Int), (findGo l p s path acc).kind = 0 → (findGo l p s path acc).file = -1
  | [], acc => by
    unfold findGo
    split <;> simp [noneSp]
  | r :: rs, acc => by
    unfold findGo
    split
    · simp
    · split
      · simp
      · exact findGo_k0 l p s rs _
theorem specGo_k0 (l : List Fi) : ∀ (ps : List (List UInt8)) (p : List UInt8) (o : Sp), (o.kind = 0 → o.file = -1) → (specGo l ps p o).kind = 0 → (specGo l ps p o).file = -1
  | [], _, _, h => h
  | q :: qs, p, o, _ => by
    unfold specGo
    split
    · exact specGo_k0 l qs _ _ (findGo_k0 l _ _ _ _)
    · simp [noneSp]
theorem specB_k0 {l : List Fi} {path : List Int} {s : List UInt8} (h : (specB l path s).kind = 0) : (specB l path s).file = -1 := by
  unfold specB at h ⊢
  split
  · rename_i hv
    rw [if_pos hv] at h
    exact specGo_k0 l _ _ _ (fun h => absurd h (by simp)) h
  · simp [noneSp]

set_option maxRecDepth 100000 in
set_option maxHeartbeats 2000000 in
theorem needsOf_s (l : List Fi) (a : Option Addr) (n c B : Nat) (path : List Int) (pa : Option Addr) (pn pc Bp : Nat) (s : List UInt8) (w : World) (hF : FilesAt w B a n l) (hI : IntsAt w Bp pa pn path) (hpc : pn ≤ pc) (hs : nameB s = true) (hv : specB l path s = specF l path s) :
    Calls Tryz.prog 56 #[.agg #[.slice a n c], .slice pa pn pc, .string ⟨(s).toArray⟩] w fun e w' => ∃ qa qc, e = .returned (.slice qa (needsL l path s).length qc) ∧ StrsAt w' w.heap.size qa (needsL l path s).length (needsL l path s) ∧ X w w' := by
  have hsl := nameB_len hs
  obtain ⟨V, hV⟩ : ∃ V, needsL l path s = V := ⟨_, rfl⟩
  rw [hV]
  have HV := Lib.hid hV
  clear hV
  obtain ⟨o, ho⟩ : ∃ o, specF l path s = o := ⟨_, rfl⟩
  have HO := Lib.hid ho
  have Ho := Lib.hid (hv.trans ho)
  clear ho hv
  go_enter Tryz.func56, Tryz.ntmps56
  go_wp2
  refine wp_name (fun W hW => ?_)
  have hB0 : Bx W w.heap.size #[.slice a n c] := by rw [hW]; exact Bx.new _ _ _
  have hX0 : X w W := by rw [hW]; (repeat (first | with_reducible exact X.refl _ | with_reducible assumption | with_reducible refine X.setCell ?_ (by first | (simp; done) | (simp; omega)) _ | with_reducible refine X.ext ?_ _ | with_reducible refine X.alloc ?_ _ | with_reducible refine X.drew ?_))
  clear hW
  have t0 := bxC hB0
  have lt0 := hB0.lt
  have hF0 := hF.mono (hX0.fr _)
  have hI0 := hI.mono (hX0.fr _)
  go_region_held3 (fun W' => W'.cell? ⟨w.heap.size, 0, none⟩ = some (.slice a n c))
    (first | exact (World.cell?_ext _ _ _ _ lt0).trans t0 | exact t0 | go_keep)
    ((first
      | (go_at_call 55; refine (find_s l a n c _ path pa pn pc _ s _ (hF0.mono (X.fr (by (repeat (first | exact X.refl _ | assumption | refine X.ext ?_ _ | refine X.alloc ?_ _ | refine X.drew ?_))) _)) (hI0.mono (X.fr (by (repeat (first | exact X.refl _ | assumption | refine X.ext ?_ _ | refine X.alloc ?_ _ | refine X.drew ?_))) _)) hpc hs).mono ?_; rw [HO.out]; rintro _ wq ⟨vq, rfl, ⟨aq, cq, rfl, hcq, hIq⟩, hxq⟩; clear hIq; replace hxq := X.trans (a := W) (by (repeat (first | exact X.refl _ | assumption | refine X.ext ?_ _ | refine X.alloc ?_ _ | refine X.drew ?_))) hxq; obtain ⟨zq, rfl⟩ := hxq)
      | (go_at_call 92; refine (needs_s l a n c _ path pa pn pc s o aq _ cq _ (hF0.mono (X.fr (by (repeat (first | exact X.refl _ | assumption | refine X.ext ?_ _ | refine X.alloc ?_ _ | refine X.drew ?_))) _)) Ho.out (by omega)).mono ?_; rw [HV.out]; rintro _ wr ⟨qa, qc, rfl, hSq, hxr⟩; have hXr := X.trans (a := W) (by (repeat (first | exact X.refl _ | assumption | refine X.ext ?_ _ | refine X.alloc ?_ _ | refine X.drew ?_))) hxr; replace hSq := hSq.less (B' := w.heap.size) (Nat.le_trans hX0.size (X.size (by (repeat (first | exact X.refl _ | assumption | refine X.ext ?_ _ | refine X.alloc ?_ _ | refine X.drew ?_))))); obtain ⟨zr, rfl⟩ := hXr)))
  go_wp2
  go_ret
  exact ⟨qa, qc, rfl, hSq, hX0.trans (by (repeat (first | exact X.refl _ | assumption | refine X.ext ?_ _ | refine X.alloc ?_ _ | refine X.drew ?_)))⟩

set_option maxRecDepth 100000 in
set_option maxHeartbeats 2000000 in
theorem NeedsOf_s (l : List Fi) (a : Option Addr) (n c B : Nat) (path : List Int) (pa : Option Addr) (pn pc Bp : Nat) (s : List UInt8) (w : World) (hF : FilesAt w B a n l) (hI : IntsAt w Bp pa pn path) (hpc : pn ≤ pc) (hsl : s.length ≤ 4194304) :
    Calls Tryz.prog 24 #[.agg #[.slice a n c], .slice pa pn pc, .string ⟨(s).toArray⟩] w fun e w' => ∃ qa qc, e = .returned (.slice qa (needsL l path s).length qc) ∧ StrsAt w' w.heap.size qa (needsL l path s).length (needsL l path s) ∧ X w w' := by
  obtain ⟨V, hV⟩ : ∃ V, needsL l path s = V := ⟨_, rfl⟩
  rw [hV]
  have HV := Lib.hid hV
  clear hV
  cases hval : (treeB l && pathB path && nameB s)
  · obtain rfl : V = [] := by rw [← HV.out, needsL, needN, specB, hval]; rfl
    cases h1 : treeB l <;> cases h2 : pathB path <;> cases h3 : nameB s
    case true.true.true => rw [h1, h2, h3] at hval; cases hval
    all_goals
      clear hval
      go_enter Tryz.func24, Tryz.ntmps24
      go_wp2_with (first | (go_at_call 39; refine (validTree_c _ _ _ _ _ _ (hF.mono (X.fr (by (repeat (first | exact X.refl _ | assumption | refine X.ext ?_ _ | refine X.alloc ?_ _ | refine X.drew ?_))) _))).mono ?_; rintro _ _ ⟨rfl, hx⟩; obtain ⟨x, rfl⟩ := hx.of_ext) | (go_at_call 39; refine (validTree_c _ _ _ _ _ _ (hF.mono (X.fr (by (repeat (first | exact X.refl _ | assumption | refine X.ext ?_ _ | refine X.alloc ?_ _ | refine X.drew ?_))) _))).mono ?_; rintro _ _ ⟨rfl, ⟨x, rfl⟩⟩) | (go_at_call 53; refine (validPath_c _ _ _ _ _ _ (hI.mono (X.fr (by (repeat (first | exact X.refl _ | assumption | refine X.ext ?_ _ | refine X.alloc ?_ _ | refine X.drew ?_))) _)) hpc).mono ?_; rintro _ _ ⟨rfl, hx⟩; obtain ⟨x, rfl⟩ := hx.of_ext) | (go_at_call 54; refine (validName_c _ _ hsl).mono ?_; rintro _ _ ⟨rfl, hx⟩; obtain ⟨x, rfl⟩ := hx.of_ext))
      go_ret
      exact ⟨_, _, rfl, strsAt_nil _ _, by (repeat (first | exact X.refl _ | assumption | refine X.ext ?_ _ | refine X.alloc ?_ _ | refine X.drew ?_))⟩
  · have hvv : specB l path s = specF l path s := by rw [specB, hval]; rfl
    simp only [Bool.and_eq_true] at hval
    obtain ⟨⟨h1, h2⟩, h3⟩ := hval
    cases hk : (specF l path s).kind == 0
    · have hk0 : ¬ (specF l path s).kind = 0 := by simpa using hk
      go_enter Tryz.func24, Tryz.ntmps24
      go_wp2_with (first | (go_at_call 39; refine (validTree_c _ _ _ _ _ _ (hF.mono (X.fr (by (repeat (first | exact X.refl _ | assumption | refine X.ext ?_ _ | refine X.alloc ?_ _ | refine X.drew ?_))) _))).mono ?_; rintro _ _ ⟨rfl, hx⟩; obtain ⟨x, rfl⟩ := hx.of_ext) | (go_at_call 39; refine (validTree_c _ _ _ _ _ _ (hF.mono (X.fr (by (repeat (first | exact X.refl _ | assumption | refine X.ext ?_ _ | refine X.alloc ?_ _ | refine X.drew ?_))) _))).mono ?_; rintro _ _ ⟨rfl, ⟨x, rfl⟩⟩) | (go_at_call 53; refine (validPath_c _ _ _ _ _ _ (hI.mono (X.fr (by (repeat (first | exact X.refl _ | assumption | refine X.ext ?_ _ | refine X.alloc ?_ _ | refine X.drew ?_))) _)) hpc).mono ?_; rintro _ _ ⟨rfl, hx⟩; obtain ⟨x, rfl⟩ := hx.of_ext) | (go_at_call 54; refine (validName_c _ _ hsl).mono ?_; rintro _ _ ⟨rfl, hx⟩; obtain ⟨x, rfl⟩ := hx.of_ext) | (go_at_call 55; refine (find_s l _ _ _ B path _ _ _ Bp s _ (hF.mono (X.fr (by (repeat (first | exact X.refl _ | assumption | refine X.ext ?_ _ | refine X.alloc ?_ _ | refine X.drew ?_))) _)) (hI.mono (X.fr (by (repeat (first | exact X.refl _ | assumption | refine X.ext ?_ _ | refine X.alloc ?_ _ | refine X.drew ?_))) _)) hpc h3).mono ?_; rintro _ w5 ⟨v5, rfl, ⟨a5, c5, rfl, hc5, hI5⟩, hx5⟩; obtain ⟨x5, rfl⟩ := hx5.of_ext) | (go_at_call 56; refine (needsOf_s l _ _ _ B path _ _ _ Bp s _ (hF.mono (X.fr (by (repeat (first | exact X.refl _ | assumption | refine X.ext ?_ _ | refine X.alloc ?_ _ | refine X.drew ?_))) _)) (hI.mono (X.fr (by (repeat (first | exact X.refl _ | assumption | refine X.ext ?_ _ | refine X.alloc ?_ _ | refine X.drew ?_))) _)) hpc h3 hvv).mono ?_; rw [HV.out]; rintro _ w6 ⟨qa, qc, rfl, hSq, hx6⟩; obtain ⟨x6, rfl⟩ := hx6.of_ext))
      go_ret
      exact ⟨qa, qc, rfl, hSq.less (by first | (simp [World.size_ext]; done) | (simp [World.size_ext]; omega)), by (repeat (first | exact X.refl _ | assumption | refine X.ext ?_ _ | refine X.alloc ?_ _ | refine X.drew ?_))⟩
    · have hk0 : (specF l path s).kind = 0 := by simpa using hk
      obtain rfl : V = [] := by
        have := specB_k0 (l := l) (path := path) (s := s) (by rw [hvv]; exact hk0)
        rw [← HV.out, needsL, needN, if_pos (by omega)]
        rfl
      go_enter Tryz.func24, Tryz.ntmps24
      go_wp2_with (first | (go_at_call 39; refine (validTree_c _ _ _ _ _ _ (hF.mono (X.fr (by (repeat (first | exact X.refl _ | assumption | refine X.ext ?_ _ | refine X.alloc ?_ _ | refine X.drew ?_))) _))).mono ?_; rintro _ _ ⟨rfl, hx⟩; obtain ⟨x, rfl⟩ := hx.of_ext) | (go_at_call 39; refine (validTree_c _ _ _ _ _ _ (hF.mono (X.fr (by (repeat (first | exact X.refl _ | assumption | refine X.ext ?_ _ | refine X.alloc ?_ _ | refine X.drew ?_))) _))).mono ?_; rintro _ _ ⟨rfl, ⟨x, rfl⟩⟩) | (go_at_call 53; refine (validPath_c _ _ _ _ _ _ (hI.mono (X.fr (by (repeat (first | exact X.refl _ | assumption | refine X.ext ?_ _ | refine X.alloc ?_ _ | refine X.drew ?_))) _)) hpc).mono ?_; rintro _ _ ⟨rfl, hx⟩; obtain ⟨x, rfl⟩ := hx.of_ext) | (go_at_call 54; refine (validName_c _ _ hsl).mono ?_; rintro _ _ ⟨rfl, hx⟩; obtain ⟨x, rfl⟩ := hx.of_ext) | (go_at_call 55; refine (find_s l _ _ _ B path _ _ _ Bp s _ (hF.mono (X.fr (by (repeat (first | exact X.refl _ | assumption | refine X.ext ?_ _ | refine X.alloc ?_ _ | refine X.drew ?_))) _)) (hI.mono (X.fr (by (repeat (first | exact X.refl _ | assumption | refine X.ext ?_ _ | refine X.alloc ?_ _ | refine X.drew ?_))) _)) hpc h3).mono ?_; rintro _ w5 ⟨v5, rfl, ⟨a5, c5, rfl, hc5, hI5⟩, hx5⟩; obtain ⟨x5, rfl⟩ := hx5.of_ext))
      go_ret
      exact ⟨_, _, rfl, strsAt_nil _ _, by (repeat (first | exact X.refl _ | assumption | refine X.ext ?_ _ | refine X.alloc ?_ _ | refine X.drew ?_))⟩

end Go.Proofs.YtlpbgingggnjpaaGreatDoor
