/- The walk of the law FnFindInSpace. -/
import Derived.Test.YtjklpfgjimbabaaDoorDrawFind
import Derived.Test.YtjklpfgjimbabaaDoorEq
import Derived.Test.YtjklpfgjimbabaaDoorSpace
import Derived.Deep.RegionHeld3
import Derived.IntWalk
namespace Go.Proofs.YtjklpfgjimbabaaDoor
open Go.RowKit

theorem equalSpec_same (r : Sp) (a a' : Option Addr) (c c' B B' : Nat) (w : World) (hL : IntsAt w B a r.roots.length r.roots) (hM : IntsAt w B' a' r.roots.length r.roots) :
    Calls Tryd.prog 13 #[.agg #[.int .i64 r.kind, .int .i64 r.file, .slice a r.roots.length c], .agg #[.int .i64 r.kind, .int .i64 r.file, .slice a' r.roots.length c']] w fun e w' => e = .returned (.bool true) ∧ X w w' :=
  (equalSpec_c r r a a' c c' B B' w hL hM).mono fun _ _ ⟨h, hx⟩ => ⟨by rw [h]; simp, hx⟩

theorem filter_next {l : List Int} {f : Int → Bool} {k : Nat} (hk : k < l.length) : (l.take (k + 1)).filter f = if f (nth l k) then (l.take k).filter f ++ [nth l k] else (l.take k).filter f := by
  rw [take_succ_nth hk, List.filter_append]
  cases h : f (nth l k) <;> simp [h]
theorem at_x {w w' : World} {b : Nat} {o : Obj} (h : w.heap[b]? = some o) (hx : X w w') : w'.heap[b]? = some o := (hx.below.block b (Array.getElem?_eq_some_iff.1 h).1).trans h
theorem ints_snoc (l : List Int) (x : Int) : ints (l ++ [x]) = ints l ++ [.int .i64 x] := by simp [ints]
theorem own_set3 {w : World} {B e size n t b : Nat} {v : Value} {xs : List Value} {cs : Array Value} (h : w.ownsRow B e size v n xs) (hb : w.heap[b]? = some (.cells cs t (0, 0))) (hne : e ≠ t) (u0 u1 u2 : Value) :
    (((w.setCell ⟨b, 0, none⟩ u0).setCell ⟨b, 1, none⟩ u1).setCell ⟨b, 2, none⟩ u2).ownsRow B e size v n xs :=
  own_set_far (own_set_far (own_set_far h hb hne 0 u0) (heap_setCell_same w b 0 cs t u0 hb) hne 1 u1) (heap_setCell_same _ b 1 _ t u1 (heap_setCell_same w b 0 cs t u0 hb)) hne 2 u2
theorem ints_one {w : World} {B b off n k : Nat} {l : List Int} (h : IntsAt w B (some ⟨b, off, none⟩) n l) (hk : k < n) (hc : w.cell? ⟨b, off + k, none⟩ = some (.int .i64 (nth l k))) : IntsAt w B (some ⟨b, off + k, none⟩) 1 [nth l k] := by
  obtain ⟨b', off', h1, h2, h3, _⟩ := h.2.2 (by omega)
  injection h1 with h1
  injection h1 with h1
  subst h1
  refine ⟨rfl, by omega, fun _ => ⟨b, off + k, rfl, h2, h3, fun j hj => ?_⟩⟩
  have h0 : j = 0 := by simpa using hj
  subst h0
  simpa using hc
theorem childOf_length (p s : List UInt8) (hp : p.length ≤ 20) (hs : s.length ≤ 20) : (childOf p s).length ≤ 4194304 := by
  have h1 : (childL p s).length ≤ 4194304 := by
    unfold childL
    split
    · omega
    · simp; omega
  unfold childOf
  split
  · exact h1
  · simp
theorem HasDir_v (l : List Fi) (a : Option Addr) (n c B : Nat) (r : Int) (p : List UInt8) (w : World) (hF : FilesAt w B a n l) (hc : n ≤ c) (hp : p.length ≤ 4194304) (hG : Gm w) :
    Calls Tryd.prog 15 #[.agg #[.slice a n c], .int .i64 r, .string ⟨(p).toArray⟩] w fun e w' => e = .returned (.bool (hasB l r p)) ∧ X w w' := HasDir_c l a n c B r p w hF hc hp hG
set_option maxRecDepth 100000 in
set_option maxHeartbeats 600000 in
theorem FnFindInSpace_c (ca : Option Addr) (cn cc : Nat) (w : World) (hC : CodeAt w ca cn cc) (hG : Gm w) :
    Calls Tryd.prog 3 #[.slice ca cn cc] w fun e w' => e = .returned (.bool true) ∧ X w w' := by
  by_cases hbig : 1048576 < cn
  · go_enter Tryd.func3, Tryd.ntmps3
    go_wp2
    go_ret
    exact ⟨by simp, by (repeat (first | exact X.refl _ | assumption | refine X.ext ?_ _ | refine X.alloc ?_ _ | refine X.drew ?_))⟩
  · go_enter Tryd.func3, Tryd.ntmps3
    go_wp2_with fail
    refine (DrawFindIn_c ca cn cc _ hC (by omega)).mono ?_
    rintro _ W1 ⟨l, a, n, c, path, pa, pn, pc, p, s, rfl, hF, hnc, hn11, hsm, hI, hpc, hpn3, hp, hs, hx1⟩
    replace hG := hG.mono hx1
    have hcl := childOf_length p s hp hs
    have hB1 := Bx.new W1 #[.slice a n c] 25
    go_wp2_with fail
    refine (FindIn_i l a n c _ path pa pn pc _ p s _ (hF.mono (X.fr (by (repeat (first | exact X.refl _ | assumption | refine X.ext ?_ _ | refine X.alloc ?_ _ | refine X.drew ?_))) _)) hnc (hI.mono (X.fr (by (repeat (first | exact X.refl _ | assumption | refine X.ext ?_ _ | refine X.alloc ?_ _ | refine X.drew ?_))) _)) hpc (by omega) (by omega) (hG.mono (by (repeat (first | exact X.refl _ | assumption | refine X.ext ?_ _ | refine X.alloc ?_ _ | refine X.drew ?_))))).mono ?_
    rintro _ W2 ⟨v, rfl, ⟨ra, rc, rfl, hown⟩, hx2⟩
    replace hB1 := hB1.x hx2
    have hx12 : X W1 W2 := X.trans (by (repeat (first | exact X.refl _ | assumption | refine X.ext ?_ _ | refine X.alloc ?_ _ | refine X.drew ?_))) hx2
    have hr3 := findInF_roots l path p s
    have hlaw := Lib.hid (@space_law l path p s)
    generalize hr : findInF l path p s = r at *
    have Hr := Lib.hid hr
    clear hr
    have hB2 := Bx.new W2 #[.int .i64 r.kind, .int .i64 r.file, .slice ra r.roots.length rc] 30
    go_wp2_with fail
    refine wp_name (fun W3 hW3 => ?_)
    rw [← hW3] at hB2
    have hx23 : X W2 W3 := hW3 ▸ (by (repeat (first | exact X.refl _ | assumption | refine X.ext ?_ _ | refine X.alloc ?_ _ | refine X.drew ?_)))
    clear hW3
    replace hB1 := hB1.x hx23
    replace hF := hF.mono ((hx12.trans hx23).fr _)
    replace hI := hI.mono ((hx12.trans hx23).fr _)
    replace hown := own_fr hown (hx23.fr _)
    replace hG := hG.mono (hx12.trans hx23)
    have hlt2 := hB2.lt
    have hlt1 := hB1.lt
    have hRI := SpecAt.ints hown (by have := hI.1; omega)
    have hxw : X w W3 := hx1.trans (hx12.trans hx23)
    clear hx2 hx12 hx23 hx1
    obtain ⟨hb1, hc1, hf1⟩ := hB1.out
    obtain ⟨hb2, hc2, hf2⟩ := hB2.out
    have d1 := hc1 0
    have d2 := hc2 0
    have d3 := hc2 1
    have d4 := hc2 2
    have hx : X W3 W3 := X.refl _
    cases hk : (r.kind != 3)
    · go_region_held3 (fun w' => w'.cell? ⟨W1.heap.size, 0, none⟩ = some (.slice a n c) ∧ w'.cell? ⟨W2.heap.size, 0, none⟩ = some (.int .i64 r.kind) ∧ w'.cell? ⟨W2.heap.size, 1, none⟩ = some (.int .i64 r.file) ∧ w'.cell? ⟨W2.heap.size, 2, none⟩ = some (.slice ra r.roots.length rc)) (first | exact ⟨(World.cell?_ext _ _ _ _ hlt1).trans d1, (World.cell?_ext _ _ _ _ hlt2).trans d2, (World.cell?_ext _ _ _ _ hlt2).trans d3, (World.cell?_ext _ _ _ _ hlt2).trans d4⟩ | go_keep)
        ((first
          | (go_at_call 14; refine (FindIn_c l a n c _ path pa pn pc _ p s _ (hF.mono (X.fr (by (repeat (first | exact X.refl _ | assumption | refine X.ext ?_ _ | refine X.alloc ?_ _ | refine X.drew ?_))) _)) (hI.mono (X.fr (by (repeat (first | exact X.refl _ | assumption | refine X.ext ?_ _ | refine X.alloc ?_ _ | refine X.drew ?_))) _)) hpc (by omega) (by omega)).mono ?_; rintro _ w4 ⟨v4, rfl, ⟨ra4, rc4, rfl, hown4⟩, hx4⟩; rw [Hr.out] at hown4 ⊢; replace hx4 := X.trans (a := W3) (by (repeat (first | exact X.refl _ | assumption | refine X.ext ?_ _ | refine X.alloc ?_ _ | refine X.drew ?_))) hx4; obtain ⟨z, rfl⟩ := hx4)
          | (go_at_call 13; refine (equalSpec_same r ra ra4 rc rc4 _ _ _ (hRI.mono (X.fr (by (repeat (first | exact X.refl _ | assumption | refine X.ext ?_ _ | refine X.alloc ?_ _ | refine X.drew ?_))) _)) ((SpecAt.ints hown4 (by have := hI.1; omega)).mono (X.fr (by (repeat (first | exact X.refl _ | assumption | refine X.ext ?_ _ | refine X.alloc ?_ _ | refine X.drew ?_))) _))).mono ?_; rintro _ w5 ⟨rfl, hx5⟩; replace hx5 := X.trans (a := W3) (by (repeat (first | exact X.refl _ | assumption | refine X.ext ?_ _ | refine X.alloc ?_ _ | refine X.drew ?_))) hx5; obtain ⟨z5, rfl⟩ := hx5)))
      have Hk := Lib.hid (hlaw.out (by simpa using hk))
      go_wp2_with fail
      clear hk
      go_loopw [8, 9] (fun v i wr => ∃ (k : Nat) (a' : Option Addr) (c' : Nat), k ≤ pn ∧ i = .int .i64 k ∧ v = .slice a' ((path.take k).filter (fun x => hasB l x (childOf p s))).length c' ∧
          wr.ownsRow W3.heap.size 3 1 (.slice a' ((path.take k).filter (fun x => hasB l x (childOf p s))).length c') ((path.take k).filter (fun x => hasB l x (childOf p s))).length (ints ((path.take k).filter (fun x => hasB l x (childOf p s)))) ∧ X W3 wr) (fun _ i _ => pn - (intOf i).toNat)
      case atStart => exact ⟨0, _, _, by omega, rfl, rfl, own_lit (cs := #[]) rfl (X.size (by (repeat (first | exact X.refl _ | assumption | refine X.ext ?_ _ | refine X.alloc ?_ _ | refine X.drew ?_)))) rfl (by simp), by (repeat (first | exact X.refl _ | assumption | refine X.ext ?_ _ | refine X.alloc ?_ _ | refine X.drew ?_))⟩
      case round =>
        obtain ⟨k, a', c', hk, rfl, rfl, hrow, hX⟩ := hrel
        obtain ⟨x, rfl⟩ := hX
        by_cases hlt : k < pn
        · obtain ⟨b, off, rfl, _, hb, hcp⟩ := hI.at_ hlt
          have hI1 := ints_one hI hlt hcp
          have hg := Hk.out.2.2 k (by rw [← hI.1]; exact hlt)
          have hkl : k < path.length := by rw [← hI.1]; exact hlt
          have Hnext := Lib.hid (@filter_next path (fun x => hasB l x (childOf p s)) k hkl)
          have hfl : ((path.take k).filter (fun x => hasB l x (childOf p s))).length ≤ 3 := by
            have h1 := List.length_filter_le (fun x => hasB l x (childOf p s)) (path.take k)
            rw [List.length_take] at h1
            omega
          go_wp2
          refine wp_region_grow0 (by kernel_rfl) (by kernel_rfl) ?_
          repeat (go_big_quiet_step (((first | (go_at_call 16; refine grow_of (ChildOf_c p s _ (by omega) (by omega) (hG.mono (by (repeat (first | exact X.refl _ | assumption | refine X.ext ?_ _ | refine X.alloc ?_ _ | refine X.drew ?_)))))) | (go_at_call 15; refine grow_of (HasDir_v l a n c _ _ _ _ (hF.mono (X.fr (by (repeat (first | exact X.refl _ | assumption | refine X.ext ?_ _ | refine X.alloc ?_ _ | refine X.drew ?_))) _)) hnc hcl (hG.mono (by (repeat (first | exact X.refl _ | assumption | refine X.ext ?_ _ | refine X.alloc ?_ _ | refine X.drew ?_))))))))))
          refine wpQuiet_nil ?_
          rintro _ ⟨y, rfl⟩
          replace hrow := own_fr hrow (((X.refl _).ext y).fr _)
          obtain ⟨z, hz⟩ := ((X.refl _).ext y).of_ext
          rw [hz] at hrow ⊢
          clear hz y
          go_wp2_with (at_builtin; refine wpList_append_lit int_T rfl _ _ rfl hrow rfl rfl rfl ?_ ?_ ?_ ?_)
          · simp [Value.oneCell']
          · omega
          · omega
          · intro a2 c2 z2 hrow2
            have hd : hasB l (nth path k) (childOf p s) = true := by assumption
            have hq := Hnext.out
            simp only [hd, if_true] at hq
            have Hq := Lib.hid hq
            clear hq
            go_wp2_with fail
            have hcap : 1 ≤ pc - k := by omega
            have hpk : ¬ pc = k := by omega
            have hpl : p.length ≤ 1048576 := by omega
            have hsl : s.length ≤ 1048576 := by omega
            have q5 : k + 1 - k = 1 := by omega
            have q1 : IntKind.i64.wrap ((k : Int) + 1) = (k : Int) + 1 := IntWalk.i64_in _ (by omega)
            have q2 : (0 : Int) ≤ (k : Int) + 1 := by omega
            have q3 : ((k : Int) + 1).toNat = k + 1 := by omega
            have q4 : (k : Int) + 1 ≤ (pc : Int) := by omega
            have hrowN := hrow2
            go_region_held3 (fun w' => w'.cell? ⟨W1.heap.size, 0, none⟩ = some (.slice a n c)) (first | exact (X.cell (w := W3) (by (repeat (first | exact X.refl _ | assumption | refine X.setCell ?_ (by simp [World.size_ext]) _ | refine X.ext ?_ _ | refine X.alloc ?_ _ | refine X.drew ?_))) (p := ⟨W1.heap.size, 0, none⟩) hlt1).trans d1 | exact (by assumption) | go_keep)
              ((go_at_call 12; (try rw [if_neg hpk]); refine (FindIn_i l a n c _ [nth path k] _ _ _ _ p s _ (hF.mono (X.fr (by (repeat (first | exact X.refl _ | assumption | refine X.ext ?_ _ | refine X.alloc ?_ _ | refine X.drew ?_))) _)) hnc (hI1.mono (X.fr (by (repeat (first | exact X.refl _ | assumption | refine X.ext ?_ _ | refine X.alloc ?_ _ | refine X.drew ?_))) _)) hcap hpl hsl (hG.mono (by (repeat (first | exact X.refl _ | assumption | refine X.ext ?_ _ | refine X.alloc ?_ _ | refine X.drew ?_))))).mono ?_; rintro _ w6 ⟨v6, rfl, ⟨ra6, rc6, rfl, hown6⟩, hx6⟩; have hrow6 := own_fr hrowN (X.fr (X.trans (by (repeat (first | exact X.refl _ | assumption | refine X.ext ?_ _ | refine X.alloc ?_ _ | refine X.drew ?_))) hx6) _); (first | (have hTn := at_x (o := (.cells #[.int .i64 0, .int .i64 0, .slice none 0 0] 30)) (heap_alloc_new _ _) hx6; obtain ⟨hbn, hcn, hfn⟩ := Bx.out ⟨_, hTn⟩; have n0 := hcn 0; have n1 := hcn 1; have n2 := hcn 2) | skip); replace hx6 := X.trans (a := W3) (by (repeat (first | exact X.refl _ | assumption | refine X.ext ?_ _ | refine X.alloc ?_ _ | refine X.drew ?_))) hx6; have d6 := (hx6.cell (p := ⟨W1.heap.size, 0, none⟩) hlt1).trans d1))
            · go_wp2
              go_roundw
              case rel => exact ⟨k + 1, a2, c2, by omega, by go_num, by rw [Hq.out, List.length_append, List.length_singleton], by rw [Hq.out, List.length_append, List.length_singleton, ints_snoc]; exact own_fr hrow6 (X.fr (by (repeat (first | exact X.refl _ | assumption | refine X.ext ?_ _ | refine X.alloc ?_ _ | refine X.drew ?_))) _), by (repeat (first | exact X.refl _ | assumption | refine X.setCell ?_ (by simp [World.size_ext]) _ | refine X.ext ?_ _ | refine X.alloc ?_ _ | refine X.drew ?_))⟩
              case measure => simp [intOf]; omega
            · go_wp2
              go_roundw
              case rel => exact ⟨k + 1, a2, c2, by omega, by go_num, by rw [Hq.out, List.length_append, List.length_singleton], by rw [Hq.out, List.length_append, List.length_singleton, ints_snoc]; exact own_set3 hrow6 hTn (by decide) _ _ _, by (repeat (first | exact X.refl _ | assumption | refine X.setCell ?_ (by simp [World.size_ext]) _ | refine X.ext ?_ _ | refine X.alloc ?_ _ | refine X.drew ?_))⟩
              case measure => simp [intOf]; omega
          · have hd : hasB l (nth path k) (childOf p s) = false := by assumption
            have hq := Hnext.out
            simp only [hd, Bool.false_eq_true, if_false] at hq
            have Hq := Lib.hid hq
            clear hq
            have hcap : 1 ≤ pc - k := by omega
            have hpk : ¬ pc = k := by omega
            have hpl : p.length ≤ 1048576 := by omega
            have hsl : s.length ≤ 1048576 := by omega
            have q5 : k + 1 - k = 1 := by omega
            have q1 : IntKind.i64.wrap ((k : Int) + 1) = (k : Int) + 1 := IntWalk.i64_in _ (by omega)
            have q2 : (0 : Int) ≤ (k : Int) + 1 := by omega
            have q3 : ((k : Int) + 1).toNat = k + 1 := by omega
            have q4 : (k : Int) + 1 ≤ (pc : Int) := by omega
            have hrowN := hrow
            go_region_held3 (fun w' => w'.cell? ⟨W1.heap.size, 0, none⟩ = some (.slice a n c)) (first | exact (X.cell (w := W3) (by (repeat (first | exact X.refl _ | assumption | refine X.setCell ?_ (by simp [World.size_ext]) _ | refine X.ext ?_ _ | refine X.alloc ?_ _ | refine X.drew ?_))) (p := ⟨W1.heap.size, 0, none⟩) hlt1).trans d1 | exact (by assumption) | go_keep)
              ((go_at_call 12; (try rw [if_neg hpk]); refine (FindIn_i l a n c _ [nth path k] _ _ _ _ p s _ (hF.mono (X.fr (by (repeat (first | exact X.refl _ | assumption | refine X.ext ?_ _ | refine X.alloc ?_ _ | refine X.drew ?_))) _)) hnc (hI1.mono (X.fr (by (repeat (first | exact X.refl _ | assumption | refine X.ext ?_ _ | refine X.alloc ?_ _ | refine X.drew ?_))) _)) hcap hpl hsl (hG.mono (by (repeat (first | exact X.refl _ | assumption | refine X.ext ?_ _ | refine X.alloc ?_ _ | refine X.drew ?_))))).mono ?_; rintro _ w6 ⟨v6, rfl, ⟨ra6, rc6, rfl, hown6⟩, hx6⟩; have hrow6 := own_fr hrowN (X.fr (X.trans (by (repeat (first | exact X.refl _ | assumption | refine X.ext ?_ _ | refine X.alloc ?_ _ | refine X.drew ?_))) hx6) _); (first | (have hTn := at_x (o := (.cells #[.int .i64 0, .int .i64 0, .slice none 0 0] 30)) (heap_alloc_new _ _) hx6; obtain ⟨hbn, hcn, hfn⟩ := Bx.out ⟨_, hTn⟩; have n0 := hcn 0; have n1 := hcn 1; have n2 := hcn 2) | skip); replace hx6 := X.trans (a := W3) (by (repeat (first | exact X.refl _ | assumption | refine X.ext ?_ _ | refine X.alloc ?_ _ | refine X.drew ?_))) hx6; have d6 := (hx6.cell (p := ⟨W1.heap.size, 0, none⟩) hlt1).trans d1))
            · go_wp2
              go_roundw
              case rel => exact ⟨k + 1, a', c', by omega, by go_num, by rw [Hq.out], by rw [Hq.out]; exact own_fr hrow6 (X.fr (by (repeat (first | exact X.refl _ | assumption | refine X.ext ?_ _ | refine X.alloc ?_ _ | refine X.drew ?_))) _), by (repeat (first | exact X.refl _ | assumption | refine X.setCell ?_ (by simp [World.size_ext]) _ | refine X.ext ?_ _ | refine X.alloc ?_ _ | refine X.drew ?_))⟩
              case measure => simp [intOf]; omega
            · go_wp2
              go_roundw
              case rel => exact ⟨k + 1, a', c', by omega, by go_num, by rw [Hq.out], by rw [Hq.out]; exact own_set3 hrow6 hTn (by decide) _ _ _, by (repeat (first | exact X.refl _ | assumption | refine X.setCell ?_ (by simp [World.size_ext]) _ | refine X.ext ?_ _ | refine X.alloc ?_ _ | refine X.drew ?_))⟩
              case measure => simp [intOf]; omega
        · obtain rfl : k = pn := by omega
          have hrs : r.roots = (path.take k).filter (fun x => hasB l x (childOf p s)) := by rw [Hk.out.2.1, hI.1, List.take_length]
          have hfl : ((path.take k).filter (fun x => hasB l x (childOf p s))).length ≤ 2097152 := by
            rw [← hrs]; have := hI.1; omega
          have hde : decide (r.roots = (path.take k).filter (fun x => hasB l x (childOf p s))) = true := by rw [decide_eq_true_iff]; exact hrs
          have Hde := Lib.hid hde
          clear hrs hde
          go_wp2_with (go_at_call 17; refine (equalInts_c _ _ _ _ _ _ _ _ _ _ _ (hRI.mono (X.fr (by (repeat (first | exact X.refl _ | assumption | refine X.ext ?_ _ | refine X.alloc ?_ _ | refine X.drew ?_))) _)) (SpecAt.ints hrow hfl)).mono ?_; rintro _ w9 ⟨rfl, hx9⟩; obtain ⟨x9, rfl⟩ := hx9.of_ext; rw [Hde.out])
          go_ret
          exact ⟨by simp [Hk.out.1], by (repeat (first | exact X.refl _ | assumption | refine X.ext ?_ _ | refine X.alloc ?_ _ | refine X.drew ?_))⟩
    · go_region_held3 (fun w' => w'.cell? ⟨W1.heap.size, 0, none⟩ = some (.slice a n c) ∧ w'.cell? ⟨W2.heap.size, 0, none⟩ = some (.int .i64 r.kind) ∧ w'.cell? ⟨W2.heap.size, 1, none⟩ = some (.int .i64 r.file) ∧ w'.cell? ⟨W2.heap.size, 2, none⟩ = some (.slice ra r.roots.length rc)) (first | exact ⟨(World.cell?_ext _ _ _ _ hlt1).trans d1, (World.cell?_ext _ _ _ _ hlt2).trans d2, (World.cell?_ext _ _ _ _ hlt2).trans d3, (World.cell?_ext _ _ _ _ hlt2).trans d4⟩ | go_keep)
        ((first
          | (go_at_call 14; refine (FindIn_c l a n c _ path pa pn pc _ p s _ (hF.mono (X.fr (by (repeat (first | exact X.refl _ | assumption | refine X.ext ?_ _ | refine X.alloc ?_ _ | refine X.drew ?_))) _)) (hI.mono (X.fr (by (repeat (first | exact X.refl _ | assumption | refine X.ext ?_ _ | refine X.alloc ?_ _ | refine X.drew ?_))) _)) hpc (by omega) (by omega)).mono ?_; rintro _ w4 ⟨v4, rfl, ⟨ra4, rc4, rfl, hown4⟩, hx4⟩; rw [Hr.out] at hown4 ⊢; replace hx4 := X.trans (a := W3) (by (repeat (first | exact X.refl _ | assumption | refine X.ext ?_ _ | refine X.alloc ?_ _ | refine X.drew ?_))) hx4; obtain ⟨z, rfl⟩ := hx4)
          | (go_at_call 13; refine (equalSpec_same r ra ra4 rc rc4 _ _ _ (hRI.mono (X.fr (by (repeat (first | exact X.refl _ | assumption | refine X.ext ?_ _ | refine X.alloc ?_ _ | refine X.drew ?_))) _)) ((SpecAt.ints hown4 (by have := hI.1; omega)).mono (X.fr (by (repeat (first | exact X.refl _ | assumption | refine X.ext ?_ _ | refine X.alloc ?_ _ | refine X.drew ?_))) _))).mono ?_; rintro _ w5 ⟨rfl, hx5⟩; replace hx5 := X.trans (a := W3) (by (repeat (first | exact X.refl _ | assumption | refine X.ext ?_ _ | refine X.alloc ?_ _ | refine X.drew ?_))) hx5; obtain ⟨z5, rfl⟩ := hx5)))
      clear hown4
      go_wp2_with fail
      go_region_held3 (fun w' => w'.cell? ⟨W1.heap.size, 0, none⟩ = some (.slice a n c) ∧ w'.cell? ⟨W2.heap.size, 0, none⟩ = some (.int .i64 r.kind) ∧ w'.cell? ⟨W2.heap.size, 1, none⟩ = some (.int .i64 r.file) ∧ w'.cell? ⟨W2.heap.size, 2, none⟩ = some (.slice ra r.roots.length rc)) (first | exact ⟨(World.cell?_ext _ _ _ _ hlt1).trans d1, (World.cell?_ext _ _ _ _ hlt2).trans d2, (World.cell?_ext _ _ _ _ hlt2).trans d3, (World.cell?_ext _ _ _ _ hlt2).trans d4⟩ | go_keep)
        ((first
          | (go_at_call 14; refine (FindIn_c l a n c _ path pa pn pc _ p s _ (hF.mono (X.fr (by (repeat (first | exact X.refl _ | assumption | refine X.ext ?_ _ | refine X.alloc ?_ _ | refine X.drew ?_))) _)) (hI.mono (X.fr (by (repeat (first | exact X.refl _ | assumption | refine X.ext ?_ _ | refine X.alloc ?_ _ | refine X.drew ?_))) _)) hpc (by omega) (by omega)).mono ?_; rintro _ w4 ⟨v4, rfl, ⟨ra4, rc4, rfl, hown4⟩, hx4⟩; rw [Hr.out] at hown4 ⊢; replace hx4 := X.trans (a := W3) (by (repeat (first | exact X.refl _ | assumption | refine X.ext ?_ _ | refine X.alloc ?_ _ | refine X.drew ?_))) hx4; obtain ⟨z, rfl⟩ := hx4)
          | (go_at_call 13; refine (equalSpec_same r ra ra4 rc rc4 _ _ _ (hRI.mono (X.fr (by (repeat (first | exact X.refl _ | assumption | refine X.ext ?_ _ | refine X.alloc ?_ _ | refine X.drew ?_))) _)) ((SpecAt.ints hown4 (by have := hI.1; omega)).mono (X.fr (by (repeat (first | exact X.refl _ | assumption | refine X.ext ?_ _ | refine X.alloc ?_ _ | refine X.drew ?_))) _))).mono ?_; rintro _ w5 ⟨rfl, hx5⟩; replace hx5 := X.trans (a := W3) (by (repeat (first | exact X.refl _ | assumption | refine X.ext ?_ _ | refine X.alloc ?_ _ | refine X.drew ?_))) hx5; obtain ⟨z5, rfl⟩ := hx5)))
      go_wp2
      go_ret
      exact ⟨by simp, by (repeat (first | exact X.refl _ | assumption | refine X.ext ?_ _ | refine X.alloc ?_ _ | refine X.drew ?_))⟩

end Go.Proofs.YtjklpfgjimbabaaDoor
