/- ListDir of the reference: the walks. No condition but lengths. -/
import Derived.Test.YtgjfjjhmgbemcaaDoorListS
import Derived.Test.YtgjfjjhmgbemcaaDoorRises
namespace Go.Proofs.YtgjfjjhmgbemcaaDoor
open Go.RowKit

theorem insAll_appL (l xs ys : List (List UInt8)) : insAll l (xs ++ ys) = insAll (insAll l xs) ys := by simp [insAll]
theorem insAll_listN {l : List Fi} {r : Int} {p : List UInt8} {k : Nat} (hk : k < l.length) : insAll [] (listN (l.take (k + 1)) r p) = insAll (insAll [] (listN (l.take k) r p)) (entL (nth l k) r p) := by
  rw [listN_next hk]
  exact insAll_appL _ _ _

set_option maxRecDepth 100000 in
set_option maxHeartbeats 2000000 in
theorem listing_o (l : List Fi) (a : Option Addr) (n c B : Nat) (r : Int) (p : List UInt8) (w : World) (hF : FilesAt w B a n l) (ht : treeB l = true) (hp : pkgB p = true) :
    Calls Tryd.prog 114 #[.agg #[.slice a n c], .int .i64 r, .string ⟨(p).toArray⟩] w fun e w' => ∃ ra rc, e = .returned (.slice ra (sortU (listN l r p)).length rc) ∧ w'.ownsRow w.heap.size 9 1 (.slice ra (sortU (listN l r p)).length rc) (sortU (listN l r p)).length (strs (sortU (listN l r p))) ∧ (sortU (listN l r p)).length ≤ 12 ∧ (∀ x ∈ sortU (listN l r p), x.length ≤ 4194304) ∧ X w w' := by
  obtain ⟨hl, _⟩ := hF.len
  have hn12 : n ≤ 12 := by rw [hl]; exact treeB_12 ht
  have hpl := pkg12 hp
  have Hl := Lib.hid hl
  clear hl
  obtain ⟨V, hV⟩ : ∃ V, sortU (listN l r p) = V := ⟨_, rfl⟩
  have hVs : ∀ x ∈ V, x.length ≤ 4194304 := fun x hx => by
    rw [← hV, (sortU_facts _).2] at hx
    have := listN_short ht x hx
    omega
  have hVl : V.length ≤ 12 := by
    have h1 := sortU_len (listN l r p)
    have h2 := @listN_len l r p
    have := Hl.out
    rw [← hV]
    omega
  rw [hV]
  have HV := Lib.hid hV
  clear hV
  go_enter Tryd.func114, Tryd.ntmps114
  go_wp2
  refine wp_name (fun W hW => ?_)
  have hB0 : Bx W w.heap.size #[.slice a n c] := by rw [hW]; exact Bx.x (Bx.new _ _ _) (by (repeat (first | with_reducible exact X.refl _ | with_reducible assumption | with_reducible refine X.setCell ?_ (by first | (simp; done) | (simp; omega)) _ | with_reducible refine X.ext ?_ _ | with_reducible refine X.alloc ?_ _ | with_reducible refine X.drew ?_)))
  have hX0 : X w W := by rw [hW]; (repeat (first | with_reducible exact X.refl _ | with_reducible assumption | with_reducible refine X.setCell ?_ (by first | (simp; done) | (simp; omega)) _ | with_reducible refine X.ext ?_ _ | with_reducible refine X.alloc ?_ _ | with_reducible refine X.drew ?_))
  have hrow0 : W.ownsRow (w.heap.size + 1) 9 1 (.slice (some ⟨w.heap.size + 1, 0, none⟩) 0 0) 0 [] := by rw [hW]; exact own_lit (n := 0) (size := 1) (by simp) (by simp) rfl (by omega)
  clear hW
  go_loopw [7, 8] (fun v i wr => ∃ (k g rc : Nat), k ≤ n ∧ i = .int .i64 k ∧ v = .slice (some ⟨g, 0, none⟩) (insAll [] (listN (l.take k) r p)).length rc ∧ wr.ownsRow (w.heap.size + 1) 9 1 (.slice (some ⟨g, 0, none⟩) (insAll [] (listN (l.take k) r p)).length rc) (insAll [] (listN (l.take k) r p)).length (strs (insAll [] (listN (l.take k) r p))) ∧ X w wr ∧ Bx wr w.heap.size #[.slice a n c]) (fun _ i _ => n - (intOf i).toNat)
  case atStart => exact ⟨0, w.heap.size + 1, 0, Nat.zero_le _, rfl, rfl, hrow0, hX0, hB0⟩
  case round =>
    obtain ⟨k, g, rc, hk, rfl, rfl, hrow, hX, hBr⟩ := hrel
    clear hB0 hrow0 hX0
    have t0 := bxC hBr
    have lt0 := hBr.lt
    by_cases hlt : k < n
    · obtain ⟨b, off, ba, bn, bc, rfl, _, hb, hok, hbc, hSb, g0, g1, g2, g3, g4, g5⟩ := (hF.mono (hX.fr _)).at_ hlt
      have hfb := treeB_file ht (k := k) (by rw [← Hl.out]; exact hlt)
      have Htk := Lib.hid (@insAll_listN l r p k (by rw [← Hl.out]; exact hlt))
      have hpk : (nth l k).pkg.length ≤ 12 := pkg12 (fileB_pkgB hfb)
      have hpkB := fileB_pkgB hfb
      have hnm : (nth l k).init = false → (nth l k).name.isEmpty = false := fun hi => by
        unfold fileB at hfb
        rw [hi] at hfb
        simp only [Bool.false_eq_true, if_false, Bool.and_eq_true] at hfb
        have := (partB_len hfb.2.1).1
        cases hq : (nth l k).name with
        | nil => rw [hq] at this; simp at this
        | cons _ _ => rfl
      have hll : (insAll [] (listN (l.take k) r p)).length ≤ 12 := by
        have h1 := @listN_len (l.take k) r p
        have h2 := @insAll_len (listN (l.take k) r p)
        rw [List.length_take] at h1
        omega
      have hsh : ∀ x ∈ insAll [] (listN (l.take k) r p), x.length ≤ 4194304 := fun x hx => by
        rw [mem_insAll] at hx
        rcases hx with hx | hx
        · cases hx
        · obtain ⟨f, hf, hx⟩ := List.mem_flatMap.1 hx
          have := entL_short (treeB_mem ht (List.mem_of_mem_take hf)) hx
          omega
      obtain ⟨A, hA⟩ : ∃ A, insAll [] (listN (l.take k) r p) = A := ⟨_, rfl⟩
      rw [hA] at hrow hll hsh Htk ⊢
      clear hA
      generalize nth l k = f at *
      have hsz := hX.size
      have hgl := hrow.lt g rfl
      cases c1 : f.root == r
      · have he : entL f r p = [] := by rw [entL, c1]; rfl
        have c1' : ¬ f.root = r := by simpa using c1
        go_wp2
        go_roundw
        case rel => exact ⟨k + 1, g, rc, by omega, by go_num, by rw [Htk.out, he]; rfl, by rw [Htk.out, he]; exact own_fr hrow (X.fr (by (repeat (first | with_reducible exact X.refl _ | with_reducible assumption | with_reducible refine X.setCell ?_ (by first | (simp; done) | (simp; omega)) _ | with_reducible refine X.ext ?_ _ | with_reducible refine X.alloc ?_ _ | with_reducible refine X.drew ?_))) _), hX.trans (by (repeat (first | with_reducible exact X.refl _ | with_reducible assumption | with_reducible refine X.setCell ?_ (by first | (simp; done) | (simp; omega)) _ | with_reducible refine X.ext ?_ _ | with_reducible refine X.alloc ?_ _ | with_reducible refine X.drew ?_))), hBr.x (by (repeat (first | with_reducible exact X.refl _ | with_reducible assumption | with_reducible refine X.setCell ?_ (by first | (simp; done) | (simp; omega)) _ | with_reducible refine X.ext ?_ _ | with_reducible refine X.alloc ?_ _ | with_reducible refine X.drew ?_)))⟩
        case measure => simp [intOf]; omega
      have c1' : f.root = r := by simpa using c1
      cases c2 : f.pkg == p
      case true =>
        have c2' : f.pkg = p := by simpa using c2
        have he : entL f r p = [if f.init then [42] else f.name] := by rw [entL, c1, c2]; rfl
        cases c3 : f.init
        · rw [c3] at he
          have hne := hnm c3
          clear hnm
          go_wp2_with fail
          refine calls_name (fun W4 hW4 => ?_)
          have hX4 : X wr W4 := by rw [hW4]; (repeat (first | with_reducible exact X.refl _ | with_reducible assumption | with_reducible refine X.setCell ?_ (by first | (simp; done) | (simp; omega)) _ | with_reducible refine X.ext ?_ _ | with_reducible refine X.alloc ?_ _ | with_reducible refine X.drew ?_))
          clear hW4
          have hs4 := hX4.size
          refine (insertText_c A g _ rc _ (f.name) W4 (own_fr hrow (hX4.fr _)) (by omega) hsh (by omega)).mono ?_
          rintro _ w6 ⟨g6, rc6, rfl, hO6, hg6, _⟩
          go_wp2
          go_roundw
          case rel => exact ⟨k + 1, g6, rc6, by omega, by go_num, by rw [Htk.out, he]; rfl, by rw [Htk.out, he]; exact hO6, x_own (v := .slice (some ⟨g, 0, none⟩) A.length rc) (hX.trans hX4) (own_fr hrow (hX4.fr _)) (by omega) hg6, (hBr.x hX4).grown hg6 (fun q e => by injection e with e; omega)⟩
          case measure => simp [intOf]; omega
        · rw [c3] at he
          clear hnm
          go_wp2_with fail
          refine calls_name (fun W4 hW4 => ?_)
          have hX4 : X wr W4 := by rw [hW4]; (repeat (first | with_reducible exact X.refl _ | with_reducible assumption | with_reducible refine X.setCell ?_ (by first | (simp; done) | (simp; omega)) _ | with_reducible refine X.ext ?_ _ | with_reducible refine X.alloc ?_ _ | with_reducible refine X.drew ?_))
          clear hW4
          have hs4 := hX4.size
          refine (insertText_c A g _ rc _ ([42]) W4 (own_fr hrow (hX4.fr _)) (by omega) hsh (by omega)).mono ?_
          rintro _ w6 ⟨g6, rc6, rfl, hO6, hg6, _⟩
          go_wp2
          go_roundw
          case rel => exact ⟨k + 1, g6, rc6, by omega, by go_num, by rw [Htk.out, he]; rfl, by rw [Htk.out, he]; exact hO6, x_own (v := .slice (some ⟨g, 0, none⟩) A.length rc) (hX.trans hX4) (own_fr hrow (hX4.fr _)) (by omega) hg6, (hBr.x hX4).grown hg6 (fun q e => by injection e with e; omega)⟩
          case measure => simp [intOf]; omega
      case false =>
        have c2' : ¬ f.pkg = p := by simpa using c2
        clear hnm
        cases hpe : f.pkg.isEmpty
        case true =>
          have he : entL f r p = [] := by
            rw [entL, c1, c2, isUnder]
            cases hq : f.pkg with
            | nil => rfl
            | cons _ _ => rw [hq] at hpe; cases hpe
          go_wp2
          go_roundw
          case rel => exact ⟨k + 1, g, rc, by omega, by go_num, by rw [Htk.out, he]; rfl, by rw [Htk.out, he]; exact own_fr hrow (X.fr (by (repeat (first | with_reducible exact X.refl _ | with_reducible assumption | with_reducible refine X.setCell ?_ (by first | (simp; done) | (simp; omega)) _ | with_reducible refine X.ext ?_ _ | with_reducible refine X.alloc ?_ _ | with_reducible refine X.drew ?_))) _), hX.trans (by (repeat (first | with_reducible exact X.refl _ | with_reducible assumption | with_reducible refine X.setCell ?_ (by first | (simp; done) | (simp; omega)) _ | with_reducible refine X.ext ?_ _ | with_reducible refine X.alloc ?_ _ | with_reducible refine X.drew ?_))), hBr.x (by (repeat (first | with_reducible exact X.refl _ | with_reducible assumption | with_reducible refine X.setCell ?_ (by first | (simp; done) | (simp; omega)) _ | with_reducible refine X.ext ?_ _ | with_reducible refine X.alloc ?_ _ | with_reducible refine X.drew ?_)))⟩
          case measure => simp [intOf]; omega
        case false =>
          have hnb : nameB f.pkg = true := pkgB_name hpkB (by intro e; rw [e] at hpe; cases hpe)
          go_wp2_with fail
          refine calls_name (fun W4 hW4 => ?_)
          have hB4 : Bx W4 wr.heap.size #[.int .i64 f.root, .string ⟨(f.pkg).toArray⟩, .string ⟨(f.name).toArray⟩, .bool f.init, .int .i64 f.stamp, .slice ba bn bc] := by rw [hW4, c1']; exact Bx.new _ _ _
          have hX4 : X wr W4 := by rw [hW4]; (repeat (first | with_reducible exact X.refl _ | with_reducible assumption | with_reducible refine X.setCell ?_ (by first | (simp; done) | (simp; omega)) _ | with_reducible refine X.ext ?_ _ | with_reducible refine X.alloc ?_ _ | with_reducible refine X.drew ?_))
          clear hW4 g0 g1 g2 g3 g4 g5
          refine (under_c f.pkg p W4 (by omega)).mono ?_
          rintro _ _ ⟨rfl, rfl⟩
          obtain ⟨ltf, cf, _⟩ := hB4.out
          have f1 := cf 1
          have hs4 := hX4.size
          have hrow4 := own_fr hrow (hX4.fr _)
          have hBr4 := hBr.x hX4
          clear cf hB4 hrow hBr t0 lt0
          cases hu : underB f.pkg p
          · have he : entL f r p = [] := by rw [entL, c1, c2, isUnder, hu]; simp
            go_wp2
            go_roundw
            case rel => exact ⟨k + 1, g, rc, by omega, by go_num, by rw [Htk.out, he]; rfl, by rw [Htk.out, he]; exact hrow4, hX.trans hX4, hBr4⟩
            case measure => simp [intOf]; omega
          · have he : entL f r p = [firstB f.pkg p ++ [47]] := by rw [entL, c1, c2, isUnder, hnb, hp, hu]; rfl
            have hul : p = [] ∨ p.length + 1 ≤ f.pkg.length := by
              by_cases h0 : p = []
              · exact .inl h0
              · exact .inr (under_len hu h0 c2')
            have hq := @firstB_len f.pkg p
            obtain ⟨q, hqe⟩ : ∃ q, firstB f.pkg p = q := ⟨_, rfl⟩
            rw [hqe] at he hq
            have hq2 : (!(q ++ [47]).isEmpty) = true := by simp
            have hfb := firstBelow_c f.pkg p W4 hpk hul
            rw [hqe] at hfb
            clear hqe hul
            go_wp2_with fail
            refine hfb.mono ?_
            clear hfb
            rintro _ w5 ⟨rfl, hx5⟩
            have hrow5 := own_fr hrow4 (hx5.fr _)
            have hBr5 := hBr4.x hx5
            have hX5 := hX.trans (hX4.trans hx5)
            have hs5 := hx5.size
            clear hrow4 hBr4 hX4 hx5 f1 ltf
            go_wp2_with fail
            refine (insertText_c A g _ rc _ (q ++ [47]) w5 hrow5 (by omega) hsh (by omega)).mono ?_
            rintro _ w6 ⟨g6, rc6, rfl, hO6, hg6, _⟩
            go_wp2
            go_roundw
            case rel => exact ⟨k + 1, g6, rc6, by omega, by go_num, by rw [Htk.out, he]; rfl, by rw [Htk.out, he]; exact hO6, x_own (v := .slice (some ⟨g, 0, none⟩) A.length rc) hX5 hrow5 (by omega) hg6, hBr5.grown hg6 (fun q e => by injection e with e; omega)⟩
            case measure => simp [intOf]; omega
    · obtain rfl : k = n := by omega
      have hv : insAll [] (listN l r p) = V := by rw [insAll_sortU]; exact HV.out
      rw [Hl.out, List.take_length, hv] at hrow
      go_wp2
      go_ret
      rw [Hl.out, List.take_length, hv]
      exact ⟨_, _, rfl, own_less hrow (by omega), hVl, hVs, hX⟩
theorem listing_s (l : List Fi) (a : Option Addr) (n c B : Nat) (r : Int) (p : List UInt8) (w : World) (hF : FilesAt w B a n l) (ht : treeB l = true) (hp : pkgB p = true) :
    Calls Tryd.prog 114 #[.agg #[.slice a n c], .int .i64 r, .string ⟨(p).toArray⟩] w fun e w' => ∃ ra rc, e = .returned (.slice ra (sortU (listN l r p)).length rc) ∧ StrsAt w' w.heap.size ra (sortU (listN l r p)).length (sortU (listN l r p)) ∧ X w w' :=
  (listing_o l a n c B r p w hF ht hp).mono fun _ _ ⟨ra, rc, e, ho, h1, h2, hx⟩ => ⟨ra, rc, e, ⟨rfl, by omega, h2, Sl.of_own ho⟩, hx⟩

end Go.Proofs.YtgjfjjhmgbemcaaDoor
