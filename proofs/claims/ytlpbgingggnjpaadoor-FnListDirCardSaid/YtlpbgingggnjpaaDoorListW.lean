/- ListDir: the walks. No condition but lengths. -/
import Derived.Test.YtlpbgingggnjpaaDoorCutL
namespace Go.Proofs.YtlpbgingggnjpaaDoor
open Go.RowKit

theorem listN_next {l : List Fi} {r : Int} {p : List UInt8} {k : Nat} (hk : k < l.length) : listN (l.take (k + 1)) r p = listN (l.take k) r p ++ entL (nth l k) r p := by
  unfold listN
  rw [take_succ_nth hk, List.flatMap_append]
  simp
theorem entL_len (f : Fi) (r : Int) (p : List UInt8) : (entL f r p).length ≤ 1 := by
  unfold entL
  split
  · split
    · simp
    · split <;> simp
  · simp
theorem listN_len {l : List Fi} {r : Int} {p : List UInt8} : (listN l r p).length ≤ l.length := by
  induction l with
  | nil => simp [listN]
  | cons f l ih =>
    have := entL_len f r p
    unfold listN at ih ⊢
    rw [List.flatMap_cons, List.length_append, List.length_cons]
    omega
theorem listL_len {l : List Fi} {r : Int} {p : List UInt8} : (listL l r p).length ≤ 12 := by
  unfold listL
  split
  · rename_i h
    simp only [Bool.and_eq_true] at h
    have h1 := sortU_len (listN l r p)
    have h2 := treeB_12 h.1.1
    have h3 := @listN_len l r p
    omega
  · simp
theorem under_len {s p : List UInt8} (h : underB s p = true) (h0 : p ≠ []) (hne : s ≠ p) : p.length + 1 ≤ s.length := by
  rcases (underB_iff h0).1 h with e | ⟨u, e⟩
  · exact absurd e hne
  · rw [e]; simp

set_option maxRecDepth 100000 in
set_option maxHeartbeats 2000000 in
theorem listDir_i (l : List Fi) (a : Option Addr) (n c B : Nat) (r : Int) (p : List UInt8) (w : World) (hF : FilesAt w B a n l) (ht : treeB l = true) (hp : pkgB p = true) (hpl : p.length ≤ 12) (hG : Gm w) :
    Calls Tryd.prog 61 #[.agg #[.slice a n c], .int .i64 r, .string ⟨(p).toArray⟩] w fun e w' => ∃ ra rc, e = .returned (.slice ra (sortU (listN l r p)).length rc) ∧ w'.ownsRow w.heap.size 9 1 (.slice ra (sortU (listN l r p)).length rc) (sortU (listN l r p)).length (strs (sortU (listN l r p))) ∧ X w w' := by
  obtain ⟨hl, _⟩ := hF.len
  have hn12 : n ≤ 12 := by rw [hl]; exact treeB_12 ht
  have Hl := Lib.hid hl
  clear hl
  obtain ⟨V, hV⟩ : ∃ V, sortU (listN l r p) = V := ⟨_, rfl⟩
  rw [hV]
  have HV := Lib.hid hV
  clear hV
  go_enter Tryd.func61, Tryd.ntmps61
  go_wp2
  go_loopw [7, 18] (fun v i wr => ∃ (k : Nat) (ra : Option Addr) (rc : Nat), k ≤ n ∧ i = .int .i64 k ∧ v = .slice ra (listN (l.take k) r p).length rc ∧ wr.ownsRow (w.heap.size + 1) 9 1 (.slice ra (listN (l.take k) r p).length rc) (listN (l.take k) r p).length (strs (listN (l.take k) r p)) ∧ X w wr ∧ w.heap.size + 1 ≤ wr.heap.size) (fun _ i _ => n - (intOf i).toNat)
  case atStart => exact ⟨0, _, _, Nat.zero_le _, rfl, rfl, own_lit (n := 0) (size := 1) (by simp) (by simp) rfl (by omega), by (repeat (first | with_reducible exact X.refl _ | with_reducible assumption | with_reducible refine X.setCell ?_ (by first | (simp; done) | (simp; omega)) _ | with_reducible refine X.ext ?_ _ | with_reducible refine X.alloc ?_ _ | with_reducible refine X.drew ?_)), by simp⟩
  case round =>
    obtain ⟨k, ra, rc, hk, rfl, rfl, hrow, hX, hsz⟩ := hrel
    by_cases hlt : k < n
    · obtain ⟨b, off, ba, bn, bc, rfl, _, hb, hok, hbc, hSb, g0, g1, g2, g3, g4, g5⟩ := (hF.mono (hX.fr _)).at_ hlt
      have hfb := treeB_file ht (k := k) (by rw [← Hl.out]; exact hlt)
      have htk := @listN_next l r p k (by rw [← Hl.out]; exact hlt)
      have hpk : (nth l k).pkg.length ≤ 12 := by
        have h1 := fileB_pkgB hfb
        cases h2 : (nth l k).pkg with
        | nil => simp
        | cons x y => rw [← h2]; exact nameB_len (pkgB_name h1 (by rw [h2]; simp))
      have hll : (listN (l.take k) r p).length ≤ 12 := by
        have h1 := @listN_len (l.take k) r p
        rw [List.length_take] at h1
        omega
      have Htk := Lib.hid htk
      clear htk
      obtain ⟨A, hA⟩ : ∃ A, listN (l.take k) r p = A := ⟨_, rfl⟩
      rw [hA] at hrow hll Htk ⊢
      clear hA
      generalize nth l k = f at *
      cases c1 : f.root == r
      · have he : entL f r p = [] := by rw [entL, c1]; rfl
        have c1' : ¬ f.root = r := by simpa using c1
        go_wp2
        go_roundw
        case rel => exact ⟨k + 1, ra, rc, by omega, by go_num, by rw [Htk.out, he, List.append_nil], by rw [Htk.out, he, List.append_nil]; exact own_fr hrow (X.fr (by (repeat (first | with_reducible exact X.refl _ | with_reducible assumption | with_reducible refine X.setCell ?_ (by first | (simp; done) | (simp; omega)) _ | with_reducible refine X.ext ?_ _ | with_reducible refine X.alloc ?_ _ | with_reducible refine X.drew ?_))) _), hX.trans (by (repeat (first | with_reducible exact X.refl _ | with_reducible assumption | with_reducible refine X.setCell ?_ (by first | (simp; done) | (simp; omega)) _ | with_reducible refine X.ext ?_ _ | with_reducible refine X.alloc ?_ _ | with_reducible refine X.drew ?_))), by simp; omega⟩
        case measure => simp [intOf]; omega
      have c1' : f.root = r := by simpa using c1
      cases c2 : f.pkg == p
      case true =>
        have c2' : f.pkg = p := by simpa using c2
        have he : entL f r p = [if f.init then [42] else f.name] := by rw [entL, c1, c2]; rfl
        cases c3 : f.init
        · rw [c3] at he
          go_wp2_with (at_builtin; refine wpList_append_g (g := wr.heap.size + 1) str_T rfl _ _ rfl (own_fr hrow (X.fr (by (repeat (first | with_reducible exact X.refl _ | with_reducible assumption | with_reducible refine X.setCell ?_ (by first | (simp; done) | (simp; omega)) _ | with_reducible refine X.ext ?_ _ | with_reducible refine X.alloc ?_ _ | with_reducible refine X.drew ?_))) _)) rfl rfl (by simp) rfl (by simp [Value.oneCell']) (by omega) (by omega) (by first | omega | (simp; omega)) ?_; intro a' c' w6 hO6 hg6; have hX6 : X w w6 := x_own (X.alloc (hX.trans (by (repeat (first | with_reducible exact X.refl _ | with_reducible assumption | with_reducible refine X.setCell ?_ (by first | (simp; done) | (simp; omega)) _ | with_reducible refine X.ext ?_ _ | with_reducible refine X.alloc ?_ _ | with_reducible refine X.drew ?_)))) _) ((own_fr hrow (X.fr (by (repeat (first | with_reducible exact X.refl _ | with_reducible assumption | with_reducible refine X.setCell ?_ (by first | (simp; done) | (simp; omega)) _ | with_reducible refine X.ext ?_ _ | with_reducible refine X.alloc ?_ _ | with_reducible refine X.drew ?_))) _)).alloc _) (by omega) hg6; have hs6 := hg6.size)
          go_roundw
          case rel => exact ⟨k + 1, a', c', by omega, by go_num, by rw [Htk.out, he, List.length_append]; rfl, by
            rw [Htk.out, he, List.length_append, strs_map, List.map_append]
            rw [strs_map] at hO6
            exact hO6, hX6, by simp at hs6; omega⟩
          case measure => simp [intOf]; omega
        · rw [c3] at he
          go_wp2_with (at_builtin; refine wpList_append_g (g := wr.heap.size + 1) str_T rfl _ _ rfl (own_fr hrow (X.fr (by (repeat (first | with_reducible exact X.refl _ | with_reducible assumption | with_reducible refine X.setCell ?_ (by first | (simp; done) | (simp; omega)) _ | with_reducible refine X.ext ?_ _ | with_reducible refine X.alloc ?_ _ | with_reducible refine X.drew ?_))) _)) rfl rfl (by simp) rfl (by simp [Value.oneCell']) (by omega) (by omega) (by first | omega | (simp; omega)) ?_; intro a' c' w6 hO6 hg6; have hX6 : X w w6 := x_own (X.alloc (hX.trans (by (repeat (first | with_reducible exact X.refl _ | with_reducible assumption | with_reducible refine X.setCell ?_ (by first | (simp; done) | (simp; omega)) _ | with_reducible refine X.ext ?_ _ | with_reducible refine X.alloc ?_ _ | with_reducible refine X.drew ?_)))) _) ((own_fr hrow (X.fr (by (repeat (first | with_reducible exact X.refl _ | with_reducible assumption | with_reducible refine X.setCell ?_ (by first | (simp; done) | (simp; omega)) _ | with_reducible refine X.ext ?_ _ | with_reducible refine X.alloc ?_ _ | with_reducible refine X.drew ?_))) _)).alloc _) (by omega) hg6; have hs6 := hg6.size)
          go_roundw
          case rel => exact ⟨k + 1, a', c', by omega, by go_num, by rw [Htk.out, he, List.length_append]; rfl, by
            rw [Htk.out, he, List.length_append, strs_map, List.map_append]
            rw [strs_map] at hO6
            exact hO6, hX6, by simp at hs6; omega⟩
          case measure => simp [intOf]; omega
      case false =>
        have c2' : ¬ f.pkg = p := by simpa using c2
        go_wp2_with fail
        refine calls_name (fun W4 hW4 => ?_)
        have hB4 : Bx W4 wr.heap.size #[.int .i64 f.root, .string ⟨(f.pkg).toArray⟩, .string ⟨(f.name).toArray⟩, .bool f.init, .int .i64 f.stamp, .slice ba bn bc] := by rw [hW4, c1']; exact Bx.new _ _ _
        have hX4 : X wr W4 := by rw [hW4]; (repeat (first | with_reducible exact X.refl _ | with_reducible assumption | with_reducible refine X.setCell ?_ (by first | (simp; done) | (simp; omega)) _ | with_reducible refine X.ext ?_ _ | with_reducible refine X.alloc ?_ _ | with_reducible refine X.drew ?_))
        clear hW4 g0 g1 g2 g3 g4 g5
        refine (IsUnder_c f.pkg p W4 (by omega) (by omega) (hG.mono (hX.trans hX4))).mono ?_
        rintro _ w5 ⟨rfl, hx5⟩
        have hX5 := hX4.trans hx5
        obtain ⟨ltf, cf, _⟩ := (hB4.x hx5).out
        have f1 := cf 1
        have hs5 := hX5.size
        have hrow5 := own_fr hrow (hX5.fr _)
        clear cf hB4 hX4 hx5
        cases hu : isUnder f.pkg p
        · have he : entL f r p = [] := by rw [entL, c1, c2, hu]; rfl
          go_wp2
          go_roundw
          case rel => exact ⟨k + 1, ra, rc, by omega, by go_num, by rw [Htk.out, he, List.append_nil], by rw [Htk.out, he, List.append_nil]; exact hrow5, hX.trans hX5, by omega⟩
          case measure => simp [intOf]; omega
        · have he : entL f r p = [firstB f.pkg p ++ [47]] := by rw [entL, c1, c2, hu]; rfl
          have hub : underB f.pkg p = true := by
            simp only [isUnder, Bool.and_eq_true] at hu
            exact hu.2
          by_cases hpe : p = []
          · subst hpe
            have hfb2 : firstB f.pkg [] = nth (splitL 46 f.pkg) 0 := rfl
            have hpl2 := splitL_piece_le 46 f.pkg (nth (splitL 46 f.pkg) 0) (nth_mem (splitL_pos 46 f.pkg))
            rw [hfb2] at he
            clear hub c2 c2' hfb2
            go_wp2_with fail
            refine (Cut_c f.pkg w5 (by omega) (hG.mono (hX.trans hX5))).mono ?_
            rintro _ w7 ⟨t7, b7, rfl, hx7⟩
            have hrow7 := own_fr hrow5 (hx7.fr _)
            have hs7 := hx7.size
            have hX7 := hX5.trans hx7
            clear hrow hrow5
            generalize nth (splitL 46 _) 0 = q at *
            go_wp2_with (at_builtin; refine wpList_append_g str_T rfl _ _ rfl hrow7 rfl rfl rfl rfl (by simp [Value.oneCell']) (by omega) (by omega) (by omega) ?_; intro a' c' w8 hO8 hg8; have hX8 : X w w8 := x_own (X.alloc (hX.trans hX7) _) (hrow7.alloc _) (by omega) hg8; have hs8 := hg8.size)
            go_roundw
            case rel => exact ⟨k + 1, a', c', by omega, by go_num, by rw [Htk.out, he, List.length_append]; rfl, by
              rw [Htk.out, he, List.length_append, strs_map, List.map_append]
              rw [strs_map] at hO8
              simpa using hO8, hX8, by simp at hs8; omega⟩
            case measure => simp [intOf]; omega
          · have hul := under_len hub hpe c2'
            have hpe2 : p.isEmpty = false := by cases p with | nil => exact absurd rfl hpe | cons _ _ => rfl
            have hfb2 : firstB f.pkg p = nth (splitL 46 (f.pkg.drop (p.length + 1))) 0 := by rw [firstB, hpe2]; rfl
            rw [hfb2] at he
            have q1 : IntKind.i64.wrap ((p.length : Int) + 1) = (p.length : Int) + 1 := IntWalk.i64_in _ (by omega)
            have q2 : (0 : Int) ≤ (p.length : Int) + 1 := by omega
            have q3 : ((p.length : Int) + 1).toNat = p.length + 1 := by omega
            have q4 : (p.length : Int) + 1 ≤ (f.pkg.length : Int) := by omega
            have hdl : (f.pkg.drop (p.length + 1)).length ≤ 12 := by rw [List.length_drop]; omega
            have Ht : List.take (f.pkg.length - (p.length + 1)) (List.drop (p.length + 1) f.pkg) = f.pkg.drop (p.length + 1) := take_rest _ _
            obtain ⟨R, hR⟩ : ∃ R, f.pkg.drop (p.length + 1) = R := ⟨_, rfl⟩
            rw [hR] at hdl he
            have hpl2 := splitL_piece_le 46 R (nth (splitL 46 R) 0) (nth_mem (splitL_pos 46 R))
            have HR := Lib.hid hR
            have HT := Lib.hid Ht
            clear hR Ht hub c2 c2' hfb2
            go_wp2_with fail
            rw [HT.out, HR.out]
            refine (Cut_c R w5 (by omega) (hG.mono (hX.trans hX5))).mono ?_
            rintro _ w7 ⟨t7, b7, rfl, hx7⟩
            have hrow7 := own_fr hrow5 (hx7.fr _)
            have hs7 := hx7.size
            have hX7 := hX5.trans hx7
            clear hrow hrow5
            generalize nth (splitL 46 _) 0 = q at *
            go_wp2_with (at_builtin; refine wpList_append_g str_T rfl _ _ rfl hrow7 rfl rfl rfl rfl (by simp [Value.oneCell']) (by omega) (by omega) (by omega) ?_; intro a' c' w8 hO8 hg8; have hX8 : X w w8 := x_own (X.alloc (hX.trans hX7) _) (hrow7.alloc _) (by omega) hg8; have hs8 := hg8.size)
            go_roundw
            case rel => exact ⟨k + 1, a', c', by omega, by go_num, by rw [Htk.out, he, List.length_append]; rfl, by
              rw [Htk.out, he, List.length_append, strs_map, List.map_append]
              rw [strs_map] at hO8
              simpa using hO8, hX8, by simp at hs8; omega⟩
            case measure => simp [intOf]; omega
    · obtain rfl : k = n := by omega
      rw [Hl.out, List.take_length] at hrow
      rw [Hl.out, List.take_length]
      have h1 := @listN_len l r p
      go_wp2_with fail
      refine (sorted_c (listN l r p) _ _ _ _ wr hrow (by have := Hl.out; omega)).mono ?_
      rw [HV.out]
      rintro _ w2 ⟨ra2, rc2, rfl, hO2, hg2⟩
      go_wp2
      go_ret
      exact ⟨ra2, rc2, rfl, own_less hO2 hX.size, x_own hX hrow (by omega) hg2⟩

end Go.Proofs.YtlpbgingggnjpaaDoor
