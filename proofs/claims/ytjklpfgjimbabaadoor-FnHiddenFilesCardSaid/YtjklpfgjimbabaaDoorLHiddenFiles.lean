/- The walk of the law FnHiddenFiles. -/
import Derived.Test.YtjklpfgjimbabaaDoorTexts
import Derived.Test.YtjklpfgjimbabaaDoorDrawTree
namespace Go.Proofs.YtjklpfgjimbabaaDoor
open Go.RowKit

set_option maxRecDepth 100000 in
set_option maxHeartbeats 1000000 in
theorem FnHiddenFiles_c (ca : Option Addr) (cn cc : Nat) (w : World) (hC : CodeAt w ca cn cc) (hG : Gm w) :
    Calls Tryd.prog 9 #[.slice ca cn cc] w fun e w' => e = .returned (.bool true) ∧ X w w' := by
  by_cases hbig : 1048576 < cn
  · go_enter Tryd.func9, Tryd.ntmps9
    go_wp2
    go_ret
    exact ⟨by simp, by (repeat (first | exact X.refl _ | assumption | refine X.ext ?_ _ | refine X.alloc ?_ _ | refine X.drew ?_))⟩
  · go_enter Tryd.func9, Tryd.ntmps9
    go_wp2_with fail
    refine (DrawHiddenFiles_c ca cn cc _ hC (by omega)).mono ?_
    rintro _ W1 ⟨l, a, n, c, path, pa, pn, pc, rfl, hF, hnc, hn11, hsm, hI, hpc, hpn3, hx1⟩
    replace hG := hG.mono hx1
    have hB1 := Bx.new W1 #[.slice a n c] 25
    go_wp2_with fail
    refine calls_name (fun W hW => ?_)
    rw [← hW] at hB1
    have hx2 : X W1 W := by rw [hW]; (repeat (first | exact X.refl _ | assumption | refine X.ext ?_ _ | refine X.alloc ?_ _ | refine X.drew ?_))
    clear hW
    replace hF := hF.mono (hx2.fr _)
    replace hI := hI.mono (hx2.fr _)
    replace hG := hG.mono hx2
    have hxw := hx1.trans hx2
    clear hx1 hx2
    refine (HiddenFiles_i l _ _ _ _ path _ _ _ _ W hF hnc hI hpc hG).mono ?_
    rintro _ W2 ⟨ra, rc, rfl, hH, hx2⟩
    replace hB1 := hB1.x hx2
    replace hF := hF.mono (hx2.fr _)
    replace hI := hI.mono (hx2.fr _)
    replace hG := hG.mono hx2
    replace hxw := hxw.trans hx2
    clear hx2
    obtain ⟨hb1, hc1, hf1⟩ := hB1.out
    have d1 := hc1 0
    clear hc1
    cases h1 : treeB l <;> cases h2 : pathB path
    case true.true =>
      have Hl := Lib.hid hF.len.1
      have hn := hF.len.2
      have he : hidL l path = hidN l path n := by rw [hidL, h1, h2, Hl.out]; rfl
      have He := Lib.hid he
      rw [he] at hH ⊢
      clear he
      have hln := @hidN_len l path n
      have hin : ∀ k, k < n → decide ((k : Int) ∈ hidN l path n) = hidB l path k := fun k hk => hidN_mem hk
      have hasc := (hidN_asc l path n).2
      have Hin := Lib.hid hin
      clear hin
      go_wp2_with (first | (go_at_call 22; refine (ValidTree_c l _ _ _ _ _ (hF.mono (X.fr (by (repeat (first | exact X.refl _ | assumption | refine X.ext ?_ _ | refine X.alloc ?_ _ | refine X.drew ?_))) _)) hnc (hG.mono (by (repeat (first | exact X.refl _ | assumption | refine X.ext ?_ _ | refine X.alloc ?_ _ | refine X.drew ?_))))).mono ?_; rintro _ _ ⟨rfl, hx⟩; obtain ⟨x, rfl⟩ := hx.of_ext) | (go_at_call 23; refine (ValidPath_c path _ _ _ _ _ (hI.mono (X.fr (by (repeat (first | exact X.refl _ | assumption | refine X.ext ?_ _ | refine X.alloc ?_ _ | refine X.drew ?_))) _)) hpc).mono ?_; rintro _ _ ⟨rfl, rfl⟩) | (go_at_call 24; refine (ValidName_c _ _ (by omega) (hG.mono (by (repeat (first | exact X.refl _ | assumption | refine X.ext ?_ _ | refine X.alloc ?_ _ | refine X.drew ?_))))).mono ?_; rintro _ _ ⟨rfl, hx⟩; obtain ⟨x, rfl⟩ := hx.of_ext) | (go_at_call 36; refine (HiddenFiles_s l _ _ _ _ path _ _ _ _ _ (hF.mono (X.fr (by (repeat (first | exact X.refl _ | assumption | refine X.ext ?_ _ | refine X.alloc ?_ _ | refine X.drew ?_))) _)) (hI.mono (X.fr (by (repeat (first | exact X.refl _ | assumption | refine X.ext ?_ _ | refine X.alloc ?_ _ | refine X.drew ?_))) _)) hpc).mono ?_; rintro _ w4 ⟨ra4, rc4, rfl, hH4, hx4⟩; rw [He.out] at hH4 ⊢; replace hx4 := X.trans (a := W2) (by (repeat (first | exact X.refl _ | assumption | refine X.ext ?_ _ | refine X.alloc ?_ _ | refine X.drew ?_))) hx4; obtain ⟨z4, rfl⟩ := hx4) | (go_at_call 17; refine (equalInts_c _ _ _ _ _ _ _ _ _ _ _ (hH.mono (X.fr (by (repeat (first | exact X.refl _ | assumption | refine X.ext ?_ _ | refine X.alloc ?_ _ | refine X.drew ?_))) _)) (hH4.mono (X.fr (by (repeat (first | exact X.refl _ | assumption | refine X.ext ?_ _ | refine X.alloc ?_ _ | refine X.drew ?_))) _))).mono ?_; rintro _ w5 ⟨rfl, hx5⟩; rw [decide_eq_true rfl]; obtain ⟨z5, rfl⟩ := hx5.of_ext))
      go_loopw [6, 7] (fun v i wr => ∃ (k : Nat) (na : Option Addr) (nc : Nat) (z : Xt), k ≤ n ∧ i = .int .i64 k ∧ v = .slice na (nmN l path k).length nc ∧ wr = World.ext W2 z ∧ (World.ext W2 z).ownsRow W2.heap.size 9 1 (.slice na (nmN l path k).length nc) (nmN l path k).length (strs (nmN l path k))) (fun _ i _ => n - (intOf i).toNat)
      case atStart =>
        have hg : X W2 ((World.ext W2 x).alloc (.cells #[] 9)) := by (repeat (first | exact X.refl _ | assumption | refine X.ext ?_ _ | refine X.alloc ?_ _ | refine X.drew ?_))
        obtain ⟨z, hz⟩ := hg
        exact ⟨0, _, _, z, by omega, rfl, rfl, hz, hz ▸ own_lit (cs := #[]) rfl (by rw [World.size_ext]; omega) rfl (Nat.zero_le _)⟩
      case round =>
        obtain ⟨k, na, nc, z, hk, rfl, rfl, rfl, hrow⟩ := hrel
        by_cases hlt : k < n
        · have Hn := Lib.hid (@nmN_next l path k)
          have hnl := @nmN_len l path k
          cases hd : hidB l path k
          · have hd2 : ((specB l path (moduleOf (nth l k))).file != (k : Int)) = false := hd
            have Hnew := Lib.hid (nmN_new hd)
            have He : nmN l path (k + 1) = nmN l path k ++ [moduleOf (nth l k)] := by rw [Hn.out, hd]; rfl
            have He := Lib.hid He
            obtain ⟨b, off, ba, bn, bc, rfl, hab, hb, hok, hbc, hS, g0, g1, g2, g3, g4, g5⟩ := hF.at_ hlt
            have hml := moduleOf_len hok
            have hnames : ∀ s ∈ nmN l path k, s.length ≤ 4194304 := fun s hs => by
              obtain ⟨i, hi, _, e⟩ := nmN_mem hs
              obtain ⟨_, _, _, _, _, _, _, _, hok2, _⟩ := hF.at_ (k := i) (by omega)
              rw [← e]
              exact moduleOf_len hok2
            have hSt := StrsAt.of_own hrow (by omega) hnames
            go_wp2_with (first
              | (go_at_call 28; refine (isIn_c (hidN l path n) _ _ _ _ _ _ (hH.mono (X.fr (by (repeat (first | exact X.refl _ | assumption | refine X.ext ?_ _ | refine X.alloc ?_ _ | refine X.drew ?_))) _))).mono ?_; rintro _ w6 ⟨rfl, hx6⟩; rw [Hin.out k hlt, hd]; replace hrow := own_fr hrow (hx6.fr _); replace hSt := hSt.mono (hx6.fr _); obtain ⟨z, rfl⟩ := hx6.of_ext)
              | (go_at_call 18; refine (ModuleOf_c (nth l k) ba bn bc _ _ hok (hS.mono (X.fr (by (repeat (first | exact X.refl _ | assumption | refine X.ext ?_ _ | refine X.alloc ?_ _ | refine X.drew ?_))) _)) (hG.mono (by (repeat (first | exact X.refl _ | assumption | refine X.ext ?_ _ | refine X.alloc ?_ _ | refine X.drew ?_))))).mono ?_; rintro _ w9 ⟨rfl, hx9⟩; replace hrow := own_fr hrow (hx9.fr _); replace hSt := hSt.mono (hx9.fr _); obtain ⟨z, rfl⟩ := hx9.of_ext)
              | (go_at_call 37; refine (hasText_c (nmN l path k) _ _ _ _ (moduleOf (nth l k)) _ hSt).mono ?_; rintro _ w8 ⟨rfl, hx8⟩; rw [Hnew.out]; replace hrow := own_fr hrow (hx8.fr _); replace hSt := hSt.mono (hx8.fr _); obtain ⟨z, rfl⟩ := hx8.of_ext)
              | (go_at_call 25; refine (FindSpec_i l _ _ _ _ path _ _ _ _ (moduleOf (nth l k)) _ (hF.mono (X.fr (by (repeat (first | exact X.refl _ | assumption | refine X.ext ?_ _ | refine X.alloc ?_ _ | refine X.drew ?_))) _)) hnc (hI.mono (X.fr (by (repeat (first | exact X.refl _ | assumption | refine X.ext ?_ _ | refine X.alloc ?_ _ | refine X.drew ?_))) _)) hpc hml (hG.mono (by (repeat (first | exact X.refl _ | assumption | refine X.ext ?_ _ | refine X.alloc ?_ _ | refine X.drew ?_))))).mono ?_; rintro _ w5 ⟨v5, rfl, ⟨a5, c5, rfl, hc5, hI5⟩, hx5⟩; replace hrow := own_fr hrow (hx5.fr _); obtain ⟨z, rfl⟩ := hx5.of_ext)
              | (at_builtin; refine wpList_append_lit str_T rfl _ _ rfl hrow rfl rfl rfl ?_ ?_ ?_ ?_))
            · simp [Value.oneCell']
            · omega
            · omega
            intro a' c' z' hrow'
            go_wp2
            go_roundw
            case rel => exact ⟨k + 1, a', c', z', by omega, by go_num, by rw [He.out, List.length_append, List.length_singleton], rfl, by rw [He.out, List.length_append, List.length_singleton]; simpa [flat_snoc] using hrow'⟩
            case measure => simp [intOf]; omega
          · have He : nmN l path (k + 1) = nmN l path k := by rw [Hn.out, hd]; rfl
            have He := Lib.hid He
            go_wp2_with (go_at_call 28; refine (isIn_c (hidN l path n) _ _ _ _ _ _ (hH.mono (X.fr (by (repeat (first | exact X.refl _ | assumption | refine X.ext ?_ _ | refine X.alloc ?_ _ | refine X.drew ?_))) _))).mono ?_; rintro _ w6 ⟨rfl, hx6⟩; rw [Hin.out k hlt, hd]; replace hrow := own_fr hrow (hx6.fr _); obtain ⟨z, rfl⟩ := hx6.of_ext)
            go_roundw
            case rel => exact ⟨k + 1, na, nc, z, by omega, by go_num, by rw [He.out], rfl, by rw [He.out]; exact hrow⟩
            case measure => simp [intOf]; omega
        · obtain rfl : k = n := by omega
          go_wp2_with (go_at_call 38; refine (ascends_c _ _ _ _ _ _ (hH.mono (X.fr (by (repeat (first | exact X.refl _ | assumption | refine X.ext ?_ _ | refine X.alloc ?_ _ | refine X.drew ?_))) _)) hasc).mono ?_; rintro _ w6 ⟨rfl, hx6⟩; obtain ⟨z, rfl⟩ := hx6.of_ext)
          go_ret
          exact ⟨by simp, hxw.trans (by (repeat (first | exact X.refl _ | assumption | refine X.ext ?_ _ | refine X.alloc ?_ _ | refine X.drew ?_)))⟩
    all_goals
      have he : hidL l path = [] := by simp [hidL, h1, h2]
      have He := Lib.hid he
      rw [he] at hH ⊢
      clear he
      go_wp2_with (first | (go_at_call 22; refine (ValidTree_c l _ _ _ _ _ (hF.mono (X.fr (by (repeat (first | exact X.refl _ | assumption | refine X.ext ?_ _ | refine X.alloc ?_ _ | refine X.drew ?_))) _)) hnc (hG.mono (by (repeat (first | exact X.refl _ | assumption | refine X.ext ?_ _ | refine X.alloc ?_ _ | refine X.drew ?_))))).mono ?_; rintro _ _ ⟨rfl, hx⟩; obtain ⟨x, rfl⟩ := hx.of_ext) | (go_at_call 23; refine (ValidPath_c path _ _ _ _ _ (hI.mono (X.fr (by (repeat (first | exact X.refl _ | assumption | refine X.ext ?_ _ | refine X.alloc ?_ _ | refine X.drew ?_))) _)) hpc).mono ?_; rintro _ _ ⟨rfl, rfl⟩) | (go_at_call 24; refine (ValidName_c _ _ (by omega) (hG.mono (by (repeat (first | exact X.refl _ | assumption | refine X.ext ?_ _ | refine X.alloc ?_ _ | refine X.drew ?_))))).mono ?_; rintro _ _ ⟨rfl, hx⟩; obtain ⟨x, rfl⟩ := hx.of_ext) | (go_at_call 36; refine (HiddenFiles_s l _ _ _ _ path _ _ _ _ _ (hF.mono (X.fr (by (repeat (first | exact X.refl _ | assumption | refine X.ext ?_ _ | refine X.alloc ?_ _ | refine X.drew ?_))) _)) (hI.mono (X.fr (by (repeat (first | exact X.refl _ | assumption | refine X.ext ?_ _ | refine X.alloc ?_ _ | refine X.drew ?_))) _)) hpc).mono ?_; rintro _ w4 ⟨ra4, rc4, rfl, hH4, hx4⟩; rw [He.out] at hH4 ⊢; replace hx4 := X.trans (a := W2) (by (repeat (first | exact X.refl _ | assumption | refine X.ext ?_ _ | refine X.alloc ?_ _ | refine X.drew ?_))) hx4; obtain ⟨z4, rfl⟩ := hx4) | (go_at_call 17; refine (equalInts_c _ _ _ _ _ _ _ _ _ _ _ (hH.mono (X.fr (by (repeat (first | exact X.refl _ | assumption | refine X.ext ?_ _ | refine X.alloc ?_ _ | refine X.drew ?_))) _)) (hH4.mono (X.fr (by (repeat (first | exact X.refl _ | assumption | refine X.ext ?_ _ | refine X.alloc ?_ _ | refine X.drew ?_))) _))).mono ?_; rintro _ w5 ⟨rfl, hx5⟩; rw [decide_eq_true rfl]; obtain ⟨z5, rfl⟩ := hx5.of_ext))
      go_ret
      exact ⟨by simp, hxw.trans (by (repeat (first | exact X.refl _ | assumption | refine X.ext ?_ _ | refine X.alloc ?_ _ | refine X.drew ?_)))⟩

end Go.Proofs.YtjklpfgjimbabaaDoor
