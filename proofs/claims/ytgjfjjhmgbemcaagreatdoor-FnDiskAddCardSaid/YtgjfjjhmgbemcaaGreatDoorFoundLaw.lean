/- Found names, and when two trees look the same: what the laws on them rest on: plain, no program in sight. No condition. -/
import Derived.Test.YtgjfjjhmgbemcaaGreatDoorTrLaw
import Derived.Test.YtgjfjjhmgbemcaaGreatDoorUp
import Derived.Test.YtgjfjjhmgbemcaaGreatDoorIc
namespace Go.Proofs.YtgjfjjhmgbemcaaGreatDoor
open Go.RowKit

/-! ### Names of a tree -/
def allP (t : List Fi) : List (List UInt8) := t.flatMap fun f => aboveP (moduleB f)
def namesI (t : List Fi) : List (List UInt8) := sortU (modsL t ++ packsL t)
def foundL (t : List Fi) (path : List Int) : List (List UInt8) := if treeB t && pathB path then (sortU (allP t)).filter fun n => canB t path n else []
theorem modName {f : Fi} (h : fileB f = true) : nameB (moduleB f) = true := by
  unfold fileB at h
  unfold moduleB
  simp only [Bool.and_eq_true] at h
  cases hi : f.init
  · rw [hi] at h
    simp only [Bool.false_eq_true, if_false, Bool.and_eq_true] at h ⊢
    exact h.2.2
  · rw [hi] at h
    simp only [if_true, Bool.and_eq_true, Bool.not_eq_true', List.isEmpty_eq_false_iff] at h ⊢
    exact pkgB_name h.1.1.1.2 h.2.1
/-- A name that another one is under is one of those above it. -/
theorem under_above {s n : List UInt8} (hs : nameB s = true) (hn : n ≠ []) (hu : underB s n = true) : n ∈ aboveP s := by
  refine mem_aboveP.2 ⟨hs, ?_⟩
  have h0 := splitL_pos 46 n
  rcases (underB_iff hn).1 hu with rfl | ⟨u, rfl⟩
  · exact ⟨(splitL 46 s).length - 1, by omega, pfx_all (by omega)⟩
  · have h1 := splitL_pos 46 u
    refine ⟨(splitL 46 n).length - 1, by rw [splitL_mid, List.length_append]; omega, ?_⟩
    have e : (splitL 46 n).length - 1 + 1 = (splitL 46 n).length := by omega
    rw [e, pfx, splitL_mid, List.take_left, joinL_split]
theorem above_under {s n : List UInt8} (h : n ∈ aboveP s) : nameB s = true ∧ nameB n = true ∧ underB s n = true := by
  obtain ⟨hs, i, hi, rfl⟩ := mem_aboveP.1 h
  exact ⟨hs, pfx_name hs (by omega), under_pfx hs hi⟩
theorem under_trans {a b c : List UInt8} (h1 : underB a b = true) (h2 : underB b c = true) (hb : b ≠ []) : underB a c = true := by
  by_cases hc : c = []
  · rw [hc]; rfl
  · rcases (underB_iff hb).1 h1 with rfl | ⟨u, rfl⟩
    · exact h2
    · rcases (underB_iff hc).1 h2 with rfl | ⟨v, rfl⟩
      · exact (underB_iff hc).2 (.inr ⟨u, rfl⟩)
      · exact (underB_iff hc).2 (.inr ⟨v ++ 46 :: u, by simp⟩)
theorem mod_under {f : Fi} (hp : f.pkg ≠ []) : underB (moduleB f) f.pkg = true := by
  unfold moduleB
  split
  · exact underB_self _
  · refine (underB_iff hp).2 (.inr ⟨f.name, ?_⟩)
    unfold childL
    cases h : f.pkg with
    | nil => exact absurd h hp
    | cons a b => rfl
theorem mem_allP {t : List Fi} {x : List UInt8} : x ∈ allP t ↔ ∃ f ∈ t, x ∈ aboveP (moduleB f) := by
  unfold allP
  rw [List.mem_flatMap]
theorem names_same {t : List Fi} (h : treeB t = true) : namesI t = sortU (allP t) := by
  refine asc_ext (sortU_facts _).1 (sortU_facts _).1 fun x => ?_
  unfold namesI
  rw [(sortU_facts _).2, (sortU_facts _).2, List.mem_append, mem_packsL h, mem_allP]
  have hm : x ∈ modsL t ↔ ∃ f ∈ t, moduleB f = x := by
    unfold modsL
    rw [if_pos h, (sortU_facts _).2, List.mem_map]
  rw [hm]
  constructor
  · rintro (⟨f, hf, rfl⟩ | ⟨f, hf, hx⟩)
    · have hn := modName (treeB_mem h hf)
      refine ⟨f, hf, under_above hn (fun e => by rw [e] at hn; exact absurd hn (by decide)) (underB_self _)⟩
    · obtain ⟨h1, h2, h3⟩ := above_under hx
      have hp : f.pkg ≠ [] := fun e => by rw [e] at h1; exact absurd h1 (by decide)
      have hx0 : x ≠ [] := fun e => by rw [e] at h2; exact absurd h2 (by decide)
      exact ⟨f, hf, under_above (modName (treeB_mem h hf)) hx0 (under_trans (mod_under hp) h3 hp)⟩
  · rintro ⟨f, hf, hx⟩
    obtain ⟨h1, h2, h3⟩ := above_under hx
    have hx0 : x ≠ [] := fun e => by rw [e] at h2; exact absurd h2 (by decide)
    by_cases he : moduleB f = x
    · exact .inl ⟨f, hf, he⟩
    · right
      refine ⟨f, hf, ?_⟩
      have hfb := treeB_mem h hf
      rcases (underB_iff hx0).1 h3 with e | ⟨u, e⟩
      · exact absurd e he
      · cases hi : f.init
        · have em : moduleB f = childL f.pkg f.name := by rw [moduleB, hi]; rfl
          unfold fileB at hfb
          rw [hi] at hfb
          simp only [Bool.false_eq_true, if_false, Bool.and_eq_true] at hfb
          have hnm := hfb.2.1
          have hcl := part_clean hnm
          have hpk := hfb.1.1.1.2
          by_cases hpe : f.pkg = []
          · exfalso
            have e2 : moduleB f = f.name := by rw [em, hpe]; rfl
            rw [e2] at e
            exact hcl 46 (by rw [e]; simp) rfl
          · have e2 : moduleB f = f.pkg ++ 46 :: f.name := by
              rw [em]
              unfold childL
              cases hq : f.pkg with
              | nil => exact absurd hq hpe
              | cons a b => rfl
            have hpn := pkgB_name hpk hpe
            refine under_above hpn hx0 ?_
            -- x ++ 46 :: u = pkg ++ 46 :: name, name without dots: x is pkg or is above it
            rw [e2] at e
            have hsplit := congrArg (splitL 46) e
            rw [splitL_mid, splitL_mid, splitL_clean hcl] at hsplit
            have hu0 := splitL_pos 46 u
            have hx1 := splitL_pos 46 x
            have hlen := congrArg List.length hsplit
            rw [List.length_append, List.length_append, List.length_singleton] at hlen
            have hle : (splitL 46 x).length ≤ (splitL 46 f.pkg).length := by omega
            have htk : (splitL 46 f.pkg).take (splitL 46 x).length = splitL 46 x := by
              have h5 := congrArg (List.take (splitL 46 x).length) hsplit
              rw [List.take_left, List.take_append_of_le_length hle] at h5
              exact h5
            have hxp : pfx f.pkg (splitL 46 x).length = x := by rw [pfx, htk, joinL_split]
            have := under_pfx hpn (i := (splitL 46 x).length - 1) (by omega)
            rwa [show (splitL 46 x).length - 1 + 1 = (splitL 46 x).length by omega, hxp] at this
        · have em : moduleB f = f.pkg := by rw [moduleB, hi]; rfl
          rw [em] at hx
          exact hx

/-! ### What is found has a name -/
theorem findGo_some (l : List Fi) (p s : List UInt8) : ∀ (path acc : List Int), (findGo l p s path acc).kind = 3 → (findGo l p s path acc).roots ≠ []
  | [], acc => by
    unfold findGo
    split
    · simp [noneSp]
    · rename_i h
      intro _ e
      apply h
      rw [show acc = [] from e]
      rfl
  | r :: rs, acc => by
    unfold findGo
    split
    · simp
    · split
      · simp
      · exact findGo_some l p s rs _
theorem findGo_pos (l : List Fi) (p s : List UInt8) : ∀ (path acc : List Int), ((findGo l p s path acc).kind = 1 ∨ (findGo l p s path acc).kind = 2) → 0 ≤ (findGo l p s path acc).file
  | [], acc => by
    unfold findGo
    split <;> simp [noneSp]
  | r :: rs, acc => by
    unfold findGo
    split
    · rename_i h
      exact fun _ => h
    · split
      · rename_i h
        exact fun _ => h
      · exact findGo_pos l p s rs _
theorem dirS_file {l : List Fi} {r : Int} {p : List UInt8} (h : dirS l r p = true) (hp : p ≠ []) : ∃ f ∈ l, f.root = r ∧ f.pkg ≠ [] ∧ underB f.pkg p = true := by
  unfold dirS at h
  rw [Bool.or_eq_true] at h
  rcases h with h | h
  · obtain ⟨k, hk, h1⟩ := anyN_iff.1 h
    simp only [Bool.and_eq_true, beq_iff_eq, Bool.not_eq_true', List.isEmpty_eq_false_iff] at h1
    exact ⟨_, nth_mem hk, h1.1.1, h1.1.2, h1.2⟩
  · cases p with
    | nil => exact absurd rfl hp
    | cons _ _ => cases h
theorem file_dirS {l : List Fi} {r : Int} {p : List UInt8} {f : Fi} (hf : f ∈ l) (hr : f.root = r) (hk : f.pkg ≠ []) (hu : underB f.pkg p = true) : dirS l r p = true := by
  obtain ⟨k, hk2, e⟩ := List.getElem_of_mem hf
  unfold dirS
  rw [Bool.or_eq_true]
  refine .inl (anyN_iff.2 ⟨k, hk2, ?_⟩)
  rw [nth_eq hk2, e, hr, hu]
  cases hq : f.pkg with
  | nil => exact absurd hq hk
  | cons _ _ => simp
/-- The way to a name, part by part. -/
def goK (l : List Fi) (path : List Int) (s : List UInt8) (k : Nat) : Sp := specGo l ((splitL 46 s).take k) [] ⟨3, -1, path⟩
theorem goK_zero {l : List Fi} {path : List Int} {s : List UInt8} : goK l path s 0 = ⟨3, -1, path⟩ := by simp [goK, specGo]
theorem goK_next {l : List Fi} {path : List Int} {s : List UInt8} (h : nameB s = true) {k : Nat} (hk : k < (splitL 46 s).length) :
    goK l path s (k + 1) = if (goK l path s k).kind = 2 ∨ (goK l path s k).kind = 3 then findF l (goK l path s k).roots (pfx s k) (nth (splitL 46 s) k) else noneSp := by
  unfold goK
  rw [take_succ_nth hk, specGo_snoc, foldl_pfx h k (by omega)]
theorem goK_spec {l : List Fi} {path : List Int} {s : List UInt8} (ht : treeB l = true) (hp : pathB path = true) (h : nameB s = true) {k : Nat} (h0 : 0 < k) : goK l path s k = specB l path (pfx s k) := by
  rw [specB, ht, hp, pfx_name h h0]
  show _ = specF l path (pfx s k)
  rw [specF, pfx_split h h0]
  rfl
theorem goK_all {l : List Fi} {path : List Int} {s : List UInt8} (ht : treeB l = true) (hp : pathB path = true) (h : nameB s = true) : goK l path s (splitL 46 s).length = specB l path s := by
  rw [goK_spec ht hp h (splitL_pos 46 s), pfx_all (Nat.le_refl _)]
theorem can_valid {l : List Fi} {path : List Int} {s : List UInt8} (h : canB l path s = true) : treeB l = true ∧ pathB path = true ∧ nameB s = true := by
  cases hv : (treeB l && pathB path && nameB s)
  · rw [canB, specB, hv] at h
    simp [noneSp] at h
  · simp only [Bool.and_eq_true] at hv
    exact ⟨hv.1.1, hv.1.2, hv.2⟩
theorem can_name {l : List Fi} {path : List Int} {s : List UInt8} (h : canB l path s = true) : s ∈ allP l := by
  obtain ⟨ht, hp, hs⟩ := can_valid h
  have hs0 : s ≠ [] := fun e => by rw [e] at hs; exact absurd hs (by decide)
  have hk : (specB l path s).kind ≠ 0 := by simpa [canB] using h
  by_cases hf : 0 ≤ (specB l path s).file
  · obtain ⟨j, hj, _, hm, _⟩ := specFile_law hf
    refine mem_allP.2 ⟨_, nth_mem hj, ?_⟩
    have hfb := treeB_file ht hj
    have : moduleOf (nth l j) = moduleB (nth l j) := by rw [moduleOf, hfb]; rfl
    rw [← this, hm]
    exact under_above hs hs0 (underB_self _)
  · have hl := splitL_pos 46 s
    obtain ⟨m, hm⟩ : ∃ m, (splitL 46 s).length = m + 1 := ⟨(splitL 46 s).length - 1, by omega⟩
    have e := goK_all (l := l) (path := path) ht hp hs
    rw [hm, goK_next hs (by omega)] at e
    split at e
    · rename_i hkk
      rw [← e] at hk hf
      have hk3 : (findF l (goK l path s m).roots (pfx s m) (nth (splitL 46 s) m)).kind = 3 := by
        rcases findF_kind l (goK l path s m).roots (pfx s m) (nth (splitL 46 s) m) with h1 | h1 | h1 | h1
        · exact absurd h1 hk
        · exfalso
          apply hf
          exact findGo_pos l _ _ _ _ (.inl h1)
        · exfalso
          apply hf
          exact findGo_pos l _ _ _ _ (.inr h1)
        · exact h1
      have hne := findGo_some l _ _ _ _ hk3
      obtain ⟨_, hroots, _⟩ := findGo_space l _ _ _ _ hk3
      rw [List.nil_append] at hroots
      have hcl : childL (pfx s m) (nth (splitL 46 s) m) = s := by rw [pfx_succ hs (by omega), pfx_all (by omega)]
      obtain ⟨r, hr⟩ : ∃ r, r ∈ (findGo l (pfx s m) (nth (splitL 46 s) m) (goK l path s m).roots []).roots := List.exists_mem_of_ne_nil _ hne
      rw [hroots, List.mem_filter, hcl] at hr
      obtain ⟨f, hf2, _, hpk, hu⟩ := dirS_file hr.2 hs0
      refine mem_allP.2 ⟨f, hf2, under_above (modName (treeB_mem ht hf2)) hs0 (under_trans (mod_under hpk) hu hpk)⟩
    · rw [← e] at hk
      exact absurd rfl hk
end Go.Proofs.YtgjfjjhmgbemcaaGreatDoor
