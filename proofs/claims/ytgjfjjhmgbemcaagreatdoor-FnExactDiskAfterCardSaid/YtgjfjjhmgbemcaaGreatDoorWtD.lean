/- Weights of disks: by budgets, and of valid ones. -/
import Derived.Test.YtgjfjjhmgbemcaaGreatDoorToDE
import Derived.Test.YtgjfjjhmgbemcaaGreatDoorIa
namespace Go.Proofs.YtgjfjjhmgbemcaaGreatDoor
open Go.RowKit

theorem szStrs_wt {l : List (List UInt8)} {n : Int} (h : 0 ≤ szStrs l n) : szStrs l n ≤ n - l.length := by
  unfold szStrs at h ⊢
  split at h <;> rename_i h1
  · omega
  · rw [if_neg h1]
    exact (szL_le szStr_le h).1
theorem szDi_wt {d : Di} {n : Int} (h : 0 ≤ szDi d n) : szDi d n ≤ n - d.names.length := by
  unfold szDi at h ⊢
  split at h <;> rename_i h1
  · omega
  · rw [if_neg h1]
    have := szStrs_wt h
    omega
theorem szL_wtD : ∀ {l : List Di} {n : Int}, 0 ≤ szL szDi l n → (wtD l : Int) ≤ (n - szL szDi l n) + 3 * l.length
  | [], n, _ => by simp [wtD, szL]
  | f :: l, n, h => by
    unfold szL at h ⊢
    by_cases h0 : szDi f n < 0
    · rw [if_pos h0] at h; omega
    · rw [if_neg h0] at h ⊢
      have h1 := szL_wtD h
      have h2 := szDi_wt (d := f) (n := n) (by omega)
      simp only [wtD, List.length_cons]
      omega
theorem szDis_wt {l : List Di} {m : Int} (hm : m ≤ 1048576) (h : 0 ≤ szDis l m) : wtD l ≤ 3145728 := by
  unfold szDis at h
  split at h <;> rename_i h1
  · omega
  · have := szL_wtD h
    omega
theorem wtD_le : ∀ (l : List Di), (∀ d ∈ l, d.names.length ≤ 0) → wtD l = 3 * l.length
  | [], _ => rfl
  | d :: l, h => by
    have h1 := h d List.mem_cons_self
    have h2 := wtD_le l (fun x hx => h x (List.mem_cons_of_mem _ hx))
    simp only [wtD, List.length_cons]
    omega
theorem wtF_le : ∀ (l : List Fi), (∀ f ∈ l, f.body.length ≤ 8) → wtF l ≤ 45 * l.length
  | [], _ => Nat.le_refl _
  | f :: l, h => by
    have h1 := h f List.mem_cons_self
    have h2 := wtF_le l (fun x hx => h x (List.mem_cons_of_mem _ hx))
    simp only [wtF, List.length_cons]
    omega
theorem wtF_len : ∀ (l : List Fi), 5 * l.length ≤ wtF l
  | [] => Nat.le_refl _
  | f :: l => by
    have h2 := wtF_len l
    simp only [wtF, List.length_cons]
    omega
theorem tree_wt {l : List Fi} (h : treeB l = true) : wtF l ≤ 540 ∧ l.length ≤ 12 := by
  unfold treeB at h
  simp only [Bool.and_eq_true, decide_eq_true_eq] at h
  have hb : ∀ f ∈ l, f.body.length ≤ 8 := fun f hf => by
    obtain ⟨k, hk, rfl⟩ := List.getElem_of_mem hf
    have h1 := (allN_iff.1 h.1) k hk
    simp only [Bool.and_eq_true] at h1
    have h2 := h1.1
    rw [nth_eq hk] at h2
    unfold fileB bodyB at h2
    simp only [Bool.and_eq_true, decide_eq_true_eq] at h2
    omega
  have := wtF_le l hb
  omega
theorem disk_wt {l : List Fi} {kk : Int} {dl : List Di} (h : diskB l kk dl = true) : wtF l ≤ 540 ∧ l.length ≤ 12 ∧ wtD dl ≤ 60 ∧ dl.length ≤ 20 := by
  obtain ⟨h1, h2, h3⟩ := disk_parts h
  obtain ⟨h4, h5⟩ := tree_wt h1
  refine ⟨h4, h5, ?_, h3⟩
  unfold diskB dirsB at h
  simp only [Bool.and_eq_true] at h
  have hd : ∀ d ∈ dl, d.names.length ≤ 0 := fun d hd => by
    obtain ⟨k, hk, rfl⟩ := List.getElem_of_mem hd
    have h1 := (allN_iff.1 h.2.1) k hk
    rw [← nth_eq hk]
    unfold dirB at h1
    simp only [Bool.and_eq_true, decide_eq_true_eq] at h1
    omega
  have := wtD_le dl hd
  omega
theorem FilesE.far {w : World} {B E n c b : Nat} {a : Option Addr} {l : List Fi} {cs : Array Value} {t : TypeId} (h : FilesE w B E a n c l) (hb : w.heap[b]? = some (.cells cs t (0, 0))) (h1 : 44 ≠ t) (h2 : 148 ≠ t) (i : Nat) (u : Value) : FilesE (w.setCell ⟨b, i, none⟩ u) B E a n c l := by
  obtain ⟨vs, e, k1, k2, hs, k3, k4, k5⟩ := h
  exact ⟨vs, e, k1, own_set_far k2 hb h1 _ _, hs, fun x hm => let ⟨ba, bc, e, ho⟩ := k3 x hm; ⟨ba, bc, e, own_set_far ho hb h2 _ _⟩, k4, k5⟩
theorem da_disk {l : List Fi} {kk : Int} {dl : List Di} {f : Fi} {t : Int} (h : daB l kk dl f t = true) : diskB (daL l kk dl f t) (daK l kk dl f t) (daD l kk dl f t) = true := by
  rw [daL, daK, daD, if_pos h, if_pos h, if_pos h]
  unfold daB at h
  simp only [Bool.and_eq_true] at h
  exact chB_disk h.2
theorem da_wt (l : List Fi) (kk : Int) (dl : List Di) (f : Fi) (t : Int) : wtF (daL l kk dl f t) ≤ 540 ∧ (daL l kk dl f t).length ≤ 12 ∧ wtD (daD l kk dl f t) ≤ 60 ∧ (daD l kk dl f t).length ≤ 20 := by
  by_cases h : daB l kk dl f t = true
  · exact disk_wt (da_disk h)
  · rw [daL, daD, if_neg h, if_neg h]
    exact ⟨Nat.zero_le _, Nat.zero_le _, Nat.zero_le _, Nat.zero_le _⟩
theorem da_ok {l : List Fi} {kk : Int} {dl : List Di} {f : Fi} {t : Int} {bn : Nat} (h : OkL l) (hl : l.length + 1 ≤ 2097152) (hok : Okf f) (h1 : bn = f.body.length) (h2 : bn ≤ 2097152) (hs : ∀ s ∈ f.body, Oks s) (hd : OkD dl) : OkL (daL l kk dl f t) ∧ OkD (daD l kk dl f t) := by
  by_cases hb : daB l kk dl f t = true
  · have hb' := hb
    unfold daB at hb'
    simp only [Bool.and_eq_true] at hb'
    rw [daL, daD, if_pos hb, if_pos hb]
    refine ⟨okL_add h hl hok h1 h2 hs hb'.1.2, ?_⟩
    obtain ⟨hpl4, hpl12⟩ := paths_len (p := f.pkg)
    have hd20 := (disk_parts hb'.1.1.1).2.2
    exact (okD_stamps (r := f.root) (st := kk + t) (pathsL f.pkg) dl 20 hd hd20 (by omega) (fun q hq => Nat.le_trans (hpl12 q hq) (by omega))).1
  · rw [daL, daD, if_neg hb, if_neg hb]
    exact ⟨⟨Nat.zero_le _, fun _ h => by cases h⟩, ⟨Nat.zero_le _, fun _ h => by cases h⟩⟩

end Go.Proofs.YtgjfjjhmgbemcaaGreatDoor
