/-
  Permutations as functions; ranks by rows and by columns; inverses. Plain.
-/
import Derived.Test.YtfepepakellbbaaBelow
import Derived.Test.YtfepepakellbbaaDrawn
import Derived.Test.YtfepepakellbbaaDiag
namespace Go.Proofs.Ytfepepakellbbaa
open Go.RowKit
set_option linter.unusedVariables false

theorem pigeon : ∀ (n : Nat) (f : Nat → Nat), (∀ i, i < n → f i < n) → (∀ i j, i < n → j < n → f i = f j → i = j) → ∀ j, j < n → ∃ i, i < n ∧ f i = j
  | 0, _, _, _, j, hj => absurd hj (Nat.not_lt_zero _)
  | n + 1, f, hf, hi, j, hj => by
    have hm := hf n (by omega)
    have ih := pigeon n (fun i => if f i = n then f n else f i)
      (fun i hin => by
        have h1 := hf i (by omega)
        have h2 : f i = f n → i = n := hi i n (by omega) (by omega)
        split <;> omega)
      (fun a b ha hb hab => by
        have h1 := hi a b (by omega) (by omega)
        have h2 := hi a n (by omega) (by omega)
        have h3 := hi b n (by omega) (by omega)
        split at hab <;> split at hab <;> omega)
    by_cases e : f n = j
    · exact ⟨n, by omega, e⟩
    · by_cases hjn : j = n
      · obtain ⟨i, h1, h2⟩ := ih (f n) (by omega)
        split at h2
        · exact ⟨i, by omega, by omega⟩
        · have := hi i n (by omega) (by omega) h2; omega
      · obtain ⟨i, h1, h2⟩ := ih j (by omega)
        split at h2
        · omega
        · exact ⟨i, by omega, h2⟩

def pv (u : List Int) (i : Nat) : Nat := (u.getD i 0).toNat
theorem PermN.get {n : Nat} {u : List Int} (h : PermN n u) {i : Nat} (hi : i < n) : u[i]? = some ((pv u i : Nat) : Int) ∧ pv u i < n := by
  obtain ⟨h1, h2, h3, h4⟩ := isPermB_iff.1 h.1
  have hl := h.2
  have hg : u[i]? = some (u.getD i 0) := getElem?_of_getD rfl (by omega)
  have := h3 _ (List.mem_of_getElem? hg)
  refine ⟨?_, by unfold pv; omega⟩
  rw [hg]
  congr 1
  unfold pv
  omega
theorem PermN.lt {n : Nat} {u : List Int} (h : PermN n u) {i : Nat} (hi : i < n) : pv u i < n := (h.get hi).2
theorem PermN.eq {n : Nat} {u : List Int} (h : PermN n u) {i : Nat} (hi : i < n) : u.getD i 0 = ((pv u i : Nat) : Int) := by
  rw [List.getD_eq_getElem?_getD, (h.get hi).1]; rfl
theorem PermN.inj {n : Nat} {u : List Int} (h : PermN n u) {i j : Nat} (hi : i < n) (hj : j < n) (e : pv u i = pv u j) : i = j := by
  obtain ⟨h1, h2, h3, h4⟩ := isPermB_iff.1 h.1
  have hl := h.2
  have a := (h.get hi).1
  have b := (h.get hj).1
  rw [← e] at b
  rw [List.getElem?_eq_getElem (by omega)] at a b
  exact (List.getElem_inj (h₀ := by omega) (h₁ := by omega) h4).1 ((Option.some.inj a).trans (Option.some.inj b).symm)
theorem PermN.surj {n : Nat} {u : List Int} (h : PermN n u) {j : Nat} (hj : j < n) : ∃ i, i < n ∧ pv u i = j :=
  pigeon n (pv u) (fun i hi => h.lt hi) (fun i k hi hk e => h.inj hi hk e) j hj
theorem PermN.size {n : Nat} {u : List Int} (h : PermN n u) : 1 ≤ n ∧ n ≤ 7 := by
  obtain ⟨h1, h2, h3, h4⟩ := isPermB_iff.1 h.1
  have := h.2
  omega
theorem permN_mk {n : Nat} {u : List Int} (h1 : 1 ≤ n) (h7 : n ≤ 7) (hl : u.length = n) (hv : ∀ i, i < n → 0 ≤ u.getD i 0 ∧ u.getD i 0 < (n : Int))
    (hi : ∀ i j, i < n → j < n → u.getD i 0 = u.getD j 0 → i = j) : PermN n u := by
  refine ⟨isPermB_iff.2 ⟨by omega, by omega, fun x hx => ?_, ?_⟩, hl⟩
  · obtain ⟨i, h, e⟩ := List.mem_iff_getElem.1 hx
    have := hv i (by omega)
    rw [List.getD_eq_getElem?_getD, List.getElem?_eq_getElem h] at this
    simp at this
    rw [e] at this
    omega
  · rw [List.nodup_iff_pairwise_ne, List.pairwise_iff_getElem]
    intro i j hi' hj' hij e
    have := hi i j (by omega) (by omega) (by
      rw [List.getD_eq_getElem?_getD, List.getD_eq_getElem?_getD, List.getElem?_eq_getElem hi', List.getElem?_eq_getElem hj', e])
    omega
theorem perm_ext {n : Nat} {u v : List Int} (hu : PermN n u) (hv : PermN n v) (h : ∀ i, i < n → pv u i = pv v i) : u = v := by
  apply List.ext_getElem?
  intro i
  have h1 := hu.2
  have h2 := hv.2
  by_cases hi : i < n
  · rw [(hu.get hi).1, (hv.get hi).1, h i hi]
  · rw [List.getElem?_eq_none (by omega), List.getElem?_eq_none (by omega)]

theorem rk_succ {n : Nat} {u : List Int} (h : PermN n u) {r : Nat} (hr : r < n) (c : Nat) : rankUp u (r + 1) (c : Int) = rankUp u r (c : Int) + if pv u r < c then 1 else 0 := by
  by_cases hc : pv u r < c
  · rw [if_pos hc, rankUp_yes (h.get hr).1 (by omega)]
  · rw [if_neg hc, rankUp_no (h.get hr).1 (by omega)]; rfl
theorem rk_col {n : Nat} {u : List Int} (h : PermN n u) {i : Nat} (hi : i < n) : ∀ r, r ≤ n → rankUp u r ((pv u i + 1 : Nat) : Int) = rankUp u r ((pv u i : Nat) : Int) + if i < r then 1 else 0
  | 0, _ => by simp [rankUp_zero]
  | r + 1, hr => by
    have ih := rk_col h hi r (by omega)
    rw [rk_succ h (by omega), rk_succ h (by omega), ih]
    by_cases e : r = i
    · subst e
      rw [if_neg (Nat.lt_irrefl _), if_pos (by omega), if_neg (by omega), if_pos (by omega)]
    · have hne : pv u r ≠ pv u i := fun e' => e (h.inj (by omega) hi e')
      by_cases h1 : i < r
      · rw [if_pos h1, if_pos (show i < r + 1 by omega)]
        by_cases h2 : pv u r < pv u i
        · rw [if_pos (by omega), if_pos h2]
        · rw [if_neg (by omega), if_neg h2]
      · rw [if_neg h1, if_neg (show ¬ i < r + 1 by omega)]
        by_cases h2 : pv u r < pv u i
        · rw [if_pos (by omega), if_pos h2]
        · rw [if_neg (by omega), if_neg h2]
theorem rk_left {n : Nat} {u : List Int} (h : PermN n u) : ∀ r, r ≤ n → rankUp u r ((0 : Nat) : Int) = 0
  | 0, _ => rankUp_zero _ _
  | r + 1, hr => by rw [rk_succ h (by omega), rk_left h r (by omega), if_neg (by omega)]
theorem rk_right {n : Nat} {u : List Int} (h : PermN n u) : ∀ r, r ≤ n → rankUp u r (n : Int) = r
  | 0, _ => rankUp_zero _ _
  | r + 1, hr => by rw [rk_succ h (by omega), rk_right h r (by omega), if_pos (h.lt (by omega))]
theorem rk_step {n : Nat} {u : List Int} (h : PermN n u) {r : Nat} (hr : r < n) (c : Nat) : rankUp u r (c : Int) ≤ rankUp u (r + 1) (c : Int) ∧ rankUp u (r + 1) (c : Int) ≤ rankUp u r (c : Int) + 1 := by
  rw [rk_succ h hr]; split <;> omega
theorem rk_cstep {n : Nat} {u : List Int} (h : PermN n u) {r c : Nat} (hr : r ≤ n) (hc : c < n) : rankUp u r (c : Int) ≤ rankUp u r ((c + 1 : Nat) : Int) ∧ rankUp u r ((c + 1 : Nat) : Int) ≤ rankUp u r (c : Int) + 1 := by
  obtain ⟨i, hi, rfl⟩ := h.surj hc
  rw [rk_col h hi r hr]; split <;> omega

theorem invUp_at {n : Nat} {u : List Int} (h : PermN n u) : ∀ j, j ≤ n → ∀ i, i < j → (invUp u j).getD (pv u i) 0 = (i : Int)
  | 0, _, i, hi => absurd hi (Nat.not_lt_zero _)
  | j + 1, hj, i, hi => by
    have hl : (invUp u j).length = n := by rw [invUp_len, h.2]
    have hlt := h.lt (i := i) (by omega)
    show ((invUp u j).set (pv u j) (j : Int)).getD (pv u i) 0 = (i : Int)
    rw [List.getD_eq_getElem?_getD, List.getElem?_set]
    by_cases e : i = j
    · subst e
      rw [if_pos rfl, if_pos (by rw [hl]; exact hlt)]; rfl
    · rw [if_neg (fun e' => e (h.inj (by omega) (by omega) e'.symm)), ← List.getD_eq_getElem?_getD]
      exact invUp_at h j (by omega) i (by omega)
theorem inv_at {n : Nat} {u : List Int} (h : PermN n u) {i : Nat} (hi : i < n) : (invOf u).getD (pv u i) 0 = (i : Int) := by
  have := invUp_at h n (Nat.le_refl _) i hi
  rw [invOf, h.2]; exact this
theorem inv_pv {n : Nat} {u : List Int} (h : PermN n u) {i : Nat} (hi : i < n) : pv (invOf u) (pv u i) = i := by
  rw [pv, inv_at h hi]; simp
theorem inv_perm {n : Nat} {u : List Int} (h : PermN n u) : PermN n (invOf u) := by
  refine permN_mk h.size.1 h.size.2 (by rw [invOf, invUp_len, h.2]) (fun j hj => ?_) (fun a b ha hb e => ?_)
  · obtain ⟨i, hi, rfl⟩ := h.surj hj
    rw [inv_at h hi]; omega
  · obtain ⟨i, hi, rfl⟩ := h.surj ha
    obtain ⟨k, hk, rfl⟩ := h.surj hb
    rw [inv_at h hi, inv_at h hk] at e
    have : i = k := by omega
    rw [this]
theorem pv_inv {n : Nat} {u : List Int} (h : PermN n u) {j : Nat} (hj : j < n) : pv u (pv (invOf u) j) = j := by
  obtain ⟨i, hi, rfl⟩ := h.surj hj
  rw [inv_pv h hi]
theorem inv_inv {n : Nat} {u : List Int} (h : PermN n u) : invOf (invOf u) = u :=
  perm_ext (inv_perm (inv_perm h)) h fun i hi => by
    have h2 := inv_perm h
    have e := inv_pv h2 (h.lt hi)
    rw [inv_pv h hi] at e
    exact e

theorem below_iff {n : Nat} {u v : List Int} (hu : PermN n u) (hv : PermN n v) : belowB u v = true ↔ ∀ r c, r ≤ n → c ≤ n → rankUp v r (c : Int) ≤ rankUp u r (c : Int) := by
  rw [belowB_of hu.1 hv.1 (by rw [hu.2, hv.2]), belowOf, decide_eq_true_eq, hu.2]
  exact ⟨fun h r c hr hc => h r hr c hc, fun h r hr c hc => h r c hr hc⟩

end Go.Proofs.Ytfepepakellbbaa
