/-
  Essential cells and ranks: plain.
-/
import Derived.Test.YtfepepakellbbaaRk
import Derived.Test.YtfepepakellbbaaEss
namespace Go.Proofs.Ytfepepakellbbaa
open Go.RowKit
set_option linter.unusedVariables false

/-- The cell lies in the diagram. -/
def InD (n : Nat) (u : List Int) (i j : Nat) : Prop := i < n ∧ j < n ∧ j < pv u i ∧ i < pv (invOf u) j
theorem mem_diag {n : Nat} {u : List Int} (h : PermN n u) (x : Int × Int) : x ∈ diagL u ↔ ∃ i j : Nat, x = ((i : Int), (j : Int)) ∧ InD n u i j := by
  rw [diagL_yes h.1, diagAt, h.2]
  simp only [cellsIn, List.range_zero, List.filter_nil, List.map_nil, List.append_nil, List.mem_flatMap, List.mem_range, List.mem_map, List.mem_filter, decide_eq_true_eq]
  constructor
  · rintro ⟨i, hi, j, ⟨hj1, hj2⟩, rfl⟩
    have h1 := h.lt hi
    have hj : j < n := by unfold pv at h1; omega
    rw [(inv_perm h).eq hj] at hj2
    exact ⟨i, j, rfl, hi, hj, hj1, by omega⟩
  · rintro ⟨i, j, rfl, hi, hj, h1, h2⟩
    refine ⟨i, hi, j, ⟨h1, ?_⟩, rfl⟩
    rw [(inv_perm h).eq hj]
    omega
theorem mem_ess {n : Nat} {u : List Int} (h : PermN n u) (x : Int × Int) : x ∈ essL u ↔ ∃ i j : Nat, x = ((i : Int), (j : Int)) ∧ InD n u i j ∧ ¬ InD n u (i + 1) j ∧ ¬ InD n u i (j + 1) := by
  rw [essL, essUp, List.take_length]
  simp only [List.mem_filter, essB, hasC, Bool.and_eq_true, Bool.not_eq_true', decide_eq_false_iff_not]
  rw [mem_diag h]
  constructor
  · rintro ⟨⟨i, j, rfl, hd⟩, h1, h2⟩
    refine ⟨i, j, rfl, hd, fun hx => h1 ?_, fun hx => h2 ?_⟩
    · exact (mem_diag h _).2 ⟨i + 1, j, by simp, hx⟩
    · exact (mem_diag h _).2 ⟨i, j + 1, by simp, hx⟩
  · rintro ⟨i, j, rfl, hd, h1, h2⟩
    refine ⟨⟨i, j, rfl, hd⟩, fun hx => ?_, fun hx => ?_⟩
    · obtain ⟨a, b, e, hy⟩ := (mem_diag h _).1 hx
      simp only [Prod.mk.injEq] at e
      obtain ⟨rfl, rfl⟩ : a = i + 1 ∧ b = j := by omega
      exact h1 hy
    · obtain ⟨a, b, e, hy⟩ := (mem_diag h _).1 hx
      simp only [Prod.mk.injEq] at e
      obtain ⟨rfl, rfl⟩ : a = i ∧ b = j + 1 := by omega
      exact h2 hy

/-- The ranks are kept at the first k of the cells. -/
def keepUp (es : List (Int × Int)) (u v : List Int) (k : Nat) : Bool := (es.take k).all fun x => decide (rankL v (x.1 + 1) (x.2 + 1) ≤ rankL u (x.1 + 1) (x.2 + 1))
theorem keepUp_zero (es : List (Int × Int)) (u v : List Int) : keepUp es u v 0 = true := rfl
theorem keepUp_succ {es : List (Int × Int)} {u v : List Int} {k : Nat} {x : Int × Int} (hx : es[k]? = some x) :
    keepUp es u v (k + 1) = (keepUp es u v k && decide (rankL v (x.1 + 1) (x.2 + 1) ≤ rankL u (x.1 + 1) (x.2 + 1))) := by
  simp [keepUp, List.take_add_one, hx]

theorem rankL_at {n : Nat} {u : List Int} (h : PermN n u) {i j : Nat} (hi : i < n) (hj : j < n) : rankL u ((i : Int) + 1) ((j : Int) + 1) = (rankUp u (i + 1) ((j + 1 : Nat) : Int) : Int) := by
  have := rankL_in (l := u) (r := i + 1) (c := j + 1) h.1 (by rw [h.2]; omega) (by rw [h.2]; omega)
  simpa using this

theorem ess_cell {n : Nat} {u v : List Int} (hu : PermN n u) (hv : PermN n v) (hk : ∀ i j, InD n u i j → ¬ InD n u (i + 1) j → ¬ InD n u i (j + 1) → rankUp v (i + 1) ((j + 1 : Nat) : Int) ≤ rankUp u (i + 1) ((j + 1 : Nat) : Int)) :
    ∀ (d i j : Nat), 2 * n - i - j = d → InD n u i j → rankUp v (i + 1) ((j + 1 : Nat) : Int) ≤ rankUp u (i + 1) ((j + 1 : Nat) : Int) := by
  intro d
  induction d with
  | zero => intro i j hd ⟨h1, h2, _, _⟩; omega
  | succ d ih =>
    intro i j hd hD
    by_cases h1 : InD n u (i + 1) j
    · have a := ih (i + 1) j (by have := hD.1; omega) h1
      have b := (rk_step hv h1.1 (j + 1)).1
      have c := rk_succ hu h1.1 (j + 1)
      rw [if_neg (by have := h1.2.2.1; omega)] at c
      omega
    · by_cases h2 : InD n u i (j + 1)
      · have a := ih i (j + 1) (by have := hD.1; omega) h2
        have b := (rk_cstep hv (r := i + 1) (c := j + 1) h2.1 h2.2.1).1
        have c := rk_col hu (i := pv (invOf u) (j + 1)) ((inv_perm hu).lt h2.2.1) (i + 1) h2.1
        rw [pv_inv hu h2.2.1, if_neg (by have := h2.2.2.2; omega)] at c
        omega
      · exact hk i j hD h1 h2
theorem ess_all {n : Nat} {u v : List Int} (hu : PermN n u) (hv : PermN n v) (hk : ∀ i j, InD n u i j → ¬ InD n u (i + 1) j → ¬ InD n u i (j + 1) → rankUp v (i + 1) ((j + 1 : Nat) : Int) ≤ rankUp u (i + 1) ((j + 1 : Nat) : Int)) :
    ∀ (d r c : Nat), r + c = d → r ≤ n → c ≤ n → rankUp v r (c : Int) ≤ rankUp u r (c : Int) := by
  intro d
  induction d with
  | zero =>
    intro r c hd hr hc
    obtain ⟨rfl, rfl⟩ : r = 0 ∧ c = 0 := by omega
    rw [rankUp_zero, rankUp_zero]; omega
  | succ d ih =>
    intro r c hd hr hc
    cases r with
    | zero => rw [rankUp_zero, rankUp_zero]; omega
    | succ r =>
      cases c with
      | zero => rw [rk_left hv _ hr, rk_left hu _ hr]; omega
      | succ c =>
        by_cases h1 : pv u r < c + 1
        · have a := ih r (c + 1) (by omega) (by omega) hc
          have b := (rk_step hv (r := r) (by omega) (c + 1)).2
          have e := rk_succ hu (r := r) (by omega) (c + 1)
          rw [if_pos h1] at e
          omega
        · by_cases h2 : pv (invOf u) c < r + 1
          · have a := ih (r + 1) c (by omega) hr (by omega)
            have b := (rk_cstep hv (r := r + 1) (c := c) hr (by omega)).2
            have e := rk_col hu (i := pv (invOf u) c) ((inv_perm hu).lt (by omega)) (r + 1) hr
            rw [pv_inv hu (by omega), if_pos h2] at e
            omega
          · exact ess_cell hu hv hk _ r c rfl ⟨by omega, by omega, by omega, by omega⟩
theorem ess_ranks {n : Nat} {u v : List Int} (hu : PermN n u) (hv : PermN n v) {k : Nat} (hk : k = (essL u).length) : keepUp (essL u) u v k = belowB u v := by
  rw [Bool.eq_iff_iff, below_iff hu hv, keepUp, hk, List.take_length, List.all_eq_true]
  constructor
  · intro h r c hr hc
    refine ess_all hu hv (fun i j hD h1 h2 => ?_) _ r c rfl hr hc
    have := h ((i : Int), (j : Int)) ((mem_ess hu _).2 ⟨i, j, rfl, hD, h1, h2⟩)
    rw [decide_eq_true_eq, rankL_at hu hD.1 hD.2.1, rankL_at hv hD.1 hD.2.1] at this
    omega
  · intro h x hx
    obtain ⟨i, j, rfl, hD, _⟩ := (mem_ess hu _).1 hx
    rw [decide_eq_true_eq, rankL_at hu hD.1 hD.2.1, rankL_at hv hD.1 hD.2.1]
    have := h (i + 1) (j + 1) hD.1 hD.2.1
    omega
theorem rank_all {n : Nat} {u : List Int} (h : PermN n u) : rankL u (n : Int) (n : Int) = (n : Int) := by
  rw [rankL_in h.1 (by rw [h.2]; omega) (by rw [h.2]; omega), rk_right h n (Nat.le_refl _)]

end Go.Proofs.Ytfepepakellbbaa
