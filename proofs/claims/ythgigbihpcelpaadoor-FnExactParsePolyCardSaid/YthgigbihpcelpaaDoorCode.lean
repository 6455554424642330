/-
  Contracts: CodeOf, LengthOf, l1Sum.
-/
import Derived.Test.YthgigbihpcelpaaDoorPermI
namespace Go.Proofs.YthgigbihpcelpaaDoor
open Go.RowKit
set_option linter.unusedVariables false

/-- How many of the places from i + 1 on and before j bear less than the place i. -/
def cntUp (l : List Int) (i : Nat) : Nat → Nat
  | 0 => 0
  | j + 1 => cntUp l i j + if i < j ∧ l.getD j 0 < l.getD i 0 then 1 else 0
theorem cntUp_le (l : List Int) (i j : Nat) : cntUp l i j ≤ j := by
  induction j with
  | zero => simp [cntUp]
  | succ j ih => simp only [cntUp]; split <;> omega
theorem cntUp_low (l : List Int) (i : Nat) : ∀ j, j ≤ i + 1 → cntUp l i j = 0
  | 0, _ => rfl
  | j + 1, h => by
    have := cntUp_low l i j (by omega)
    simp only [cntUp, this]
    rw [if_neg (by omega)]
theorem cntUp_yes {l : List Int} {i j : Nat} (hij : i < j) {x y : Int} (hx : x = l.getD i 0) (hy : y = l.getD j 0) (h : y < x) : cntUp l i (j + 1) = cntUp l i j + 1 := by
  simp only [cntUp]
  rw [if_pos ⟨hij, by rw [← hx, ← hy]; exact h⟩]
theorem cntUp_no {l : List Int} {i j : Nat} {x y : Int} (hx : x = l.getD i 0) (hy : y = l.getD j 0) (h : ¬ y < x) : cntUp l i (j + 1) = cntUp l i j := by
  simp only [cntUp]
  rw [if_neg (by rw [← hx, ← hy]; exact fun c => h c.2)]
  rfl

/-- The rows before i are counted; the row i up to the place j. -/
def codeUp (l : List Int) (i j : Nat) : List Int := (List.range l.length).map (fun t => ((if t < i then cntUp l t l.length else if t = i then cntUp l i j else 0 : Nat) : Int))
def codeOf (l : List Int) : List Int := (List.range l.length).map (fun t => (cntUp l t l.length : Int))
def codeL (l : List Int) : List Int := if isPermB l = true then codeOf l else []
theorem codeUp_len (l : List Int) (i j : Nat) : (codeUp l i j).length = l.length := by simp [codeUp]
theorem codeUp_zero (l : List Int) : List.replicate l.length 0 = codeUp l 0 1 := by
  apply List.ext_getElem
  · simp [codeUp]
  · intro t h1 h2
    simp only [codeUp, List.getElem_replicate, List.getElem_map, List.getElem_range]
    rw [if_neg (by omega)]
    split
    · rw [cntUp_low l 0 1 (by omega)]; rfl
    · rfl
theorem codeUp_next (l : List Int) (i : Nat) : codeUp l i l.length = codeUp l (i + 1) (i + 2) := by
  apply List.ext_getElem
  · simp [codeUp]
  · intro t h1 h2
    simp only [codeUp, List.getElem_map, List.getElem_range]
    by_cases h : t < i
    · rw [if_pos h, if_pos (by omega)]
    · rw [if_neg h]
      by_cases e : t = i
      · subst e; rw [if_pos rfl, if_pos (by omega)]
      · rw [if_neg e, if_neg (by omega)]
        split
        · rename_i h3; subst h3; rw [cntUp_low _ _ _ (by omega)]
        · rfl
theorem codeUp_at {l : List Int} {i j : Nat} (h : i < l.length) : (codeUp l i j).getD i 0 = (cntUp l i j : Int) := by
  simp [codeUp, List.getD_eq_getElem?_getD, h]
theorem codeUp_set {l : List Int} {i j : Nat} {c : Int} (hi : i < l.length) (h : c = (cntUp l i (j + 1) : Int)) : (codeUp l i j).set i c = codeUp l i (j + 1) := by
  apply List.ext_getElem
  · simp [codeUp]
  · intro t h1 h2
    simp only [codeUp, List.getElem_map, List.getElem_range, List.getElem_set]
    by_cases e : i = t
    · subst e; rw [if_pos rfl, if_neg (by omega), if_pos rfl, h]
    · rw [if_neg e]
      by_cases h3 : t < i
      · rw [if_pos h3, if_pos h3]
      · rw [if_neg h3, if_neg h3, if_neg (by omega), if_neg (by omega)]
theorem codeUp_same {l : List Int} {i j : Nat} (h : cntUp l i (j + 1) = cntUp l i j) : codeUp l i (j + 1) = codeUp l i j := by
  simp only [codeUp, h]
theorem codeUp_all (l : List Int) (j : Nat) : codeUp l l.length j = codeOf l := by
  apply List.ext_getElem
  · simp [codeUp, codeOf]
  · intro t h1 h2
    simp only [codeUp, codeOf, List.getElem_map, List.getElem_range]
    rw [codeUp_len] at h1
    rw [if_pos h1]

end Go.Proofs.YthgigbihpcelpaaDoor
