/-
  Contracts: l1Sum, LengthOf.
-/
import Derived.Test.YthgigbihpcelpaaDoorCode
namespace Go.Proofs.YthgigbihpcelpaaDoor
open Go.RowKit
set_option linter.unusedVariables false

/-- The sum of the first j numbers. -/
def sumUp (l : List Int) (j : Nat) : Int := (l.take j).sum
theorem sumUp_zero (l : List Int) : sumUp l 0 = 0 := by simp [sumUp]
theorem sumUp_succ {l : List Int} {j : Nat} {x : Int} (hx : l[j]? = some x) : sumUp l (j + 1) = sumUp l j + x := by
  rw [sumUp, sumUp, List.take_add_one, hx]; simp
theorem sumUp_all (l : List Int) {j : Nat} (h : j = l.length) : sumUp l j = l.sum := by rw [sumUp, List.take_of_length_le (by omega)]
/-- Small numbers, none less than 0. -/
def Small (l : List Int) : Prop := ∀ x ∈ l, 0 ≤ x ∧ x ≤ 1048576
theorem sumUp_le {l : List Int} (h : Small l) : ∀ j, j ≤ l.length → 0 ≤ sumUp l j ∧ sumUp l j ≤ 1048576 * (j : Int)
  | 0, _ => by simp [sumUp_zero]
  | j + 1, hj => by
    have ih := sumUp_le h j (by omega)
    have hx := h (l[j]'(by omega)) (List.getElem_mem _)
    rw [sumUp_succ (List.getElem?_eq_getElem (by omega))]
    omega

/-- The number of inversions. -/
def lenOf (l : List Int) : Int := (codeOf l).sum
def lengthL (l : List Int) : Int := if isPermB l = true then lenOf l else -1
theorem codeOf_len (l : List Int) : (codeOf l).length = l.length := by simp [codeOf]
theorem codeOf_small {l : List Int} (h : l.length ≤ 1048576) : Small (codeOf l) := by
  intro x hx
  simp only [codeOf, List.mem_map, List.mem_range] at hx
  obtain ⟨t, ht, rfl⟩ := hx
  have := cntUp_le l t l.length
  omega

end Go.Proofs.YthgigbihpcelpaaDoor
