/-
  The contracts of the law's own helpers: toIntS, eqIntS, markIntS, heldIntS.
-/
import Derived.Test.YtfepepakellbbaaGives
namespace Go.Proofs.Ytfepepakellbbaa
open Go.RowKit
set_option linter.unusedVariables false

/-- k, k + 1, .. : n numbers. -/
def Marks (k : Int) (n : Nat) : List Int := (List.range n).map (fun t : Nat => k + (t : Int))
theorem Marks.len (k : Int) (n : Nat) : (Marks k n).length = n := by simp [Marks]
theorem Marks.at {k : Int} {n j : Nat} (h : j < n) : (Marks k n).getD j 0 = k + (j : Int) := by
  simp [Marks, List.getD_eq_getElem?_getD, h]

def MarkedI (lo hi : Nat) (w : World) (v : Value) (n : Nat) (k : Int) (e : Ending) (w' : World) : Prop :=
  e = .returned (.int .i64 (k + (n : Int))) ∧ AtI lo hi w' v (Marks k n) ∧ Only lo hi w w'

/-- As far as j the list holds the marks. -/
def MarkUp (cur : List Int) (k : Int) (n j : Nat) : Prop := cur.length = n ∧ ∀ t, t < j → cur[t]? = some (k + (t : Int))
theorem MarkUp.step {cur : List Int} {k : Int} {n j : Nat} (h : MarkUp cur k n j) (hj : j < n) : MarkUp (cur.set j (k + (j : Int))) k n (j + 1) := by
  refine ⟨by simpa using h.1, fun t ht => ?_⟩
  rw [List.getElem?_set]
  by_cases e : j = t
  · subst e
    rw [if_pos rfl, if_pos (by rw [h.1]; exact hj)]
  · rw [if_neg e]; exact h.2 t (by omega)
theorem MarkUp.done {cur : List Int} {k : Int} {n : Nat} (h : MarkUp cur k n n) : cur = Marks k n := by
  apply List.ext_getElem?
  intro t
  by_cases ht : t < n
  · rw [h.2 t ht]; simp [Marks, ht]
  · rw [List.getElem?_eq_none (by rw [h.1]; omega), List.getElem?_eq_none (by rw [Marks.len]; omega)]

end Go.Proofs.Ytfepepakellbbaa
