/-
  Contracts: DegreeOf.
-/
import Derived.Test.YthgigbihpcelpaaDoorPoly
import Derived.Test.YthgigbihpcelpaaDoorLen
namespace Go.Proofs.YthgigbihpcelpaaDoor
open Go.RowKit
set_option linter.unusedVariables false

def degF : Int → TermL → Int
  | m, [] => m
  | m, t :: ts => degF (max m t.1.sum) ts
theorem degF_step {ts : TermL} {e : List Int} {d m : Int} {j : Nat} (h : ts[j]? = some (e, d)) : degF m (ts.drop j) = degF (max m e.sum) (ts.drop (j + 1)) := by
  obtain ⟨hj, he⟩ := List.getElem?_eq_some_iff.1 h
  rw [List.drop_eq_getElem_cons hj, he]
  rfl
noncomputable def degL (ts : TermL) : Int := if polyB ts = true then degF (-1) ts else -1
theorem degL_yes {ts : TermL} (h : polyB ts = true) : degL ts = degF (-1) ts := if_pos h
theorem degL_no {ts : TermL} (h : polyB ts = false) : degL ts = -1 := if_neg (by rw [h]; simp)
theorem polyB_all {ts : TermL} (h : polyB ts = true) : ∀ (j : Nat) (e : List Int) (d : Int), ts[j]? = some (e, d) → TermOk e d := by
  intro j e d hj
  exact ((polyB_iff.1 h).2 j (List.getElem?_eq_some_iff.1 hj).1 e d hj).1
theorem termOk_small {e : List Int} {d : Int} (h : TermOk e d) : Small e := by
  intro x hx
  obtain ⟨i, hi, rfl⟩ := List.getElem_of_mem hx
  have := h.2.2.2 i (by rw [← h.1]; exact hi)
  rw [List.getD_eq_getElem?_getD, List.getElem?_eq_getElem hi] at this
  simp at this
  omega

end Go.Proofs.YthgigbihpcelpaaDoor
