/-
  Contracts: RankAt.
-/
import Derived.Test.YtcpekiangjpppaaPermI
namespace Go.Proofs.Ytcpekiangjpppaa
open Go.RowKit
set_option linter.unusedVariables false

/-- How many of the first r numbers are less than c. -/
def rankUp (l : List Int) (r : Nat) (c : Int) : Nat := ((l.take r).filter (fun x => decide (x < c))).length
def rankL (l : List Int) (r c : Int) : Int := if isPermB l = true ∧ inB r 0 l.length = true ∧ inB c 0 l.length = true then (rankUp l r.toNat c : Int) else -1
theorem rankUp_zero (l : List Int) (c : Int) : rankUp l 0 c = 0 := by simp [rankUp]
theorem rankUp_le (l : List Int) (r : Nat) (c : Int) : rankUp l r c ≤ r := Nat.le_trans (List.length_filter_le _ _) (List.length_take_le _ _)
theorem rankUp_yes {l : List Int} {r : Nat} {c x : Int} (hx : l[r]? = some x) (h : x < c) : rankUp l (r + 1) c = rankUp l r c + 1 := by
  have : decide (x < c) = true := by simpa using h
  simp only [rankUp, List.take_add_one, hx, Option.toList_some, List.filter_append, List.filter_cons, this, if_true, List.filter_nil, List.length_append, List.length_singleton]
theorem rankUp_no {l : List Int} {r : Nat} {c x : Int} (hx : l[r]? = some x) (h : ¬ x < c) : rankUp l (r + 1) c = rankUp l r c := by
  have : decide (x < c) = false := by simpa using h
  simp only [rankUp, List.take_add_one, hx, Option.toList_some, List.filter_append, List.filter_cons, this, Bool.false_eq_true, if_false, List.filter_nil, List.append_nil]

theorem rankL_no {l : List Int} {r c : Int} (h : isPermB l = false ∨ inB r 0 l.length = false ∨ inB c 0 l.length = false) : rankL l r c = -1 := by
  rw [rankL, if_neg]
  rintro ⟨h1, h2, h3⟩
  rcases h with h | h | h <;> simp_all

end Go.Proofs.Ytcpekiangjpppaa
