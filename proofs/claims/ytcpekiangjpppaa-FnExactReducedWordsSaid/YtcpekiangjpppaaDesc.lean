/-
  Contracts: DescentsOf, IsGrassmannian, RankAt.
-/
import Derived.Test.YtcpekiangjpppaaPermI
namespace Go.Proofs.Ytcpekiangjpppaa
open Go.RowKit
set_option linter.unusedVariables false

/-- The descents before the place k. -/
def descUp (l : List Int) (k : Nat) : List Int := ((List.range k).filter (fun t => decide (l.getD (t + 1) 0 < l.getD t 0))).map (fun t : Nat => (t : Int))
def descL (l : List Int) : List Int := if isPermB l = true then descUp l (l.length - 1) else []
theorem descUp_zero (l : List Int) : descUp l 0 = [] := rfl
theorem descUp_len (l : List Int) (k : Nat) : (descUp l k).length ≤ k := by
  rw [descUp, List.length_map]
  exact Nat.le_trans (List.length_filter_le _ _) (by simp)
theorem descUp_yes {l : List Int} {k : Nat} {x y : Int} (hx : x = l.getD k 0) (hy : y = l.getD (k + 1) 0) (h : y < x) : descUp l (k + 1) = descUp l k ++ [(k : Int)] := by
  have : decide (l.getD (k + 1) 0 < l.getD k 0) = true := by rw [← hx, ← hy]; simpa using h
  simp only [descUp, List.range_succ, List.filter_append, List.map_append, List.filter_cons, this, if_true, List.filter_nil, List.map_cons, List.map_nil]
theorem descUp_no {l : List Int} {k : Nat} {x y : Int} (hx : x = l.getD k 0) (hy : y = l.getD (k + 1) 0) (h : ¬ y < x) : descUp l (k + 1) = descUp l k := by
  have : decide (l.getD (k + 1) 0 < l.getD k 0) = false := by rw [← hx, ← hy]; simpa using h
  simp only [descUp, List.range_succ, List.filter_append, List.filter_cons, this, List.filter_nil, Bool.false_eq_true, if_false, List.append_nil]

theorem quietGtr {x y : Int} (h : y < x) : decide (y < x) = true := by simpa using h

end Go.Proofs.Ytcpekiangjpppaa
