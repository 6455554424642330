/-
  Contracts: ComposePerms, InversePerm.
-/
import Derived.Test.YtcpekiangjpppaaPermI
namespace Go.Proofs.Ytcpekiangjpppaa
open Go.RowKit
set_option linter.unusedVariables false

theorem take_succ_map {b : List Int} {j : Nat} {y : Int} (f : Int → Int) (hy : b[j]? = some y) : (b.take (j + 1)).map f = (b.take j).map f ++ [f y] := by
  rw [List.take_add_one, hy]; simp

/-- Behind u what v does: u[v[i]]. -/
def thenL (u v : List Int) : List Int := v.map (fun x => u.getD x.toNat 0)
/-- The first j of them. -/
def thenUp (u v : List Int) (j : Nat) : List Int := (v.take j).map (fun x => u.getD x.toNat 0)
theorem thenUp_len (u v : List Int) (j : Nat) : (thenUp u v j).length ≤ j := by simp [thenUp]; omega
theorem thenUp_zero (u v : List Int) : thenUp u v 0 = [] := by simp [thenUp]
theorem thenUp_succ {u v : List Int} {j t : Nat} {x : Int} (hy : v[j]? = some (t : Int)) (hx : x = u.getD t 0) : thenUp u v j ++ [x] = thenUp u v (j + 1) := by
  rw [hx]
  unfold thenUp
  rw [take_succ_map (fun x => u.getD x.toNat 0) hy]
  simp
theorem thenUp_all (u v : List Int) {j : Nat} (h : j = v.length) : thenUp u v j = thenL u v := by
  rw [thenUp, List.take_of_length_le (by omega)]; rfl
def composeL (u v : List Int) : List Int := if isPermB u = true ∧ isPermB v = true ∧ u.length = v.length then thenL u v else []

end Go.Proofs.Ytcpekiangjpppaa
