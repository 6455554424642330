/-
  Contracts: IdentityPerm.
-/
import Derived.Test.YtcpekiangjpppaaPerm
namespace Go.Proofs.Ytcpekiangjpppaa
open Go.RowKit
set_option linter.unusedVariables false

theorem idL_succ (j : Nat) : idL (j + 1) = idL j ++ [(j : Int)] := by simp [idL, List.range_succ]
theorem identL_in {m : Nat} (h : inB (m : Int) 1 7 = true) : identL (m : Int) = idL m := by simp [identL, h]
theorem identL_out {n : Int} (h : inB n 1 7 = false) : identL n = [] := by simp [identL, h]

/-- What IdentityPerm gives, told so that nil and not nil are known. -/
def GivesIdent (w : World) (n : Int) (e : Ending) (w' : World) : Prop :=
  ∃ r, e = .returned r ∧ OwnI w.heap.size w' r (identL n) ∧ Below w.heap.size w w' ∧
    ((inB n 1 7 = false ∧ r = .slice none 0 0) ∨ (inB n 1 7 = true ∧ r = .slice (some ⟨w.heap.size, 0, none⟩) n.toNat n.toNat))

theorem Upto.id_step {cur : List Int} {m j : Nat} (h : Upto cur (idL m) j) (hj : j < m) : Upto (cur.set j (j : Int)) (idL m) (j + 1) :=
  h.step (by simp [idL, List.getD_eq_getElem?_getD, hj]) (by rw [idL_len]; exact hj)

end Go.Proofs.Ytcpekiangjpppaa
