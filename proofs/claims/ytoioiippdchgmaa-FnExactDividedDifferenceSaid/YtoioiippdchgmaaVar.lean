/-
  isVariable, l2Variable.
-/
import Derived.Test.YtoioiippdchgmaaPoly
namespace Go.Proofs.Ytoioiippdchgmaa
open Go.RowKit
set_option linter.unusedVariables false

def varB (i : Int) : Bool := decide (0 ≤ i ∧ i ≤ 5)
theorem isVar_c (i : Int) (w : World) : Calls Try.prog 38 #[.int .i64 i] w fun e w' => e = .returned (.bool (varB i)) ∧ w = w' := by
  unfold varB
  go_enter Try.func38, Try.ntmps38
  by_cases h0 : 0 ≤ i
  · by_cases h5 : i ≤ 5
    · go_wp2_with fail
      go_ret
      exact ⟨by simp; omega, rfl⟩
    · go_wp2_with fail
      go_ret
      exact ⟨by simp; omega, rfl⟩
  · go_wp2_with fail
    go_ret
    exact ⟨by simp; omega, rfl⟩

end Go.Proofs.Ytoioiippdchgmaa
