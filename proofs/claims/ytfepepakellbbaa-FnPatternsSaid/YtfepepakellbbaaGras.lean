/-
  Contracts: IsGrassmannian, RankAt.
-/
import Derived.Test.YtfepepakellbbaaDesc
namespace Go.Proofs.Ytfepepakellbbaa
open Go.RowKit
set_option linter.unusedVariables false

def grassB (l : List Int) : Bool := isPermB l && decide ((descL l).length ≤ 1)

theorem iGrass_c (v : Value) (l : List Int) (w : World) (hv : IntsV w v l) :
    Calls Try.prog 25 #[v] w (GivesB w (grassB l)) := by
  cases hp : isPermB l with
  | false =>
    have HR : Hid (grassB l = false) := Lib.hid (by simp [grassB, hp])
    go_enter Try.func25, Try.ntmps25
    go_wp2_with fail
    refine (iIsPerm_c _ _ _ hv).mono ?_
    rintro e w1 ⟨rfl, b1⟩
    go_wp2_with fail
    go_ret
    rw [HR.out]
    exact ⟨rfl, b1⟩
  | true =>
    obtain ⟨m, hm⟩ : ∃ m, m = (descL l).length := ⟨_, rfl⟩
    have HR : Hid (grassB l = decide (m ≤ 1)) := Lib.hid (by simp [grassB, hp, hm])
    have HM := Lib.hid hm
    clear hm
    go_enter Try.func25, Try.ntmps25
    go_wp2_with fail
    refine (iIsPerm_c _ _ _ hv).mono ?_
    rintro e w1 ⟨rfl, b1⟩
    go_wp2_with fail
    refine (iDesc_c _ _ _ (hv.kept b1)).mono ?_
    rintro e w2 ⟨r, rfl, o2, b2⟩
    have F2 := below_step b1 b2 b1.size
    obtain ⟨ao, c, rfl⟩ : ∃ ao c, r = .slice ao m c := by
      obtain ⟨n', ao, b, off, c, h, hl, _⟩ := o2.ints.open
      exact ⟨ao, c, by rw [h, hl.out, HM.out]⟩
    clear o2
    go_wp2_with fail
    go_ret
    rw [HR.out]
    refine ⟨ret_bool ?_, F2⟩
    simp
    omega

end Go.Proofs.Ytfepepakellbbaa
