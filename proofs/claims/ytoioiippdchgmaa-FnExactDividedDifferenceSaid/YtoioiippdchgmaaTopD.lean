/-
  DividedDifference of the program.
-/
import Derived.Test.YtoioiippdchgmaaTopP
namespace Go.Proofs.Ytoioiippdchgmaa
open Go.RowKit Go.Maps
set_option linter.unusedVariables false

set_option maxHeartbeats 1600000 in
/-- operated, the operator being divided. -/
theorem operated_c (v : Value) (f : TermL) (i : Int) (w : World) (hv : TermsV w v f) :
    Calls Try.prog 41 #[v, .int .i64 i, .func (.func 42) #[] #[]] w (GivesTB w (ddL f i) (ddB f i)) := by
  cases hF : polyB f with
  | false =>
    have HR := Lib.hid (dd_no (f := f) (i := i) (by unfold ddOk; rw [hF]; rfl))
    go_enter Try.func41, Try.ntmps41
    go_wp2_with fail
    refine (iPolyOk_c _ _ _ hv).mono ?_
    rw [hF]
    rintro e w1 ⟨rfl, b1⟩
    go_wp2_with fail
    go_ret2
    rw [HR.out.1, HR.out.2]
    exact ⟨_, rfl, OwnP.nil _ _, b1⟩
  | true =>
    cases hI : varB i with
    | false =>
      have HR := Lib.hid (dd_no (f := f) (i := i) (by unfold ddOk; rw [hI]; simp))
      go_enter Try.func41, Try.ntmps41
      go_wp2_with fail
      refine (iPolyOk_c _ _ _ hv).mono ?_
      rw [hF]
      rintro e w1 ⟨rfl, b1⟩
      go_wp2_with fail
      refine (isVar_c _ _).mono ?_
      rw [hI]
      rintro e w2 ⟨rfl, rfl⟩
      go_wp2_with fail
      go_ret2
      rw [HR.out.1, HR.out.2]
      exact ⟨_, rfl, OwnP.nil _ _, b1⟩
    | true =>
      obtain ⟨k, rfl, hk⟩ := varB_nat hI
      have HR := Lib.hid (dd_yes (f := f) (k := k) (by unfold ddOk; rw [hF, hI]; rfl))
      have HPF := Lib.hid hF
      have HII := Lib.hid hI
      have HGD := Lib.hid (divT7_good (polyB_good hF) hk)
      clear hF hI
      go_enter Try.func41, Try.ntmps41
      go_wp2_with fail
      refine (iPolyOk_c _ _ _ hv).mono ?_
      rw [HPF.out]
      rintro e w1 ⟨rfl, b1⟩
      go_wp2_with fail
      refine (isVar_c _ _).mono ?_
      rw [HII.out]
      rintro e w2 ⟨rfl, rfl⟩
      go_wp2_with fail
      refine (openM_c _ _ _ (hv.kept b1) HPF.out).mono ?_
      rintro e w3 ⟨Df, nf, rfl, hf, hnf, hFF, b3⟩
      have F3 := below_step b1 b3 b1.size
      go_wp2_with fail
      refine (divided_c _ nf Df f k _ hf hFF (polyB_good HPF.out) (polyB_clean HPF.out) hnf (polyB_val HPF.out) hk).mono ?_
      rintro e w5 ⟨D, n, rfl, hD, hn, hH, b5⟩
      have F5 := below_step F3 b5 F3.size
      have hGv : ∀ e, E7 e → val (gathT (divT7 k f)) e = val (divT7 k f) e := fun e he => gathT_val HGD.out e
      go_wp2_with fail
      refine (closed_c _ n D _ (gathT (divT7 k f)) _ hD hH (gathT_clean HGD.out) (gathT_good HGD.out).all7 hGv (gathT_good HGD.out) (gathT_sorted HGD.out)).mono ?_
      rw [← HR.out.1, ← HR.out.2]
      rintro e w6 ⟨r, rfl, o6, b6⟩
      have F6 := below_step F5 b6 F5.size
      have hs5 := F5.size
      go_wp2_with fail
      go_ret2
      exact ⟨_, rfl, o6.mono hs5, F6⟩

set_option maxHeartbeats 1600000 in
theorem iDiff_c (v : Value) (f : TermL) (i : Int) (w : World) (hv : TermsV w v f) :
    Calls Try.prog 19 #[v, .int .i64 i] w (GivesTB w (ddL f i) (ddB f i)) := by
  go_enter Try.func19, Try.ntmps19
  go_wp2_with fail
  refine (operated_c v f i w hv).mono ?_
  rintro e w1 ⟨r, rfl, o1, b1⟩
  go_wp2_with fail
  go_ret2
  exact ⟨_, rfl, o1, b1⟩

end Go.Proofs.Ytoioiippdchgmaa
