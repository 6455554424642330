/-
  Contracts: HasPattern, IsVexillary.
-/
import Derived.Test.YtfepepakellbbaaPat
namespace Go.Proofs.Ytfepepakellbbaa
open Go.RowKit
set_option linter.unusedVariables false

def hasPatB (l p : List Int) : Bool := isPermB l && isPermB p && patB l p [] 0
theorem hasPatB_no1 {l p : List Int} (h : isPermB l = false) : hasPatB l p = false := by simp [hasPatB, h]
theorem hasPatB_no2 {l p : List Int} (h : isPermB p = false) : hasPatB l p = false := by simp [hasPatB, h]
theorem hasPatB_yes {l p : List Int} (h1 : isPermB l = true) (h2 : isPermB p = true) : hasPatB l p = patB l p [] 0 := by simp [hasPatB, h1, h2]
theorem IntsV.nil (w : World) : IntsV w (.slice none 0 0) [] := (OwnI.nil 0 w).ints

set_option maxHeartbeats 800000 in
theorem iHas_c (v u : Value) (l p : List Int) (w : World) (hv : IntsV w v l) (hu : IntsV w u p) :
    Calls Try.prog 23 #[v, u] w (GivesB w (hasPatB l p)) := by
  cases h1 : isPermB l with
  | false =>
    have HR := Lib.hid (hasPatB_no1 (p := p) h1)
    go_enter Try.func23, Try.ntmps23
    go_wp2_with fail
    refine (iIsPerm_c _ _ _ hv).mono ?_
    rintro e w1 ⟨rfl, b1⟩
    go_wp2_with fail
    go_ret
    exact ⟨ret_bool HR.out.symm, b1⟩
  | true =>
    cases h2 : isPermB p with
    | false =>
      have HR := Lib.hid (hasPatB_no2 (l := l) h2)
      go_enter Try.func23, Try.ntmps23
      go_wp2_with fail
      refine (iIsPerm_c _ _ _ hv).mono ?_
      rintro e w1 ⟨rfl, b1⟩
      go_wp2_with fail
      refine (iIsPerm_c _ _ _ (hu.kept b1)).mono ?_
      rintro e w2 ⟨rfl, b2⟩
      have F2 := below_step b1 b2 b1.size
      go_wp2_with fail
      go_ret
      exact ⟨ret_bool HR.out.symm, F2⟩
    | true =>
      have HR := Lib.hid (hasPatB_yes h1 h2)
      go_enter Try.func23, Try.ntmps23
      go_wp2_with fail
      refine (iIsPerm_c _ _ _ hv).mono ?_
      rintro e w1 ⟨rfl, b1⟩
      go_wp2_with fail
      refine (iIsPerm_c _ _ _ (hu.kept b1)).mono ?_
      rintro e w2 ⟨rfl, b2⟩
      have F2 := below_step b1 b2 b1.size
      go_wp2_with fail
      refine (holds_c l p _ 0 [] _ _ _ _ rfl (Nat.zero_le _) (Nat.zero_le _) (hv.kept F2) (hu.kept F2) (IntsV.nil _)).mono ?_
      rintro e w3 ⟨rfl, b3⟩
      have F3 := below_step F2 b3 F2.size
      go_wp2_with fail
      go_ret
      exact ⟨ret_bool HR.out.symm, F3⟩

def vexL : List Int := [1, 0, 3, 2]
def vexB (l : List Int) : Bool := isPermB l && !patB l vexL [] 0
theorem vexL_perm : isPermB vexL = true := by decide
theorem vexB_no {l : List Int} (h : isPermB l = false) : vexB l = false := by simp [vexB, h]
theorem vexB_yes {l : List Int} {q : Bool} (h : isPermB l = true) (hq : patB l vexL [] 0 = q) : vexB l = !q := by simp [vexB, h, hq]
theorem vexB_has {l : List Int} {q : Bool} (h : isPermB l = true) (hq : hasPatB l vexL = q) : vexB l = !q := by
  rw [hasPatB_yes h vexL_perm] at hq; exact vexB_yes h hq
theorem IntsV.vex (w : World) : IntsV (w.alloc (.cells #[.int .i64 1, .int .i64 0, .int .i64 3, .int .i64 2] 3)) (.slice (some ⟨w.heap.size, 0, none⟩) 4 4) vexL := by
  refine ⟨_, w.heap.size, 0, 4, rfl, by decide, by decide, fun _ => rfl, ?_, by decide⟩
  intro j hj
  match j, hj with
  | 0, _ => simp [vexL]
  | 1, _ => simp [vexL]
  | 2, _ => simp [vexL]
  | 3, _ => simp [vexL]

set_option maxHeartbeats 800000 in
theorem iVex_c (v : Value) (l : List Int) (w : World) (hv : IntsV w v l) :
    Calls Try.prog 24 #[v] w (GivesB w (vexB l)) := by
  cases h1 : isPermB l with
  | false =>
    have HR := Lib.hid (vexB_no h1)
    go_enter Try.func24, Try.ntmps24
    go_wp2_with fail
    refine (iIsPerm_c _ _ _ hv).mono ?_
    rintro e w1 ⟨rfl, b1⟩
    go_wp2_with fail
    go_ret
    exact ⟨ret_bool HR.out.symm, b1⟩
  | true =>
    obtain ⟨q, hq⟩ : ∃ q, hasPatB l vexL = q := ⟨_, rfl⟩
    have HR := Lib.hid (vexB_has h1 hq)
    have HQ := Lib.hid hq
    clear hq
    go_enter Try.func24, Try.ntmps24
    go_wp2_with fail
    refine (iIsPerm_c _ _ _ hv).mono ?_
    rintro e w1 ⟨rfl, b1⟩
    have HX := IntsV.vex w1
    have hw := (Below.refl w1.heap.size w1).alloc (Nat.le_refl _) (.cells #[.int .i64 1, .int .i64 0, .int .i64 3, .int .i64 2] 3)
    have hv2 := (hv.kept b1).kept hw
    have F2 := below_step b1 hw b1.size
    go_wp2_with fail
    refine (iHas_c _ _ l vexL _ hv2 HX).mono ?_
    rw [HQ.out]
    rintro e w3 ⟨rfl, b3⟩
    have F3 := below_step F2 b3 F2.size
    go_wp2_with fail
    go_ret
    exact ⟨ret_bool HR.out.symm, F3⟩

end Go.Proofs.Ytfepepakellbbaa
