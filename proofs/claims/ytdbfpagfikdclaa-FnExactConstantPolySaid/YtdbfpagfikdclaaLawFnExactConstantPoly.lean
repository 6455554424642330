/-
  The statement: the law FnExactConstantPoly returns true for every input, and its arguments read afterwards as before. No condition.
-/
import Derived.Test.YtdbfpagfikdclaaRows
import Derived.Test.YtdbfpagfikdclaaBase
import Derived.Test.YtdbfpagfikdclaaConst
import Derived.WalkKit
import Derived.ProofKit
import Derived.OpenShut
import Derived.ShutString
namespace Go.Proofs.Ytdbfpagfikdclaa.fnExactConstantPoly
open Go.ChangeShapes Go.WideShapes Go.ChangeAt Go.RowKit
open Go.ChangeMaps (open_string shut_string)
set_option linter.unusedVariables false      -- a walk need not use every 'w<i>' (that an integer argument fits its kind)

theorem own : ownKnob Try.prog.godebug = none := by kernel_rfl

set_option maxHeartbeats 1600000 in
theorem walk (a0 : Int) (w0 : (Lit.int .i64 a0).wf = true) (w : World) :
    Calls Try.prog 10 #[.int .i64 a0] w fun e w' => e = .returned (.bool true) ∧ Below w.heap.size w w' := by
  -- written by gen_law.py
  obtain ⟨hlo0, hhi0⟩ := wf_bounds w0
  go_enter Try.func10, Try.ntmps10
  go_wp2_with fail
  refine (sConst_c _ _ ).mono ?_
  rintro e v1 ⟨r1, rfl, o1, b1⟩
  have F1 := b1
  have y1 := b1.size
  have t1x1 := o1.at
  clear o1
  go_wp2_with fail
  refine (iConst_c _ _ ).mono ?_
  rintro e v2 ⟨r2, rfl, o2, b2⟩
  have F2 := below_step F1 b2 F1.size
  have y2 := b2.size
  have t2x2 := o2.at
  clear o2
  have t1x2 := t1x1.kept b2
  clear t1x1
  go_wp2_with fail
  refine (eqTermS_same _ _ _ _ t2x2.terms t1x2.terms).mono ?_
  rintro e v3 ⟨rfl, b3⟩
  have F3 := below_step F2 b3 F2.size
  have y3 := b3.size
  have t1x3 := t1x2.kept b3
  clear t1x2
  have t2x3 := t2x2.kept b3
  clear t2x2
  go_wp2_with fail
  obtain ⟨m2, hm2⟩ : ∃ m, m = (tLen (constL a0)) := ⟨_, rfl⟩
  have HM2 := Lib.hid hm2
  have hml2 : m2 ≤ 1099511627776 := by rw [hm2]; exact t2x3.len
  clear hm2
  refine (markTermS_c _ _ _ _ _ _ _ HM2.out t2x3 (by omega) (by omega)).mono ?_
  rintro e v4 ⟨rfl, t2x4m, b4⟩
  clear t2x3
  have F4 := F3.trans (b4.below F1.size F3.size)
  have y4 := b4.size
  have t1x4 := t1x3.only b4 (.inl (Nat.le_refl _))
  clear t1x3
  go_wp2_with fail
  refine (heldTermS_c _ _ _ _ _ HM2.out t2x4m.terms (by omega) (by omega)).mono ?_
  rintro e v5 ⟨rfl, rfl⟩
  go_wp2_with fail
  refine (iConst_c _ _ ).mono ?_
  rintro e v5 ⟨r6, rfl, o6, b5⟩
  have F5 := below_step F4 b5 F4.size
  have y5 := b5.size
  have t6x5 := o6.at
  clear o6
  have t1x5 := t1x4.kept b5
  clear t1x4
  have t2x5 := t2x4m.kept b5
  clear t2x4m
  go_wp2_with fail
  refine (eqTermS_same _ _ _ _ t6x5.terms t1x5.terms).mono ?_
  rintro e v6 ⟨rfl, b6⟩
  have F6 := below_step F5 b6 F5.size
  have y6 := b6.size
  clear t1x5
  have t2x6 := t2x5.kept b6
  clear t2x5
  clear t6x5
  go_wp2_with fail
  refine (heldTermS_c _ _ _ _ _ HM2.out t2x6.terms (by omega) (by omega)).mono ?_
  rintro e v7 ⟨rfl, rfl⟩
  go_wp2_with fail
  go_ret
  exact ⟨rfl, F6⟩

set_option maxRecDepth 100000 in
theorem lifted (os : Os) (started : os.Started) (H : Type) (enc : TypeId × Value → H) :
    ReturnsInHanded {} Try.checked os 10 .any (Rows.fnExactConstantPolySpec.pre6 enc Try.prog Try.f10 Rows.fnExactConstantPolyRow.domain false) (Rows.fnExactConstantPolySpec.post enc Try.prog Try.f10 false true false false) := by
  refine returnsInHanded_of_change (C := Try.checked) own started (by kernel_rfl) Try.func10
    (ChangeSpec.witness6 (enc := enc) (C := Try.checked) false ⟨#[], #[.int .i64 0], []⟩ 8 (by kernel_rfl) (by kernel_rfl) (by kernel_rfl) (by kernel_rfl)) ?_
  intro W base args ds gs before hval0 hW hcnd _
  have hval : ∀ (j : Nat) t v, Try.f10.params[j]? = some t → args[j]? = some v → Value.okWide Try.prog W .any base t v := hval0
  have hW' := hW
  obtain ⟨p, q, hA0, hV, rfl, hfz, hnd⟩ := hW
  have hA : DataW.TrodAll enc Try.prog W 0 (fun _ => true) true Try.f10.params.toList args.toList ds p := hA0
  rw [Try.params10] at hA hval
  obtain ⟨v0, vs0, d0, ds0, p0, q0, hargs, rfl, rfl, h0, r0⟩ := trodAll_cons hA
  obtain ⟨rfl, rfl, rfl⟩ := trodAll_nil r0
  obtain rfl : args = #[v0] := by cases args; simp_all
  obtain ⟨rfl, rfl⟩ := trodVars_none hV
  obtain ⟨a0, rfl, rfl, rfl, w0⟩ := open_int Try.underlying3 (hval 0 3 v0 rfl rfl) h0
  clear hA0 hval0
  simp only [List.append_nil] at hW'
  refine (walk a0 w0 W).mono fun e W' ⟨he, hg⟩ => ?_
  subst he
  exact ⟨_, rfl, _, _, _, [], _, [], hW', trodAll_mk1 (shut_bool Try.underlying4 _), (trodAll_cons_mk (shut_int Try.underlying3 w0) trodAll_mk0), rfl, hg.frame _, fun h => by cases h⟩

theorem over : Rows.fnExactConstantPolyRow.holds Try.pinned (OpenSpec.ofChange Rows.fnExactConstantPolySpec) :=
  OpenClaim.holds_of_wide 10 Try.f10 rfl rfl rfl rfl rfl rfl rfl ⟨rfl, rfl, rfl, rfl, rfl⟩ rfl rfl rfl rfl rfl (by kernel_rfl) Try.func10 (by kernel_rfl)
    (of_decide_eq_true (by kernel_rfl)) (by unfold Func.isWrapper; first | (rw [if_pos (by decide +kernel)]; kernel_rfl) | (rw [if_neg (by decide +kernel)]; exact ⟨rfl, rfl⟩))
    (fun os started H enc _ => lifted os started H enc)

theorem proved : Rows.FnExactConstantPolySaid :=
  over
#print axioms proved
end Go.Proofs.Ytdbfpagfikdclaa.fnExactConstantPoly
