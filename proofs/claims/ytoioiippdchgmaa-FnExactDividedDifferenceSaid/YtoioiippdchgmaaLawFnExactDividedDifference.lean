/-
  The statement: the law FnExactDividedDifference returns true for every input, and its arguments read afterwards as before. No condition.
-/
import Derived.Test.YtoioiippdchgmaaRows
import Derived.Test.YtoioiippdchgmaaOpenT
import Derived.Test.YtoioiippdchgmaaBase
import Derived.Test.YtoioiippdchgmaaTopD
import Derived.Test.YtoioiippdchgmaaTopS
import Derived.WalkKit
import Derived.ProofKit
import Derived.OpenShut
import Derived.ShutString
import Derived.ChangeOld
import Derived.Below
namespace Go.Proofs.Ytoioiippdchgmaa.fnExactDividedDifference
open Go.ChangeShapes Go.WideShapes Go.ChangeAt Go.RowKit
set_option linter.unusedVariables false

theorem own : ownKnob Try.prog.godebug = none := by kernel_rfl
theorem laidOut : laidOutB Try.prog = true := by kernel_rfl

set_option maxHeartbeats 1600000 in
theorem walk (a0 : Option Addr) (len0 cap0 : Nat) (z0 : TermL) (a1 : Int) (w : World) (w0 : TermsR w a0 len0 cap0 z0) (w1 : (Lit.int .i64 a1).wf = true) :
    Calls Try.prog 6 #[.slice a0 len0 cap0, .int .i64 a1] w fun e w' => e = .returned (.bool true) ∧ Below w.heap.size w w' := by
  -- written by gen_law.py
  obtain ⟨hlo1, hhi1⟩ := wf_bounds w1
  go_enter Try.func6, Try.ntmps6
  go_wp2_with fail
  refine (szTermS_c _ _ _ _ _ _ w0 (by decide) (by decide)).mono ?_
  rintro e v1 ⟨s1, rfl, b1, hs1⟩
  have F1 := b1
  have y1 := b1.size
  rcases hs1 with rfl | ⟨hsp1, hsr1⟩
  · go_wp2_with fail
    go_ret
    exact ⟨rfl, F1⟩
  have hsq1 : s1 ≤ 1048576 := by omega
  obtain ⟨hA0, hR0⟩ := w0.terms (by omega)
  clear hsr1 w0
  go_wp2_with fail
  refine (toTermS_c _ _ _ (hA0.kept F1)).mono ?_
  rintro e v2 ⟨r2, rfl, o2, b2⟩
  have F2 := below_step F1 b2 F1.size
  have y2 := b2.size
  have t2x2 := o2.at
  clear o2
  go_wp2_with fail
  refine (sDiff_c _ _ _ _ t2x2.terms).mono ?_
  rintro e v3 ⟨r3, rfl, o3, b3⟩
  have F3 := below_step F2 b3 F2.size
  have y3 := b3.size
  have t3x3 := o3.at
  clear o3
  clear t2x2
  go_wp2_with fail
  refine (toTermS_c _ _ _ (hA0.kept F3)).mono ?_
  rintro e v4 ⟨r4, rfl, o4, b4⟩
  have F4 := below_step F3 b4 F3.size
  have y4 := b4.size
  have t4x4 := o4.at
  clear o4
  have t3x4 := t3x3.kept b4
  clear t3x3
  go_wp2_with fail
  refine (iDiff_c _ _ _ _ t4x4.terms).mono ?_
  rintro e v5 ⟨r5, rfl, o5, b5⟩
  have F5 := below_step F4 b5 F4.size
  have y5 := b5.size
  have t5x5 := o5.at
  clear o5
  have t3x5 := t3x4.kept b5
  clear t3x4
  have t4x5 := t4x4.kept b5
  clear t4x4
  go_wp2_with fail
  refine (eqTermS_same _ _ _ _ t5x5.terms t3x5.terms).mono ?_
  rintro e v6 ⟨rfl, b6⟩
  have F6 := below_step F5 b6 F5.size
  have y6 := b6.size
  have t3x6 := t3x5.kept b6
  clear t3x5
  have t4x6 := t4x5.kept b6
  clear t4x5
  have t5x6 := t5x5.kept b6
  clear t5x5
  go_wp2_with fail
  refine (toTermS_c _ _ _ (hA0.kept F6)).mono ?_
  rintro e v7 ⟨r7, rfl, o7, b7⟩
  have F7 := below_step F6 b7 F6.size
  have y7 := b7.size
  have t7x7 := o7.at
  clear o7
  have t3x7 := t3x6.kept b7
  clear t3x6
  have t4x7 := t4x6.kept b7
  clear t4x6
  have t5x7 := t5x6.kept b7
  clear t5x6
  go_wp2_with fail
  refine (eqTermS_same _ _ _ _ t4x7.terms t7x7.terms).mono ?_
  rintro e v8 ⟨rfl, b8⟩
  have F8 := below_step F7 b8 F7.size
  have y8 := b8.size
  have t3x8 := t3x7.kept b8
  clear t3x7
  have t4x8 := t4x7.kept b8
  clear t4x7
  have t5x8 := t5x7.kept b8
  clear t5x7
  clear t7x7
  go_wp2_with fail
  obtain ⟨m4, hm4⟩ : ∃ m, m = (tLen z0) := ⟨_, rfl⟩
  have HM4 := Lib.hid hm4
  have hml4 : m4 ≤ 1099511627776 := by rw [hm4]; exact t4x8.len
  clear hm4
  refine (markTermS_c _ _ _ _ _ _ _ HM4.out t4x8 (by omega) (by omega)).mono ?_
  rintro e v9 ⟨rfl, t4x9m, b9⟩
  clear t4x8
  have F9 := F8.trans (b9.below F3.size F8.size)
  have y9 := b9.size
  have t3x9 := t3x8.only b9 (.inl (Nat.le_refl _))
  clear t3x8
  clear t4x9m
  have t5x9 := t5x8.only b9 (.inr (Nat.le_refl _))
  clear t5x8
  go_wp2_with fail
  refine (eqTermS_same _ _ _ _ t5x9.terms t3x9.terms).mono ?_
  rintro e v10 ⟨rfl, b10⟩
  have F10 := below_step F9 b10 F9.size
  have y10 := b10.size
  have t3x10 := t3x9.kept b10
  clear t3x9
  have t5x10 := t5x9.kept b10
  clear t5x9
  go_wp2_with fail
  obtain ⟨m5, hm5⟩ : ∃ m, m = (tLen (ddL z0 a1)) := ⟨_, rfl⟩
  have HM5 := Lib.hid hm5
  have hml5 : m5 ≤ 1099511627776 := by rw [hm5]; exact t5x10.len
  clear hm5
  refine (markTermS_c _ _ _ _ _ _ _ HM5.out t5x10 (by omega) (by omega)).mono ?_
  rintro e v11 ⟨rfl, t5x11m, b11⟩
  clear t5x10
  have F11 := F10.trans (b11.below F4.size F10.size)
  have y11 := b11.size
  have t3x11 := t3x10.only b11 (.inl y4)
  clear t3x10
  go_wp2_with fail
  refine (heldTermS_c _ _ _ _ _ HM5.out t5x11m.terms (by omega) (by omega)).mono ?_
  rintro e v12 ⟨rfl, rfl⟩
  go_wp2_with fail
  refine (toTermS_c _ _ _ (hA0.kept F11)).mono ?_
  rintro e v12 ⟨r13, rfl, o13, b12⟩
  have F12 := below_step F11 b12 F11.size
  have y12 := b12.size
  have t13x12 := o13.at
  clear o13
  have t3x12 := t3x11.kept b12
  clear t3x11
  have t5x12 := t5x11m.kept b12
  clear t5x11m
  go_wp2_with fail
  refine (iDiff_c _ _ _ _ t13x12.terms).mono ?_
  rintro e v13 ⟨r14, rfl, o14, b13⟩
  have F13 := below_step F12 b13 F12.size
  have y13 := b13.size
  have t14x13 := o14.at
  clear o14
  have t3x13 := t3x12.kept b13
  clear t3x12
  have t5x13 := t5x12.kept b13
  clear t5x12
  clear t13x12
  go_wp2_with fail
  refine (eqTermS_same _ _ _ _ t14x13.terms t3x13.terms).mono ?_
  rintro e v14 ⟨rfl, b14⟩
  have F14 := below_step F13 b14 F13.size
  have y14 := b14.size
  clear t3x13
  have t5x14 := t5x13.kept b14
  clear t5x13
  clear t14x13
  go_wp2_with fail
  refine (heldTermS_c _ _ _ _ _ HM5.out t5x14.terms (by omega) (by omega)).mono ?_
  rintro e v15 ⟨rfl, rfl⟩
  go_wp2_with fail
  go_ret
  exact ⟨rfl, F14⟩

set_option maxRecDepth 100000 in
theorem lifted (os : Os) (started : os.Started) (H : Type) (enc : TypeId × Value → H) :
    ReturnsInHanded {} Try.checked os 6 .any (Rows.fnExactDividedDifferenceSpec.pre6 enc Try.prog Try.f6 Rows.fnExactDividedDifferenceRow.domain false) (Rows.fnExactDividedDifferenceSpec.post enc Try.prog Try.f6 false true false false) := by
  refine returnsInHanded_of_change (C := Try.checked) own started (by kernel_rfl) Try.func6
    (ChangeSpec.witness6 (enc := enc) (C := Try.checked) false ⟨#[], #[.slice none 0 0, .int .i64 0], []⟩ 8 (by kernel_rfl) (by kernel_rfl) (by kernel_rfl) (by kernel_rfl)) ?_
  intro W base args ds gs before hval0 hW hcnd _
  have hval : ∀ (j : Nat) t v, Try.f6.params[j]? = some t → args[j]? = some v → Value.okWide Try.prog W .any base t v := hval0
  have hW' := hW
  obtain ⟨p, q, hA0, hV, rfl, hfz, hnd⟩ := hW
  have hA : DataW.TrodAll enc Try.prog W 0 (fun _ => true) true Try.f6.params.toList args.toList ds p := hA0
  rw [Try.params6] at hA hval
  obtain ⟨v0, vs0, d0, ds0, p0, q0, hargs, rfl, rfl, h0, r0⟩ := trodAll_cons hA
  obtain ⟨v1, vs1, d1, ds1, p1, q1, rfl, rfl, rfl, h1, r1⟩ := trodAll_cons r0
  obtain ⟨rfl, rfl, rfl⟩ := trodAll_nil r1
  obtain rfl : args = #[v0, v1] := by cases args; simp_all
  obtain ⟨rfl, rfl⟩ := trodVars_none hV
  obtain ⟨a0, len0, cap0, rfl⟩ := okWide_slice Try.underlying22 (hval 0 22 v0 rfl rfl)
  have k0 := h0
  have lt0 : ∀ x ∈ p0, x.block < W.heap.size := by obtain ⟨m, hm⟩ := k0; exact DataW.trod_lt m _ _ _ hm
  obtain ⟨z0, w0⟩ : ∃ zs, TermsR W a0 len0 cap0 zs := by
    obtain ⟨fuel, hf⟩ := h0
    obtain ⟨a', n', c', zs, he, hz⟩ := termsR_of_trod (v := .slice a0 len0 cap0) hf
    cases he
    exact ⟨zs, hz⟩
  obtain ⟨a1, rfl, rfl, rfl, w1⟩ := open_int Try.underlying3 (hval 1 3 v1 rfl rfl) h1
  clear hA0 hval0
  refine (walk a0 len0 cap0 z0 a1 W w0 w1).mono fun e W' ⟨he, bel⟩ => ?_
  subst he
  exact ⟨_, rfl, _, _, _, [], _, [], hW', trodAll_mk1 (shut_bool Try.underlying4 _), (trodAll_cons_mk (Below.trod laidOut (by kernel_rfl) (of_decide_eq_true (by kernel_rfl)) k0 bel lt0) (trodAll_cons_mk (shut_int Try.underlying3 w1) trodAll_mk0)), rfl, bel.frame _, fun h => by cases h⟩

theorem over : Rows.fnExactDividedDifferenceRow.holds Try.pinned (OpenSpec.ofChange Rows.fnExactDividedDifferenceSpec) :=
  OpenClaim.holds_of_wide 6 Try.f6 rfl rfl rfl rfl rfl rfl rfl ⟨rfl, rfl, rfl, rfl, rfl⟩ rfl rfl rfl rfl rfl (by kernel_rfl) Try.func6 (by kernel_rfl)
    (of_decide_eq_true (by kernel_rfl)) (by unfold Func.isWrapper; first | (rw [if_pos (by decide +kernel)]; kernel_rfl) | (rw [if_neg (by decide +kernel)]; exact ⟨rfl, rfl⟩))
    (fun os started H enc _ => lifted os started H enc)

theorem proved : Rows.FnExactDividedDifferenceSaid := over
#print axioms proved
end Go.Proofs.Ytoioiippdchgmaa.fnExactDividedDifference