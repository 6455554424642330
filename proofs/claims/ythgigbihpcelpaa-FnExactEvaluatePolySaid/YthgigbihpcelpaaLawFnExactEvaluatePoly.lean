/-
  The statement: the law FnExactEvaluatePoly returns true for every input, and its arguments read afterwards as before. No condition.
-/
import Derived.Test.YthgigbihpcelpaaRows
import Derived.Test.YthgigbihpcelpaaOpenT
import Derived.Test.YthgigbihpcelpaaBase
import Derived.Test.YthgigbihpcelpaaEval
import Derived.WalkKit
import Derived.ProofKit
import Derived.OpenShut
import Derived.ShutString
import Derived.ChangeOld
import Derived.Below
namespace Go.Proofs.Ythgigbihpcelpaa.fnExactEvaluatePoly
open Go.ChangeShapes Go.WideShapes Go.ChangeAt Go.RowKit
set_option linter.unusedVariables false

theorem own : ownKnob Try.prog.godebug = none := by kernel_rfl
theorem laidOut : laidOutB Try.prog = true := by kernel_rfl

set_option maxHeartbeats 1600000 in
theorem walk (a0 : Option Addr) (len0 cap0 : Nat) (z0 : TermL) (a1 : Option Addr) (len1 cap1 : Nat) (z1 : List Int) (w : World) (w0 : TermsR w a0 len0 cap0 z0) (w1 : IsRow .i64 w a1 len1 cap1 z1) :
    Calls Try.prog 6 #[.slice a0 len0 cap0, .slice a1 len1 cap1] w fun e w' => e = .returned (.bool true) ∧ Below w.heap.size w w' := by
  -- written by gen_law.py
  by_cases big1 : 1048576 < len1
  · go_enter Try.func6, Try.ntmps6
    go_wp2_with fail
    go_ret
    exact ⟨rfl, Below.refl _ _⟩
  obtain ⟨hA1, hR1⟩ := w1.ints (by omega)
  generalize z1.take len1 = l1 at hA1 hR1
  clear w1
  go_enter Try.func6, Try.ntmps6
  go_wp2_with fail
  refine (szTermS_c _ _ _ _ _ _ w0 (by decide) (by decide)).mono ?_
  rintro e v1 ⟨s1, rfl, b1, hs1⟩
  have F1 := b1
  have y1 := b1.size
  rcases hs1 with rfl | ⟨hsp1, hsr1⟩
  · go_wp2_with fail
    go_ret
    exact ⟨rfl, F1⟩
  have hsq1 : s1 ≤ 1048576 := by omega
  obtain ⟨hA0, hR0⟩ := w0.terms (by omega)
  clear hsr1 w0
  go_wp2_with fail
  refine (toTermS_c _ _ _ (hA0.kept F1)).mono ?_
  rintro e v2 ⟨r2, rfl, o2, b2⟩
  have F2 := below_step F1 b2 F1.size
  have y2 := b2.size
  have t2x2 := o2.at
  clear o2
  go_wp2_with fail
  refine (toIntS_c _ _ _ (hA1.kept F2)).mono ?_
  rintro e v3 ⟨r3, rfl, o3, b3⟩
  have F3 := below_step F2 b3 F2.size
  have y3 := b3.size
  have t3x3 := o3.at
  clear o3
  have t2x3 := t2x2.kept b3
  clear t2x2
  go_wp2_with fail
  refine (sEval_c _ _ _ _ _ t2x3.terms t3x3.ints).mono ?_
  rintro e v4 ⟨rfl, b4⟩
  have F4 := below_step F3 b4 F3.size
  have y4 := b4.size
  clear t2x3
  clear t3x3
  go_wp2_with fail
  refine (toTermS_c _ _ _ (hA0.kept F4)).mono ?_
  rintro e v5 ⟨r5, rfl, o5, b5⟩
  have F5 := below_step F4 b5 F4.size
  have y5 := b5.size
  have t5x5 := o5.at
  clear o5
  go_wp2_with fail
  refine (toIntS_c _ _ _ (hA1.kept F5)).mono ?_
  rintro e v6 ⟨r6, rfl, o6, b6⟩
  have F6 := below_step F5 b6 F5.size
  have y6 := b6.size
  have t6x6 := o6.at
  clear o6
  have t5x6 := t5x5.kept b6
  clear t5x5
  go_wp2_with fail
  refine (iEval_c _ _ _ _ _ t5x6.terms t6x6.ints).mono ?_
  rintro e v7 ⟨rfl, b7⟩
  have F7 := below_step F6 b7 F6.size
  have y7 := b7.size
  have t5x7 := t5x6.kept b7
  clear t5x6
  have t6x7 := t6x6.kept b7
  clear t6x6
  go_wp2_with fail
  refine (toTermS_c _ _ _ (hA0.kept F7)).mono ?_
  rintro e v8 ⟨r8, rfl, o8, b8⟩
  have F8 := below_step F7 b8 F7.size
  have y8 := b8.size
  have t8x8 := o8.at
  clear o8
  have t5x8 := t5x7.kept b8
  clear t5x7
  have t6x8 := t6x7.kept b8
  clear t6x7
  go_wp2_with fail
  refine (eqTermS_same _ _ _ _ t5x8.terms t8x8.terms).mono ?_
  rintro e v9 ⟨rfl, b9⟩
  have F9 := below_step F8 b9 F8.size
  have y9 := b9.size
  clear t5x8
  have t6x9 := t6x8.kept b9
  clear t6x8
  clear t8x8
  go_wp2_with fail
  refine (toIntS_c _ _ _ (hA1.kept F9)).mono ?_
  rintro e v10 ⟨r10, rfl, o10, b10⟩
  have F10 := below_step F9 b10 F9.size
  have y10 := b10.size
  have t10x10 := o10.at
  clear o10
  have t6x10 := t6x9.kept b10
  clear t6x9
  go_wp2_with fail
  refine (eqIntS_same _ _ _ _ t6x10.ints t10x10.ints).mono ?_
  rintro e v11 ⟨rfl, b11⟩
  have F11 := below_step F10 b11 F10.size
  have y11 := b11.size
  clear t6x10
  clear t10x10
  go_wp2_with fail
  go_ret
  exact ⟨rfl, F11⟩

set_option maxRecDepth 100000 in
theorem lifted (os : Os) (started : os.Started) (H : Type) (enc : TypeId × Value → H) :
    ReturnsInHanded {} Try.checked os 6 .any (Rows.fnExactEvaluatePolySpec.pre6 enc Try.prog Try.f6 Rows.fnExactEvaluatePolyRow.domain false) (Rows.fnExactEvaluatePolySpec.post enc Try.prog Try.f6 false true false false) := by
  refine returnsInHanded_of_change (C := Try.checked) own started (by kernel_rfl) Try.func6
    (ChangeSpec.witness6 (enc := enc) (C := Try.checked) false ⟨#[], #[.slice none 0 0, .slice none 0 0], []⟩ 8 (by kernel_rfl) (by kernel_rfl) (by kernel_rfl) (by kernel_rfl)) ?_
  intro W base args ds gs before hval0 hW hcnd _
  have hval : ∀ (j : Nat) t v, Try.f6.params[j]? = some t → args[j]? = some v → Value.okWide Try.prog W .any base t v := hval0
  have hW' := hW
  obtain ⟨p, q, hA0, hV, rfl, hfz, hnd⟩ := hW
  have hA : DataW.TrodAll enc Try.prog W 0 (fun _ => true) true Try.f6.params.toList args.toList ds p := hA0
  rw [Try.params6] at hA hval
  obtain ⟨v0, vs0, d0, ds0, p0, q0, hargs, rfl, rfl, h0, r0⟩ := trodAll_cons hA
  obtain ⟨v1, vs1, d1, ds1, p1, q1, rfl, rfl, rfl, h1, r1⟩ := trodAll_cons r0
  obtain ⟨rfl, rfl, rfl⟩ := trodAll_nil r1
  obtain rfl : args = #[v0, v1] := by cases args; simp_all
  obtain ⟨rfl, rfl⟩ := trodVars_none hV
  obtain ⟨a0, len0, cap0, rfl⟩ := okWide_slice Try.underlying22 (hval 0 22 v0 rfl rfl)
  have k0 := h0
  have lt0 : ∀ x ∈ p0, x.block < W.heap.size := by obtain ⟨m, hm⟩ := k0; exact DataW.trod_lt m _ _ _ hm
  obtain ⟨z0, w0⟩ : ∃ zs, TermsR W a0 len0 cap0 zs := by
    obtain ⟨fuel, hf⟩ := h0
    obtain ⟨a', n', c', zs, he, hz⟩ := termsR_of_trod (v := .slice a0 len0 cap0) hf
    cases he
    exact ⟨zs, hz⟩
  obtain ⟨a1, len1, cap1, rfl⟩ := okWide_slice Try.underlying23 (hval 1 23 v1 rfl rfl)
  have k1 := h1
  have lt1 : ∀ x ∈ p1, x.block < W.heap.size := by obtain ⟨m, hm⟩ := k1; exact DataW.trod_lt m _ _ _ hm
  obtain ⟨z1, w1⟩ : ∃ zs, IsRow .i64 W a1 len1 cap1 zs := by
    obtain ⟨fuel, hf⟩ := h1
    obtain ⟨a', n', c', zs, he, hz⟩ := isRow_of_trod (v := .slice a1 len1 cap1) hf
    cases he
    exact ⟨zs, hz⟩
  clear hA0 hval0
  refine (walk a0 len0 cap0 z0 a1 len1 cap1 z1 W w0 w1).mono fun e W' ⟨he, bel⟩ => ?_
  subst he
  exact ⟨_, rfl, _, _, _, [], _, [], hW', trodAll_mk1 (shut_bool Try.underlying4 _), (trodAll_cons_mk (Below.trod laidOut (by kernel_rfl) (of_decide_eq_true (by kernel_rfl)) k0 bel lt0) (trodAll_cons_mk (Below.trod laidOut (by kernel_rfl) (of_decide_eq_true (by kernel_rfl)) k1 bel lt1) trodAll_mk0)), rfl, bel.frame _, fun h => by cases h⟩

theorem over : Rows.fnExactEvaluatePolyRow.holds Try.pinned (OpenSpec.ofChange Rows.fnExactEvaluatePolySpec) :=
  OpenClaim.holds_of_wide 6 Try.f6 rfl rfl rfl rfl rfl rfl rfl ⟨rfl, rfl, rfl, rfl, rfl⟩ rfl rfl rfl rfl rfl (by kernel_rfl) Try.func6 (by kernel_rfl)
    (of_decide_eq_true (by kernel_rfl)) (by unfold Func.isWrapper; first | (rw [if_pos (by decide +kernel)]; kernel_rfl) | (rw [if_neg (by decide +kernel)]; exact ⟨rfl, rfl⟩))
    (fun os started H enc _ => lifted os started H enc)

theorem proved : Rows.FnExactEvaluatePolySaid := over
#print axioms proved
end Go.Proofs.Ythgigbihpcelpaa.fnExactEvaluatePoly