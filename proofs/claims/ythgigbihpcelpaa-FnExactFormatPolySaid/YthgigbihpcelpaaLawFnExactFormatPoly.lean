/-
  The statement: the law FnExactFormatPoly returns true for every input, and its arguments read afterwards as before. No condition.
-/
import Derived.Test.YthgigbihpcelpaaRows
import Derived.Test.YthgigbihpcelpaaOpenT
import Derived.Test.YthgigbihpcelpaaBase
import Derived.Test.YthgigbihpcelpaaFPoly
import Derived.WalkKit
import Derived.ProofKit
import Derived.OpenShut
import Derived.ShutString
import Derived.ChangeOld
import Derived.Below
namespace Go.Proofs.Ythgigbihpcelpaa.fnExactFormatPoly
open Go.ChangeShapes Go.WideShapes Go.ChangeAt Go.RowKit
set_option linter.unusedVariables false

theorem own : ownKnob Try.prog.godebug = none := by kernel_rfl
theorem laidOut : laidOutB Try.prog = true := by kernel_rfl

set_option maxHeartbeats 1600000 in
theorem walk (a0 : Option Addr) (len0 cap0 : Nat) (z0 : TermL) (w : World) (w0 : TermsR w a0 len0 cap0 z0) :
    Calls Try.prog 10 #[.slice a0 len0 cap0] w fun e w' => e = .returned (.bool true) ∧ Below w.heap.size w w' := by
  -- written by gen_law.py
  go_enter Try.func10, Try.ntmps10
  go_wp2_with fail
  refine (szTermS_c _ _ _ _ _ _ w0 (by decide) (by decide)).mono ?_
  rintro e v1 ⟨s1, rfl, b1, hs1⟩
  have F1 := b1
  have y1 := b1.size
  rcases hs1 with rfl | ⟨hsp1, hsr1⟩
  · go_wp2_with fail
    go_ret
    exact ⟨rfl, F1⟩
  have hsq1 : s1 ≤ 1048576 := by omega
  obtain ⟨hA0, hR0⟩ := w0.terms (by omega)
  clear hsr1 w0
  go_wp2_with fail
  refine (toTermS_c _ _ _ (hA0.kept F1)).mono ?_
  rintro e v2 ⟨r2, rfl, o2, b2⟩
  have F2 := below_step F1 b2 F1.size
  have y2 := b2.size
  have t2x2 := o2.at
  clear o2
  go_wp2_with fail
  refine (sFPoly_c _ _ _ t2x2.terms).mono ?_
  rintro e v3 ⟨rfl, b3⟩
  have F3 := below_step F2 b3 F2.size
  have y3 := b3.size
  clear t2x2
  go_wp2_with fail
  refine (toTermS_c _ _ _ (hA0.kept F3)).mono ?_
  rintro e v4 ⟨r4, rfl, o4, b4⟩
  have F4 := below_step F3 b4 F3.size
  have y4 := b4.size
  have t4x4 := o4.at
  clear o4
  go_wp2_with fail
  refine (iFPoly_c _ _ _ t4x4.terms).mono ?_
  rintro e v5 ⟨rfl, b5⟩
  have F5 := below_step F4 b5 F4.size
  have y5 := b5.size
  have t4x5 := t4x4.kept b5
  clear t4x4
  go_wp2_with fail
  refine (toTermS_c _ _ _ (hA0.kept F5)).mono ?_
  rintro e v6 ⟨r6, rfl, o6, b6⟩
  have F6 := below_step F5 b6 F5.size
  have y6 := b6.size
  have t6x6 := o6.at
  clear o6
  have t4x6 := t4x5.kept b6
  clear t4x5
  go_wp2_with fail
  refine (eqTermS_same _ _ _ _ t4x6.terms t6x6.terms).mono ?_
  rintro e v7 ⟨rfl, b7⟩
  have F7 := below_step F6 b7 F6.size
  have y7 := b7.size
  clear t4x6
  clear t6x6
  go_wp2_with fail
  go_ret
  exact ⟨rfl, F7⟩

set_option maxRecDepth 100000 in
theorem lifted (os : Os) (started : os.Started) (H : Type) (enc : TypeId × Value → H) :
    ReturnsInHanded {} Try.checked os 10 .any (Rows.fnExactFormatPolySpec.pre6 enc Try.prog Try.f10 Rows.fnExactFormatPolyRow.domain false) (Rows.fnExactFormatPolySpec.post enc Try.prog Try.f10 false true false false) := by
  refine returnsInHanded_of_change (C := Try.checked) own started (by kernel_rfl) Try.func10
    (ChangeSpec.witness6 (enc := enc) (C := Try.checked) false ⟨#[], #[.slice none 0 0], []⟩ 8 (by kernel_rfl) (by kernel_rfl) (by kernel_rfl) (by kernel_rfl)) ?_
  intro W base args ds gs before hval0 hW hcnd _
  have hval : ∀ (j : Nat) t v, Try.f10.params[j]? = some t → args[j]? = some v → Value.okWide Try.prog W .any base t v := hval0
  have hW' := hW
  obtain ⟨p, q, hA0, hV, rfl, hfz, hnd⟩ := hW
  have hA : DataW.TrodAll enc Try.prog W 0 (fun _ => true) true Try.f10.params.toList args.toList ds p := hA0
  rw [Try.params10] at hA hval
  obtain ⟨v0, vs0, d0, ds0, p0, q0, hargs, rfl, rfl, h0, r0⟩ := trodAll_cons hA
  obtain ⟨rfl, rfl, rfl⟩ := trodAll_nil r0
  obtain rfl : args = #[v0] := by cases args; simp_all
  obtain ⟨rfl, rfl⟩ := trodVars_none hV
  obtain ⟨a0, len0, cap0, rfl⟩ := okWide_slice Try.underlying22 (hval 0 22 v0 rfl rfl)
  have k0 := h0
  have lt0 : ∀ x ∈ p0, x.block < W.heap.size := by obtain ⟨m, hm⟩ := k0; exact DataW.trod_lt m _ _ _ hm
  obtain ⟨z0, w0⟩ : ∃ zs, TermsR W a0 len0 cap0 zs := by
    obtain ⟨fuel, hf⟩ := h0
    obtain ⟨a', n', c', zs, he, hz⟩ := termsR_of_trod (v := .slice a0 len0 cap0) hf
    cases he
    exact ⟨zs, hz⟩
  clear hA0 hval0
  refine (walk a0 len0 cap0 z0 W w0).mono fun e W' ⟨he, bel⟩ => ?_
  subst he
  exact ⟨_, rfl, _, _, _, [], _, [], hW', trodAll_mk1 (shut_bool Try.underlying4 _), (trodAll_cons_mk (Below.trod laidOut (by kernel_rfl) (of_decide_eq_true (by kernel_rfl)) k0 bel lt0) trodAll_mk0), rfl, bel.frame _, fun h => by cases h⟩

theorem over : Rows.fnExactFormatPolyRow.holds Try.pinned (OpenSpec.ofChange Rows.fnExactFormatPolySpec) :=
  OpenClaim.holds_of_wide 10 Try.f10 rfl rfl rfl rfl rfl rfl rfl ⟨rfl, rfl, rfl, rfl, rfl⟩ rfl rfl rfl rfl rfl (by kernel_rfl) Try.func10 (by kernel_rfl)
    (of_decide_eq_true (by kernel_rfl)) (by unfold Func.isWrapper; first | (rw [if_pos (by decide +kernel)]; kernel_rfl) | (rw [if_neg (by decide +kernel)]; exact ⟨rfl, rfl⟩))
    (fun os started H enc _ => lifted os started H enc)

theorem proved : Rows.FnExactFormatPolySaid := over
#print axioms proved
end Go.Proofs.Ythgigbihpcelpaa.fnExactFormatPoly