/-
  The statement: the law FnExactAddPolys returns true for every input, and its arguments read afterwards as before. No condition.
-/
import Derived.Test.YtoioiippdchgmaaRows
import Derived.Test.YtoioiippdchgmaaOpenT
import Derived.Test.YtoioiippdchgmaaBase
import Derived.Test.YtoioiippdchgmaaTopI
import Derived.Test.YtoioiippdchgmaaTopS
import Derived.WalkKit
import Derived.ProofKit
import Derived.OpenShut
import Derived.ShutString
import Derived.ChangeOld
import Derived.Below
namespace Go.Proofs.Ytoioiippdchgmaa.fnExactAddPolys
open Go.ChangeShapes Go.WideShapes Go.ChangeAt Go.RowKit
set_option linter.unusedVariables false

theorem own : ownKnob Try.prog.godebug = none := by kernel_rfl
theorem laidOut : laidOutB Try.prog = true := by kernel_rfl

set_option maxHeartbeats 1600000 in
theorem walk (a0 : Option Addr) (len0 cap0 : Nat) (z0 : TermL) (a1 : Int) (a2 : Option Addr) (len2 cap2 : Nat) (z2 : TermL) (w : World) (w0 : TermsR w a0 len0 cap0 z0) (w1 : (Lit.int .i64 a1).wf = true) (w2 : TermsR w a2 len2 cap2 z2) :
    Calls Try.prog 3 #[.slice a0 len0 cap0, .int .i64 a1, .slice a2 len2 cap2] w fun e w' => e = .returned (.bool true) ∧ Below w.heap.size w w' := by
  -- written by gen_law.py
  obtain ⟨hlo1, hhi1⟩ := wf_bounds w1
  go_enter Try.func3, Try.ntmps3
  go_wp2_with fail
  refine (szTermS_c _ _ _ _ _ _ w0 (by decide) (by decide)).mono ?_
  rintro e v1 ⟨s1, rfl, b1, hs1⟩
  have F1 := b1
  have y1 := b1.size
  rcases hs1 with rfl | ⟨hsp1, hsr1⟩
  · go_wp2_with fail
    go_ret
    exact ⟨rfl, F1⟩
  have hsq1 : s1 ≤ 1048576 := by omega
  obtain ⟨hA0, hR0⟩ := w0.terms (by omega)
  clear hsr1 w0
  go_wp2_with fail
  refine (szTermS_c _ _ _ _ _ _ (w2.kept F1) hsp1 hsq1).mono ?_
  rintro e v2 ⟨s2, rfl, b2, hs2⟩
  have F2 := below_step F1 b2 F1.size
  have y2 := b2.size
  rcases hs2 with rfl | ⟨hsp2, hsr2⟩
  · go_wp2_with fail
    go_ret
    exact ⟨rfl, F2⟩
  have hsq2 : s2 ≤ 1048576 := by omega
  obtain ⟨hA2, hR2⟩ := w2.terms (by omega)
  clear hsr2 w2
  go_wp2_with fail
  refine (toTermS_c _ _ _ (hA0.kept F2)).mono ?_
  rintro e v3 ⟨r3, rfl, o3, b3⟩
  have F3 := below_step F2 b3 F2.size
  have y3 := b3.size
  have t3x3 := o3.at
  clear o3
  go_wp2_with fail
  refine (toTermS_c _ _ _ (hA2.kept F3)).mono ?_
  rintro e v4 ⟨r4, rfl, o4, b4⟩
  have F4 := below_step F3 b4 F3.size
  have y4 := b4.size
  have t4x4 := o4.at
  clear o4
  have t3x4 := t3x3.kept b4
  clear t3x3
  go_wp2_with fail
  refine (sAdd_c _ _ _ _ _ _ t3x4.terms t4x4.terms).mono ?_
  rintro e v5 ⟨r5, rfl, o5, b5⟩
  have F5 := below_step F4 b5 F4.size
  have y5 := b5.size
  have t5x5 := o5.at
  clear o5
  clear t3x4
  clear t4x4
  go_wp2_with fail
  refine (toTermS_c _ _ _ (hA0.kept F5)).mono ?_
  rintro e v6 ⟨r6, rfl, o6, b6⟩
  have F6 := below_step F5 b6 F5.size
  have y6 := b6.size
  have t6x6 := o6.at
  clear o6
  have t5x6 := t5x5.kept b6
  clear t5x5
  go_wp2_with fail
  refine (toTermS_c _ _ _ (hA2.kept F6)).mono ?_
  rintro e v7 ⟨r7, rfl, o7, b7⟩
  have F7 := below_step F6 b7 F6.size
  have y7 := b7.size
  have t7x7 := o7.at
  clear o7
  have t5x7 := t5x6.kept b7
  clear t5x6
  have t6x7 := t6x6.kept b7
  clear t6x6
  go_wp2_with fail
  refine (iAdd_c _ _ _ _ _ _ t6x7.terms t7x7.terms).mono ?_
  rintro e v8 ⟨r8, rfl, o8, b8⟩
  have F8 := below_step F7 b8 F7.size
  have y8 := b8.size
  have t8x8 := o8.at
  clear o8
  have t5x8 := t5x7.kept b8
  clear t5x7
  have t6x8 := t6x7.kept b8
  clear t6x7
  have t7x8 := t7x7.kept b8
  clear t7x7
  go_wp2_with fail
  refine (eqTermS_same _ _ _ _ t8x8.terms t5x8.terms).mono ?_
  rintro e v9 ⟨rfl, b9⟩
  have F9 := below_step F8 b9 F8.size
  have y9 := b9.size
  have t5x9 := t5x8.kept b9
  clear t5x8
  have t6x9 := t6x8.kept b9
  clear t6x8
  have t7x9 := t7x8.kept b9
  clear t7x8
  have t8x9 := t8x8.kept b9
  clear t8x8
  go_wp2_with fail
  refine (toTermS_c _ _ _ (hA0.kept F9)).mono ?_
  rintro e v10 ⟨r10, rfl, o10, b10⟩
  have F10 := below_step F9 b10 F9.size
  have y10 := b10.size
  have t10x10 := o10.at
  clear o10
  have t5x10 := t5x9.kept b10
  clear t5x9
  have t6x10 := t6x9.kept b10
  clear t6x9
  have t7x10 := t7x9.kept b10
  clear t7x9
  have t8x10 := t8x9.kept b10
  clear t8x9
  go_wp2_with fail
  refine (eqTermS_same _ _ _ _ t6x10.terms t10x10.terms).mono ?_
  rintro e v11 ⟨rfl, b11⟩
  have F11 := below_step F10 b11 F10.size
  have y11 := b11.size
  have t5x11 := t5x10.kept b11
  clear t5x10
  have t6x11 := t6x10.kept b11
  clear t6x10
  have t7x11 := t7x10.kept b11
  clear t7x10
  have t8x11 := t8x10.kept b11
  clear t8x10
  clear t10x10
  go_wp2_with fail
  refine (toTermS_c _ _ _ (hA2.kept F11)).mono ?_
  rintro e v12 ⟨r12, rfl, o12, b12⟩
  have F12 := below_step F11 b12 F11.size
  have y12 := b12.size
  have t12x12 := o12.at
  clear o12
  have t5x12 := t5x11.kept b12
  clear t5x11
  have t6x12 := t6x11.kept b12
  clear t6x11
  have t7x12 := t7x11.kept b12
  clear t7x11
  have t8x12 := t8x11.kept b12
  clear t8x11
  go_wp2_with fail
  refine (eqTermS_same _ _ _ _ t7x12.terms t12x12.terms).mono ?_
  rintro e v13 ⟨rfl, b13⟩
  have F13 := below_step F12 b13 F12.size
  have y13 := b13.size
  have t5x13 := t5x12.kept b13
  clear t5x12
  have t6x13 := t6x12.kept b13
  clear t6x12
  have t7x13 := t7x12.kept b13
  clear t7x12
  have t8x13 := t8x12.kept b13
  clear t8x12
  clear t12x12
  go_wp2_with fail
  obtain ⟨m6, hm6⟩ : ∃ m, m = (tLen z0) := ⟨_, rfl⟩
  have HM6 := Lib.hid hm6
  have hml6 : m6 ≤ 1099511627776 := by rw [hm6]; exact t6x13.len
  clear hm6
  refine (markTermS_c _ _ _ _ _ _ _ HM6.out t6x13 (by omega) (by omega)).mono ?_
  rintro e v14 ⟨rfl, t6x14m, b14⟩
  clear t6x13
  have F14 := F13.trans (b14.below F5.size F13.size)
  have y14 := b14.size
  have t5x14 := t5x13.only b14 (.inl (Nat.le_refl _))
  clear t5x13
  clear t6x14m
  have t7x14 := t7x13.only b14 (.inr (Nat.le_refl _))
  clear t7x13
  have t8x14 := t8x13.only b14 (.inr y7)
  clear t8x13
  go_wp2_with fail
  obtain ⟨m7, hm7⟩ : ∃ m, m = (tLen z2) := ⟨_, rfl⟩
  have HM7 := Lib.hid hm7
  have hml7 : m7 ≤ 1099511627776 := by rw [hm7]; exact t7x14.len
  clear hm7
  refine (markTermS_c _ _ _ _ _ _ _ HM7.out t7x14 (by omega) (by omega)).mono ?_
  rintro e v15 ⟨rfl, t7x15m, b15⟩
  clear t7x14
  have F15 := F14.trans (b15.below F6.size F14.size)
  have y15 := b15.size
  have t5x15 := t5x14.only b15 (.inl y6)
  clear t5x14
  clear t7x15m
  have t8x15 := t8x14.only b15 (.inr (Nat.le_refl _))
  clear t8x14
  go_wp2_with fail
  refine (eqTermS_same _ _ _ _ t8x15.terms t5x15.terms).mono ?_
  rintro e v16 ⟨rfl, b16⟩
  have F16 := below_step F15 b16 F15.size
  have y16 := b16.size
  have t5x16 := t5x15.kept b16
  clear t5x15
  have t8x16 := t8x15.kept b16
  clear t8x15
  go_wp2_with fail
  obtain ⟨m8, hm8⟩ : ∃ m, m = (tLen (addL z0 a1 z2)) := ⟨_, rfl⟩
  have HM8 := Lib.hid hm8
  have hml8 : m8 ≤ 1099511627776 := by rw [hm8]; exact t8x16.len
  clear hm8
  refine (markTermS_c _ _ _ _ _ _ _ HM8.out t8x16 (by omega) (by omega)).mono ?_
  rintro e v17 ⟨rfl, t8x17m, b17⟩
  clear t8x16
  have F17 := F16.trans (b17.below F7.size F16.size)
  have y17 := b17.size
  have t5x17 := t5x16.only b17 (.inl (Nat.le_trans y6 y7))
  clear t5x16
  go_wp2_with fail
  refine (heldTermS_c _ _ _ _ _ HM8.out t8x17m.terms (by omega) (by omega)).mono ?_
  rintro e v18 ⟨rfl, rfl⟩
  go_wp2_with fail
  refine (toTermS_c _ _ _ (hA0.kept F17)).mono ?_
  rintro e v18 ⟨r19, rfl, o19, b18⟩
  have F18 := below_step F17 b18 F17.size
  have y18 := b18.size
  have t19x18 := o19.at
  clear o19
  have t5x18 := t5x17.kept b18
  clear t5x17
  have t8x18 := t8x17m.kept b18
  clear t8x17m
  go_wp2_with fail
  refine (toTermS_c _ _ _ (hA2.kept F18)).mono ?_
  rintro e v19 ⟨r20, rfl, o20, b19⟩
  have F19 := below_step F18 b19 F18.size
  have y19 := b19.size
  have t20x19 := o20.at
  clear o20
  have t5x19 := t5x18.kept b19
  clear t5x18
  have t8x19 := t8x18.kept b19
  clear t8x18
  have t19x19 := t19x18.kept b19
  clear t19x18
  go_wp2_with fail
  refine (iAdd_c _ _ _ _ _ _ t19x19.terms t20x19.terms).mono ?_
  rintro e v20 ⟨r21, rfl, o21, b20⟩
  have F20 := below_step F19 b20 F19.size
  have y20 := b20.size
  have t21x20 := o21.at
  clear o21
  have t5x20 := t5x19.kept b20
  clear t5x19
  have t8x20 := t8x19.kept b20
  clear t8x19
  clear t19x19
  clear t20x19
  go_wp2_with fail
  refine (eqTermS_same _ _ _ _ t21x20.terms t5x20.terms).mono ?_
  rintro e v21 ⟨rfl, b21⟩
  have F21 := below_step F20 b21 F20.size
  have y21 := b21.size
  clear t5x20
  have t8x21 := t8x20.kept b21
  clear t8x20
  clear t21x20
  go_wp2_with fail
  refine (heldTermS_c _ _ _ _ _ HM8.out t8x21.terms (by omega) (by omega)).mono ?_
  rintro e v22 ⟨rfl, rfl⟩
  go_wp2_with fail
  go_ret
  exact ⟨rfl, F21⟩

set_option maxRecDepth 100000 in
theorem lifted (os : Os) (started : os.Started) (H : Type) (enc : TypeId × Value → H) :
    ReturnsInHanded {} Try.checked os 3 .any (Rows.fnExactAddPolysSpec.pre6 enc Try.prog Try.f3 Rows.fnExactAddPolysRow.domain false) (Rows.fnExactAddPolysSpec.post enc Try.prog Try.f3 false true false false) := by
  refine returnsInHanded_of_change (C := Try.checked) own started (by kernel_rfl) Try.func3
    (ChangeSpec.witness6 (enc := enc) (C := Try.checked) false ⟨#[], #[.slice none 0 0, .int .i64 0, .slice none 0 0], []⟩ 8 (by kernel_rfl) (by kernel_rfl) (by kernel_rfl) (by kernel_rfl)) ?_
  intro W base args ds gs before hval0 hW hcnd _
  have hval : ∀ (j : Nat) t v, Try.f3.params[j]? = some t → args[j]? = some v → Value.okWide Try.prog W .any base t v := hval0
  have hW' := hW
  obtain ⟨p, q, hA0, hV, rfl, hfz, hnd⟩ := hW
  have hA : DataW.TrodAll enc Try.prog W 0 (fun _ => true) true Try.f3.params.toList args.toList ds p := hA0
  rw [Try.params3] at hA hval
  obtain ⟨v0, vs0, d0, ds0, p0, q0, hargs, rfl, rfl, h0, r0⟩ := trodAll_cons hA
  obtain ⟨v1, vs1, d1, ds1, p1, q1, rfl, rfl, rfl, h1, r1⟩ := trodAll_cons r0
  obtain ⟨v2, vs2, d2, ds2, p2, q2, rfl, rfl, rfl, h2, r2⟩ := trodAll_cons r1
  obtain ⟨rfl, rfl, rfl⟩ := trodAll_nil r2
  obtain rfl : args = #[v0, v1, v2] := by cases args; simp_all
  obtain ⟨rfl, rfl⟩ := trodVars_none hV
  obtain ⟨a0, len0, cap0, rfl⟩ := okWide_slice Try.underlying22 (hval 0 22 v0 rfl rfl)
  have k0 := h0
  have lt0 : ∀ x ∈ p0, x.block < W.heap.size := by obtain ⟨m, hm⟩ := k0; exact DataW.trod_lt m _ _ _ hm
  obtain ⟨z0, w0⟩ : ∃ zs, TermsR W a0 len0 cap0 zs := by
    obtain ⟨fuel, hf⟩ := h0
    obtain ⟨a', n', c', zs, he, hz⟩ := termsR_of_trod (v := .slice a0 len0 cap0) hf
    cases he
    exact ⟨zs, hz⟩
  obtain ⟨a1, rfl, rfl, rfl, w1⟩ := open_int Try.underlying3 (hval 1 3 v1 rfl rfl) h1
  obtain ⟨a2, len2, cap2, rfl⟩ := okWide_slice Try.underlying22 (hval 2 22 v2 rfl rfl)
  have k2 := h2
  have lt2 : ∀ x ∈ p2, x.block < W.heap.size := by obtain ⟨m, hm⟩ := k2; exact DataW.trod_lt m _ _ _ hm
  obtain ⟨z2, w2⟩ : ∃ zs, TermsR W a2 len2 cap2 zs := by
    obtain ⟨fuel, hf⟩ := h2
    obtain ⟨a', n', c', zs, he, hz⟩ := termsR_of_trod (v := .slice a2 len2 cap2) hf
    cases he
    exact ⟨zs, hz⟩
  clear hA0 hval0
  refine (walk a0 len0 cap0 z0 a1 a2 len2 cap2 z2 W w0 w1 w2).mono fun e W' ⟨he, bel⟩ => ?_
  subst he
  exact ⟨_, rfl, _, _, _, [], _, [], hW', trodAll_mk1 (shut_bool Try.underlying4 _), (trodAll_cons_mk (Below.trod laidOut (by kernel_rfl) (of_decide_eq_true (by kernel_rfl)) k0 bel lt0) (trodAll_cons_mk (shut_int Try.underlying3 w1) (trodAll_cons_mk (Below.trod laidOut (by kernel_rfl) (of_decide_eq_true (by kernel_rfl)) k2 bel lt2) trodAll_mk0))), rfl, bel.frame _, fun h => by cases h⟩

theorem over : Rows.fnExactAddPolysRow.holds Try.pinned (OpenSpec.ofChange Rows.fnExactAddPolysSpec) :=
  OpenClaim.holds_of_wide 3 Try.f3 rfl rfl rfl rfl rfl rfl rfl ⟨rfl, rfl, rfl, rfl, rfl⟩ rfl rfl rfl rfl rfl (by kernel_rfl) Try.func3 (by kernel_rfl)
    (of_decide_eq_true (by kernel_rfl)) (by unfold Func.isWrapper; first | (rw [if_pos (by decide +kernel)]; kernel_rfl) | (rw [if_neg (by decide +kernel)]; exact ⟨rfl, rfl⟩))
    (fun os started H enc _ => lifted os started H enc)

theorem proved : Rows.FnExactAddPolysSaid := over
#print axioms proved
end Go.Proofs.Ytoioiippdchgmaa.fnExactAddPolys