/-
  The statement: the law FnExactComposePerms returns true for every input, and its arguments read afterwards as before. No condition.
-/
import Derived.Test.YtdbfpagfikdclaaRows
import Derived.Test.YtdbfpagfikdclaaBase
import Derived.Test.YtdbfpagfikdclaaComp
import Derived.WalkKit
import Derived.ProofKit
import Derived.OpenShut
import Derived.ShutString
import Derived.ChangeOld
import Derived.Below
namespace Go.Proofs.Ytdbfpagfikdclaa.fnExactComposePerms
open Go.ChangeShapes Go.WideShapes Go.ChangeAt Go.RowKit
open Go.ChangeMaps (open_string shut_string)
set_option linter.unusedVariables false

theorem own : ownKnob Try.prog.godebug = none := by kernel_rfl
theorem laidOut : laidOutB Try.prog = true := by kernel_rfl

set_option maxHeartbeats 1600000 in
theorem walk (a0 : Option Addr) (len0 cap0 : Nat) (z0 : List Int) (a1 : Option Addr) (len1 cap1 : Nat) (z1 : List Int) (w : World) (w0 : IsRow .i64 w a0 len0 cap0 z0) (w1 : IsRow .i64 w a1 len1 cap1 z1) :
    Calls Try.prog 13 #[.slice a0 len0 cap0, .slice a1 len1 cap1] w fun e w' => e = .returned (.bool true) ∧ Below w.heap.size w w' := by
  -- written by gen_law.py
  by_cases big0 : 1048576 < len0
  · go_enter Try.func13, Try.ntmps13
    go_wp2_with fail
    go_ret
    exact ⟨rfl, Below.refl _ _⟩
  by_cases big1 : 1048576 < len1
  · go_enter Try.func13, Try.ntmps13
    go_wp2_with fail
    go_ret
    exact ⟨rfl, Below.refl _ _⟩
  obtain ⟨hA0, hR0⟩ := w0.ints (by omega)
  generalize z0.take len0 = l0 at hA0 hR0
  clear w0
  obtain ⟨hA1, hR1⟩ := w1.ints (by omega)
  generalize z1.take len1 = l1 at hA1 hR1
  clear w1
  go_enter Try.func13, Try.ntmps13
  go_wp2_with fail
  refine (toIntS_c _ _ _ hA0).mono ?_
  rintro e v1 ⟨r1, rfl, o1, b1⟩
  have F1 := b1
  have y1 := b1.size
  have t1x1 := o1.at
  clear o1
  go_wp2_with fail
  refine (toIntS_c _ _ _ (hA1.kept F1)).mono ?_
  rintro e v2 ⟨r2, rfl, o2, b2⟩
  have F2 := below_step F1 b2 F1.size
  have y2 := b2.size
  have t2x2 := o2.at
  clear o2
  have t1x2 := t1x1.kept b2
  clear t1x1
  go_wp2_with fail
  refine (sCompose_c _ _ _ _ _ t1x2.ints t2x2.ints).mono ?_
  rintro e v3 ⟨r3, rfl, o3, b3⟩
  have F3 := below_step F2 b3 F2.size
  have y3 := b3.size
  have t3x3 := o3.at
  clear o3
  clear t1x2
  clear t2x2
  go_wp2_with fail
  refine (toIntS_c _ _ _ (hA0.kept F3)).mono ?_
  rintro e v4 ⟨r4, rfl, o4, b4⟩
  have F4 := below_step F3 b4 F3.size
  have y4 := b4.size
  have t4x4 := o4.at
  clear o4
  have t3x4 := t3x3.kept b4
  clear t3x3
  go_wp2_with fail
  refine (toIntS_c _ _ _ (hA1.kept F4)).mono ?_
  rintro e v5 ⟨r5, rfl, o5, b5⟩
  have F5 := below_step F4 b5 F4.size
  have y5 := b5.size
  have t5x5 := o5.at
  clear o5
  have t3x5 := t3x4.kept b5
  clear t3x4
  have t4x5 := t4x4.kept b5
  clear t4x4
  go_wp2_with fail
  refine (iCompose_c _ _ _ _ _ t4x5.ints t5x5.ints).mono ?_
  rintro e v6 ⟨r6, rfl, o6, b6⟩
  have F6 := below_step F5 b6 F5.size
  have y6 := b6.size
  have t6x6 := o6.at
  clear o6
  have t3x6 := t3x5.kept b6
  clear t3x5
  have t4x6 := t4x5.kept b6
  clear t4x5
  have t5x6 := t5x5.kept b6
  clear t5x5
  go_wp2_with fail
  refine (eqIntS_same _ _ _ _ t6x6.ints t3x6.ints).mono ?_
  rintro e v7 ⟨rfl, b7⟩
  have F7 := below_step F6 b7 F6.size
  have y7 := b7.size
  have t3x7 := t3x6.kept b7
  clear t3x6
  have t4x7 := t4x6.kept b7
  clear t4x6
  have t5x7 := t5x6.kept b7
  clear t5x6
  have t6x7 := t6x6.kept b7
  clear t6x6
  go_wp2_with fail
  refine (toIntS_c _ _ _ (hA0.kept F7)).mono ?_
  rintro e v8 ⟨r8, rfl, o8, b8⟩
  have F8 := below_step F7 b8 F7.size
  have y8 := b8.size
  have t8x8 := o8.at
  clear o8
  have t3x8 := t3x7.kept b8
  clear t3x7
  have t4x8 := t4x7.kept b8
  clear t4x7
  have t5x8 := t5x7.kept b8
  clear t5x7
  have t6x8 := t6x7.kept b8
  clear t6x7
  go_wp2_with fail
  refine (eqIntS_same _ _ _ _ t4x8.ints t8x8.ints).mono ?_
  rintro e v9 ⟨rfl, b9⟩
  have F9 := below_step F8 b9 F8.size
  have y9 := b9.size
  have t3x9 := t3x8.kept b9
  clear t3x8
  have t4x9 := t4x8.kept b9
  clear t4x8
  have t5x9 := t5x8.kept b9
  clear t5x8
  have t6x9 := t6x8.kept b9
  clear t6x8
  clear t8x8
  go_wp2_with fail
  refine (toIntS_c _ _ _ (hA1.kept F9)).mono ?_
  rintro e v10 ⟨r10, rfl, o10, b10⟩
  have F10 := below_step F9 b10 F9.size
  have y10 := b10.size
  have t10x10 := o10.at
  clear o10
  have t3x10 := t3x9.kept b10
  clear t3x9
  have t4x10 := t4x9.kept b10
  clear t4x9
  have t5x10 := t5x9.kept b10
  clear t5x9
  have t6x10 := t6x9.kept b10
  clear t6x9
  go_wp2_with fail
  refine (eqIntS_same _ _ _ _ t5x10.ints t10x10.ints).mono ?_
  rintro e v11 ⟨rfl, b11⟩
  have F11 := below_step F10 b11 F10.size
  have y11 := b11.size
  have t3x11 := t3x10.kept b11
  clear t3x10
  have t4x11 := t4x10.kept b11
  clear t4x10
  have t5x11 := t5x10.kept b11
  clear t5x10
  have t6x11 := t6x10.kept b11
  clear t6x10
  clear t10x10
  go_wp2_with fail
  obtain ⟨m4, hm4⟩ : ∃ m, m = ((l0).length) := ⟨_, rfl⟩
  have HM4 := Lib.hid hm4
  have hml4 : m4 ≤ 1099511627776 := by rw [hm4]; exact t4x11.len
  clear hm4
  refine (markIntS_c _ _ _ _ _ _ _ HM4.out t4x11 (by omega) (by omega)).mono ?_
  rintro e v12 ⟨rfl, t4x12m, b12⟩
  clear t4x11
  have F12 := F11.trans (b12.below F3.size F11.size)
  have y12 := b12.size
  have t3x12 := t3x11.only b12 (.inl (Nat.le_refl _))
  clear t3x11
  clear t4x12m
  have t5x12 := t5x11.only b12 (.inr (Nat.le_refl _))
  clear t5x11
  have t6x12 := t6x11.only b12 (.inr y5)
  clear t6x11
  go_wp2_with fail
  obtain ⟨m5, hm5⟩ : ∃ m, m = ((l1).length) := ⟨_, rfl⟩
  have HM5 := Lib.hid hm5
  have hml5 : m5 ≤ 1099511627776 := by rw [hm5]; exact t5x12.len
  clear hm5
  refine (markIntS_c _ _ _ _ _ _ _ HM5.out t5x12 (by omega) (by omega)).mono ?_
  rintro e v13 ⟨rfl, t5x13m, b13⟩
  clear t5x12
  have F13 := F12.trans (b13.below F4.size F12.size)
  have y13 := b13.size
  have t3x13 := t3x12.only b13 (.inl y4)
  clear t3x12
  clear t5x13m
  have t6x13 := t6x12.only b13 (.inr (Nat.le_refl _))
  clear t6x12
  go_wp2_with fail
  refine (eqIntS_same _ _ _ _ t6x13.ints t3x13.ints).mono ?_
  rintro e v14 ⟨rfl, b14⟩
  have F14 := below_step F13 b14 F13.size
  have y14 := b14.size
  have t3x14 := t3x13.kept b14
  clear t3x13
  have t6x14 := t6x13.kept b14
  clear t6x13
  go_wp2_with fail
  obtain ⟨m6, hm6⟩ : ∃ m, m = (((composeL l0 l1)).length) := ⟨_, rfl⟩
  have HM6 := Lib.hid hm6
  have hml6 : m6 ≤ 1099511627776 := by rw [hm6]; exact t6x14.len
  clear hm6
  refine (markIntS_c _ _ _ _ _ _ _ HM6.out t6x14 (by omega) (by omega)).mono ?_
  rintro e v15 ⟨rfl, t6x15m, b15⟩
  clear t6x14
  have F15 := F14.trans (b15.below F5.size F14.size)
  have y15 := b15.size
  have t3x15 := t3x14.only b15 (.inl (Nat.le_trans y4 y5))
  clear t3x14
  go_wp2_with fail
  refine (heldIntS_c _ _ _ _ t6x15m.ints (by omega) (by omega)).mono ?_
  rintro e v16 ⟨rfl, rfl⟩
  go_wp2_with fail
  refine (toIntS_c _ _ _ (hA0.kept F15)).mono ?_
  rintro e v16 ⟨r17, rfl, o17, b16⟩
  have F16 := below_step F15 b16 F15.size
  have y16 := b16.size
  have t17x16 := o17.at
  clear o17
  have t3x16 := t3x15.kept b16
  clear t3x15
  have t6x16 := t6x15m.kept b16
  clear t6x15m
  go_wp2_with fail
  refine (toIntS_c _ _ _ (hA1.kept F16)).mono ?_
  rintro e v17 ⟨r18, rfl, o18, b17⟩
  have F17 := below_step F16 b17 F16.size
  have y17 := b17.size
  have t18x17 := o18.at
  clear o18
  have t3x17 := t3x16.kept b17
  clear t3x16
  have t6x17 := t6x16.kept b17
  clear t6x16
  have t17x17 := t17x16.kept b17
  clear t17x16
  go_wp2_with fail
  refine (iCompose_c _ _ _ _ _ t17x17.ints t18x17.ints).mono ?_
  rintro e v18 ⟨r19, rfl, o19, b18⟩
  have F18 := below_step F17 b18 F17.size
  have y18 := b18.size
  have t19x18 := o19.at
  clear o19
  have t3x18 := t3x17.kept b18
  clear t3x17
  have t6x18 := t6x17.kept b18
  clear t6x17
  clear t17x17
  clear t18x17
  go_wp2_with fail
  refine (eqIntS_same _ _ _ _ t19x18.ints t3x18.ints).mono ?_
  rintro e v19 ⟨rfl, b19⟩
  have F19 := below_step F18 b19 F18.size
  have y19 := b19.size
  clear t3x18
  have t6x19 := t6x18.kept b19
  clear t6x18
  clear t19x18
  go_wp2_with fail
  refine (heldIntS_c _ _ _ _ t6x19.ints (by omega) (by omega)).mono ?_
  rintro e v20 ⟨rfl, rfl⟩
  go_wp2_with fail
  go_ret
  exact ⟨rfl, F19⟩

set_option maxRecDepth 100000 in
theorem lifted (os : Os) (started : os.Started) (H : Type) (enc : TypeId × Value → H) :
    ReturnsInHanded {} Try.checked os 13 .any (Rows.fnExactComposePermsSpec.pre6 enc Try.prog Try.f13 Rows.fnExactComposePermsRow.domain false) (Rows.fnExactComposePermsSpec.post enc Try.prog Try.f13 false true false false) := by
  refine returnsInHanded_of_change (C := Try.checked) own started (by kernel_rfl) Try.func13
    (ChangeSpec.witness6 (enc := enc) (C := Try.checked) false ⟨#[], #[.slice none 0 0, .slice none 0 0], []⟩ 8 (by kernel_rfl) (by kernel_rfl) (by kernel_rfl) (by kernel_rfl)) ?_
  intro W base args ds gs before hval0 hW hcnd _
  have hval : ∀ (j : Nat) t v, Try.f13.params[j]? = some t → args[j]? = some v → Value.okWide Try.prog W .any base t v := hval0
  have hW' := hW
  obtain ⟨p, q, hA0, hV, rfl, hfz, hnd⟩ := hW
  have hA : DataW.TrodAll enc Try.prog W 0 (fun _ => true) true Try.f13.params.toList args.toList ds p := hA0
  rw [Try.params13] at hA hval
  obtain ⟨v0, vs0, d0, ds0, p0, q0, hargs, rfl, rfl, h0, r0⟩ := trodAll_cons hA
  obtain ⟨v1, vs1, d1, ds1, p1, q1, rfl, rfl, rfl, h1, r1⟩ := trodAll_cons r0
  obtain ⟨rfl, rfl, rfl⟩ := trodAll_nil r1
  obtain rfl : args = #[v0, v1] := by cases args; simp_all
  obtain ⟨rfl, rfl⟩ := trodVars_none hV
  obtain ⟨a0, len0, cap0, rfl⟩ := okWide_slice Try.underlying25 (hval 0 25 v0 rfl rfl)
  have k0 := h0
  have lt0 : ∀ x ∈ p0, x.block < W.heap.size := by obtain ⟨m, hm⟩ := k0; exact DataW.trod_lt m _ _ _ hm
  obtain ⟨z0, w0⟩ : ∃ zs, IsRow .i64 W a0 len0 cap0 zs := by
    obtain ⟨fuel, hf⟩ := h0
    rcases open_ints Try.underlying25 Try.underlying3 (by kernel_rfl) hf with ⟨hcs, _⟩ | ⟨x, l, c, zs, hcs, _, hl, hm, hz, _, hcell, hwz⟩
    · simp [Value.cells] at hcs
      obtain ⟨rfl, rfl, rfl⟩ := hcs
      exact ⟨[], .inl ⟨rfl, rfl, rfl, rfl⟩⟩
    · simp [Value.cells] at hcs
      obtain ⟨rfl, rfl, rfl⟩ := hcs
      exact ⟨zs, .inr ⟨_, rfl, hl, hm, by simpa using hz, hcell, hwz⟩⟩
  obtain ⟨a1, len1, cap1, rfl⟩ := okWide_slice Try.underlying25 (hval 1 25 v1 rfl rfl)
  have k1 := h1
  have lt1 : ∀ x ∈ p1, x.block < W.heap.size := by obtain ⟨m, hm⟩ := k1; exact DataW.trod_lt m _ _ _ hm
  obtain ⟨z1, w1⟩ : ∃ zs, IsRow .i64 W a1 len1 cap1 zs := by
    obtain ⟨fuel, hf⟩ := h1
    rcases open_ints Try.underlying25 Try.underlying3 (by kernel_rfl) hf with ⟨hcs, _⟩ | ⟨x, l, c, zs, hcs, _, hl, hm, hz, _, hcell, hwz⟩
    · simp [Value.cells] at hcs
      obtain ⟨rfl, rfl, rfl⟩ := hcs
      exact ⟨[], .inl ⟨rfl, rfl, rfl, rfl⟩⟩
    · simp [Value.cells] at hcs
      obtain ⟨rfl, rfl, rfl⟩ := hcs
      exact ⟨zs, .inr ⟨_, rfl, hl, hm, by simpa using hz, hcell, hwz⟩⟩
  clear hA0 hval0
  refine (walk a0 len0 cap0 z0 a1 len1 cap1 z1 W w0 w1).mono fun e W' ⟨he, bel⟩ => ?_
  subst he
  exact ⟨_, rfl, _, _, _, [], _, [], hW', trodAll_mk1 (shut_bool Try.underlying4 _), (trodAll_cons_mk (Below.trod laidOut (by kernel_rfl) (of_decide_eq_true (by kernel_rfl)) k0 bel lt0) (trodAll_cons_mk (Below.trod laidOut (by kernel_rfl) (of_decide_eq_true (by kernel_rfl)) k1 bel lt1) trodAll_mk0)), rfl, bel.frame _, fun h => by cases h⟩

theorem over : Rows.fnExactComposePermsRow.holds Try.pinned (OpenSpec.ofChange Rows.fnExactComposePermsSpec) :=
  OpenClaim.holds_of_wide 13 Try.f13 rfl rfl rfl rfl rfl rfl rfl ⟨rfl, rfl, rfl, rfl, rfl⟩ rfl rfl rfl rfl rfl (by kernel_rfl) Try.func13 (by kernel_rfl)
    (of_decide_eq_true (by kernel_rfl)) (by unfold Func.isWrapper; first | (rw [if_pos (by decide +kernel)]; kernel_rfl) | (rw [if_neg (by decide +kernel)]; exact ⟨rfl, rfl⟩))
    (fun os started H enc _ => lifted os started H enc)

theorem proved : Rows.FnExactComposePermsSaid := over
#print axioms proved
end Go.Proofs.Ytdbfpagfikdclaa.fnExactComposePerms
