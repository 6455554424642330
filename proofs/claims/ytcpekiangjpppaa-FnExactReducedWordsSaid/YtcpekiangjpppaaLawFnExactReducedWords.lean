/-
  The statement: the law FnExactReducedWords returns true for every input, and its arguments read afterwards as before. No condition.
-/
import Derived.Test.YtcpekiangjpppaaRows
import Derived.Test.YtcpekiangjpppaaAll
import Derived.Test.YtcpekiangjpppaaBase
import Derived.Test.YtcpekiangjpppaaSorted
import Derived.WalkKit
import Derived.ProofKit
import Derived.OpenShut
import Derived.ShutString
import Derived.ChangeOld
import Derived.Below
namespace Go.Proofs.Ytcpekiangjpppaa.fnExactReducedWords
open Go.ChangeShapes Go.WideShapes Go.ChangeAt Go.RowKit
open Go.ChangeMaps (open_string shut_string)
set_option linter.unusedVariables false

theorem own : ownKnob Try.prog.godebug = none := by kernel_rfl
theorem laidOut : laidOutB Try.prog = true := by kernel_rfl

set_option maxHeartbeats 1600000 in
theorem walk (a0 : Option Addr) (len0 cap0 : Nat) (z0 : List Int) (w : World) (w0 : IsRow .i64 w a0 len0 cap0 z0) :
    Calls Try.prog 5 #[.slice a0 len0 cap0] w fun e w' => e = .returned (.bool true) ∧ Below w.heap.size w w' := by
  -- written by gen_law.py
  by_cases big0 : 1048576 < len0
  · go_enter Try.func5, Try.ntmps5
    go_wp2_with fail
    go_ret
    exact ⟨rfl, Below.refl _ _⟩
  obtain ⟨hA0, hR0⟩ := w0.ints (by omega)
  generalize z0.take len0 = l0 at hA0 hR0
  clear w0
  go_enter Try.func5, Try.ntmps5
  go_wp2_with fail
  refine (toIntS_c _ _ _ hA0).mono ?_
  rintro e v1 ⟨r1, rfl, o1, b1⟩
  have F1 := b1
  have y1 := b1.size
  have t1x1 := o1.at
  clear o1
  go_wp2_with fail
  refine (sReduced_c _ _ _ t1x1.ints).mono ?_
  rintro e v2 ⟨r2, rfl, o2, b2⟩
  have F2 := below_step F1 b2 F1.size
  have y2 := b2.size
  have t2x2 := o2.at
  clear o2
  clear t1x1
  go_wp2_with fail
  refine (toIntS_c _ _ _ (hA0.kept F2)).mono ?_
  rintro e v3 ⟨r3, rfl, o3, b3⟩
  have F3 := below_step F2 b3 F2.size
  have y3 := b3.size
  have t3x3 := o3.at
  clear o3
  have t2x3 := t2x2.kept b3
  clear t2x2
  go_wp2_with fail
  refine (iReduced_c _ _ _ t3x3.ints).mono ?_
  rintro e v4 ⟨r4, rfl, o4, b4⟩
  have F4 := below_step F3 b4 F3.size
  have y4 := b4.size
  have t4x4 := o4.at
  clear o4
  have t2x4 := t2x3.kept b4
  clear t2x3
  have t3x4 := t3x3.kept b4
  clear t3x3
  go_wp2_with fail
  refine (eqIntSS_rd _ _ _ _ t4x4.rd t2x4.rd).mono ?_
  rintro e v5 ⟨rfl, b5⟩
  have F5 := below_step F4 b5 F4.size
  have y5 := b5.size
  have t2x5 := t2x4.kept b5
  clear t2x4
  have t3x5 := t3x4.kept b5
  clear t3x4
  have t4x5 := t4x4.kept b5
  clear t4x4
  go_wp2_with fail
  refine (toIntS_c _ _ _ (hA0.kept F5)).mono ?_
  rintro e v6 ⟨r6, rfl, o6, b6⟩
  have F6 := below_step F5 b6 F5.size
  have y6 := b6.size
  have t6x6 := o6.at
  clear o6
  have t2x6 := t2x5.kept b6
  clear t2x5
  have t3x6 := t3x5.kept b6
  clear t3x5
  have t4x6 := t4x5.kept b6
  clear t4x5
  go_wp2_with fail
  refine (eqIntS_same _ _ _ _ t3x6.ints t6x6.ints).mono ?_
  rintro e v7 ⟨rfl, b7⟩
  have F7 := below_step F6 b7 F6.size
  have y7 := b7.size
  have t2x7 := t2x6.kept b7
  clear t2x6
  have t3x7 := t3x6.kept b7
  clear t3x6
  have t4x7 := t4x6.kept b7
  clear t4x6
  clear t6x6
  go_wp2_with fail
  obtain ⟨m3, hm3⟩ : ∃ m, m = ((l0).length) := ⟨_, rfl⟩
  have HM3 := Lib.hid hm3
  have hml3 : m3 ≤ 1099511627776 := by rw [hm3]; exact t3x7.len
  clear hm3
  refine (markIntS_c _ _ _ _ _ _ _ HM3.out t3x7 (by omega) (by omega)).mono ?_
  rintro e v8 ⟨rfl, t3x8m, b8⟩
  clear t3x7
  have F8 := F7.trans (b8.below F2.size F7.size)
  have y8 := b8.size
  have t2x8 := t2x7.only b8 (.inl (Nat.le_refl _))
  clear t2x7
  clear t3x8m
  have t4x8 := t4x7.only b8 (.inr (Nat.le_refl _))
  clear t4x7
  go_wp2_with fail
  refine (eqIntSS_rd _ _ _ _ t4x8.rd t2x8.rd).mono ?_
  rintro e v9 ⟨rfl, b9⟩
  have F9 := below_step F8 b9 F8.size
  have y9 := b9.size
  have t2x9 := t2x8.kept b9
  clear t2x8
  have t4x9 := t4x8.kept b9
  clear t4x8
  go_wp2_with fail
  obtain ⟨m4, hm4⟩ : ∃ m, m = (iiLen (wordsL l0)) := ⟨_, rfl⟩
  have HM4 := Lib.hid hm4
  have hml4 : m4 ≤ 1099511627776 := by rw [hm4]; exact t4x9.len
  clear hm4
  refine (markIntSS_c _ _ _ _ _ _ _ HM4.out t4x9 (by omega) (by omega)).mono ?_
  rintro e v10 ⟨rfl, t4x10m, b10⟩
  clear t4x9
  have F10 := F9.trans (b10.below F3.size F9.size)
  have y10 := b10.size
  have t2x10 := t2x9.only b10 (.inl y3)
  clear t2x9
  go_wp2_with fail
  refine (heldIntSS_c _ _ _ _ _ HM4.out t4x10m.rows (by omega) (by omega)).mono ?_
  rintro e v11 ⟨rfl, rfl⟩
  go_wp2_with fail
  refine (toIntS_c _ _ _ (hA0.kept F10)).mono ?_
  rintro e v11 ⟨r12, rfl, o12, b11⟩
  have F11 := below_step F10 b11 F10.size
  have y11 := b11.size
  have t12x11 := o12.at
  clear o12
  have t2x11 := t2x10.kept b11
  clear t2x10
  have t4x11 := t4x10m.kept b11
  clear t4x10m
  go_wp2_with fail
  refine (iReduced_c _ _ _ t12x11.ints).mono ?_
  rintro e v12 ⟨r13, rfl, o13, b12⟩
  have F12 := below_step F11 b12 F11.size
  have y12 := b12.size
  have t13x12 := o13.at
  clear o13
  have t2x12 := t2x11.kept b12
  clear t2x11
  have t4x12 := t4x11.kept b12
  clear t4x11
  clear t12x11
  go_wp2_with fail
  refine (eqIntSS_rd _ _ _ _ t13x12.rd t2x12.rd).mono ?_
  rintro e v13 ⟨rfl, b13⟩
  have F13 := below_step F12 b13 F12.size
  have y13 := b13.size
  clear t2x12
  have t4x13 := t4x12.kept b13
  clear t4x12
  clear t13x12
  go_wp2_with fail
  refine (heldIntSS_c _ _ _ _ _ HM4.out t4x13.rows (by omega) (by omega)).mono ?_
  rintro e v14 ⟨rfl, rfl⟩
  go_wp2_with fail
  go_ret
  exact ⟨rfl, F13⟩

set_option maxRecDepth 100000 in
theorem lifted (os : Os) (started : os.Started) (H : Type) (enc : TypeId × Value → H) :
    ReturnsInHanded {} Try.checked os 5 .any (Rows.fnExactReducedWordsSpec.pre6 enc Try.prog Try.f5 Rows.fnExactReducedWordsRow.domain false) (Rows.fnExactReducedWordsSpec.post enc Try.prog Try.f5 false true false false) := by
  refine returnsInHanded_of_change (C := Try.checked) own started (by kernel_rfl) Try.func5
    (ChangeSpec.witness6 (enc := enc) (C := Try.checked) false ⟨#[], #[.slice none 0 0], []⟩ 8 (by kernel_rfl) (by kernel_rfl) (by kernel_rfl) (by kernel_rfl)) ?_
  intro W base args ds gs before hval0 hW hcnd _
  have hval : ∀ (j : Nat) t v, Try.f5.params[j]? = some t → args[j]? = some v → Value.okWide Try.prog W .any base t v := hval0
  have hW' := hW
  obtain ⟨p, q, hA0, hV, rfl, hfz, hnd⟩ := hW
  have hA : DataW.TrodAll enc Try.prog W 0 (fun _ => true) true Try.f5.params.toList args.toList ds p := hA0
  rw [Try.params5] at hA hval
  obtain ⟨v0, vs0, d0, ds0, p0, q0, hargs, rfl, rfl, h0, r0⟩ := trodAll_cons hA
  obtain ⟨rfl, rfl, rfl⟩ := trodAll_nil r0
  obtain rfl : args = #[v0] := by cases args; simp_all
  obtain ⟨rfl, rfl⟩ := trodVars_none hV
  obtain ⟨a0, len0, cap0, rfl⟩ := okWide_slice Try.underlying22 (hval 0 22 v0 rfl rfl)
  have k0 := h0
  have lt0 : ∀ x ∈ p0, x.block < W.heap.size := by obtain ⟨m, hm⟩ := k0; exact DataW.trod_lt m _ _ _ hm
  obtain ⟨z0, w0⟩ : ∃ zs, IsRow .i64 W a0 len0 cap0 zs := by
    obtain ⟨fuel, hf⟩ := h0
    rcases open_ints Try.underlying22 Try.underlying3 (by kernel_rfl) hf with ⟨hcs, _⟩ | ⟨x, l, c, zs, hcs, _, hl, hm, hz, _, hcell, hwz⟩
    · simp [Value.cells] at hcs
      obtain ⟨rfl, rfl, rfl⟩ := hcs
      exact ⟨[], .inl ⟨rfl, rfl, rfl, rfl⟩⟩
    · simp [Value.cells] at hcs
      obtain ⟨rfl, rfl, rfl⟩ := hcs
      exact ⟨zs, .inr ⟨_, rfl, hl, hm, by simpa using hz, hcell, hwz⟩⟩
  clear hA0 hval0
  refine (walk a0 len0 cap0 z0 W w0).mono fun e W' ⟨he, bel⟩ => ?_
  subst he
  exact ⟨_, rfl, _, _, _, [], _, [], hW', trodAll_mk1 (shut_bool Try.underlying4 _), (trodAll_cons_mk (Below.trod laidOut (by kernel_rfl) (of_decide_eq_true (by kernel_rfl)) k0 bel lt0) trodAll_mk0), rfl, bel.frame _, fun h => by cases h⟩

theorem over : Rows.fnExactReducedWordsRow.holds Try.pinned (OpenSpec.ofChange Rows.fnExactReducedWordsSpec) :=
  OpenClaim.holds_of_wide 5 Try.f5 rfl rfl rfl rfl rfl rfl rfl ⟨rfl, rfl, rfl, rfl, rfl⟩ rfl rfl rfl rfl rfl (by kernel_rfl) Try.func5 (by kernel_rfl)
    (of_decide_eq_true (by kernel_rfl)) (by unfold Func.isWrapper; first | (rw [if_pos (by decide +kernel)]; kernel_rfl) | (rw [if_neg (by decide +kernel)]; exact ⟨rfl, rfl⟩))
    (fun os started H enc _ => lifted os started H enc)

theorem proved : Rows.FnExactReducedWordsSaid := over
#print axioms proved
end Go.Proofs.Ytcpekiangjpppaa.fnExactReducedWords
