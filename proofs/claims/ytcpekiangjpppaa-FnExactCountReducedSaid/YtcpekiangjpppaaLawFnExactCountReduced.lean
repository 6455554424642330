/-
  The statement: the law FnExactCountReduced returns true for every input, and its arguments read afterwards as before. No condition.
-/
import Derived.Test.YtcpekiangjpppaaRows
import Derived.Test.YtcpekiangjpppaaBase
import Derived.Test.YtcpekiangjpppaaCnt
import Derived.Test.YtcpekiangjpppaaCntS
import Derived.WalkKit
import Derived.ProofKit
import Derived.OpenShut
import Derived.ShutString
import Derived.ChangeOld
import Derived.Below
namespace Go.Proofs.Ytcpekiangjpppaa.fnExactCountReduced
open Go.ChangeShapes Go.WideShapes Go.ChangeAt Go.RowKit
open Go.ChangeMaps (open_string shut_string)
set_option linter.unusedVariables false

theorem own : ownKnob Try.prog.godebug = none := by kernel_rfl
theorem laidOut : laidOutB Try.prog = true := by kernel_rfl

set_option maxHeartbeats 1600000 in
theorem walk (a0 : Option Addr) (len0 cap0 : Nat) (z0 : List Int) (w : World) (w0 : IsRow .i64 w a0 len0 cap0 z0) :
    Calls Try.prog 4 #[.slice a0 len0 cap0] w fun e w' => e = .returned (.bool true) ∧ Below w.heap.size w w' := by
  -- written by gen_law.py
  by_cases big0 : 1048576 < len0
  · go_enter Try.func4, Try.ntmps4
    go_wp2_with fail
    go_ret
    exact ⟨rfl, Below.refl _ _⟩
  obtain ⟨hA0, hR0⟩ := w0.ints (by omega)
  generalize z0.take len0 = l0 at hA0 hR0
  clear w0
  go_enter Try.func4, Try.ntmps4
  go_wp2_with fail
  refine (toIntS_c _ _ _ hA0).mono ?_
  rintro e v1 ⟨r1, rfl, o1, b1⟩
  have F1 := b1
  have y1 := b1.size
  have t1x1 := o1.at
  clear o1
  go_wp2_with fail
  refine (sCount_c _ _ _ t1x1.ints).mono ?_
  rintro e v2 ⟨rfl, b2⟩
  have F2 := below_step F1 b2 F1.size
  have y2 := b2.size
  clear t1x1
  go_wp2_with fail
  refine (toIntS_c _ _ _ (hA0.kept F2)).mono ?_
  rintro e v3 ⟨r3, rfl, o3, b3⟩
  have F3 := below_step F2 b3 F2.size
  have y3 := b3.size
  have t3x3 := o3.at
  clear o3
  go_wp2_with fail
  refine (iCount_c _ _ _ t3x3.ints).mono ?_
  rintro e v4 ⟨rfl, b4⟩
  have F4 := below_step F3 b4 F3.size
  have y4 := b4.size
  have t3x4 := t3x3.kept b4
  clear t3x3
  go_wp2_with fail
  refine (toIntS_c _ _ _ (hA0.kept F4)).mono ?_
  rintro e v5 ⟨r5, rfl, o5, b5⟩
  have F5 := below_step F4 b5 F4.size
  have y5 := b5.size
  have t5x5 := o5.at
  clear o5
  have t3x5 := t3x4.kept b5
  clear t3x4
  go_wp2_with fail
  refine (eqIntS_same _ _ _ _ t3x5.ints t5x5.ints).mono ?_
  rintro e v6 ⟨rfl, b6⟩
  have F6 := below_step F5 b6 F5.size
  have y6 := b6.size
  clear t3x5
  clear t5x5
  go_wp2_with fail
  go_ret
  exact ⟨rfl, F6⟩

set_option maxRecDepth 100000 in
theorem lifted (os : Os) (started : os.Started) (H : Type) (enc : TypeId × Value → H) :
    ReturnsInHanded {} Try.checked os 4 .any (Rows.fnExactCountReducedSpec.pre6 enc Try.prog Try.f4 Rows.fnExactCountReducedRow.domain false) (Rows.fnExactCountReducedSpec.post enc Try.prog Try.f4 false true false false) := by
  refine returnsInHanded_of_change (C := Try.checked) own started (by kernel_rfl) Try.func4
    (ChangeSpec.witness6 (enc := enc) (C := Try.checked) false ⟨#[], #[.slice none 0 0], []⟩ 8 (by kernel_rfl) (by kernel_rfl) (by kernel_rfl) (by kernel_rfl)) ?_
  intro W base args ds gs before hval0 hW hcnd _
  have hval : ∀ (j : Nat) t v, Try.f4.params[j]? = some t → args[j]? = some v → Value.okWide Try.prog W .any base t v := hval0
  have hW' := hW
  obtain ⟨p, q, hA0, hV, rfl, hfz, hnd⟩ := hW
  have hA : DataW.TrodAll enc Try.prog W 0 (fun _ => true) true Try.f4.params.toList args.toList ds p := hA0
  rw [Try.params4] at hA hval
  obtain ⟨v0, vs0, d0, ds0, p0, q0, hargs, rfl, rfl, h0, r0⟩ := trodAll_cons hA
  obtain ⟨rfl, rfl, rfl⟩ := trodAll_nil r0
  obtain rfl : args = #[v0] := by cases args; simp_all
  obtain ⟨rfl, rfl⟩ := trodVars_none hV
  obtain ⟨a0, len0, cap0, rfl⟩ := okWide_slice Try.underlying22 (hval 0 22 v0 rfl rfl)
  have k0 := h0
  have lt0 : ∀ x ∈ p0, x.block < W.heap.size := by obtain ⟨m, hm⟩ := k0; exact DataW.trod_lt m _ _ _ hm
  obtain ⟨z0, w0⟩ : ∃ zs, IsRow .i64 W a0 len0 cap0 zs := by
    obtain ⟨fuel, hf⟩ := h0
    rcases open_ints Try.underlying22 Try.underlying3 (by kernel_rfl) hf with ⟨hcs, _⟩ | ⟨x, l, c, zs, hcs, _, hl, hm, hz, _, hcell, hwz⟩
    · simp [Value.cells] at hcs
      obtain ⟨rfl, rfl, rfl⟩ := hcs
      exact ⟨[], .inl ⟨rfl, rfl, rfl, rfl⟩⟩
    · simp [Value.cells] at hcs
      obtain ⟨rfl, rfl, rfl⟩ := hcs
      exact ⟨zs, .inr ⟨_, rfl, hl, hm, by simpa using hz, hcell, hwz⟩⟩
  clear hA0 hval0
  refine (walk a0 len0 cap0 z0 W w0).mono fun e W' ⟨he, bel⟩ => ?_
  subst he
  exact ⟨_, rfl, _, _, _, [], _, [], hW', trodAll_mk1 (shut_bool Try.underlying4 _), (trodAll_cons_mk (Below.trod laidOut (by kernel_rfl) (of_decide_eq_true (by kernel_rfl)) k0 bel lt0) trodAll_mk0), rfl, bel.frame _, fun h => by cases h⟩

theorem over : Rows.fnExactCountReducedRow.holds Try.pinned (OpenSpec.ofChange Rows.fnExactCountReducedSpec) :=
  OpenClaim.holds_of_wide 4 Try.f4 rfl rfl rfl rfl rfl rfl rfl ⟨rfl, rfl, rfl, rfl, rfl⟩ rfl rfl rfl rfl rfl (by kernel_rfl) Try.func4 (by kernel_rfl)
    (of_decide_eq_true (by kernel_rfl)) (by unfold Func.isWrapper; first | (rw [if_pos (by decide +kernel)]; kernel_rfl) | (rw [if_neg (by decide +kernel)]; exact ⟨rfl, rfl⟩))
    (fun os started H enc _ => lifted os started H enc)

theorem proved : Rows.FnExactCountReducedSaid := over
#print axioms proved
end Go.Proofs.Ytcpekiangjpppaa.fnExactCountReduced
