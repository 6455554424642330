/-
  The statement: the law FnExactParsePoly returns true for every input, and its arguments read afterwards as before. No condition.
-/
import Derived.Test.YthgigbihpcelpaaDoorCards
import Derived.Test.YthgigbihpcelpaaDoorTie
import Derived.Test.YthgigbihpcelpaaDoorBase
import Derived.Test.YthgigbihpcelpaaDoorIPoly
import Derived.Test.YthgigbihpcelpaaDoorPPoly
import Derived.WalkKit
import Derived.ProofKit
import Derived.OpenShut
import Derived.ShutString
import Derived.ChangeOld
import Derived.Below
import Derived.Deep.DeepHandedRow
import Derived.Lib.LaidTab
namespace Go.Proofs.YthgigbihpcelpaaDoor.fnExactParsePoly
open Go.ChangeShapes Go.WideShapes Go.ChangeAt Go.RowKit
open Go.ChangeMaps (open_string shut_string)
set_option linter.unusedVariables false

theorem own : ownKnob Tryd.prog.godebug = none := by kernel_rfl

set_option maxHeartbeats 1600000 in
theorem walk (a0 : ByteArray) (w0 : a0.size ≤ maxLen) (m : Int) (w : World) (hm : w.cell? ⟨0, 0, none⟩ = some (.int .i64 m)) :
    Calls Tryd.prog 4 #[.string a0] w fun e w' => e = .returned (.bool true) ∧ Below w.heap.size w w' := by
  -- written by gen_law.py
  by_cases big0 : 1048576 < a0.size
  · go_enter Tryd.func4, Tryd.ntmps4
    go_wp2_with fail
    go_ret
    exact ⟨rfl, Below.refl _ _⟩
  have hsz0 : a0.size ≤ 1048576 := by omega
  go_enter Tryd.func4, Tryd.ntmps4
  go_wp2_with fail
  refine (sPPoly_c _ _ hsz0).mono ?_
  rintro e v1 ⟨r1, rfl, o1, b1⟩
  have F1 := b1
  have y1 := b1.size
  have t1x1 := o1.at
  clear o1
  go_wp2_with fail
  refine (iPPoly_c _ _ _ hsz0 ((F1.cell (World.block_lt_of_cell? _ _ hm)).trans hm)).mono ?_
  rintro e v2 ⟨r2, rfl, o2, b2⟩
  have F2 := below_step F1 b2 F1.size
  have y2 := b2.size
  have t2x2 := o2.at
  clear o2
  have t1x2 := t1x1.kept b2
  clear t1x1
  go_wp2_with fail
  refine (eqTermS_same _ _ _ _ t2x2.terms t1x2.terms).mono ?_
  rintro e v3 ⟨rfl, b3⟩
  have F3 := below_step F2 b3 F2.size
  have y3 := b3.size
  have t1x3 := t1x2.kept b3
  clear t1x2
  have t2x3 := t2x2.kept b3
  clear t2x2
  go_wp2_with fail
  obtain ⟨m2, hm2⟩ : ∃ m, m = (tLen (ppL a0)) := ⟨_, rfl⟩
  have HM2 := Lib.hid hm2
  have hml2 : m2 ≤ 1099511627776 := by rw [hm2]; exact t2x3.len
  clear hm2
  refine (markTermS_c _ _ _ _ _ _ _ HM2.out t2x3 (by omega) (by omega)).mono ?_
  rintro e v4 ⟨rfl, t2x4m, b4⟩
  clear t2x3
  have F4 := F3.trans (b4.below F1.size F3.size)
  have y4 := b4.size
  have t1x4 := t1x3.only b4 (.inl (Nat.le_refl _))
  clear t1x3
  go_wp2_with fail
  refine (heldTermS_c _ _ _ _ _ HM2.out t2x4m.terms (by omega) (by omega)).mono ?_
  rintro e v5 ⟨rfl, rfl⟩
  go_wp2_with fail
  refine (iPPoly_c _ _ _ hsz0 ((F4.cell (World.block_lt_of_cell? _ _ hm)).trans hm)).mono ?_
  rintro e v5 ⟨r6, rfl, o6, b5⟩
  have F5 := below_step F4 b5 F4.size
  have y5 := b5.size
  have t6x5 := o6.at
  clear o6
  have t1x5 := t1x4.kept b5
  clear t1x4
  have t2x5 := t2x4m.kept b5
  clear t2x4m
  go_wp2_with fail
  refine (eqTermS_same _ _ _ _ t6x5.terms t1x5.terms).mono ?_
  rintro e v6 ⟨rfl, b6⟩
  have F6 := below_step F5 b6 F5.size
  have y6 := b6.size
  clear t1x5
  have t2x6 := t2x5.kept b6
  clear t2x5
  clear t6x5
  go_wp2_with fail
  refine (heldTermS_c _ _ _ _ _ HM2.out t2x6.terms (by omega) (by omega)).mono ?_
  rintro e v7 ⟨rfl, rfl⟩
  go_wp2_with fail
  go_ret
  exact ⟨rfl, F6⟩

noncomputable def laidHeap (h : Array Obj) : Array Obj :=
  (h.modify 1 (fun
    | .cells _ t frozen => .cells (Go.Pinned.utf8FirstZ.map (fun (n : Nat) => Value.int .u8 n)).toArray t frozen
    | o => o)).modify 2 (fun
    | .cells _ t frozen => .cells #[.int .u8 128, .int .u8 191, .int .u8 160, .int .u8 191, .int .u8 128, .int .u8 159, .int .u8 144, .int .u8 191, .int .u8 128, .int .u8 143,
        .int .u8 0, .int .u8 0, .int .u8 0, .int .u8 0, .int .u8 0, .int .u8 0, .int .u8 0, .int .u8 0, .int .u8 0, .int .u8 0, .int .u8 0, .int .u8 0, .int .u8 0, .int .u8 0, .int .u8 0, .int .u8 0, .int .u8 0, .int .u8 0, .int .u8 0, .int .u8 0, .int .u8 0, .int .u8 0] t frozen
    | o => o)
noncomputable def laidWorld (os : Os) : World := { World.holding Tryd.prog os ⟨#[], #[], []⟩ with heap := laidHeap (World.holding Tryd.prog os ⟨#[], #[], []⟩).heap }
theorem laid_met (os : Os) : laidMet Tryd.prog Rows.fnExactParsePolyRow.laid ((laidWorld os).forCall (fun _ _ => 0) ⟨#[], #[.string ByteArray.empty], []⟩).memory :=
  laidMet_of_run' 8 (by kernel_rfl) (by kernel_rfl)
theorem reads (os : Os) {H : Type} (enc : TypeId × Value → H) : ∃ places, DataW.whole enc Tryd.prog ((laidWorld os).forCall (fun _ _ => 0) ⟨#[], #[.string ByteArray.empty], []⟩).memory Tryd.f4.params.toList Rows.fnExactParsePolySpec.vars false #[Value.string ByteArray.empty].toList 8 = some ([.lit (.string [])], [], places) :=
  ⟨[], by kernel_rfl⟩

set_option maxRecDepth 100000 in
theorem lifted (os : Os) (started : os.Started) (H : Type) (enc : TypeId × Value → H) (F : Stop.Interp) :
    ReturnsInHanded {} Tryd.checked os 4 .any ((OpenSpec.ofChange Rows.fnExactParsePolySpec).preRow enc Tryd.prog Tryd.f4 Rows.fnExactParsePolyRow.domain false Rows.fnExactParsePolyRow.laid) (((OpenSpec.ofChange Rows.fnExactParsePolySpec).at F).post enc Tryd.prog Tryd.f4 false true false false) := by
  obtain ⟨places, hx⟩ := reads os enc
  refine returnsInHanded_of_row (C := Tryd.checked) (s := OpenSpec.ofChange Rows.fnExactParsePolySpec) own started (by kernel_rfl) Tryd.func4
    (witness_row_at (enc := enc) (C := Tryd.checked) false (laidWorld os) #[.string ByteArray.empty] rfl (by kernel_rfl) (by kernel_rfl) (by kernel_rfl)
      (OpenSpec.preRow_of_cond 8 hx (by kernel_rfl) (fun k hk => by cases hk) (by kernel_rfl) (laid_met os))) ?_
  intro W base args ds gs before hval0 hW _ _ _ hL hsh _
  obtain ⟨m, hm⟩ := Tryd.laysM146.s1_3 W hsh
  have hval : ∀ (j : Nat) t v, Tryd.f4.params[j]? = some t → args[j]? = some v → Value.okWide Tryd.prog W .any base t v := hval0
  have hW' := hW
  obtain ⟨p, q, hA0, hV, rfl, hfz, hnd⟩ := hW
  have hA : DataW.TrodAll enc Tryd.prog W 0 (fun _ => true) true Tryd.f4.params.toList args.toList ds p := hA0
  rw [Tryd.params4] at hA hval
  obtain ⟨v0, vs0, d0, ds0, p0, q0, hargs, rfl, rfl, h0, r0⟩ := trodAll_cons hA
  obtain ⟨rfl, rfl, rfl⟩ := trodAll_nil r0
  obtain rfl : args = #[v0] := by cases args; simp_all
  obtain ⟨rfl, rfl⟩ := trodVars_none hV
  obtain ⟨a0, rfl, rfl, rfl, w0⟩ := open_string Tryd.underlying9 (hval 0 9 v0 rfl rfl) h0
  clear hA0 hval0
  simp only [List.append_nil] at hW'
  refine (walk a0 w0 m W hm).mono fun e W' ⟨he, hg⟩ => ?_
  subst he
  exact ⟨_, rfl, _, _, _, [], _, [], hW', trodAll_mk1 (shut_bool Tryd.underlying4 _), (trodAll_cons_mk (shut_string Tryd.underlying9 w0) trodAll_mk0), rfl, hg.frame _, fun h => by cases h⟩

theorem over : Rows.FnExactParsePolySaid :=
  OpenClaim.holds_of_cond 4 Tryd.f4 rfl rfl rfl rfl rfl rfl rfl ⟨rfl, rfl, rfl, rfl, rfl⟩ rfl rfl rfl rfl rfl (by kernel_rfl) Tryd.func4 (by kernel_rfl)
    (of_decide_eq_true (by kernel_rfl)) (by unfold Func.isWrapper; first | (rw [if_pos (by decide +kernel)]; kernel_rfl) | (rw [if_neg (by decide +kernel)]; exact ⟨rfl, rfl⟩))
    (fun os started H enc _ F => by rw [OpenClaim.pre_eq_preRow]; exact lifted os started H enc F)

theorem plain (f : FuncId) (fn : Func) (hf : Tryd.pinned.checked.prog.funcNamed "loop.example/g03113/laws.FnExactParsePoly" = some f) (hfn : Tryd.pinned.checked.prog.funcs[f]? = some fn) :
    false = Tryd.pinned.checked.prog.looks [] ∧ ∀ (j : Nat) t, fn.params[j]? = some t → Tryd.pinned.checked.prog.wantsStandIn t = false := by
  obtain rfl : f = 4 := Option.some.inj ((show Tryd.prog.funcNamed "loop.example/g03113/laws.FnExactParsePoly" = some 4 by kernel_rfl).symm.trans hf) |>.symm
  obtain rfl : fn = Tryd.f4 := (Option.some.inj (Tryd.func4.symm.trans hfn)).symm
  refine ⟨by kernel_rfl, fun j t ht => ?_⟩
  rw [Tryd.params4] at ht
  obtain rfl : t = 9 := by simpa using Array.mem_of_getElem? ht
  exact (show Tryd.prog.wantsStandIn 9 = false by kernel_rfl)

theorem proved : Rows.FnExactParsePolyCardSaid :=
  Claim7.holds_tied_plain_at .later [] _ _ _ _ over (fun _ h => by cases h) (by kernel_rfl) (fun _ h => by cases h) fnExactParsePoly_row_tie rfl ⟨rfl, rfl⟩ (by kernel_rfl) rfl plain (by kernel_rfl)
#print axioms proved
end Go.Proofs.YthgigbihpcelpaaDoor.fnExactParsePoly