/-
  Contracts: MonomialPoly.
-/
import Derived.Test.YthgigbihpcelpaaPoly
import Derived.Test.YthgigbihpcelpaaConst
import Derived.Test.YthgigbihpcelpaaZeros
import Derived.Test.YthgigbihpcelpaaExt
namespace Go.Proofs.Ythgigbihpcelpaa
open Go.RowKit
set_option linter.unusedVariables false

/-- The first i numbers are exponents. -/
def ExpsTo (l : List Int) (i : Nat) : Prop := ∀ t, t < i → inB (l.getD t 0) 0 24 = true
def fullUp (l : List Int) (i : Nat) : List Int := l.take i ++ List.replicate (7 - i) 0
noncomputable def monoL (l : List Int) : TermL := @ite _ (l.length ≤ 7 ∧ ExpsTo l l.length) (Classical.propDecidable _) [(fullUp l l.length, 1)] []
theorem monoL_yes {l : List Int} (h1 : l.length ≤ 7) (h2 : ExpsTo l l.length) : monoL l = [(fullUp l l.length, 1)] := by
  unfold monoL; exact @if_pos _ (Classical.propDecidable _) ⟨h1, h2⟩ _ _ _
theorem monoL_no {l : List Int} (h : ¬ (l.length ≤ 7 ∧ ExpsTo l l.length)) : monoL l = [] := by
  unfold monoL; exact @if_neg _ (Classical.propDecidable _) h _ _ _
theorem fullUp_zero (l : List Int) : fullUp l 0 = List.replicate 7 0 := rfl
theorem fullUp_len {l : List Int} {i : Nat} (hi : i ≤ l.length) (h7 : l.length ≤ 7) : (fullUp l i).length = 7 := by
  simp [fullUp]; omega
theorem fullUp_step {l : List Int} {i : Nat} {x : Int} (hi : i < l.length) (h7 : l.length ≤ 7) (hx : x = l.getD i 0) : (fullUp l i).set i x = fullUp l (i + 1) := by
  have e : List.replicate (7 - i) (0 : Int) = 0 :: List.replicate (7 - (i + 1)) 0 := by
    rw [show 7 - i = (7 - (i + 1)) + 1 by omega, List.replicate_succ]
  have hl : (l.take i).length = i := by rw [List.length_take]; omega
  have hx' : l[i]? = some x := by rw [hx, List.getD_eq_getElem?_getD, List.getElem?_eq_getElem hi]; rfl
  rw [fullUp, fullUp, List.set_append_right _ _ (by omega), hl, Nat.sub_self, e, List.set_cons_zero, List.take_add_one, hx']
  simp
theorem ExpsTo.step {l : List Int} {i : Nat} {x : Int} (h : ExpsTo l i) (hx : x = l.getD i 0) (hb : inB x 0 24 = true) : ExpsTo l (i + 1) := by
  intro t ht
  by_cases e : t = i
  · subst e; rw [← hx]; exact hb
  · exact h t (by omega)

set_option maxHeartbeats 800000 in
theorem sMono_c (v : Value) (l : List Int) (w : World) (hv : IntsV w v l) :
    Calls Try.prog 20 #[v] w (GivesT w (monoL l)) := by
  obtain ⟨n, ao, b, off, c, rfl, HL, hnc, hcm, ha, hc, hn⟩ := hv.open
  clear hcm
  by_cases hbig : 7 < n
  · have HR := Lib.hid (monoL_no (l := l) (fun h => by have := HL.out; omega))
    clear hc ha
    go_enter Try.func20, Try.ntmps20
    go_wp2
    go_ret
    rw [HR.out]
    exact ⟨_, rfl, OwnP.nil _ _, Below.refl _ _⟩
  · have HC := Lib.hid hc
    clear hc
    go_enter Try.func20, Try.ntmps20
    go_wp2_with (at_make; refine wpList_zeros _ rfl _ _ rfl 7 rfl rfl (by decide) ?_)
    intro w1 hO hB
    have hO : OwnI w.heap.size w1 (.slice (some ⟨w.heap.size, 0, none⟩) 7 7) (fullUp l 0) := hO
    go_wp2_with fail
    go_loopw [4] (fun iv wr => ∃ i : Nat, i ≤ n ∧ iv = .int .i64 i ∧ Hid (ExpsTo l i) ∧ OwnI w.heap.size wr (.slice (some ⟨w.heap.size, 0, none⟩) 7 7) (fullUp l i) ∧ Below w.heap.size w wr) (fun iv _ => n - (intOf iv).toNat)
    case atStart => exact ⟨0, Nat.zero_le _, rfl, Lib.hid (fun t ht => absurd ht (Nat.not_lt_zero _)), hO, hB⟩
    case round =>
      obtain ⟨i, hi, rfl, HE, hOi, hBi⟩ := hrel
      clear hO hB
      by_cases hlt : i < n
      · obtain rfl := ha (by omega)
        obtain ⟨x, hx⟩ : ∃ x, x = l.getD i 0 := ⟨_, rfl⟩
        have hcx : wr.cell? ⟨b, off + i, none⟩ = some (.int .i64 x) := by
          rw [hx, hBi.cell (World.block_lt_of_cell? _ _ (HC.out i hlt))]; exact HC.out i hlt
        have HX := Lib.hid hx
        clear hx
        cases hb : inB x 0 24 with
        | false =>
          have HR := Lib.hid (monoL_no (l := l) (fun h => by have := h.2 i (by rw [← HL.out]; exact hlt); rw [← HX.out, hb] at this; exact absurd this (by simp)))
          go_wp2_with fail
          refine (l1In_c _ _ _ _).mono ?_
          rintro e w2 ⟨rfl, rfl⟩
          go_wp2_with fail
          go_ret
          rw [HR.out]
          exact ⟨_, rfl, OwnP.nil _ _, hBi⟩
        | true =>
          have hfl := fullUp_len (l := l) (i := i) (by rw [← HL.out]; exact hi) (by rw [← HL.out]; omega)
          have hst := hOi.cellAt i (by rw [hfl]; omega)
          have hfr := hOi.free i
          have e1 := Lib.hid (fullUp_step (by rw [← HL.out]; exact hlt) (by rw [← HL.out]; omega) HX.out)
          have hO2 := (hOi.store i x).1
          rw [e1.out] at hO2
          have hB2 := hBi.setCell (p := ⟨w.heap.size, i, none⟩) (Nat.le_refl _) (.int .i64 x)
          have HE' := Lib.hid (HE.out.step HX.out hb)
          obtain ⟨z, hz⟩ : ∃ z, z = (fullUp l i).getD i 0 := ⟨_, rfl⟩
          rw [← hz] at hst
          have hi7 : (i : Int) < 7 := by omega
          clear hz hfl hOi
          go_wp2_with fail
          refine (l1In_c _ _ _ _).mono ?_
          rintro e w2 ⟨rfl, rfl⟩
          go_wp2_with fail
          go_roundw
          case rel => exact ⟨i + 1, by omega, by go_num, HE', hO2, hB2⟩
          case measure => simp [intOf]; omega
      · obtain rfl : i = n := by omega
        have HR := Lib.hid (monoL_yes (l := l) (by rw [← HL.out]; omega) (by rw [← HL.out]; exact HE.out))
        go_wp2
        go_ret
        rw [HR.out]
        refine ⟨_, rfl, ?_, hBi.alloc hBi.size _⟩
        rw [← HL.out]
        exact OwnP.one 1 hOi hBi.size (by rw [fullUp_len (by rw [← HL.out]; exact Nat.le_refl _) (by rw [← HL.out]; omega)]; decide)

theorem fullUp_at {l : List Int} {t : Nat} (h7 : l.length ≤ 7) : (fullUp l l.length).getD t 0 = l.getD t 0 := by
  rw [fullUp, List.take_length, List.getD_eq_getElem?_getD, List.getD_eq_getElem?_getD]
  by_cases ht : t < l.length
  · rw [List.getElem?_append_left ht]
  · rw [List.getElem?_append_right (by omega), List.getElem?_eq_none (l := l) (by omega)]
    by_cases h2 : t - l.length < 7 - l.length
    · rw [List.getElem?_replicate, if_pos h2]; rfl
    · rw [List.getElem?_replicate, if_neg h2]
theorem polyB_mono_yes {l : List Int} (h7 : l.length ≤ 7) (h : ExpsTo l l.length) : polyB [(fullUp l l.length, 1)] = true := by
  refine polyB_yes (by simp) (PolyTo.step0 rfl ⟨fullUp_len (Nat.le_refl _) h7, by decide, by decide, fun t ht => ?_⟩)
  rw [fullUp_at h7]
  by_cases ht2 : t < l.length
  · exact inB_true (h t ht2)
  · rw [List.getD_eq_getElem?_getD, List.getElem?_eq_none (by omega)]; decide
theorem polyB_mono_no {l : List Int} (h7 : l.length ≤ 7) (h : ¬ ExpsTo l l.length) : polyB [(fullUp l l.length, 1)] = false := by
  refine polyB_term (k := 0) rfl (fun ht => h fun t h2 => ?_)
  have := ht.2.2.2 t (by omega)
  rw [fullUp_at h7] at this
  exact inB_mk this.1 this.2

set_option maxHeartbeats 800000 in
theorem iMono_c (v : Value) (l : List Int) (w : World) (hv : IntsV w v l) :
    Calls Try.prog 21 #[v] w (GivesT w (monoL l)) := by
  have hv0 := hv
  obtain ⟨n, ao, b, off, c, rfl, HL, hnc, hcm, ha, hc, hn⟩ := hv.open
  clear hcm hc ha
  by_cases hbig : 7 < n
  · have HR := Lib.hid (monoL_no (l := l) (fun h => by have := HL.out; omega))
    go_enter Try.func21, Try.ntmps21
    go_wp2
    go_ret
    rw [HR.out]
    exact ⟨_, rfl, OwnP.nil _ _, Below.refl _ _⟩
  · obtain ⟨m, hm⟩ : ∃ m, 7 = n + m := ⟨7 - n, by omega⟩
    have h7 := Lib.hid (show l.length ≤ 7 by rw [← HL.out]; omega)
    have HF : Hid (l ++ List.replicate m 0 = fullUp l l.length) := Lib.hid (by rw [fullUp, List.take_length, ← HL.out, show 7 - n = m by omega])
    have hsub : IntKind.i64.wrap (7 - (n : Int)) = (m : Int) := (IntWalk.i64_in _ (by omega)).trans (by omega)
    have hsm : l.length + m ≤ 1000 := by rw [← HL.out]; omega
    clear hm
    go_enter Try.func21, Try.ntmps21
    go_wp2_with fail
    refine (cloneI_c _ _ _ hv0).mono ?_
    rintro e w1 ⟨r, rfl, o1, b1⟩
    have hsz := b1.size
    go_wp2_with (at_builtin; refine wpList_addZeros w1 rfl _ _ rfl o1 rfl rfl hsm hsz ?_)
    intro v' w2 o2 b2
    rw [HF.out] at o2
    have F2 := b1.trans b2
    obtain ⟨ao', n', c', rfl⟩ := o2.ints.shape
    have hfl := fullUp_len (l := l) (Nat.le_refl _) h7.out
    have P3 := OwnP.one 1 o2 F2.size (by rw [hfl]; decide)
    have F3 := F2.alloc F2.size (Obj.cells #[.slice ao' n' c', .int .i64 1] 46)
    clear hfl hsub
    by_cases hE : ExpsTo l l.length
    · have HP := Lib.hid (polyB_mono_yes h7.out hE)
      have HR := Lib.hid (monoL_yes h7.out hE)
      go_wp2_with fail
      refine (iPolyOk_c _ _ _ P3.terms).mono ?_
      rw [HP.out]
      rintro e w4 ⟨rfl, b4⟩
      go_wp2_with fail
      go_ret
      rw [HR.out]
      exact ⟨_, rfl, P3.kept b4, below_step F3 b4 F3.size⟩
    · have HP := Lib.hid (polyB_mono_no h7.out hE)
      have HR := Lib.hid (monoL_no (l := l) (fun h => hE h.2))
      go_wp2_with fail
      refine (iPolyOk_c _ _ _ P3.terms).mono ?_
      rw [HP.out]
      rintro e w4 ⟨rfl, b4⟩
      go_wp2_with fail
      go_ret
      rw [HR.out]
      exact ⟨_, rfl, OwnP.nil _ _, below_step F3 b4 F3.size⟩

end Go.Proofs.Ythgigbihpcelpaa
