/-
  Contracts: DegreeOf.
-/
import Derived.Test.YthgigbihpcelpaaPoly
import Derived.Test.YthgigbihpcelpaaLen
namespace Go.Proofs.Ythgigbihpcelpaa
open Go.RowKit
set_option linter.unusedVariables false

set_option maxHeartbeats 400000 in
theorem degree_c (v : Value) (l : List Int) (w : World) (hv : IntsV w v l) (hs : Small l) (hl : l.length ≤ 1048576) :
    Calls Try.prog 47 #[v] w fun e w' => e = .returned (.int .i64 l.sum) ∧ w = w' := by
  obtain ⟨n, ao, b, off, c, rfl, HL, hnc, hcm, ha, hc, hn⟩ := hv.open
  have hn2 : n ≤ 1048576 := by rw [HL.out]; exact hl
  have HS := Lib.hid hs
  clear hcm hs hl
  go_enter Try.func47, Try.ntmps47
  go_wp2
  go_loop [3, 8] (fun k i => ∃ j : Nat, j ≤ n ∧ i = .int .i64 j ∧ k = .int .i64 (sumUp l j)) (fun _ i => n - (intOf i).toNat)
  case atStart => exact ⟨0, Nat.zero_le _, rfl, by rw [sumUp_zero]⟩
  case round =>
    obtain ⟨j, hj, rfl, rfl⟩ := hrel
    obtain ⟨hs1, hs2⟩ := sumUp_le HS.out j (by rw [← HL.out]; exact hj)
    by_cases hlt : j < n
    · obtain rfl := ha (by omega)
      have hcj := hc j hlt
      obtain ⟨x, hx⟩ : ∃ x, x = l.getD j 0 := ⟨_, rfl⟩
      rw [← hx] at hcj
      have HX := Lib.hid (getElem?_of_getD hx (by rw [← HL.out]; exact hlt))
      have hxr := HS.out x (List.mem_of_getElem? HX.out)
      have e := Lib.hid (sumUp_succ HX.out)
      obtain ⟨S, hS⟩ : ∃ S, S = sumUp l j := ⟨_, rfl⟩
      have HSS := Lib.hid hS
      rw [← hS] at hs1 hs2 ⊢
      clear hc ha hx hS
      go_wp2
      go_round
      case rel => exact ⟨j + 1, by omega, by go_num, by rw [e.out, ← HSS.out]⟩
      case measure => simp [intOf]; omega
    · clear hc ha
      obtain rfl : j = n := by omega
      have e := Lib.hid (sumUp_all l HL.out)
      go_wp2
      go_ret
      exact ⟨ret_int e.out, rfl⟩


def degF : Int → TermL → Int
  | m, [] => m
  | m, t :: ts => degF (max m t.1.sum) ts
theorem degF_step {ts : TermL} {e : List Int} {d m : Int} {j : Nat} (h : ts[j]? = some (e, d)) : degF m (ts.drop j) = degF (max m e.sum) (ts.drop (j + 1)) := by
  obtain ⟨hj, he⟩ := List.getElem?_eq_some_iff.1 h
  rw [List.drop_eq_getElem_cons hj, he]
  rfl
noncomputable def degL (ts : TermL) : Int := if polyB ts = true then degF (-1) ts else -1
theorem degL_yes {ts : TermL} (h : polyB ts = true) : degL ts = degF (-1) ts := if_pos h
theorem degL_no {ts : TermL} (h : polyB ts = false) : degL ts = -1 := if_neg (by rw [h]; simp)
theorem polyB_all {ts : TermL} (h : polyB ts = true) : ∀ (j : Nat) (e : List Int) (d : Int), ts[j]? = some (e, d) → TermOk e d := by
  intro j e d hj
  exact ((polyB_iff.1 h).2 j (List.getElem?_eq_some_iff.1 hj).1 e d hj).1
theorem termOk_small {e : List Int} {d : Int} (h : TermOk e d) : Small e := by
  intro x hx
  obtain ⟨i, hi, rfl⟩ := List.getElem_of_mem hx
  have := h.2.2.2 i (by rw [← h.1]; exact hi)
  rw [List.getD_eq_getElem?_getD, List.getElem?_eq_getElem hi] at this
  simp at this
  omega

set_option maxHeartbeats 800000 in
theorem sDeg_c (v : Value) (ts : TermL) (w : World) (hv : TermsV w v ts) :
    Calls Try.prog 27 #[v] w fun e w' => e = .returned (.int .i64 (degL ts)) ∧ Below w.heap.size w w' := by
  obtain ⟨n, ao, b, c, rfl, HL, hnc, hcm, ha, hc, hn⟩ := hv.open
  have HC := Lib.hid hc
  clear hc hcm
  cases hP : polyB ts with
  | false =>
    have HR := Lib.hid (degL_no hP)
    go_enter Try.func27, Try.ntmps27
    go_wp2_with fail
    refine (sPolyOk_c _ _ _ hv).mono ?_
    rw [hP]
    rintro e w1 ⟨rfl, b1⟩
    go_wp2_with fail
    go_ret
    exact ⟨ret_int HR.out.symm, b1⟩
  | true =>
    have HP := Lib.hid (polyB_all hP)
    have HR := Lib.hid (degL_yes hP)
    go_enter Try.func27, Try.ntmps27
    go_wp2_with fail
    refine (sPolyOk_c _ _ _ hv).mono ?_
    rw [hP]
    rintro e w1 ⟨rfl, b1⟩
    clear hP
    go_wp2_with fail
    go_loopw [3, 4] (fun mv iv wr => ∃ (j : Nat) (m : Int), j ≤ n ∧ iv = .int .i64 j ∧ mv = .int .i64 m ∧ Hid (degF (-1) ts = degF m (ts.drop j)) ∧ Below w.heap.size w wr) (fun _ iv _ => n - (intOf iv).toNat)
    case atStart => exact ⟨0, -1, Nat.zero_le _, rfl, rfl, Lib.hid rfl, b1⟩
    case round =>
      obtain ⟨j, m, hj, rfl, rfl, HM, hB⟩ := hrel
      by_cases hlt : j < n
      · obtain rfl := ha (by omega)
        obtain ⟨x, hx⟩ : ∃ x, ts[j]? = some x := ⟨_, List.getElem?_eq_getElem (by rw [← HL.out]; exact hlt)⟩
        obtain ⟨e, d⟩ := x
        obtain ⟨q, h1, h2, hq⟩ := HC.out j e d hx
        have k1 := (hB.cell (World.block_lt_of_cell? _ _ h1)).trans h1
        have k2 := (hB.cell (World.block_lt_of_cell? _ _ h2)).trans h2
        have HS : Hid (degF (-1) ts = degF (max m e.sum) (ts.drop (j + 1))) := Lib.hid (HM.out.trans (degF_step hx))
        have HO := Lib.hid (HP.out j e d hx)
        have hj0 : (0 : Int) ≤ (j : Int) := Int.natCast_nonneg _
        have hj1 : (j : Int) < (n : Int) := by omega
        obtain ⟨qo, qn, qc, rfl⟩ := hq.shape
        clear h1 h2 hx
        have FB := hB
        obtain ⟨s, hs⟩ : ∃ s, s = e.sum := ⟨_, rfl⟩
        have HSS := Lib.hid hs
        go_wp2_with fail
        refine (l1Sum_c _ _ _ (hq.kept FB) (termOk_small HO.out) (by rw [HO.out.1]; decide)).mono ?_
        rw [← hs]
        clear hs
        rintro e2 w2 ⟨rfl, rfl⟩
        go_wp2_with fail
        go_roundw
        case rel => exact ⟨j + 1, max m s, by omega, by go_num, by go_num, by rw [HSS.out]; exact HS, FB⟩
        case measure => simp [intOf]; omega
      · obtain rfl : j = n := by omega
        go_wp2_with fail
        go_ret
        refine ⟨ret_int ?_, hB⟩
        rw [HR.out, HM.out, show j = ts.length from HL.out, List.drop_length]
        rfl

set_option maxHeartbeats 800000 in
theorem iDeg_c (v : Value) (ts : TermL) (w : World) (hv : TermsV w v ts) :
    Calls Try.prog 28 #[v] w fun e w' => e = .returned (.int .i64 (degL ts)) ∧ Below w.heap.size w w' := by
  obtain ⟨n, ao, b, c, rfl, HL, hnc, hcm, ha, hc, hn⟩ := hv.open
  have HC := Lib.hid hc
  clear hc hcm
  cases hP : polyB ts with
  | false =>
    have HR := Lib.hid (degL_no hP)
    go_enter Try.func28, Try.ntmps28
    go_wp2_with fail
    refine (iPolyOk_c _ _ _ hv).mono ?_
    rw [hP]
    rintro e w1 ⟨rfl, b1⟩
    go_wp2_with fail
    go_ret
    exact ⟨ret_int HR.out.symm, b1⟩
  | true =>
    have HP := Lib.hid (polyB_all hP)
    have HR := Lib.hid (degL_yes hP)
    go_enter Try.func28, Try.ntmps28
    go_wp2_with fail
    refine (iPolyOk_c _ _ _ hv).mono ?_
    rw [hP]
    rintro e w1 ⟨rfl, b1⟩
    clear hP
    go_wp2_with fail
    go_loopw [3, 11] (fun mv iv wr => ∃ (j : Nat) (m : Int), j ≤ n ∧ iv = .int .i64 j ∧ mv = .int .i64 m ∧ Hid (degF (-1) ts = degF m (ts.drop j)) ∧ Below w.heap.size w wr) (fun _ iv _ => n - (intOf iv).toNat)
    case atStart => exact ⟨0, -1, Nat.zero_le _, rfl, rfl, Lib.hid rfl, b1⟩
    case round =>
      obtain ⟨j, m, hj, rfl, rfl, HM, hB⟩ := hrel
      by_cases hlt : j < n
      · obtain rfl := ha (by omega)
        obtain ⟨x, hx⟩ : ∃ x, ts[j]? = some x := ⟨_, List.getElem?_eq_getElem (by rw [← HL.out]; exact hlt)⟩
        obtain ⟨e, d⟩ := x
        obtain ⟨q, h1, h2, hq⟩ := HC.out j e d hx
        have k1 := (hB.cell (World.block_lt_of_cell? _ _ h1)).trans h1
        have k2 := (hB.cell (World.block_lt_of_cell? _ _ h2)).trans h2
        have HS : Hid (degF (-1) ts = degF (max m e.sum) (ts.drop (j + 1))) := Lib.hid (HM.out.trans (degF_step hx))
        have HO := Lib.hid (HP.out j e d hx)
        have hj0 : (0 : Int) ≤ (j : Int) := Int.natCast_nonneg _
        have hj1 : (j : Int) < (n : Int) := by omega
        obtain ⟨qo, qn, qc, rfl⟩ := hq.shape
        clear h1 h2 hx
        have FB := hB.alloc hB.size (Obj.cells #[.slice qo qn qc, .int .i64 d] 46)
        obtain ⟨s, hs⟩ : ∃ s, s = e.sum := ⟨_, rfl⟩
        have HSS := Lib.hid hs
        go_wp2_with fail
        refine (degree_c _ _ _ (hq.kept FB) (termOk_small HO.out) (by rw [HO.out.1]; decide)).mono ?_
        rw [← hs]
        clear hs
        rintro e2 w2 ⟨rfl, rfl⟩
        go_wp2_with fail
        go_roundw
        case rel => exact ⟨j + 1, max m s, by omega, by go_num, by go_num, by rw [HSS.out]; exact HS, FB⟩
        case measure => simp [intOf]; omega
      · obtain rfl : j = n := by omega
        go_wp2_with fail
        go_ret
        refine ⟨ret_int ?_, hB⟩
        rw [HR.out, HM.out, show j = ts.length from HL.out, List.drop_length]
        rfl

end Go.Proofs.Ythgigbihpcelpaa
