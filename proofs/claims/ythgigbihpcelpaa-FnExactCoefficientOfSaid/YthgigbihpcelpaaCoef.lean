/-
  Contracts: CoefficientOf; l1Same, slices.Equal at []int.
-/
import Derived.Test.YthgigbihpcelpaaTerm
namespace Go.Proofs.Ythgigbihpcelpaa
open Go.RowKit
set_option linter.unusedVariables false

set_option maxHeartbeats 400000 in
theorem same_c (v u : Value) (a b : List Int) (w : World) (hv : IntsV w v a) (hu : IntsV w u b) :
    Calls Try.prog 36 #[v, u] w (GivesB w (decide (a = b))) := by
  obtain ⟨n, ao, ab, aoff, ac, rfl, HL, _, hcma, ha, hca, hna⟩ := hv.open
  obtain ⟨m, bo, bb, boff, bc, rfl, HM, _, hcmb, hb, hcb, hnb⟩ := hu.open
  clear hcma hcmb
  by_cases hnm : n = m
  · subst hnm
    have hne : ((n : Int) != (n : Int)) = false := by simp
    go_enter Try.func36, Try.ntmps36
    go_wp2
    go_loopw [5] (fun i wr => ∃ j : Nat, j ≤ n ∧ i = .int .i64 j ∧ Same a b j ∧ Below w.heap.size w wr) (fun i _ => n - (intOf i).toNat)
    case atStart => exact ⟨0, Nat.zero_le _, rfl, fun t ht => absurd ht (Nat.not_lt_zero _), Below.refl _ _⟩
    case round =>
      obtain ⟨j, hj, rfl, hS, hB⟩ := hrel
      by_cases hlt : j < n
      · obtain rfl := ha (by omega)
        obtain rfl := hb (by omega)
        obtain ⟨x, hx⟩ : ∃ x, x = a.getD j 0 := ⟨_, rfl⟩
        obtain ⟨y, hy⟩ : ∃ y, y = b.getD j 0 := ⟨_, rfl⟩
        have hcj : wr.cell? ⟨ab, aoff + j, none⟩ = some (.int .i64 x) := by
          rw [hx, hB.cell (p := ⟨ab, aoff + j, none⟩) (World.block_lt_of_cell? _ _ (hca j hlt))]; exact hca j hlt
        have hdj : wr.cell? ⟨bb, boff + j, none⟩ = some (.int .i64 y) := by
          rw [hy, hB.cell (p := ⟨bb, boff + j, none⟩) (World.block_lt_of_cell? _ _ (hcb j hlt))]; exact hcb j hlt
        have HX := Lib.hid hx
        have HY := Lib.hid hy
        clear hx hy hca hcb ha hb
        have hjn : (j : Int) < (n : Int) := by omega
        by_cases hxy : x = y
        · subst hxy
          have hnx : (x != x) = false := by simp
          have hS' := Upto.next hS HX.out HY.out rfl (by rw [← HL.out]; exact hlt) (by rw [← HM.out]; exact hlt)
          go_wp2
          go_quiet (fail)
          go_wp2
          go_roundw
          case rel => exact ⟨j + 1, by omega, by go_num, hS', below_drewN hB _⟩
          case measure => simp [intOf]; omega
        · have hnx : (x != y) = true := by simpa using hxy
          have hab : a ≠ b := list_ne_of_getD HX.out HY.out hxy
          have Hab := Lib.hid hab
          clear hab hxy
          go_wp2
          go_quiet (fail)
          go_wp2
          go_ret
          exact ⟨ret_bool (by simp [Hab.out]), below_drewN hB _⟩
      · clear hca hcb ha hb
        go_wp2
        go_ret
        have e : a = b := by
          apply List.ext_getElem?
          intro t
          by_cases ht : t < n
          · exact hS t (by omega)
          · rw [List.getElem?_eq_none (by rw [← HL.out]; omega), List.getElem?_eq_none (by rw [← HM.out]; omega)]
        exact ⟨ret_bool (by simp [e]), hB⟩
  · have hne : ((n : Int) != (m : Int)) = true := by simp; omega
    have hab : a ≠ b := fun e => hnm (by rw [HL.out, HM.out, e])
    have Hab := Lib.hid hab
    clear hab hnm hca hcb ha hb
    go_enter Try.func36, Try.ntmps36
    go_wp2
    go_ret
    exact ⟨ret_bool (by simp [Hab.out]), Below.refl _ _⟩

set_option maxHeartbeats 400000 in
theorem equalI_c (v u : Value) (a b : List Int) (w : World) (hv : IntsV w v a) (hu : IntsV w u b) :
    Calls Try.prog 38 #[v, u] w (GivesB w (decide (a = b))) := by
  obtain ⟨n, ao, ab, aoff, ac, rfl, HL, _, hcma, ha, hca, hna⟩ := hv.open
  obtain ⟨m, bo, bb, boff, bc, rfl, HM, _, hcmb, hb, hcb, hnb⟩ := hu.open
  clear hcma hcmb
  by_cases hnm : n = m
  · subst hnm
    have hne : ((n : Int) != (n : Int)) = false := by simp
    go_enter Try.func38, Try.ntmps38
    go_wp2
    go_loopw [13] (fun i wr => ∃ j : Nat, j ≤ n ∧ i = .int .i64 j ∧ Same a b j ∧ Below w.heap.size w wr) (fun i _ => n - (intOf i).toNat)
    case atStart => exact ⟨0, Nat.zero_le _, rfl, fun t ht => absurd ht (Nat.not_lt_zero _), Below.refl _ _⟩
    case round =>
      obtain ⟨j, hj, rfl, hS, hB⟩ := hrel
      by_cases hlt : j < n
      · obtain rfl := ha (by omega)
        obtain rfl := hb (by omega)
        obtain ⟨x, hx⟩ : ∃ x, x = a.getD j 0 := ⟨_, rfl⟩
        obtain ⟨y, hy⟩ : ∃ y, y = b.getD j 0 := ⟨_, rfl⟩
        have hcj : wr.cell? ⟨ab, aoff + j, none⟩ = some (.int .i64 x) := by
          rw [hx, hB.cell (p := ⟨ab, aoff + j, none⟩) (World.block_lt_of_cell? _ _ (hca j hlt))]; exact hca j hlt
        have hdj : wr.cell? ⟨bb, boff + j, none⟩ = some (.int .i64 y) := by
          rw [hy, hB.cell (p := ⟨bb, boff + j, none⟩) (World.block_lt_of_cell? _ _ (hcb j hlt))]; exact hcb j hlt
        have HX := Lib.hid hx
        have HY := Lib.hid hy
        clear hx hy hca hcb ha hb
        have hjn : (j : Int) < (n : Int) := by omega
        by_cases hxy : x = y
        · subst hxy
          have hnx : (x != x) = false := by simp
          have hS' := Upto.next hS HX.out HY.out rfl (by rw [← HL.out]; exact hlt) (by rw [← HM.out]; exact hlt)
          go_wp2
          go_quiet (fail)
          go_wp2
          go_roundw
          case rel => exact ⟨j + 1, by omega, by go_num, hS', below_drewN hB _⟩
          case measure => simp [intOf]; omega
        · have hnx : (x != y) = true := by simpa using hxy
          have hab : a ≠ b := list_ne_of_getD HX.out HY.out hxy
          have Hab := Lib.hid hab
          clear hab hxy
          go_wp2
          go_quiet (fail)
          go_wp2
          go_ret
          exact ⟨ret_bool (by simp [Hab.out]), below_drewN hB _⟩
      · clear hca hcb ha hb
        go_wp2
        go_ret
        have e : a = b := by
          apply List.ext_getElem?
          intro t
          by_cases ht : t < n
          · exact hS t (by omega)
          · rw [List.getElem?_eq_none (by rw [← HL.out]; omega), List.getElem?_eq_none (by rw [← HM.out]; omega)]
        exact ⟨ret_bool (by simp [e]), hB⟩
  · have hne : ((n : Int) != (m : Int)) = true := by simp; omega
    have hab : a ≠ b := fun e => hnm (by rw [HL.out, HM.out, e])
    have Hab := Lib.hid hab
    clear hab hnm hca hcb ha hb
    go_enter Try.func38, Try.ntmps38
    go_wp2
    go_ret
    exact ⟨ret_bool (by simp [Hab.out]), Below.refl _ _⟩


def coefL : TermL → List Int → Int
  | [], _ => 0
  | t :: ts, l => if t.1 = l then t.2 else coefL ts l
theorem coefL_step {ts : TermL} {l e : List Int} {d : Int} {j : Nat} (h : ts[j]? = some (e, d)) : coefL (ts.drop j) l = if e = l then d else coefL (ts.drop (j + 1)) l := by
  obtain ⟨hj, he⟩ := List.getElem?_eq_some_iff.1 h
  rw [List.drop_eq_getElem_cons hj, he]
  rfl

set_option maxHeartbeats 800000 in
theorem sCoef_c (v u : Value) (ts : TermL) (l : List Int) (w : World) (hv : TermsV w v ts) (hu : IntsV w u l) :
    Calls Try.prog 12 #[v, u] w fun e w' => e = .returned (.int .i64 (coefL ts l)) ∧ Below w.heap.size w w' := by
  obtain ⟨n, ao, b, c, rfl, HL, hnc, hcm, ha, hc, hn⟩ := hv.open
  have HC := Lib.hid hc
  clear hc hcm
  obtain ⟨uo, un, uc, rfl⟩ := hu.shape
  go_enter Try.func12, Try.ntmps12
  go_wp2_with fail
  go_loopw [5] (fun iv wr => ∃ j : Nat, j ≤ n ∧ iv = .int .i64 j ∧ Hid (coefL ts l = coefL (ts.drop j) l) ∧ Below w.heap.size w wr) (fun iv _ => n - (intOf iv).toNat)
  case atStart => exact ⟨0, Nat.zero_le _, rfl, Lib.hid rfl, Below.refl _ _⟩
  case round =>
    obtain ⟨j, hj, rfl, HR, hB⟩ := hrel
    by_cases hlt : j < n
    · obtain rfl := ha (by omega)
      obtain ⟨x, hx⟩ : ∃ x, ts[j]? = some x := ⟨_, List.getElem?_eq_getElem (by rw [← HL.out]; exact hlt)⟩
      obtain ⟨e, d⟩ := x
      obtain ⟨q, h1, h2, hq⟩ := HC.out j e d hx
      have k1 := (hB.cell (World.block_lt_of_cell? _ _ h1)).trans h1
      have k2 := (hB.cell (World.block_lt_of_cell? _ _ h2)).trans h2
      have HS := Lib.hid (coefL_step (l := l) hx)
      have hj0 : (0 : Int) ≤ (j : Int) := Int.natCast_nonneg _
      have hj1 : (j : Int) < (n : Int) := by omega
      obtain ⟨qo, qn, qc, rfl⟩ := hq.shape
      clear h1 h2 hx
      have FB := hB
      have kC := k2
      by_cases he : e = l
      · have HS' : Hid (coefL (ts.drop j) l = d) := Lib.hid (by have := HS.out; rw [if_pos he] at this; exact this)
        have hde : decide (e = l) = true := decide_eq_true he
        go_wp2_with fail
        refine (same_c _ _ _ _ _ (hq.kept FB) (hu.kept FB)).mono ?_
        rw [hde]
        rintro e2 w2 ⟨rfl, b2⟩
        have F2 := below_step FB b2 FB.size
        have k3 := (b2.cell (World.block_lt_of_cell? _ _ kC)).trans kC
        go_wp2_with fail
        go_ret
        exact ⟨ret_int (by rw [HR.out, HS'.out]), F2⟩
      · have HS' : Hid (coefL ts l = coefL (ts.drop (j + 1)) l) := Lib.hid (by have := HS.out; rw [if_neg he] at this; exact HR.out.trans this)
        have hde : decide (e = l) = false := decide_eq_false he
        go_wp2_with fail
        refine (same_c _ _ _ _ _ (hq.kept FB) (hu.kept FB)).mono ?_
        rw [hde]
        rintro e2 w2 ⟨rfl, b2⟩
        have F2 := below_step FB b2 FB.size
        go_wp2_with fail
        go_roundw
        case rel => exact ⟨j + 1, by omega, by go_num, HS', F2⟩
        case measure => simp [intOf]; omega
    · obtain rfl : j = n := by omega
      go_wp2_with fail
      go_ret
      refine ⟨ret_int ?_, hB⟩
      rw [HR.out, show j = ts.length from HL.out, List.drop_length]
      rfl

set_option maxHeartbeats 800000 in
theorem iCoef_c (v u : Value) (ts : TermL) (l : List Int) (w : World) (hv : TermsV w v ts) (hu : IntsV w u l) :
    Calls Try.prog 15 #[v, u] w fun e w' => e = .returned (.int .i64 (coefL ts l)) ∧ Below w.heap.size w w' := by
  obtain ⟨n, ao, b, c, rfl, HL, hnc, hcm, ha, hc, hn⟩ := hv.open
  have HC := Lib.hid hc
  clear hc hcm
  obtain ⟨uo, un, uc, rfl⟩ := hu.shape
  go_enter Try.func15, Try.ntmps15
  go_wp2_with fail
  go_loopw [9] (fun iv wr => ∃ j : Nat, j ≤ n ∧ iv = .int .i64 j ∧ Hid (coefL ts l = coefL (ts.drop j) l) ∧ Below w.heap.size w wr) (fun iv _ => n - (intOf iv).toNat)
  case atStart => exact ⟨0, Nat.zero_le _, rfl, Lib.hid rfl, Below.refl _ _⟩
  case round =>
    obtain ⟨j, hj, rfl, HR, hB⟩ := hrel
    by_cases hlt : j < n
    · obtain rfl := ha (by omega)
      obtain ⟨x, hx⟩ : ∃ x, ts[j]? = some x := ⟨_, List.getElem?_eq_getElem (by rw [← HL.out]; exact hlt)⟩
      obtain ⟨e, d⟩ := x
      obtain ⟨q, h1, h2, hq⟩ := HC.out j e d hx
      have k1 := (hB.cell (World.block_lt_of_cell? _ _ h1)).trans h1
      have k2 := (hB.cell (World.block_lt_of_cell? _ _ h2)).trans h2
      have HS := Lib.hid (coefL_step (l := l) hx)
      have hj0 : (0 : Int) ≤ (j : Int) := Int.natCast_nonneg _
      have hj1 : (j : Int) < (n : Int) := by omega
      obtain ⟨qo, qn, qc, rfl⟩ := hq.shape
      clear h1 h2 hx
      have FB := hB.alloc hB.size (Obj.cells #[.slice qo qn qc, .int .i64 d] 46)
      have kC : (wr.alloc (Obj.cells #[.slice qo qn qc, .int .i64 d] 46)).cell? ⟨wr.heap.size, 1, none⟩ = some (.int .i64 d) := by simp
      by_cases he : e = l
      · have HS' : Hid (coefL (ts.drop j) l = d) := Lib.hid (by have := HS.out; rw [if_pos he] at this; exact this)
        have hde : decide (e = l) = true := decide_eq_true he
        go_wp2_with fail
        refine (equalI_c _ _ _ _ _ (hq.kept FB) (hu.kept FB)).mono ?_
        rw [hde]
        rintro e2 w2 ⟨rfl, b2⟩
        have F2 := below_step FB b2 FB.size
        have k3 := (b2.cell (World.block_lt_of_cell? _ _ kC)).trans kC
        go_wp2_with fail
        go_ret
        exact ⟨ret_int (by rw [HR.out, HS'.out]), F2⟩
      · have HS' : Hid (coefL ts l = coefL (ts.drop (j + 1)) l) := Lib.hid (by have := HS.out; rw [if_neg he] at this; exact HR.out.trans this)
        have hde : decide (e = l) = false := decide_eq_false he
        go_wp2_with fail
        refine (equalI_c _ _ _ _ _ (hq.kept FB) (hu.kept FB)).mono ?_
        rw [hde]
        rintro e2 w2 ⟨rfl, b2⟩
        have F2 := below_step FB b2 FB.size
        go_wp2_with fail
        go_roundw
        case rel => exact ⟨j + 1, by omega, by go_num, HS', F2⟩
        case measure => simp [intOf]; omega
    · obtain rfl : j = n := by omega
      go_wp2_with fail
      go_ret
      refine ⟨ret_int ?_, hB⟩
      rw [HR.out, show j = ts.length from HL.out, List.drop_length]
      rfl

end Go.Proofs.Ythgigbihpcelpaa
