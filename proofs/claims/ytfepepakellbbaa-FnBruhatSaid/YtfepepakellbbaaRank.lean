/-
  Contracts: RankAt.
-/
import Derived.Test.YtfepepakellbbaaPermI
namespace Go.Proofs.Ytfepepakellbbaa
open Go.RowKit
set_option linter.unusedVariables false

/-- How many of the first r numbers are less than c. -/
def rankUp (l : List Int) (r : Nat) (c : Int) : Nat := ((l.take r).filter (fun x => decide (x < c))).length
def rankL (l : List Int) (r c : Int) : Int := if isPermB l = true ∧ inB r 0 l.length = true ∧ inB c 0 l.length = true then (rankUp l r.toNat c : Int) else -1
theorem rankUp_zero (l : List Int) (c : Int) : rankUp l 0 c = 0 := by simp [rankUp]
theorem rankUp_le (l : List Int) (r : Nat) (c : Int) : rankUp l r c ≤ r := Nat.le_trans (List.length_filter_le _ _) (List.length_take_le _ _)
theorem rankUp_yes {l : List Int} {r : Nat} {c x : Int} (hx : l[r]? = some x) (h : x < c) : rankUp l (r + 1) c = rankUp l r c + 1 := by
  have : decide (x < c) = true := by simpa using h
  simp only [rankUp, List.take_add_one, hx, Option.toList_some, List.filter_append, List.filter_cons, this, if_true, List.filter_nil, List.length_append, List.length_singleton]
theorem rankUp_no {l : List Int} {r : Nat} {c x : Int} (hx : l[r]? = some x) (h : ¬ x < c) : rankUp l (r + 1) c = rankUp l r c := by
  have : decide (x < c) = false := by simpa using h
  simp only [rankUp, List.take_add_one, hx, Option.toList_some, List.filter_append, List.filter_cons, this, Bool.false_eq_true, if_false, List.filter_nil, List.append_nil]

theorem rankL_no {l : List Int} {r c : Int} (h : isPermB l = false ∨ inB r 0 l.length = false ∨ inB c 0 l.length = false) : rankL l r c = -1 := by
  rw [rankL, if_neg]
  rintro ⟨h1, h2, h3⟩
  rcases h with h | h | h <;> simp_all

set_option maxHeartbeats 800000 in
theorem iRank_c (v : Value) (l : List Int) (r c : Int) (w : World) (hv : IntsV w v l) :
    Calls Try.prog 29 #[v, .int .i64 r, .int .i64 c] w (GivesN w (rankL l r c)) := by
  obtain ⟨n, ao, b, off, cap, rfl, HL, hnc, hcm, ha, hc, hn⟩ := hv.open
  cases hp : isPermB l with
  | false =>
    have HR := Lib.hid (rankL_no (l := l) (r := r) (c := c) (.inl hp))
    clear hc ha hcm
    go_enter Try.func29, Try.ntmps29
    go_wp2_with fail
    refine (iIsPerm_c _ _ _ hv).mono ?_
    rintro e w1 ⟨rfl, b1⟩
    go_wp2_with fail
    go_ret
    rw [HR.out]
    exact ⟨rfl, b1⟩
  | true =>
    by_cases h1 : r < 0
    · have HR := Lib.hid (rankL_no (l := l) (r := r) (c := c) (.inr (.inl (inB_not (.inl h1)))))
      go_enter Try.func29, Try.ntmps29
      go_wp2_with fail
      refine (iIsPerm_c _ _ _ hv).mono ?_
      rintro e w1 ⟨rfl, b1⟩
      go_wp2_with fail
      go_ret
      rw [HR.out]
      exact ⟨rfl, b1⟩
    by_cases h2 : (n : Int) < r
    · have HR := Lib.hid (rankL_no (l := l) (r := r) (c := c) (.inr (.inl (inB_not (.inr (by rw [← HL.out]; exact h2))))))
      go_enter Try.func29, Try.ntmps29
      go_wp2_with fail
      refine (iIsPerm_c _ _ _ hv).mono ?_
      rintro e w1 ⟨rfl, b1⟩
      go_wp2_with fail
      go_ret
      rw [HR.out]
      exact ⟨rfl, b1⟩
    by_cases h3 : c < 0
    · have HR := Lib.hid (rankL_no (l := l) (r := r) (c := c) (.inr (.inr (inB_not (.inl h3)))))
      go_enter Try.func29, Try.ntmps29
      go_wp2_with fail
      refine (iIsPerm_c _ _ _ hv).mono ?_
      rintro e w1 ⟨rfl, b1⟩
      go_wp2_with fail
      go_ret
      rw [HR.out]
      exact ⟨rfl, b1⟩
    by_cases h4 : (n : Int) < c
    · have HR := Lib.hid (rankL_no (l := l) (r := r) (c := c) (.inr (.inr (inB_not (.inr (by rw [← HL.out]; exact h4))))))
      go_enter Try.func29, Try.ntmps29
      go_wp2_with fail
      refine (iIsPerm_c _ _ _ hv).mono ?_
      rintro e w1 ⟨rfl, b1⟩
      go_wp2_with fail
      go_ret
      rw [HR.out]
      exact ⟨rfl, b1⟩
    have HR : Hid (rankL l r c = (rankUp l r.toNat c : Int)) := Lib.hid (by rw [rankL, if_pos ⟨hp, by rw [← HL.out]; exact inB_mk (by omega) (by omega), by rw [← HL.out]; exact inB_mk (by omega) (by omega)⟩])
    have hn1 : 1 ≤ n := by rw [HL.out]; exact (isPermB_iff.1 hp).1
    obtain rfl := ha (by omega)
    obtain ⟨m, rfl⟩ : ∃ m : Nat, r = (m : Int) := ⟨r.toNat, by omega⟩
    have hmc : (m : Int) ≤ (cap : Int) := by omega
    clear ha hcm
    go_enter Try.func29, Try.ntmps29
    go_wp2_with fail
    refine (iIsPerm_c _ _ _ hv).mono ?_
    rintro e w1 ⟨rfl, b1⟩
    go_wp2_with fail
    go_loop [7, 37] (fun k i => ∃ j : Nat, j ≤ m ∧ i = .int .i64 j ∧ k = .int .i64 (rankUp l j c : Int)) (fun _ i => m - (intOf i).toNat)
    case atStart => exact ⟨0, Nat.zero_le _, rfl, by rw [rankUp_zero]; rfl⟩
    case round =>
      obtain ⟨j, hj, rfl, rfl⟩ := hrel
      have hle := rankUp_le l j c
      by_cases hlt : j < m
      · obtain ⟨x, hx⟩ : ∃ x, x = l.getD j 0 := ⟨_, rfl⟩
        have hcj : w1.cell? ⟨b, off + j, none⟩ = some (.int .i64 x) := by
          rw [hx, b1.cell (p := ⟨b, off + j, none⟩) (World.block_lt_of_cell? _ _ (hc j (by omega)))]; exact hc j (by omega)
        have HX := Lib.hid (getElem?_of_getD hx (by rw [← HL.out]; omega))
        clear hc hx
        by_cases hxc : x < c
        · have e := Lib.hid (rankUp_yes HX.out hxc)
          go_wp2
          go_round
          case rel => exact ⟨j + 1, by omega, by go_num, by rw [e.out]; go_num⟩
          case measure => simp [intOf]; omega
        · have e := Lib.hid (rankUp_no HX.out hxc)
          go_wp2
          go_round
          case rel => exact ⟨j + 1, by omega, by go_num, by rw [e.out]⟩
          case measure => simp [intOf]; omega
      · clear hc
        obtain rfl : j = m := by omega
        go_wp2
        go_ret
        rw [HR.out, Int.toNat_natCast]
        exact ⟨rfl, b1⟩

end Go.Proofs.Ytfepepakellbbaa
