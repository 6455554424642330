/-
  Contracts: IsBelowPerm.
-/
import Derived.Test.YtfepepakellbbaaRank
namespace Go.Proofs.Ytfepepakellbbaa
open Go.RowKit
set_option linter.unusedVariables false

/-- The ranks of u are at least those of v, at the first r rows and, in the row r, before the place c. -/
def BelUp (u v : List Int) (r c : Nat) : Prop :=
  (∀ r' c', r' < r → c' ≤ u.length → rankUp v r' (c' : Int) ≤ rankUp u r' (c' : Int)) ∧ (∀ c', c' < c → rankUp v r (c' : Int) ≤ rankUp u r (c' : Int))
theorem BelUp.zero (u v : List Int) : BelUp u v 0 0 := ⟨fun r' c' h => absurd h (Nat.not_lt_zero _), fun c' h => absurd h (Nat.not_lt_zero _)⟩
theorem BelUp.step {u v : List Int} {r c : Nat} (h : BelUp u v r c) (hc : rankUp v r (c : Int) ≤ rankUp u r (c : Int)) : BelUp u v r (c + 1) :=
  ⟨h.1, fun c' hc' => by
    by_cases e : c' = c
    · subst e; exact hc
    · exact h.2 c' (by omega)⟩
theorem BelUp.next {u v : List Int} {r : Nat} (h : BelUp u v r (u.length + 1)) : BelUp u v (r + 1) 0 :=
  ⟨fun r' c' hr hc => by
    by_cases e : r' = r
    · subst e; exact h.2 c' (by omega)
    · exact h.1 r' c' (by omega) hc, fun c' hc => absurd hc (Nat.not_lt_zero _)⟩

def belowOf (u v : List Int) : Bool := decide (∀ r, r ≤ u.length → ∀ c, c ≤ u.length → rankUp v r (c : Int) ≤ rankUp u r (c : Int))
def belowB (u v : List Int) : Bool := isPermB u && isPermB v && decide (u.length = v.length) && belowOf u v
theorem belowOf_yes {u v : List Int} (h : BelUp u v (u.length + 1) 0) : belowOf u v = true := by
  simp only [belowOf, decide_eq_true_eq]
  exact fun r hr c hc => h.1 r c (by omega) hc
theorem belowOf_no {u v : List Int} {r c : Nat} (hr : r ≤ u.length) (hc : c ≤ u.length) (h : rankUp u r (c : Int) < rankUp v r (c : Int)) : belowOf u v = false := by
  simp only [belowOf, decide_eq_false_iff_not]
  intro hall
  have := hall r hr c hc
  omega
theorem belowB_no {u v : List Int} (h : isPermB u = false ∨ isPermB v = false ∨ u.length ≠ v.length) : belowB u v = false := by
  unfold belowB
  rcases h with h | h | h
  · simp [h]
  · simp [h]
  · have : decide (u.length = v.length) = false := by simpa using h
    simp [this]
theorem belowB_of {u v : List Int} (h1 : isPermB u = true) (h2 : isPermB v = true) (h3 : u.length = v.length) : belowB u v = belowOf u v := by
  have : decide (u.length = v.length) = true := by simpa using h3
  simp [belowB, h1, h2, this]

theorem rankL_in {l : List Int} {r c : Nat} (hp : isPermB l = true) (hr : r ≤ l.length) (hc : c ≤ l.length) : rankL l (r : Int) (c : Int) = (rankUp l r (c : Int) : Int) := by
  rw [rankL, if_pos ⟨hp, inB_mk (by omega) (by omega), inB_mk (by omega) (by omega)⟩, Int.toNat_natCast]

set_option maxHeartbeats 1600000 in
theorem iBelow_c (u v : Value) (a b : List Int) (w : World) (hu : IntsV w u a) (hv : IntsV w v b) :
    Calls Try.prog 12 #[u, v] w (GivesB w (belowB a b)) := by
  have hu0 := hu
  have hv0 := hv
  obtain ⟨n, ao, ab, aoff, ac, rfl, HL, _, hcma, ha, hca, hna⟩ := hu.open
  obtain ⟨m, bo, bb, boff, bc, rfl, HM, _, hcmb, hb, hcb, hnb⟩ := hv.open
  clear hcma hcmb hca hcb ha hb
  cases hpa : isPermB a with
  | false =>
    have HR := Lib.hid (belowB_no (u := a) (v := b) (.inl hpa))
    go_enter Try.func12, Try.ntmps12
    go_wp2_with fail
    refine (iIsPerm_c _ _ _ hu).mono ?_
    rintro e w1 ⟨rfl, b1⟩
    go_wp2_with fail
    go_ret
    rw [HR.out]
    exact ⟨rfl, b1⟩
  | true =>
    cases hpb : isPermB b with
    | false =>
      have HR := Lib.hid (belowB_no (u := a) (v := b) (.inr (.inl hpb)))
      go_enter Try.func12, Try.ntmps12
      go_wp2_with fail
      refine (iIsPerm_c _ _ _ hu).mono ?_
      rintro e w1 ⟨rfl, b1⟩
      go_wp2_with fail
      refine (iIsPerm_c _ _ _ (hv.kept b1)).mono ?_
      rintro e w2 ⟨rfl, b2⟩
      have F2 := below_step b1 b2 b1.size
      go_wp2_with fail
      go_ret
      rw [HR.out]
      exact ⟨rfl, F2⟩
    | true =>
      by_cases hl : n = m
      · subst hl
        have hne : ((n : Int) != (n : Int)) = false := by simp
        have HR := Lib.hid (belowB_of hpa hpb (by rw [← HL.out, ← HM.out]))
        have hn : n ≤ 7 := by rw [HL.out]; exact (isPermB_iff.1 hpa).2.1
        have HPA := Lib.hid hpa
        have HPB := Lib.hid hpb
        go_enter Try.func12, Try.ntmps12
        go_wp2_with fail
        refine (iIsPerm_c _ _ _ hu).mono ?_
        rintro e w1 ⟨rfl, b1⟩
        go_wp2_with fail
        refine (iIsPerm_c _ _ _ (hv.kept b1)).mono ?_
        rintro e w2 ⟨rfl, b2⟩
        have F2 := below_step b1 b2 b1.size
        clear b1 b2
        go_wp2_with fail
        clear hpa hpb
        go_loopw [25] (fun i wr => ∃ r : Nat, r ≤ n + 1 ∧ i = .int .i64 r ∧ Hid (BelUp a b r 0) ∧ Below w.heap.size w wr) (fun i _ => n + 1 - (intOf i).toNat)
        case atStart => exact ⟨0, Nat.zero_le _, rfl, Lib.hid (BelUp.zero _ _), F2⟩
        case round =>
          obtain ⟨r, hr, rfl, HB, hBr⟩ := hrel
          clear F2
          obtain ⟨wo, rfl⟩ : ∃ wo : World, wo = wr := ⟨_, rfl⟩
          by_cases hrn : r ≤ n
          · have hrd : decide ((r : Int) < (n : Int) + 1) = true := by rw [decide_eq_true_eq]; omega
            go_wp2
            go_loopw [31] (fun i wr => ∃ c : Nat, c ≤ n + 1 ∧ i = .int .i64 c ∧ Hid (BelUp a b r c) ∧ Below w.heap.size w wr) (fun i _ => n + 1 - (intOf i).toNat)
            case atStart => exact ⟨0, Nat.zero_le _, rfl, HB, hBr⟩
            case round =>
              obtain ⟨c, hc, rfl, HC, hBc⟩ := hrel
              clear hBr
              by_cases hcn : c ≤ n
              · have EX := Lib.hid (rankL_in (r := r) (c := c) HPA.out (by rw [← HL.out]; exact hrn) (by rw [← HL.out]; exact hcn))
                have EY := Lib.hid (rankL_in (r := r) (c := c) HPB.out (by rw [← HM.out]; exact hrn) (by rw [← HM.out]; exact hcn))
                obtain ⟨x, hx⟩ : ∃ x, x = rankUp a r (c : Int) := ⟨_, rfl⟩
                obtain ⟨y, hy⟩ : ∃ y, y = rankUp b r (c : Int) := ⟨_, rfl⟩
                have HX := Lib.hid hx
                have HY := Lib.hid hy
                clear hx hy
                by_cases hxy : x < y
                · have HRN := Lib.hid (belowOf_no (u := a) (v := b) (r := r) (c := c) (by rw [← HL.out]; exact hrn) (by rw [← HL.out]; exact hcn) (by rw [← HX.out, ← HY.out]; exact hxy))
                  go_wp2_with fail
                  refine (iRank_c _ _ _ _ _ (hu0.kept hBc)).mono ?_
                  rintro e w3 ⟨rfl, b3⟩
                  have F3 := below_step hBc b3 hBc.size
                  rw [EX.out, ← HX.out]
                  go_wp2_with fail
                  refine (iRank_c _ _ _ _ _ (hv0.kept F3)).mono ?_
                  rintro e w4 ⟨rfl, b4⟩
                  have F4 := below_step F3 b4 F3.size
                  rw [EY.out, ← HY.out]
                  go_wp2_with fail
                  go_ret
                  rw [HR.out, HRN.out]
                  exact ⟨rfl, F4⟩
                · have HC' := Lib.hid (HC.out.step (by rw [← HX.out, ← HY.out]; omega))
                  go_wp2_with fail
                  refine (iRank_c _ _ _ _ _ (hu0.kept hBc)).mono ?_
                  rintro e w3 ⟨rfl, b3⟩
                  have F3 := below_step hBc b3 hBc.size
                  rw [EX.out, ← HX.out]
                  go_wp2_with fail
                  refine (iRank_c _ _ _ _ _ (hv0.kept F3)).mono ?_
                  rintro e w4 ⟨rfl, b4⟩
                  have F4 := below_step F3 b4 F3.size
                  rw [EY.out, ← HY.out]
                  go_wp2_with fail
                  go_roundw
                  case rel => exact ⟨c + 1, by omega, by go_num, HC', F4⟩
                  case measure => simp [intOf]; omega
              · obtain rfl : c = n + 1 := by omega
                have HB' : Hid (BelUp a b (r + 1) 0) := Lib.hid (BelUp.next (by rw [← HL.out]; exact HC.out))
                go_wp2
                go_roundw
                case rel => exact ⟨r + 1, by omega, by go_num, HB', hBc⟩
                case measure => simp [intOf]; omega
          · obtain rfl : r = n + 1 := by omega
            have HRY := Lib.hid (belowOf_yes (u := a) (v := b) (by rw [← HL.out]; exact HB.out))
            go_wp2
            go_ret
            rw [HR.out, HRY.out]
            exact ⟨rfl, hBr⟩
      · have hne : ((n : Int) != (m : Int)) = true := by simp; omega
        have HR := Lib.hid (belowB_no (u := a) (v := b) (.inr (.inr (fun h => hl (by rw [HL.out, HM.out, h])))))
        clear hl
        go_enter Try.func12, Try.ntmps12
        go_wp2_with fail
        refine (iIsPerm_c _ _ _ hu).mono ?_
        rintro e w1 ⟨rfl, b1⟩
        go_wp2_with fail
        refine (iIsPerm_c _ _ _ (hv.kept b1)).mono ?_
        rintro e w2 ⟨rfl, b2⟩
        have F2 := below_step b1 b2 b1.size
        go_wp2_with fail
        go_ret
        rw [HR.out]
        exact ⟨rfl, F2⟩

end Go.Proofs.Ytfepepakellbbaa
