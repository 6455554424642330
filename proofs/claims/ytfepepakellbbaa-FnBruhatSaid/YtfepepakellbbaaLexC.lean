/-
  Contracts: l1Less, slices.Compare.
-/
import Derived.Test.YtfepepakellbbaaLex
import Derived.Test.YtfepepakellbbaaLists
import Derived.Test.YtfepepakellbbaaShelf
namespace Go.Proofs.Ytfepepakellbbaa
open Go.RowKit
set_option linter.unusedVariables false

/-- As far as j the two are alike. -/
theorem cmp_drop : ∀ {a b : List Int} {j : Nat}, (∀ t, t < j → a[t]? = b[t]?) → j ≤ a.length → j ≤ b.length → cmpL a b = cmpL (a.drop j) (b.drop j)
  | a, b, 0, _, _, _ => by simp
  | x :: a, y :: b, j + 1, h, h1, h2 => by
    have := h 0 (by omega)
    simp at this
    subst this
    have ih := cmp_drop (a := a) (b := b) (j := j) (fun t ht => by have := h (t + 1) (by omega); simpa using this) (by simpa using h1) (by simpa using h2)
    simp only [cmpL, List.drop_succ_cons, Int.lt_irrefl, if_false]
    exact ih
theorem cmp_at {a b : List Int} {j : Nat} {x y : Int} (h : ∀ t, t < j → a[t]? = b[t]?) (hx : a[j]? = some x) (hy : b[j]? = some y) (hne : x ≠ y) : cmpL a b = if x < y then -1 else 1 := by
  obtain ⟨h1, e1⟩ := List.getElem?_eq_some_iff.1 hx
  obtain ⟨h2, e2⟩ := List.getElem?_eq_some_iff.1 hy
  rw [cmp_drop h (by omega) (by omega), List.drop_eq_getElem_cons h1, List.drop_eq_getElem_cons h2, e1, e2]
  simp only [cmpL]
  by_cases h3 : x < y
  · rw [if_pos h3, if_pos h3]
  · rw [if_neg h3, if_neg h3, if_pos (by omega)]
theorem cmp_end {a b : List Int} {j : Nat} (h : ∀ t, t < j → a[t]? = b[t]?) (h1 : j ≤ a.length) (h2 : j ≤ b.length) (he : j = a.length ∨ j = b.length) : cmpL a b = if a.length < b.length then -1 else if b.length < a.length then 1 else 0 := by
  rw [cmp_drop h h1 h2]
  rcases he with rfl | rfl
  · rw [List.drop_length]
    cases e : b.drop a.length with
    | nil => have : b.length ≤ a.length := by simpa using e
             rw [if_neg (by omega), if_neg (by omega)]; rfl
    | cons z l => have : a.length < b.length := by
                    rcases Nat.lt_or_ge a.length b.length with h | h
                    · exact h
                    · rw [List.drop_eq_nil_of_le h] at e; simp at e
                  rw [if_pos this]; rfl
  · rw [List.drop_length]
    cases e : a.drop b.length with
    | nil => have : a.length ≤ b.length := by simpa using e
             rw [if_neg (by omega), if_neg (by omega)]; rfl
    | cons z l => have : b.length < a.length := by
                    rcases Nat.lt_or_ge b.length a.length with h | h
                    · exact h
                    · rw [List.drop_eq_nil_of_le h] at e; simp at e
                  rw [if_neg (by omega), if_pos this]; rfl

set_option maxHeartbeats 800000 in
theorem compare_c (v u : Value) (a b : List Int) (w : World) (hv : IntsV w v a) (hu : IntsV w u b) :
    Calls Try.prog 49 #[v, u] w fun e w' => e = .returned (.int .i64 (cmpL a b)) ∧ w' = w := by
  obtain ⟨n, ao, ab, aoff, ac, rfl, HL, _, hcma, ha, hca, hna⟩ := hv.open
  obtain ⟨m, bo, bb, boff, bc, rfl, HM, _, hcmb, hb, hcb, hnb⟩ := hu.open
  clear hcma hcmb
  go_enter Try.func49, Try.ntmps49
  go_wp2_with fail
  go_loop [11] (fun i => ∃ j : Nat, j ≤ n ∧ i = .int .i64 j ∧ (j ≤ m ∧ Same a b j)) (fun i => n - (intOf i).toNat)
  case atStart => exact ⟨0, Nat.zero_le _, rfl, Nat.zero_le _, fun t ht => absurd ht (Nat.not_lt_zero _)⟩
  case round =>
    obtain ⟨j, hj, rfl, hjm, hS⟩ := hrel
    have HSAME := Lib.hid hS
    clear hS
    by_cases hlt : j < n
    · have hlt' : (j : Int) < (n : Int) := by omega
      have hj0 : (0 : Int) ≤ (j : Int) := Int.natCast_nonneg _
      obtain rfl := ha (by omega)
      have hcj := hca j hlt
      obtain ⟨x, hx⟩ : ∃ x, x = a.getD j 0 := ⟨_, rfl⟩
      rw [← hx] at hcj
      have HX := Lib.hid hx
      clear hx ha hca
      by_cases hltm : j < m
      · have hltm' : ¬ (m : Int) ≤ (j : Int) := by omega
        have hltm2 : (j : Int) < (m : Int) := by omega
        obtain rfl := hb (by omega)
        have hdj := hcb j hltm
        obtain ⟨y, hy⟩ : ∃ y, y = b.getD j 0 := ⟨_, rfl⟩
        rw [← hy] at hdj
        have HY := Lib.hid hy
        clear hy hb hcb
        go_wp2_with fail
        refine (Try.cmp_Compare_int x y _).mono ?_
        rintro e w1 ⟨rfl, rfl⟩
        by_cases hxy : x = y
        · subst hxy
          have hS' := Lib.hid (Upto.next HSAME.out HX.out HY.out rfl (by rw [← HL.out]; exact hlt) (by rw [← HM.out]; exact hltm))
          have e0 : Lib.compareInt x x = 0 := by simp [Lib.compareInt]
          rw [e0]
          go_wp2_with fail
          go_round
          case rel => exact ⟨j + 1, by omega, by go_num, by omega, hS'.out⟩
          case measure => simp [intOf]; omega
        · have hc := cmp_at HSAME.out (getElem?_of_getD HX.out (by rw [← HL.out]; exact hlt)) (getElem?_of_getD HY.out (by rw [← HM.out]; exact hltm)) hxy
          have e0 : Lib.compareInt x y = cmpL a b := by
            rw [hc]; unfold Lib.compareInt
            by_cases h : x < y
            · rw [if_pos h, if_pos h]
            · rw [if_neg h, if_neg h, if_pos (by omega)]
          have hne : ¬ cmpL a b = 0 := by rw [hc]; split <;> omega
          rw [e0]
          obtain ⟨q, hq⟩ : ∃ q, cmpL a b = q := ⟨_, rfl⟩
          have HQ := Lib.hid hq
          rw [hq] at hne ⊢
          clear e0 hc hq
          go_wp2_with fail
          go_ret
          exact ⟨ret_int HQ.out.symm, rfl⟩
      · have hltm' : (m : Int) ≤ (j : Int) := by omega
        have HR : Hid (cmpL a b = 1) := Lib.hid (by
          have := cmp_end HSAME.out (by rw [← HL.out]; omega) (by rw [← HM.out]; omega) (.inr (by rw [← HM.out]; omega))
          rw [← HL.out, ← HM.out] at this
          rw [this, if_neg (by omega), if_pos (by omega)])
        clear hb hcb
        go_wp2_with fail
        go_ret
        rw [HR.out]
        exact ⟨rfl, rfl⟩
    · have hlt' : ¬ (j : Int) < (n : Int) := by omega
      have HR : Hid (cmpL a b = if n < m then -1 else 0) := Lib.hid (by
        have := cmp_end HSAME.out (by rw [← HL.out]; omega) (by rw [← HM.out]; omega) (.inl (by rw [← HL.out]; omega))
        rw [← HL.out, ← HM.out] at this
        rw [this]
        by_cases h : n < m
        · rw [if_pos h, if_pos h]
        · rw [if_neg h, if_neg h, if_neg (by omega)])
      clear hca hcb ha hb
      by_cases hnm : n < m
      · have hnm' : (n : Int) < (m : Int) := by omega
        go_wp2_with fail
        go_ret
        rw [HR.out, if_pos hnm]
        exact ⟨rfl, rfl⟩
      · have hnm' : ¬ (n : Int) < (m : Int) := by omega
        go_wp2_with fail
        go_ret
        rw [HR.out, if_neg hnm]
        exact ⟨rfl, rfl⟩

end Go.Proofs.Ytfepepakellbbaa
