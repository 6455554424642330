/-
  Contracts: IsBelowPerm.
-/
import Derived.Test.YtcpekiangjpppaaRank
namespace Go.Proofs.Ytcpekiangjpppaa
open Go.RowKit
set_option linter.unusedVariables false

/-- The ranks of u are at least those of v, at the first r rows and, in the row r, before the place c. -/
def BelUp (u v : List Int) (r c : Nat) : Prop :=
  (∀ r' c', r' < r → c' ≤ u.length → rankUp v r' (c' : Int) ≤ rankUp u r' (c' : Int)) ∧ (∀ c', c' < c → rankUp v r (c' : Int) ≤ rankUp u r (c' : Int))
theorem BelUp.zero (u v : List Int) : BelUp u v 0 0 := ⟨fun r' c' h => absurd h (Nat.not_lt_zero _), fun c' h => absurd h (Nat.not_lt_zero _)⟩
theorem BelUp.step {u v : List Int} {r c : Nat} (h : BelUp u v r c) (hc : rankUp v r (c : Int) ≤ rankUp u r (c : Int)) : BelUp u v r (c + 1) :=
  ⟨h.1, fun c' hc' => by
    by_cases e : c' = c
    · subst e; exact hc
    · exact h.2 c' (by omega)⟩
theorem BelUp.next {u v : List Int} {r : Nat} (h : BelUp u v r (u.length + 1)) : BelUp u v (r + 1) 0 :=
  ⟨fun r' c' hr hc => by
    by_cases e : r' = r
    · subst e; exact h.2 c' (by omega)
    · exact h.1 r' c' (by omega) hc, fun c' hc => absurd hc (Nat.not_lt_zero _)⟩

def belowOf (u v : List Int) : Bool := decide (∀ r, r ≤ u.length → ∀ c, c ≤ u.length → rankUp v r (c : Int) ≤ rankUp u r (c : Int))
def belowB (u v : List Int) : Bool := isPermB u && isPermB v && decide (u.length = v.length) && belowOf u v
theorem belowOf_yes {u v : List Int} (h : BelUp u v (u.length + 1) 0) : belowOf u v = true := by
  simp only [belowOf, decide_eq_true_eq]
  exact fun r hr c hc => h.1 r c (by omega) hc
theorem belowOf_no {u v : List Int} {r c : Nat} (hr : r ≤ u.length) (hc : c ≤ u.length) (h : rankUp u r (c : Int) < rankUp v r (c : Int)) : belowOf u v = false := by
  simp only [belowOf, decide_eq_false_iff_not]
  intro hall
  have := hall r hr c hc
  omega
theorem belowB_no {u v : List Int} (h : isPermB u = false ∨ isPermB v = false ∨ u.length ≠ v.length) : belowB u v = false := by
  unfold belowB
  rcases h with h | h | h
  · simp [h]
  · simp [h]
  · have : decide (u.length = v.length) = false := by simpa using h
    simp [this]
theorem belowB_of {u v : List Int} (h1 : isPermB u = true) (h2 : isPermB v = true) (h3 : u.length = v.length) : belowB u v = belowOf u v := by
  have : decide (u.length = v.length) = true := by simpa using h3
  simp [belowB, h1, h2, this]

theorem rankL_in {l : List Int} {r c : Nat} (hp : isPermB l = true) (hr : r ≤ l.length) (hc : c ≤ l.length) : rankL l (r : Int) (c : Int) = (rankUp l r (c : Int) : Int) := by
  rw [rankL, if_pos ⟨hp, inB_mk (by omega) (by omega), inB_mk (by omega) (by omega)⟩, Int.toNat_natCast]

end Go.Proofs.Ytcpekiangjpppaa
