/-
  Contracts: words, WordPerm, DemazurePerm.
-/
import Derived.Test.YtcpekiangjpppaaSwap
import Derived.Test.YtcpekiangjpppaaIdent
namespace Go.Proofs.Ytcpekiangjpppaa
open Go.RowKit
set_option linter.unusedVariables false

/-- Each number is that of a swap of n. -/
def inWord (n : Int) (word : List Int) : Bool := decide (∀ k ∈ word, 0 ≤ k ∧ k ≤ n - 2)
def wordB (n : Int) (word : List Int) : Bool := inB n 1 7 && decide (word.length ≤ 60) && inWord n word
theorem wordB_no {n : Int} {word : List Int} (h : inB n 1 7 = false ∨ 60 < word.length ∨ inWord n word = false) : wordB n word = false := by
  unfold wordB
  rcases h with h | h | h
  · simp [h]
  · have : decide (word.length ≤ 60) = false := by simpa using h
    simp [this]
  · simp [h]
theorem inWord_bad {n : Int} {word : List Int} {j : Nat} {k : Int} (hk : word[j]? = some k) (h : k < 0 ∨ n - 2 < k) : inWord n word = false := by
  simp only [inWord, decide_eq_false_iff_not]
  intro hall
  have := hall k (List.mem_of_getElem? hk)
  omega
/-- The first j numbers are right. -/
def WordUp (n : Int) (word : List Int) (j : Nat) : Prop := ∀ t, t < j → ∀ k, word[t]? = some k → 0 ≤ k ∧ k ≤ n - 2
theorem WordUp.zero (n : Int) (word : List Int) : WordUp n word 0 := fun t ht => absurd ht (Nat.not_lt_zero _)
theorem WordUp.step {n : Int} {word : List Int} {j : Nat} (h : WordUp n word j) {k : Int} (hk : word[j]? = some k) (h1 : 0 ≤ k) (h2 : k ≤ n - 2) : WordUp n word (j + 1) := by
  intro t ht y hy
  by_cases e : t = j
  · subst e
    rw [hk] at hy
    obtain rfl := Option.some.inj hy
    exact ⟨h1, h2⟩
  · exact h t (by omega) y hy
theorem WordUp.done {n : Int} {word : List Int} (h : WordUp n word word.length) : inWord n word = true := by
  simp only [inWord, decide_eq_true_eq]
  intro k hk
  obtain ⟨t, ht, e⟩ := List.mem_iff_getElem.1 hk
  exact h t ht k (by rw [List.getElem?_eq_getElem ht, e])

end Go.Proofs.Ytcpekiangjpppaa
