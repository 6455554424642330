/-
  Contracts: l1Play, WordPerm, DemazurePerm.
-/
import Derived.Test.YtcpekiangjpppaaWord
namespace Go.Proofs.Ytcpekiangjpppaa
open Go.RowKit
set_option linter.unusedVariables false

/-- The first j swaps of a word, all of them or those that make longer. -/
def playUp (all : Bool) (word : List Int) (n : Nat) : Nat → List Int
  | 0 => idL n
  | j + 1 =>
    if all = true ∨ (playUp all word n j).getD (word.getD j 0).toNat 0 < (playUp all word n j).getD ((word.getD j 0).toNat + 1) 0
    then swapL (playUp all word n j) (word.getD j 0).toNat ((word.getD j 0).toNat + 1) else playUp all word n j
theorem playUp_len (all : Bool) (word : List Int) (n j : Nat) : (playUp all word n j).length = n := by
  induction j with
  | zero => exact idL_len n
  | succ j ih =>
    simp only [playUp]
    split
    · rw [swapL_len, ih]
    · exact ih
theorem playUp_yes {all : Bool} {word : List Int} {n j k : Nat} (hk : word[j]? = some (k : Int)) (h : all = true ∨ (playUp all word n j).getD k 0 < (playUp all word n j).getD (k + 1) 0) :
    playUp all word n (j + 1) = swapL (playUp all word n j) k (k + 1) := by
  have e : (word.getD j 0).toNat = k := by rw [List.getD_eq_getElem?_getD, hk]; simp
  simp only [playUp, e]
  rw [if_pos h]
theorem playUp_no {all : Bool} {word : List Int} {n j k : Nat} (hk : word[j]? = some (k : Int)) (h : ¬ (all = true ∨ (playUp all word n j).getD k 0 < (playUp all word n j).getD (k + 1) 0)) :
    playUp all word n (j + 1) = playUp all word n j := by
  have e : (word.getD j 0).toNat = k := by rw [List.getD_eq_getElem?_getD, hk]; simp
  simp only [playUp, e]
  rw [if_neg h]
def playL (all : Bool) (n : Int) (word : List Int) : List Int := if wordB n word = true then playUp all word n.toNat word.length else []
theorem word_facts {n : Int} {word : List Int} (h : wordB n word = true) : inB n 1 7 = true ∧ word.length ≤ 60 ∧ ∀ k ∈ word, 0 ≤ k ∧ k ≤ n - 2 := by
  simp only [wordB, Bool.and_eq_true, decide_eq_true_eq, inWord] at h
  exact ⟨h.1.1, h.1.2, h.2⟩

end Go.Proofs.Ytcpekiangjpppaa
