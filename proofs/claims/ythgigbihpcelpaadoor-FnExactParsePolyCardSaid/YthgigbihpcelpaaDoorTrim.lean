/-
  Contracts: TrimPerm, EmbedPerm.
-/
import Derived.Test.YthgigbihpcelpaaDoorExt
import Derived.Test.YthgigbihpcelpaaDoorIdent
import Derived.Test.YthgigbihpcelpaaDoorPermI
namespace Go.Proofs.YthgigbihpcelpaaDoor
open Go.RowKit
set_option linter.unusedVariables false

/-- How many places are left of k: those at the end at which i stands at i fall. -/
def trimN (l : List Int) : Nat → Nat
  | 0 => 0
  | 1 => 1
  | k + 2 => if l.getD (k + 1) 0 = ((k + 1 : Nat) : Int) then trimN l (k + 1) else k + 2
def trimOf (l : List Int) : List Int := l.take (trimN l l.length)
def trimL (l : List Int) : List Int := if isPermB l = true then trimOf l else []
theorem trimN_le (l : List Int) : ∀ k, trimN l k ≤ k
  | 0 => Nat.le_refl _
  | 1 => Nat.le_refl _
  | k + 2 => by
    have := trimN_le l (k + 1)
    simp only [trimN]; split <;> omega
theorem trimN_yes {l : List Int} {k : Nat} (hk : 1 ≤ k) (h : l.getD k 0 = (k : Int)) : trimN l (k + 1) = trimN l k := by
  obtain ⟨j, rfl⟩ : ∃ j, k = j + 1 := ⟨k - 1, by omega⟩
  simp only [trimN]; rw [if_pos h]
theorem trimN_no {l : List Int} {k : Nat} (hk : 1 ≤ k) (h : l.getD k 0 ≠ (k : Int)) : trimN l (k + 1) = k + 1 := by
  obtain ⟨j, rfl⟩ : ∃ j, k = j + 1 := ⟨k - 1, by omega⟩
  simp only [trimN]; rw [if_neg h]

/-- The beginning of a slice, once more by its parts. -/
theorem IntsV.cut {w : World} {v : Value} {l : List Int} (h : IntsV w v l) {ao : Option Addr} {n c : Nat} (hv : v = .slice ao n c) (k : Nat) (hk : k ≤ l.length) : IntsV w (.slice ao k c) (l.take k) := by
  obtain ⟨ao', b, off, c', e, h1, h2, h3, h4, h5⟩ := h
  rw [hv] at e
  simp only [Value.slice.injEq] at e
  obtain ⟨rfl, rfl, rfl⟩ := e
  have e2 : (l.take k).length = k := by rw [List.length_take]; omega
  refine ⟨ao, b, off, c, by rw [e2], by omega, h2, h3, fun j hj => ?_, by omega⟩
  rw [e2] at hj
  rw [h4 j (by omega)]
  simp [List.getD_eq_getElem?_getD, hj]

/-- Places that are not moved are added, up to n. -/
def embedL (l : List Int) (n : Int) : List Int := if isPermB l = true ∧ inB n l.length 7 = true then l ++ (idL n.toNat).drop l.length else []
theorem embedL_no {l : List Int} {n : Int} (h : isPermB l = false ∨ inB n l.length 7 = false) : embedL l n = [] := by
  rw [embedL, if_neg]
  rintro ⟨h1, h2⟩
  rcases h with h | h <;> simp_all
/-- l, with places added up to m. -/
def growL (l : List Int) (m : Nat) : List Int := l ++ (idL m).drop l.length
theorem growL_start {l : List Int} : growL l l.length = l := by simp [growL, idL]
theorem growL_len {l : List Int} {m : Nat} (h : l.length ≤ m) : (growL l m).length = m := by simp [growL, idL]; omega
theorem growL_succ {l : List Int} {m : Nat} (h : l.length ≤ m) : growL l m ++ [(m : Int)] = growL l (m + 1) := by
  rw [growL, growL, idL_succ, List.drop_append_of_le_length (by rw [idL_len]; exact h), List.append_assoc]

end Go.Proofs.YthgigbihpcelpaaDoor
