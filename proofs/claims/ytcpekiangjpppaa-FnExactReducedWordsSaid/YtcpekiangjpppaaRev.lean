/-
  Contracts: slices.Reverse at []int, the program's LongestPerm.
-/
import Derived.Test.YtcpekiangjpppaaIdent
namespace Go.Proofs.Ytcpekiangjpppaa
open Go.RowKit
set_option linter.unusedVariables false

/-- n - 1, n - 2, .. : j numbers. -/
def revUp (n j : Nat) : List Int := (List.range j).map (fun t : Nat => (n : Int) - 1 - (t : Int))
theorem revUp_len (n j : Nat) : (revUp n j).length = j := by simp [revUp]
theorem revUp_succ (n j : Nat) : revUp n (j + 1) = revUp n j ++ [(n : Int) - 1 - (j : Int)] := by simp [revUp, List.range_succ]
theorem revUp_all (n : Nat) : revUp n n = (idL n).reverse := by
  apply List.ext_getElem
  · simp [revUp, idL]
  · intro i h1 h2
    simp [revUp, idL] at h1 ⊢
    omega
theorem longL_in {m : Nat} (h : inB (m : Int) 1 7 = true) : longL (m : Int) = revUp m m := by rw [longL, identL_in h, revUp_all]
theorem longL_out {n : Int} (h : inB n 1 7 = false) : longL n = [] := by rw [longL, identL_out h]; rfl

/-- a numbers at each end have been exchanged. -/
def Rev (cur l : List Int) (a : Nat) : Prop := cur.length = l.length ∧ ∀ t, t < l.length → cur[t]? = if t < a ∨ l.length ≤ t + a then l[l.length - 1 - t]? else l[t]?

theorem Rev.zero (l : List Int) : Rev l l 0 := ⟨rfl, fun t ht => by rw [if_neg (by omega)]⟩

theorem Rev.step {cur l : List Int} {a b : Nat} (h : Rev cur l a) (hab : a + b + 1 = l.length) (hlt : a < b) :
    Rev ((cur.set a (cur.getD b 0)).set b (cur.getD a 0)) l (a + 1) := by
  refine ⟨by simpa using h.1, fun t ht => ?_⟩
  have hl := h.1
  have ha := h.2 a (by omega)
  have hb := h.2 b (by omega)
  rw [if_neg (by omega)] at ha hb
  have ga : cur.getD a 0 = l.getD a 0 := by rw [List.getD_eq_getElem?_getD, ha, ← List.getD_eq_getElem?_getD]
  have gb : cur.getD b 0 = l.getD b 0 := by rw [List.getD_eq_getElem?_getD, hb, ← List.getD_eq_getElem?_getD]
  rw [ga, gb, List.getElem?_set, List.getElem?_set, List.length_set]
  by_cases e1 : b = t
  · subst e1
    rw [if_pos rfl, if_pos (by omega), if_pos (by omega)]
    rw [show l.length - 1 - b = a by omega, List.getElem?_eq_getElem (by omega)]
    simp [List.getD_eq_getElem?_getD, show a < l.length by omega]
  · rw [if_neg e1]
    by_cases e2 : a = t
    · subst e2
      rw [if_pos rfl, if_pos (by omega), if_pos (by omega)]
      rw [show l.length - 1 - a = b by omega, List.getElem?_eq_getElem (by omega)]
      simp [List.getD_eq_getElem?_getD, show b < l.length by omega]
    · rw [if_neg e2, h.2 t ht]
      by_cases c : t < a ∨ l.length ≤ t + a
      · rw [if_pos c, if_pos (by omega)]
      · rw [if_neg c, if_neg (by omega)]

theorem Rev.done {cur l : List Int} {a b : Nat} (h : Rev cur l a) (hab : a + b + 1 = l.length) (hlt : ¬ a < b) : cur = l.reverse := by
  apply List.ext_getElem?
  intro t
  by_cases ht : t < l.length
  · rw [h.2 t ht, List.getElem?_reverse ht]
    by_cases c : t < a ∨ l.length ≤ t + a
    · rw [if_pos c]
    · rw [if_neg c]
      congr 1
      omega
  · rw [List.getElem?_eq_none (by rw [h.1]; omega), List.getElem?_eq_none (by rw [List.length_reverse]; omega)]

def ReversedI (lo hi : Nat) (w : World) (v : Value) (l : List Int) (e : Ending) (w' : World) : Prop :=
  e = .returned (.tuple #[]) ∧ AtI lo hi w' v l.reverse ∧ Only lo hi w w'

end Go.Proofs.Ytcpekiangjpppaa
