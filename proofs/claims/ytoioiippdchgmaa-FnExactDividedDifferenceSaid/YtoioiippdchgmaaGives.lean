/-
  What a call gives; small facts that all contracts use.
-/
import Derived.Test.YtoioiippdchgmaaPush
namespace Go.Proofs.Ytoioiippdchgmaa
open Go.RowKit
set_option linter.unusedVariables false

/-- The call returns a list of ints in memory of its own. -/
def GivesI (w : World) (l : List Int) (e : Ending) (w' : World) : Prop := ∃ r, e = .returned r ∧ OwnI w.heap.size w' r l ∧ Below w.heap.size w w'
def GivesB (w : World) (b : Bool) (e : Ending) (w' : World) : Prop := e = .returned (.bool b) ∧ Below w.heap.size w w'
def GivesN (w : World) (n : Int) (e : Ending) (w' : World) : Prop := e = .returned (.int .i64 n) ∧ Below w.heap.size w w'

theorem OwnI.cellAt {B g n cap : Nat} {w : World} {l : List Int} (h : OwnI B w (.slice (some ⟨g, 0, none⟩) n cap) l) (j : Nat) (hj : j < l.length) :
    w.cell? ⟨g, j, none⟩ = some (.int .i64 (l.getD j 0)) := by
  have := World.ownsRow.cells h.1 (g := g) rfl j (.int .i64 (l.getD j 0)) (by
      rw [List.getElem?_map, List.getD_eq_getElem?_getD, List.getElem?_eq_getElem hj]; rfl)
  rw [Addr.add_lit, Nat.zero_add] at this
  exact this

theorem OwnI.eqLen {B n cap : Nat} {a : Option Addr} {w : World} {l : List Int} (h : OwnI B w (.slice a n cap) l) : n = l.length := by
  rcases h.1.2 with ⟨h, h0⟩ | ⟨g', cap', cur, h, _⟩
  · simp at h; omega
  · simp at h; omega

theorem OwnI.free {B g n cap : Nat} {w : World} {l : List Int} (h : OwnI B w (.slice (some ⟨g, 0, none⟩) n cap) l) (j : Nat) : w.frozen? ⟨g, j, none⟩ = false := by
  have e := h.eqLen
  subst e
  exact h.1.frozenAt j

theorem OwnI.store {B g n cap : Nat} {w : World} {l : List Int} (h : OwnI B w (.slice (some ⟨g, 0, none⟩) n cap) l) (j : Nat) (x : Int) :
    OwnI B (w.setCell ⟨g, j, none⟩ (.int .i64 x)) (.slice (some ⟨g, 0, none⟩) n cap) (l.set j x) ∧ w.grownBy (w.setCell ⟨g, j, none⟩ (.int .i64 x)) (some g) := by
  have e := h.eqLen
  subst e
  have := h.1.stored j (.int .i64 x)
  refine ⟨⟨?_, by simpa using h.2⟩, this.2⟩
  rw [List.length_set, List.map_set]
  exact this.1

/-- As far as j the list cur is l. -/
def Upto (cur l : List Int) (j : Nat) : Prop := cur.length = l.length ∧ ∀ t, t < j → cur[t]? = l[t]?

theorem Upto.step {cur l : List Int} {j : Nat} (h : Upto cur l j) {x : Int} (hx : x = l.getD j 0) (hj : j < l.length) : Upto (cur.set j x) l (j + 1) := by
  refine ⟨by simpa using h.1, fun t ht => ?_⟩
  rw [List.getElem?_set]
  by_cases e : j = t
  · subst e
    have hj' : j < cur.length := by rw [h.1]; exact hj
    simp [hj', hx, List.getD_eq_getElem?_getD, List.getElem?_eq_getElem hj]
  · rw [if_neg e]; exact h.2 t (by omega)

theorem Upto.done {cur l : List Int} (h : Upto cur l l.length) : cur = l := by
  apply List.ext_getElem?
  intro t
  by_cases ht : t < l.length
  · exact h.2 t ht
  · rw [List.getElem?_eq_none (by rw [h.1]; omega), List.getElem?_eq_none (by omega)]

theorem list_ne_of_getD {a b : List Int} {j : Nat} {x y : Int} (hx : x = a.getD j 0) (hy : y = b.getD j 0) (h : x ≠ y) : a ≠ b := fun e => h (by rw [hx, hy, e])

theorem Upto.next {a b : List Int} {j : Nat} (h : ∀ t, t < j → a[t]? = b[t]?) {x y : Int} (hx : x = a.getD j 0) (hy : y = b.getD j 0) (e : x = y) (ha : j < a.length) (hb : j < b.length) :
    ∀ t, t < j + 1 → a[t]? = b[t]? := by
  intro t ht
  by_cases h' : t < j
  · exact h t h'
  · obtain rfl : t = j := by omega
    rw [List.getElem?_eq_getElem ha, List.getElem?_eq_getElem hb]
    rw [List.getD_eq_getElem?_getD, List.getElem?_eq_getElem ha] at hx
    rw [List.getD_eq_getElem?_getD, List.getElem?_eq_getElem hb] at hy
    simp at hx hy
    rw [← hx, ← hy, e]

/-- As far as j the two are the same. -/
def Same (a b : List Int) (j : Nat) : Prop := ∀ t, t < j → a[t]? = b[t]?

theorem ret_bool {a b : Bool} (h : a = b) : Ending.returned (.bool a) = .returned (.bool b) := by rw [h]
theorem ret_int {a b : Int} (h : a = b) : Ending.returned (.int .i64 a) = .returned (.int .i64 b) := by rw [h]

/-- A list of ints and a bool. -/
def GivesIB (w : World) (l : List Int) (b : Bool) (e : Ending) (w' : World) : Prop := ∃ r, e = .returned (.tuple #[r, .bool b]) ∧ OwnI w.heap.size w' r l ∧ Below w.heap.size w w'

def GivesS (w : World) (s : ByteArray) (e : Ending) (w' : World) : Prop := e = .returned (.string s) ∧ Below w.heap.size w w'
theorem ret_str {a b : ByteArray} (h : a = b) : Ending.returned (.string a) = .returned (.string b) := by rw [h]

end Go.Proofs.Ytoioiippdchgmaa
