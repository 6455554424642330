/-
  Rows of cells: what the law's own functions do with them.
-/
import Derived.Test.YtfepepakellbbaaTwo
import Derived.Test.YtfepepakellbbaaGives
import Derived.WalkKit
import Derived.Deep.RegionHeld3
namespace Go.Proofs.Ytfepepakellbbaa
open Go.RowKit
set_option linter.unusedVariables false

theorem Try.infoC : (Try.prog.info? 43).map (fun i => (i.zero, i.size, i.bytes)) = some (some (.agg #[.int .i64 0, .int .i64 0]), 2, 16) := by kernel_rfl

def cf0 (x : Int × Int) : Value := .int .i64 x.1
def cf1 (x : Int × Int) : Value := .int .i64 x.2
def cLen (l : List (Int × Int)) : Nat := 2 * l.length
def OwnC (B : Nat) (w : World) (v : Value) (l : List (Int × Int)) : Prop := OwnT 43 cf0 cf1 B w v l ∧ cLen l ≤ 1099511627776
def CellsV (w : World) (v : Value) (l : List (Int × Int)) : Prop := ∃ B, OwnC B w v l
def AtC (lo hi : Nat) (w : World) (v : Value) (l : List (Int × Int)) : Prop := OwnC lo w v l ∧ (∀ k, v.ownBlock = some k → k < hi) ∧ hi ≤ w.heap.size
def GivesC (w : World) (l : List (Int × Int)) (e : Ending) (w' : World) : Prop := ∃ r, e = .returned r ∧ OwnC w.heap.size w' r l ∧ Below w.heap.size w w'
theorem OwnC.cells {B : Nat} {w : World} {v : Value} {l : List (Int × Int)} (h : OwnC B w v l) : CellsV w v l := ⟨B, h⟩
theorem OwnC.mono {B B' : Nat} {w : World} {v : Value} {l : List (Int × Int)} (h : OwnC B w v l) (hB : B' ≤ B) : OwnC B' w v l := ⟨h.1.mono hB, h.2⟩
theorem OwnC.kept {B : Nat} {w w' : World} {v : Value} {l : List (Int × Int)} (h : OwnC B w v l) (hb : Below w.heap.size w w') : OwnC B w' v l := ⟨h.1.kept hb, h.2⟩
theorem OwnC.nil (B : Nat) (w : World) : OwnC B w (.slice none 0 0) [] := ⟨OwnT.nil _ _ _ _ _, Nat.zero_le _⟩
theorem OwnC.at {B : Nat} {w : World} {v : Value} {l : List (Int × Int)} (h : OwnC B w v l) : AtC B w.heap.size w v l := ⟨h, fun k hk => (h.1.block k hk).2, Nat.le_refl _⟩
theorem CellsV.kept {w w' : World} {v : Value} {l : List (Int × Int)} (h : CellsV w v l) (hb : Below w.heap.size w w') : CellsV w' v l := by obtain ⟨B, h⟩ := h; exact ⟨B, h.kept hb⟩
theorem AtC.cells {lo hi : Nat} {w : World} {v : Value} {l : List (Int × Int)} (h : AtC lo hi w v l) : CellsV w v l := ⟨lo, h.1⟩
theorem AtC.len {lo hi : Nat} {w : World} {v : Value} {l : List (Int × Int)} (h : AtC lo hi w v l) : cLen l ≤ 1099511627776 := h.1.2
theorem AtC.only {lo hi lo' hi' : Nat} {w w' : World} {v : Value} {l : List (Int × Int)} (h : AtC lo hi w v l) (hb : Only lo' hi' w w') (hd : hi ≤ lo' ∨ hi' ≤ lo) : AtC lo hi w' v l :=
  ⟨⟨h.1.1.only hb (fun k hk => by have := h.2.1 k hk; have := (h.1.1.block k hk).1; omega), h.1.2⟩, h.2.1, Nat.le_trans h.2.2 hb.size⟩
theorem AtC.kept {lo hi : Nat} {w w' : World} {v : Value} {l : List (Int × Int)} (h : AtC lo hi w v l) (hb : Below w.heap.size w w') : AtC lo hi w' v l :=
  ⟨h.1.kept hb, h.2.1, Nat.le_trans h.2.2 hb.size⟩
/-- A row of cells, laid open. -/
theorem CellsV.open {w : World} {v : Value} {l : List (Int × Int)} (h : CellsV w v l) : ∃ (n : Nat) (ao : Option Addr) (b c : Nat), v = .slice ao n c ∧ Hid (n = l.length) ∧ n ≤ c ∧ c ≤ maxLen ∧
    (0 < n → ao = some ⟨b, 0, none⟩) ∧ (∀ j x, l[j]? = some x → w.cell? ⟨b, j * 2, none⟩ = some (.int .i64 x.1) ∧ w.cell? ⟨b, j * 2 + 1, none⟩ = some (.int .i64 x.2)) ∧ n ≤ 1099511627776 := by
  obtain ⟨B, h, h2⟩ := h
  obtain ⟨ao, c, rfl, h3, h4, h5⟩ := h.shape
  cases l with
  | nil => exact ⟨0, ao, 0, c, rfl, Lib.hid rfl, h3, h4, fun h => absurd h (Nat.lt_irrefl 0), fun j x hx => by simp at hx, Nat.zero_le _⟩
  | cons y l =>
    obtain ⟨g, rfl⟩ := h5 (by simp)
    exact ⟨_, _, g, c, rfl, Lib.hid rfl, h3, h4, fun _ => rfl, fun j x hx => ⟨h.cell0 hx, h.cell1 hx⟩, h.2⟩

theorem below_drew {B : Nat} {w W : World} (h : Below B w W) : Below B w W.drew := ⟨h.os, h.tape, h.output, h.size, h.block⟩
def HeldC (w W : World) : Prop := Below w.heap.size w W

/-- The marks: two to a cell. -/
def MarksC (k : Int) (n : Nat) : List (Int × Int) := (List.range (n / 2)).map (fun t : Nat => (k + 2 * (t : Int), k + 2 * (t : Int) + 1))
theorem MarksC.len (k : Int) (n : Nat) : (MarksC k n).length = n / 2 := by simp [MarksC]
theorem MarksC.at {k : Int} {n j : Nat} (h : j < n / 2) : (MarksC k n)[j]? = some (k + 2 * (j : Int), k + 2 * (j : Int) + 1) := by
  simp [MarksC, h]
def MarkedC (lo hi : Nat) (w : World) (v : Value) (n : Nat) (k : Int) (e : Ending) (w' : World) : Prop :=
  e = .returned (.int .i64 (k + 2 * ((n / 2 : Nat) : Int))) ∧ AtC lo hi w' v (MarksC k n) ∧ Only lo hi w w'
/-- As far as j the list cur is marked. -/
def MarkUpC (cur : List (Int × Int)) (k : Int) (n j : Nat) : Prop := cur.length = n / 2 ∧ ∀ t, t < j → cur[t]? = some (k + 2 * (t : Int), k + 2 * (t : Int) + 1)
theorem MarkUpC.step {cur : List (Int × Int)} {k : Int} {n j : Nat} (h : MarkUpC cur k n j) (hj : j < n / 2) (y z : Int × Int) :
    MarkUpC ((cur.set j y).set j (k + 2 * (j : Int), k + 2 * (j : Int) + 1)) k n (j + 1) := by
  refine ⟨by simpa using h.1, fun t ht => ?_⟩
  by_cases e : j = t
  · subst e
    rw [List.getElem?_set_self (by rw [List.length_set, h.1]; exact hj)]
  · rw [List.getElem?_set_ne e, List.getElem?_set_ne e]; exact h.2 t (by omega)
theorem MarkUpC.done {cur : List (Int × Int)} {k : Int} {n : Nat} (h : MarkUpC cur k n (n / 2)) : cur = MarksC k n := by
  apply List.ext_getElem?
  intro t
  by_cases ht : t < n / 2
  · rw [h.2 t ht, MarksC.at ht]
  · rw [List.getElem?_eq_none (by rw [h.1]; omega), List.getElem?_eq_none (by rw [MarksC.len]; omega)]

end Go.Proofs.Ytfepepakellbbaa
