/-
  A block that is an array of seven ints.
-/
import Derived.Test.YtoioiippdchgmaaOpenM
namespace Go.Proofs.Ytoioiippdchgmaa
open Go.RowKit Go.Maps
set_option linter.unusedVariables false

def ArrW (w : World) (g : Nat) (e : List Int) : Prop := w.heap[g]? = some (.cells (arrC e).toArray 59 (0, 0))
theorem ArrW.made (w : World) (e : List Int) : ArrW (w.alloc (.cells (arrC e).toArray 59)) w.heap.size e := heap_alloc_last w _
section
variable {w w' : World} {g : Nat} {e : List Int}
theorem ArrW.lt (h : ArrW w g e) : g < w.heap.size := (Array.getElem?_eq_some_iff.1 h).1
theorem ArrW.cell (h : ArrW w g e) {i : Nat} (hi : i < e.length) : w.cell? ⟨g, i, none⟩ = some (.int .i64 (e.getD i 0)) := by
  rw [cell_of_row w g i _ _ _ h]
  simp [arrC, List.getElem?_eq_getElem hi]
theorem ArrW.free (h : ArrW w g e) (i : Nat) : w.frozen? ⟨g, i, none⟩ = false := by
  have h' : w.heap[g]? = _ := h
  simp [World.frozen?, h']
theorem ArrW.range (h : ArrW w g e) : w.rangeAt g 0 (arrC e) := by
  have := World.rangeAt_of_block h 0 (arrC e).length
  simpa using this
theorem ArrW.heap (h : ArrW w g e) (hh : w'.heap[g]? = w.heap[g]?) : ArrW w' g e := hh.trans h
theorem ArrW.drew (h : ArrW w g e) : ArrW w.drew g e := h
theorem ArrW.alloc (h : ArrW w g e) (o : Obj) : ArrW (w.alloc o) g e := ((MapKept.heap_alloc w o).2 g h.lt).trans h
theorem ArrW.grown {row : Option Nat} (h : ArrW w g e) (hg : w.grownBy w' row) (hne : some g ≠ row) : ArrW w' g e := (hg.block g h.lt hne).trans h
theorem ArrW.set (h : ArrW w g e) {i : Nat} (hi : i < e.length) (v : Int) : ArrW (w.setCell ⟨g, i, none⟩ (.int .i64 v)) g (e.set i v) := by
  have h' : w.heap[g]? = _ := h
  have hlt := h.lt
  unfold ArrW
  simp only [World.setCell, Array.getElem?_modify, h']
  simp [arrC, List.map_set]
theorem ArrW.far (h : ArrW w g e) {a : Addr} (ha : g ≠ a.block) (v : Value) : ArrW (w.setCell a v) g e := (Below.heap_setCell _ _ _ _ ha).trans h
theorem grown_setCell (w : World) (a : Addr) (v : Value) : w.grownBy (w.setCell a v) (some a.block) := ⟨rfl, rfl, rfl, by simp [World.setCell], fun i _ hi => Below.heap_setCell _ _ _ _ (fun e => hi (by rw [e]))⟩
theorem ranges_far {P : Program} {k : TypeId} {R : Value → Option (DataW Unit × List MemPlace)} {b r n cnt : Nat} {D : DataW Unit} {left : Lit → Bool} (h : w.ranges P k R b r n D left cnt) {a : Addr} (hb : b ≠ a.block) (hr : r ≠ a.block) (v : Value) : (w.setCell a v).ranges P k R b r n D left cnt :=
  h.kept (grown_setCell w a v) (by simp [hb]) (by simp [hr])
end
def addE (a b : List Int) : List Int := List.zipWith (· + ·) a b
/-- The first i are added. -/
def addTo (a b : List Int) (i : Nat) : List Int := addE (a.take i) (b.take i) ++ a.drop i
theorem addTo_len {a b : List Int} (ha : a.length = 7) (hb : b.length = 7) (i : Nat) : (addTo a b i).length = 7 := by
  simp [addTo, addE, ha, hb]; omega
theorem addTo_zero (a b : List Int) : addTo a b 0 = a := by simp [addTo, addE]
theorem addTo_all {a b : List Int} (ha : a.length = 7) (hb : b.length = 7) : addTo a b 7 = addE a b := by
  rw [addTo, List.take_of_length_le (by omega), List.take_of_length_le (by omega), List.drop_eq_nil_of_le (by omega), List.append_nil]
theorem addTo_at {a b : List Int} (ha : a.length = 7) (hb : b.length = 7) {i : Nat} (hi : i < 7) : (addTo a b i).getD i 0 = a.getD i 0 := by
  have h1 : (addE (a.take i) (b.take i)).length = i := by simp [addE, ha, hb]; omega
  rw [addTo, List.getD_eq_getElem?_getD, List.getElem?_append_right (by omega), h1, Nat.sub_self, List.getElem?_drop, Nat.add_zero, List.getD_eq_getElem?_getD]
theorem addTo_step {a b : List Int} (ha : a.length = 7) (hb : b.length = 7) {i : Nat} (hi : i < 7) : (addTo a b i).set i (a.getD i 0 + b.getD i 0) = addTo a b (i + 1) := by
  have h1 : (addE (a.take i) (b.take i)).length = i := by simp [addE, ha, hb]; omega
  have h2 : addE (a.take (i + 1)) (b.take (i + 1)) = addE (a.take i) (b.take i) ++ [a.getD i 0 + b.getD i 0] := by
    unfold addE
    rw [List.take_add_one, List.take_add_one, List.zipWith_append (by simp [ha, hb])]
    simp [List.getElem?_eq_getElem (show i < a.length by omega), List.getElem?_eq_getElem (show i < b.length by omega)]
  rw [addTo, addTo, h2, List.set_append_right i _ (by rw [h1]; exact Nat.le_refl _), h1, Nat.sub_self, List.drop_eq_getElem_cons (by omega : i < a.length), List.set_cons_zero, List.append_assoc]
  rfl

end Go.Proofs.Ytoioiippdchgmaa
