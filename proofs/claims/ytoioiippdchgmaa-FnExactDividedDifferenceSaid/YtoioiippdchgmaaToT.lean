/-
  Arguments of terms: what the law's own functions make of them.
-/
import Derived.Test.YtoioiippdchgmaaTerm
namespace Go.Proofs.Ytoioiippdchgmaa
open Go.RowKit
set_option linter.unusedVariables false

def GivesAgg (w : World) (e : List Int) (k : Int) (en : Ending) (w' : World) : Prop := ∃ ao n c, en = .returned (.agg #[.slice ao n c, .int .i64 k]) ∧ OwnI w.heap.size w' (.slice ao n c) e ∧ Below w.heap.size w w'

set_option maxHeartbeats 800000 in
theorem toTerm_c (u : Value) (e : List Int) (k : Int) (w : World) (hu : IntsV w u e) :
    Calls Try.prog 26 #[.agg #[u, .int .i64 k]] w (GivesAgg w e k) := by
  obtain ⟨ao, n, c, rfl⟩ := hu.shape
  obtain ⟨W3, hW⟩ : ∃ W3, W3 = (((w.alloc (.cells #[.slice ao n c, .int .i64 k] 39)).alloc (.cells #[.slice none 0 0, .int .i64 0] 46)).alloc (.cells #[.slice none 0 0, .int .i64 0] 46)) := ⟨_, rfl⟩
  have HW := Lib.hid hW
  have B3 : Below w.heap.size w W3 := by rw [hW]; exact (((Below.refl _ _).alloc (Nat.le_refl _) _).alloc (by simp) _).alloc (by simp; omega) _
  have s1 : ∀ (o : Obj) (w : World), (w.alloc o).heap.size = w.heap.size + 1 := fun o w => by simp
  have c1 : W3.cell? ⟨w.heap.size, 1, none⟩ = some (.int .i64 k) := by
    rw [hW, World.cell?_alloc_past _ _ _ (by simp only [s1]; omega), World.cell?_alloc_past _ _ _ (by simp only [s1]; omega), World.cell?_alloc_at _ _ _ _ rfl]; rfl
  have c2 : W3.cell? ⟨w.heap.size + 1, 0, none⟩ = some (.slice none 0 0) := by
    rw [hW, World.cell?_alloc_past _ _ _ (by simp only [s1]; omega), World.cell?_alloc_at _ _ _ _ (by simp only [s1])]; rfl
  have c3 : W3.cell? ⟨w.heap.size + 1, 1, none⟩ = some (.int .i64 0) := by
    rw [hW, World.cell?_alloc_past _ _ _ (by simp only [s1]; omega), World.cell?_alloc_at _ _ _ _ (by simp only [s1])]; rfl
  have c4 : W3.cell? ⟨w.heap.size + 1 + 1, 0, none⟩ = some (.slice none 0 0) := by
    rw [hW, World.cell?_alloc_at _ _ _ _ (by simp only [s1])]; rfl
  have c5 : W3.cell? ⟨w.heap.size + 1 + 1, 1, none⟩ = some (.int .i64 0) := by
    rw [hW, World.cell?_alloc_at _ _ _ _ (by simp only [s1])]; rfl
  have f2 : ∀ j, W3.frozen? ⟨w.heap.size + 1, j, none⟩ = false := fun j => by
    rw [hW, World.frozen?_alloc_past _ _ _ (by simp only [s1]; omega), World.frozen?_alloc_at _ _ _ _ (by simp only [s1])]
  have f4 : ∀ j, W3.frozen? ⟨w.heap.size + 1 + 1, j, none⟩ = false := fun j => by
    rw [hW, World.frozen?_alloc_at _ _ _ _ (by simp only [s1])]
  clear s1
  clear hW
  go_enter Try.func26, Try.ntmps26
  go_wp2_with fail
  rw [← HW.out]
  refine (toIntS_c _ _ _ (hu.kept B3)).mono ?_
  rintro e1 w1 ⟨r, rfl, o, b⟩
  have L2 : w.heap.size + 1 < W3.heap.size := World.block_lt_of_cell? _ _ c2
  have L4 : w.heap.size + 1 + 1 < W3.heap.size := World.block_lt_of_cell? _ _ c4
  have k1 := (b.cell (World.block_lt_of_cell? _ _ c1)).trans c1
  have k2 := (b.cell (World.block_lt_of_cell? _ _ c2)).trans c2
  have k3 := (b.cell (World.block_lt_of_cell? _ _ c3)).trans c3
  have k4 := (b.cell (World.block_lt_of_cell? _ _ c4)).trans c4
  have k5 := (b.cell (World.block_lt_of_cell? _ _ c5)).trans c5
  have g2 := fun j => (b.frozen (p := ⟨w.heap.size + 1, j, none⟩) L2).trans (f2 j)
  have g4 := fun j => (b.frozen (p := ⟨w.heap.size + 1 + 1, j, none⟩) L4).trans (f4 j)
  have F := below_step B3 b B3.size
  have oA := o.at
  obtain ⟨ro, rn, rc, rfl⟩ := o.ints.shape
  clear c1 c2 c3 c4 c5 f2 f4 o
  go_wp2_with fail
  have q1 : ((((w1.setCell ⟨w.heap.size + 1 + 1, 0, none⟩ (.slice ro rn rc)).setCell ⟨w.heap.size + 1 + 1, 1, none⟩ (.int .i64 k)).setCell ⟨w.heap.size + 1, 0, none⟩ (.slice ro rn rc)).setCell ⟨w.heap.size + 1, 1, none⟩ (.int .i64 k)).cell? ⟨w.heap.size + 1, 1, none⟩ = some (.int .i64 k) := by
    refine World.cell?_setCell_same' _ _ _ ?_
    rw [World.cell?_setCell_other _ _ _ _ (by simp), World.cell?_setCell_other _ _ _ _ (by simp), World.cell?_setCell_other _ _ _ _ (by simp), k3]
    rfl
  have q0 : ((((w1.setCell ⟨w.heap.size + 1 + 1, 0, none⟩ (.slice ro rn rc)).setCell ⟨w.heap.size + 1 + 1, 1, none⟩ (.int .i64 k)).setCell ⟨w.heap.size + 1, 0, none⟩ (.slice ro rn rc)).setCell ⟨w.heap.size + 1, 1, none⟩ (.int .i64 k)).cell? ⟨w.heap.size + 1, 0, none⟩ = some (.slice ro rn rc) := by
    rw [World.cell?_setCell_other _ _ _ _ (by simp)]
    refine World.cell?_setCell_same' _ _ _ ?_
    rw [World.cell?_setCell_other _ _ _ _ (by simp), World.cell?_setCell_other _ _ _ _ (by simp), k2]
    rfl
  have O4 : Only w.heap.size W3.heap.size w1 ((((w1.setCell ⟨w.heap.size + 1 + 1, 0, none⟩ (.slice ro rn rc)).setCell ⟨w.heap.size + 1 + 1, 1, none⟩ (.int .i64 k)).setCell ⟨w.heap.size + 1, 0, none⟩ (.slice ro rn rc)).setCell ⟨w.heap.size + 1, 1, none⟩ (.int .i64 k)) :=
    (((Only.setCell _ ⟨by simp only; omega, by simp only; omega⟩).trans (Only.setCell _ ⟨by simp only; omega, by simp only; omega⟩)).trans (Only.setCell _ ⟨by simp only; omega, by simp only; omega⟩)).trans (Only.setCell _ ⟨by simp only; omega, by simp only; omega⟩)
  have oB := oA.only O4 (.inr (Nat.le_refl _))
  have F4 := F.trans (O4.below (Nat.le_refl _) F.size)
  clear HW
  generalize ((((w1.setCell ⟨w.heap.size + 1 + 1, 0, none⟩ (.slice ro rn rc)).setCell ⟨w.heap.size + 1 + 1, 1, none⟩ (.int .i64 k)).setCell ⟨w.heap.size + 1, 0, none⟩ (.slice ro rn rc)).setCell ⟨w.heap.size + 1, 1, none⟩ (.int .i64 k)) = WF at *
  refine bodyPost_ret (v := .agg #[.slice ro rn rc, .int .i64 k]) (by simp [results, Try.results26, go_sem, q0, q1]) rfl ?_
  exact ⟨ro, rn, rc, rfl, oB.1.mono (by omega), F4⟩

end Go.Proofs.Ytoioiippdchgmaa
