/-
  Contracts: l1Swap, exchanged.
-/
import Derived.Test.YtfepepakellbbaaExt
namespace Go.Proofs.Ytfepepakellbbaa
open Go.RowKit
set_option linter.unusedVariables false

/-- The numbers at two places are exchanged. -/
def swapL (l : List Int) (i j : Nat) : List Int := (l.set i (l.getD j 0)).set j (l.getD i 0)
theorem swapL_len (l : List Int) (i j : Nat) : (swapL l i j).length = l.length := by simp [swapL]

theorem OwnI.row {B : Nat} {w : World} {v : Value} {l : List Int} (h : OwnI B w v l) (hne : 0 < l.length) : ∃ g cap, v = .slice (some ⟨g, 0, none⟩) l.length cap ∧ B ≤ g ∧ g < w.heap.size ∧ l.length ≤ cap ∧ cap ≤ maxLen := by
  rcases h.1.2 with ⟨rfl, h0⟩ | ⟨g, cap, cur, rfl, hb, hg, hnc, hcm, _⟩
  · omega
  · exact ⟨g, cap, rfl, hb, (Array.getElem?_eq_some_iff.1 hg).1, hnc, hcm⟩

set_option maxHeartbeats 400000 in
theorem l1Swap_c (v : Value) (l : List Int) (i j : Nat) (w : World) (hv : IntsV w v l) (hi : i < l.length) (hj : j < l.length) :
    Calls Try.prog 70 #[v, .int .i64 (i : Int), .int .i64 (j : Int)] w (GivesI w (swapL l i j)) := by
  have hv0 := hv
  obtain ⟨n, ao, b, off, c, rfl, HL, hnc, hcm, ha, hc, hn⟩ := hv.open
  have hin : i < n := by rw [HL.out]; exact hi
  have hjn : j < n := by rw [HL.out]; exact hj
  obtain rfl := ha (by omega)
  have HC := Lib.hid hc
  have Hi := Lib.hid hi
  have Hj := Lib.hid hj
  clear hcm ha hc hi hj
  go_enter Try.func70, Try.ntmps70
  go_wp2_with fail
  refine (l1Ints_c _ _ _ hv0).mono ?_
  rintro e w1 ⟨r, rfl, o1, b1⟩
  obtain ⟨g, cap, rfl, hgB, hgw, hgc, _⟩ := o1.row (by have := Hi.out; omega)
  rw [← HL.out] at o1 hgc ⊢
  obtain ⟨x, hx⟩ : ∃ x, x = l.getD i 0 := ⟨_, rfl⟩
  obtain ⟨y, hy⟩ : ∃ y, y = l.getD j 0 := ⟨_, rfl⟩
  have hxi : w1.cell? ⟨b, off + i, none⟩ = some (.int .i64 x) := by
    rw [hx, b1.cell (p := ⟨b, off + i, none⟩) (World.block_lt_of_cell? _ _ (HC.out i hin))]; exact HC.out i hin
  have hyj : w1.cell? ⟨b, off + j, none⟩ = some (.int .i64 y) := by
    rw [hy, b1.cell (p := ⟨b, off + j, none⟩) (World.block_lt_of_cell? _ _ (HC.out j hjn))]; exact HC.out j hjn
  have hbw : b < w.heap.size := World.block_lt_of_cell? _ _ (HC.out i hin)
  have hsi := o1.cellAt i Hi.out
  have hfi := o1.free i
  have o2 := (o1.store i y).1
  have hb2 := b1.setCell (p := ⟨g, i, none⟩) hgB (.int .i64 y)
  have hsj := o2.cellAt j (by simpa using Hj.out)
  have hfj := o2.free j
  have o3 := (o2.store j x).1
  have hb3 := hb2.setCell (p := ⟨g, j, none⟩) hgB (.int .i64 x)
  have HR : Hid ((l.set i y).set j x = swapL l i j) := Lib.hid (by rw [swapL, ← hx, ← hy])
  have hxi2 : (w1.setCell ⟨g, i, none⟩ (.int .i64 y)).cell? ⟨b, off + i, none⟩ = some (.int .i64 x) := by
    rw [World.cell?_setCell_other _ _ _ _ (fun e => by have := congrArg Addr.block e; simp at this; omega)]; exact hxi
  obtain ⟨z1, hz1⟩ : ∃ z, z = l.getD i 0 := ⟨_, rfl⟩
  obtain ⟨z2, hz2⟩ : ∃ z, z = (l.set i y).getD j 0 := ⟨_, rfl⟩
  rw [← hz1] at hsi
  rw [← hz2] at hsj
  rw [HR.out] at o3
  clear hx hy hz1 hz2 o1 o2 hb2
  go_wp2_with fail
  go_ret
  exact ⟨_, rfl, o3, hb3⟩

set_option maxHeartbeats 800000 in
theorem exchanged_c (v : Value) (l : List Int) (i j : Nat) (w : World) (hv : IntsV w v l) (hi : i < l.length) (hj : j < l.length) (hij : i ≠ j) :
    Calls Try.prog 47 #[v, .int .i64 (i : Int), .int .i64 (j : Int)] w (GivesI w (swapL l i j)) := by
  have hv0 := hv
  obtain ⟨n, ao, b, off, c, rfl, HL, hnc, hcm, ha, hc, hn⟩ := hv.open
  have hin : i < n := by rw [HL.out]; exact hi
  have hjn : j < n := by rw [HL.out]; exact hj
  have Hi := Lib.hid hi
  have Hj := Lib.hid hj
  clear hcm ha hc hi hj
  go_enter Try.func47, Try.ntmps47
  go_wp2_with fail
  refine (cloneI_c _ _ _ hv0).mono ?_
  rintro e w1 ⟨r, rfl, o1, b1⟩
  obtain ⟨g, cap, rfl, hgB, hgw, hgc, _⟩ := o1.row (by have := Hi.out; omega)
  rw [← HL.out] at o1 hgc ⊢
  obtain ⟨x, hx⟩ : ∃ x, x = l.getD i 0 := ⟨_, rfl⟩
  obtain ⟨y, hy⟩ : ∃ y, y = l.getD j 0 := ⟨_, rfl⟩
  have hsi := o1.cellAt i Hi.out
  have hsj := o1.cellAt j Hj.out
  have hfi := o1.free i
  have hfj := o1.free j
  have o3 := ((o1.store i y).1.store j x).1
  have hb3 := (b1.setCell (p := ⟨g, i, none⟩) hgB (.int .i64 y)).setCell (p := ⟨g, j, none⟩) hgB (.int .i64 x)
  rw [show (l.set i y).set j x = swapL l i j by rw [swapL, ← hx, ← hy]] at o3
  rw [← hx] at hsi
  rw [← hy] at hsj
  have h1 : (i : Int) < (n : Int) := by omega
  have h2 : (j : Int) < (n : Int) := by omega
  clear hx hy o1
  go_wp2_with fail
  go_region
  all_goals
    have o4 := o3.drew
    have hb4 := hb3.drew
    go_wp2_with fail
    go_ret
    exact ⟨_, rfl, o4, hb4⟩

end Go.Proofs.Ytfepepakellbbaa
