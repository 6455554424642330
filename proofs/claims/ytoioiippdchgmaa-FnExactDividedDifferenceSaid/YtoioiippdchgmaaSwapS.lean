/-
  l2Swap: two exponents exchanged in all terms.
-/
import Derived.Test.YtoioiippdchgmaaMonK
import Derived.Test.YtoioiippdchgmaaGath
import Derived.Test.YtoioiippdchgmaaAtK
namespace Go.Proofs.Ytoioiippdchgmaa
open Go.RowKit
set_option linter.unusedVariables false

def swapM (i : Nat) (l : MonL) : MonL := l.map (fun p => (swapK p.1 i, p.2))
theorem swapM_step {l : MonL} {i j : Nat} {x d : Int} (h : l[j]? = some (x, d)) : swapM i (l.take j) ++ [(swapK x i, d)] = swapM i (l.take (j + 1)) := by
  unfold swapM
  rw [List.take_add_one, h, List.map_append]; rfl
theorem swapM_len (i : Nat) (l : MonL) : (swapM i l).length = l.length := by simp [swapM]
theorem swapM_coef {l : MonL} (i : Nat) (h : CoefM l) : CoefM (swapM i l) := fun p hp => by
  obtain ⟨q, hq, rfl⟩ := List.mem_map.1 hp
  exact h q hq
def KeyM (l : MonL) : Prop := ∀ p ∈ l, 0 ≤ p.1 ∧ p.1 < 562949953421312

set_option maxHeartbeats 1600000 in
theorem l2Swap_c (B : Nat) (v : Value) (l : MonL) (i : Nat) (w : World) (hv : OwnM B w v l) (hC : CoefM l) (hK : KeyM l) (hi : i ≤ 5) (hl : l.length ≤ 600) :
    Calls Try.prog 37 #[v, .int .i64 (i : Int)] w (GivesM w (gatM (swapM i l))) := by
  obtain ⟨n, hn⟩ : ∃ n, l.length = n := ⟨_, rfl⟩
  obtain ⟨bo, bc, hbv, hbc, hbm, hbne⟩ := hv.shape
  have HN := Lib.hid hn
  have HC := Lib.hid (swapM_coef i hC)
  have HK := Lib.hid hK
  rw [hn] at hbv hl
  subst hbv
  have hO0 : OwnM w.heap.size (w.alloc (.cells #[] 66)) (.slice (some ⟨w.heap.size, 0, none⟩) 0 0) (swapM i (l.take 0)) := OwnM.lit _
  have hB0 : Below w.heap.size w (w.alloc (.cells #[] 66)) := (Below.refl _ _).alloc (Nat.le_refl _) _
  clear hn hC hK hbc hbm
  go_enter Try.func37, Try.ntmps37
  go_wp2_with fail
  go_loopw [5, 6] (fun ov iv wr => ∃ (j : Nat), j ≤ n ∧ iv = .int .i64 j ∧ OwnM w.heap.size wr ov (swapM i (l.take j)) ∧ Below w.heap.size w wr) (fun _ iv _ => n - (intOf iv).toNat)
  case atStart => exact ⟨0, Nat.zero_le _, rfl, hO0, hB0⟩
  case round =>
    obtain ⟨j, hj, rfl, hO, hB⟩ := hrel
    clear hO0 hB0
    by_cases hlt : j < n
    · obtain ⟨g, rfl⟩ := hbne (fun e => by have := HN.out; rw [e] at this; simp at this; omega)
      obtain ⟨y, hy⟩ : ∃ y, l[j]? = some y := ⟨_, List.getElem?_eq_getElem (by rw [HN.out]; exact hlt)⟩
      obtain ⟨x, d⟩ := y
      have h1 := hv.cell0 hy
      have h2 := hv.cell1 hy
      have k1 := (hB.cell (World.block_lt_of_cell? _ _ h1)).trans h1
      have k2 := (hB.cell (World.block_lt_of_cell? _ _ h2)).trans h2
      simp only [mf0, mf1] at k1 k2
      have hne := hO.ne g (World.block_lt_of_cell? _ _ h1)
      have HT := Lib.hid (swapM_step (i := i) hy)
      have hkx := HK.out _ (List.mem_of_getElem? hy)
      simp only at hkx
      have HCL := Lib.hid (fun W => l2Swapped_c x i W hkx.1 hkx.2 hi)
      have hj0 : (0 : Int) ≤ (j : Int) := Int.natCast_nonneg _
      have hj1 : (j : Int) < (n : Int) := by omega
      have hOD := hO.kept (below_drewT (Below.refl _ _))
      have hsz := hB.size
      have HLEN := Lib.hid (show (swapM i (l.take j)).length + 1 ≤ 1099511627776 by rw [swapM_len, List.length_take]; omega)
      obtain ⟨z, hz⟩ : ∃ z, z = swapK x i := ⟨_, rfl⟩
      rw [← hz] at HT HCL
      clear h1 h2 hy hkx hbne hz
      go_wp2_with fail
      go_region_held3 (fun w' => Below w.heap.size w w' ∧ w'.cell? ⟨g, j * 2, none⟩ = some (.int .i64 x) ∧ w'.cell? ⟨g, j * 2 + 1, none⟩ = some (.int .i64 d))
        (first
          | exact kb2_drew hB k1 k2
          | exact kb2_push b3 hk3 (by assumption) hne hne
          | exact kb2_alloc _ (by assumption) (Nat.le_refl _)
          | assumption)
        (first
          | (refine step_pushM (by rfl) _ _ (by rfl) hOD (Below.refl _ _) hsz (by rfl) (by rfl) HLEN.out ?_; intro v3 w3 o3 b3 hk3)
          | (go_at_call 53; refine (HCL.out _).mono ?_; rintro e1 w1 ⟨rfl, rfl⟩))
      all_goals
        have FF := kb2_below (p := ⟨g, j * 2, none⟩) (q := ⟨g, j * 2 + 1, none⟩) (x := .int .i64 x) (y := .int .i64 d) (B := w.heap.size) (w := w) (W := w3) (by assumption)
        go_wp2_with fail
        go_roundw
        case rel => exact ⟨j + 1, by omega, by go_num, by rw [← HT.out]; exact o3, FF⟩
        case measure => simp [intOf]; omega
    · obtain rfl : j = n := by omega
      have hN4 : (swapM i l).length ≤ 400000 := by rw [swapM_len, HN.out]; omega
      have HEQ := Lib.hid (show swapM i (l.take j) = swapM i l by rw [← HN.out, List.take_length])
      rw [HEQ.out] at hO
      have hsz := hB.size
      go_wp2_with fail
      refine (l2Gather_c _ _ _ _ hO HC.out hN4).mono ?_
      rintro e w2 ⟨r, rfl, o2, b2⟩
      go_wp2_with fail
      go_ret
      exact ⟨_, rfl, o2.mono hsz, hB.trans (b2.mono hsz)⟩

end Go.Proofs.Ytoioiippdchgmaa
