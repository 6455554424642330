/-
  l2Plus: terms as numbers, and k times other ones.
-/
import Derived.Test.YtoioiippdchgmaaMonK
import Derived.Test.YtoioiippdchgmaaGath
import Derived.Test.YtoioiippdchgmaaPlus
namespace Go.Proofs.Ytoioiippdchgmaa
open Go.RowKit
set_option linter.unusedVariables false

def scaleM (k : Int) (l : MonL) : MonL := l.map (fun p => (p.1, k * p.2))
def plusM (la : MonL) (k : Int) (lb : MonL) (j : Nat) : MonL := la ++ scaleM k (lb.take j)
theorem plusM_zero (la : MonL) (k : Int) (lb : MonL) : plusM la k lb 0 = la := by simp [plusM, scaleM]
theorem plusM_step {la lb : MonL} {k x d : Int} {j : Nat} (h : lb[j]? = some (x, d)) : plusM la k lb j ++ [(x, k * d)] = plusM la k lb (j + 1) := by
  unfold plusM scaleM
  rw [List.take_add_one, h, List.map_append, List.append_assoc]; rfl
theorem plusM_all (la : MonL) (k : Int) (lb : MonL) : plusM la k lb lb.length = la ++ scaleM k lb := by rw [plusM, List.take_length]
theorem plusM_len (la : MonL) (k : Int) (lb : MonL) (j : Nat) : (plusM la k lb j).length ≤ la.length + lb.length := by
  simp only [plusM, scaleM, List.length_append, List.length_map, List.length_take]; omega
def SmallM (l : MonL) : Prop := ∀ p ∈ l, -1000000 ≤ p.2 ∧ p.2 ≤ 1000000
theorem SmallM.coef {l : MonL} (h : SmallM l) : CoefM l := fun p hp => by have := h p hp; omega
theorem plusM_coef {la lb : MonL} {k : Int} (ha : SmallM la) (hb : SmallM lb) (hk : -1000 ≤ k ∧ k ≤ 1000) (j : Nat) : CoefM (plusM la k lb j) := fun p hp => by
  rcases List.mem_append.1 hp with hp | hp
  · exact ha.coef p hp
  · obtain ⟨q, hq, rfl⟩ := List.mem_map.1 hp
    have := mul_kc hk (hb q (List.mem_of_mem_take hq))
    show -1000000000000 ≤ k * q.2 ∧ k * q.2 ≤ 1000000000000
    omega

set_option maxHeartbeats 1600000 in
theorem l2Plus_c (B1 B2 : Nat) (va vb : Value) (la lb : MonL) (k : Int) (w : World) (ha : OwnM B1 w va la) (hb : OwnM B2 w vb lb) (hA : SmallM la) (hBm : SmallM lb) (hk : -1000 ≤ k ∧ k ≤ 1000)
    (hla : la.length ≤ 600) (hlb : lb.length ≤ 600) : Calls Try.prog 24 #[va, .int .i64 k, vb] w (GivesM w (gatM (la ++ scaleM k lb))) := by
  obtain ⟨n, hn⟩ : ∃ n, lb.length = n := ⟨_, rfl⟩
  obtain ⟨bo, bc, hbv, hbc, hbm, hbne⟩ := hb.shape
  have HN := Lib.hid hn
  have HPC := Lib.hid (plusM_coef hA hBm hk n)
  have HBM := Lib.hid hBm
  have HLA := Lib.hid hla
  have HK := Lib.hid hk
  rw [hn] at hbv hlb
  subst hbv
  have hL : OwnM w.heap.size (w.alloc (.cells #[] 66)) (.slice (some ⟨w.heap.size, 0, none⟩) 0 0) [] := OwnM.lit _
  have hv1 : OwnM B1 (w.alloc (.cells #[] 66)) va la := ha.kept ((Below.refl _ _).alloc (Nat.le_refl _) _)
  have hlen : ([] : MonL).length + la.length ≤ 1099511627776 := by simp; omega
  obtain ⟨ao, ac, hav, _⟩ := ha.shape
  obtain ⟨m, hm⟩ : ∃ m, la.length = m := ⟨_, rfl⟩
  rw [hm] at hav
  subst hav
  clear hn ha hA hBm hla hm hbc hbm hk
  go_enter Try.func24, Try.ntmps24
  go_wp2_with (at_builtin; refine wpList_apM _ rfl _ _ rfl hL hv1 rfl rfl hlen (by simp) ?_)
  intro v1 w1 h1 b1
  have B1' : Below w.heap.size w w1 := ((Below.refl _ _).alloc (Nat.le_refl _) _).trans b1
  have h1' : OwnM w.heap.size w1 v1 (plusM la k lb 0) := by rw [plusM_zero]; exact h1
  clear hL hv1 hlen h1 b1
  go_wp2_with fail
  go_loopw [7, 8] (fun ov iv wr => ∃ (j : Nat), j ≤ n ∧ iv = .int .i64 j ∧ OwnM w.heap.size wr ov (plusM la k lb j) ∧ Below w.heap.size w wr) (fun _ iv _ => n - (intOf iv).toNat)
  case atStart => exact ⟨0, Nat.zero_le _, rfl, h1', B1'⟩
  case round =>
    obtain ⟨j, hj, rfl, hO, hB⟩ := hrel
    clear h1' B1'
    by_cases hlt : j < n
    · obtain ⟨g, rfl⟩ := hbne (fun e => by have := HN.out; rw [e] at this; simp at this; omega)
      obtain ⟨y, hy⟩ : ∃ y, lb[j]? = some y := ⟨_, List.getElem?_eq_getElem (by rw [HN.out]; exact hlt)⟩
      obtain ⟨x, d⟩ := y
      have h1 := hb.cell0 hy
      have h2 := hb.cell1 hy
      have k1 := (hB.cell (World.block_lt_of_cell? _ _ h1)).trans h1
      have k2 := (hB.cell (World.block_lt_of_cell? _ _ h2)).trans h2
      simp only [mf0, mf1] at k1 k2
      have hne := hO.ne g (World.block_lt_of_cell? _ _ h1)
      have HT := Lib.hid (plusM_step (la := la) (k := k) hy)
      have hmb := mul_kc HK.out (HBM.out _ (List.mem_of_getElem? hy))
      simp only at hmb
      have hwm : IntKind.i64.wrap (k * d) = k * d := IntWalk.i64_in _ (by omega)
      have hj0 : (0 : Int) ≤ (j : Int) := Int.natCast_nonneg _
      have hj1 : (j : Int) < (n : Int) := by omega
      have hOD := hO.kept (below_drewT (Below.refl _ _))
      have hsz := hB.size
      have HLEN := Lib.hid (show (plusM la k lb j).length + 1 ≤ 1099511627776 by have := plusM_len la k lb j; have := HN.out; have := HLA.out; omega)
      clear h1 h2 hy hmb hbne
      go_wp2_with fail
      go_region_held3 (fun w' => Below w.heap.size w w' ∧ w'.cell? ⟨g, j * 2, none⟩ = some (.int .i64 x) ∧ w'.cell? ⟨g, j * 2 + 1, none⟩ = some (.int .i64 d))
        (first
          | exact kb2_drew hB k1 k2
          | exact kb2_push b3 hk3 (by assumption) hne hne
          | exact kb2_alloc _ (by assumption) (Nat.le_refl _)
          | assumption)
        (first
          | (refine step_pushM (by rfl) _ _ (by rfl) hOD (Below.refl _ _) hsz (by rfl) (by rfl) HLEN.out ?_; intro v3 w3 o3 b3 hk3))
      all_goals
        have FF := kb2_below (p := ⟨g, j * 2, none⟩) (q := ⟨g, j * 2 + 1, none⟩) (x := .int .i64 x) (y := .int .i64 d) (B := w.heap.size) (w := w) (W := w3) (by assumption)
        go_wp2_with fail
        go_roundw
        case rel => exact ⟨j + 1, by omega, by go_num, by rw [← HT.out]; exact o3, FF⟩
        case measure => simp [intOf]; omega
    · obtain rfl : j = n := by omega
      have HA := Lib.hid (plusM_all la k lb)
      have hN4 : (plusM la k lb j).length ≤ 400000 := by have := plusM_len la k lb j; have := HN.out; have := HLA.out; omega
      have hEQ : plusM la k lb j = la ++ scaleM k lb := by rw [← HA.out, HN.out]
      have HEQ := Lib.hid hEQ
      have hsz := hB.size
      clear hEQ
      go_wp2_with fail
      refine (l2Gather_c _ _ _ _ hO HPC.out hN4).mono ?_
      rw [HEQ.out]
      rintro e w2 ⟨r, rfl, o2, b2⟩
      go_wp2_with fail
      go_ret
      exact ⟨_, rfl, o2.mono hsz, hB.trans (b2.mono hsz)⟩

end Go.Proofs.Ytoioiippdchgmaa
