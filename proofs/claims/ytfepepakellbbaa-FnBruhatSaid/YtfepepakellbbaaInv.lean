/-
  Contracts: InversePerm.
-/
import Derived.Test.YtfepepakellbbaaPermI
namespace Go.Proofs.Ytfepepakellbbaa
open Go.RowKit
set_option linter.unusedVariables false

/-- The first j places are put where they belong. -/
def invUp (l : List Int) : Nat → List Int
  | 0 => List.replicate l.length 0
  | j + 1 => (invUp l j).set (l.getD j 0).toNat (j : Int)
theorem invUp_len (l : List Int) (j : Nat) : (invUp l j).length = l.length := by
  induction j with
  | zero => simp [invUp]
  | succ j ih => simp [invUp, ih]
def invOf (l : List Int) : List Int := invUp l l.length
def inverseL (l : List Int) : List Int := if isPermB l = true then invOf l else []
theorem invUp_step {l : List Int} {j t : Nat} (h : (t : Int) = l.getD j 0) : (invUp l j).set t (j : Int) = invUp l (j + 1) := by
  simp only [invUp]
  rw [← h]
  simp

set_option maxHeartbeats 400000 in
theorem iInverse_c (v : Value) (l : List Int) (w : World) (hv : IntsV w v l) :
    Calls Try.prog 15 #[v] w (GivesI w (inverseL l)) := by
  cases hp : isPermB l with
  | false =>
    have HR : Hid (inverseL l = []) := Lib.hid (by simp [inverseL, hp])
    go_enter Try.func15, Try.ntmps15
    go_wp2_with fail
    refine (iIsPerm_c _ _ _ hv).mono ?_
    rintro e w1 ⟨rfl, b1⟩
    go_wp2_with fail
    go_ret
    rw [HR.out]
    exact ⟨_, rfl, OwnI.nil _ _, b1⟩
  | true =>
    have HR : Hid (inverseL l = invOf l) := Lib.hid (by simp [inverseL, hp])
    have hR := Lib.hid (inR_of_perm hp)
    obtain ⟨n, ao, b, off, c, rfl, HL, hnc, hcm, ha, hc, hn⟩ := hv.open
    clear hcm
    go_enter Try.func15, Try.ntmps15
    go_wp2_with fail
    refine (iIsPerm_c _ _ _ hv).mono ?_
    rintro e w1 ⟨rfl, b1⟩
    go_wp2_with (at_make; refine wpList_zeros _ rfl _ _ rfl n rfl rfl hn ?_)
    intro w2 hO hB
    have e0 : List.replicate n 0 = invUp l 0 := by rw [HL.out]; rfl
    rw [e0] at hO
    clear e0
    have F2 := below_step b1 hB b1.size
    have hsz := b1.size
    clear hB
    go_wp2
    go_loopw [14] (fun i wr => ∃ j : Nat, j ≤ n ∧ i = .int .i64 j ∧ OwnI w1.heap.size wr (.slice (some ⟨w1.heap.size, 0, none⟩) n n) (invUp l j) ∧ Below w.heap.size w wr) (fun i _ => n - (intOf i).toNat)
    case atStart => exact ⟨0, Nat.zero_le _, rfl, hO, F2⟩
    case round =>
      obtain ⟨j, hj, rfl, hOr, hBr⟩ := hrel
      clear hO
      by_cases hlt : j < n
      · obtain rfl := ha (by omega)
        obtain ⟨y, hy⟩ : ∃ y, y = l.getD j 0 := ⟨_, rfl⟩
        have hcj : wr.cell? ⟨b, off + j, none⟩ = some (.int .i64 y) := by
          rw [hy, hBr.cell (p := ⟨b, off + j, none⟩) (World.block_lt_of_cell? _ _ (hc j hlt))]; exact hc j hlt
        have HY := Lib.hid (getElem?_of_getD hy (by rw [← HL.out]; exact hlt))
        obtain ⟨t, rfl, ht⟩ := hR.out.at HY.out
        have ht2 : t < (invUp l j).length := by rw [invUp_len]; exact ht
        rw [← HL.out] at ht
        have hst := hOr.cellAt t ht2
        have hfr := hOr.free t
        have hO2 := (hOr.store t (j : Int)).1
        rw [invUp_step hy] at hO2
        have hB2 := hBr.setCell (p := ⟨w1.heap.size, t, none⟩) hsz (.int .i64 (j : Int))
        obtain ⟨z, hz⟩ : ∃ z, z = (invUp l j).getD t 0 := ⟨_, rfl⟩
        rw [← hz] at hst
        clear hz hOr hBr hc ha hy ht2
        go_wp2
        go_roundw
        case rel => exact ⟨j + 1, by omega, by go_num, hO2, hB2⟩
        case measure => simp [intOf]; omega
      · clear hc ha
        go_wp2
        go_ret
        obtain rfl : j = n := by omega
        exact ⟨_, rfl, by rw [HR.out, invOf, ← HL.out]; exact hOr.mono hsz, hBr⟩

end Go.Proofs.Ytfepepakellbbaa
