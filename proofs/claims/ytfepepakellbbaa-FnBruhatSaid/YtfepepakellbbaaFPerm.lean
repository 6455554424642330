/-
  Contracts: FormatPerm, ParsePerm.
-/
import Derived.Test.YtfepepakellbbaaFmtS
import Derived.Test.YtfepepakellbbaaPermI
namespace Go.Proofs.Ytfepepakellbbaa
open Go.RowKit
set_option linter.unusedVariables false

/-- The digits of the first j numbers, each one greater. -/
def fpUp (l : List Int) (j : Nat) : List UInt8 := (l.take j).map (fun x => dig (x.toNat + 1))
def fpL (l : List Int) : List UInt8 := if isPermB l = true then fpUp l l.length else []
theorem fpUp_zero (l : List Int) : fpUp l 0 = [] := by simp [fpUp]
theorem fpUp_len (l : List Int) (j : Nat) : (fpUp l j).length ≤ j := by simp [fpUp]; omega
theorem fpUp_ge (l : List Int) (j : Nat) (h : j ≤ l.length) : (fpUp l j).length = j := by simp [fpUp]; omega
theorem fpUp_succ {l : List Int} {j t : Nat} (hy : l[j]? = some (t : Int)) : fpUp l j ++ [dig (t + 1)] = fpUp l (j + 1) := by
  rw [fpUp, fpUp, List.take_add_one, hy]; simp

theorem dig_up {t : Nat} (h : t < 7) : Value.int .u8 (49 + (t : Int)) = byteV (dig (t + 1)) := by
  rw [byteV, dig_nat (by omega)]
  congr 1
  omega

set_option maxHeartbeats 800000 in
theorem iFPerm_c (v : Value) (l : List Int) (w : World) (hv : IntsV w v l) :
    Calls Try.prog 22 #[v] w (GivesS w (strOf (fpL l))) := by
  cases hp : isPermB l with
  | false =>
    have HR : Hid (fpL l = []) := Lib.hid (by simp [fpL, hp])
    go_enter Try.func22, Try.ntmps22
    go_wp2_with fail
    refine (iIsPerm_c _ _ _ hv).mono ?_
    rintro e w1 ⟨rfl, b1⟩
    go_wp2_with fail
    go_ret
    rw [HR.out]
    exact ⟨rfl, b1⟩
  | true =>
    have HR : Hid (fpL l = fpUp l l.length) := Lib.hid (by simp [fpL, hp])
    have hR := Lib.hid (inR_of_perm hp)
    obtain ⟨n, ao, b, off, c, rfl, HL, hnc, hcm, ha, hc, hn⟩ := hv.open
    have hn1 : 1 ≤ n := by rw [HL.out]; exact (isPermB_iff.1 hp).1
    have hn7 : n ≤ 7 := by rw [HL.out]; exact (isPermB_iff.1 hp).2.1
    obtain rfl := ha (by omega)
    clear hcm ha hn
    go_enter Try.func22, Try.ntmps22
    go_wp2_with fail
    refine (iIsPerm_c _ _ _ hv).mono ?_
    rintro e w1 ⟨rfl, b1⟩
    go_wp2_with fail
    go_loop [3, 11] (fun s i => ∃ j : Nat, j ≤ n ∧ i = .int .i64 j ∧ s = .string (strOf (fpUp l j))) (fun _ i => n - (intOf i).toNat)
    case atStart => exact ⟨0, Nat.zero_le _, rfl, by rw [fpUp_zero]; rfl⟩
    case round =>
      obtain ⟨j, hj, rfl, rfl⟩ := hrel
      by_cases hlt : j < n
      · obtain ⟨y, hy⟩ : ∃ y, y = l.getD j 0 := ⟨_, rfl⟩
        have hcj : w1.cell? ⟨b, off + j, none⟩ = some (.int .i64 y) := by
          rw [hy, b1.cell (p := ⟨b, off + j, none⟩) (World.block_lt_of_cell? _ _ (hc j hlt))]; exact hc j hlt
        have HY := Lib.hid (getElem?_of_getD hy (by rw [← HL.out]; exact hlt))
        obtain ⟨t, rfl, ht⟩ := hR.out.at HY.out
        rw [← HL.out] at ht
        have e := Lib.hid (fpUp_succ HY.out)
        have hf : Hid (fmtNat ((t : Int) + 1).toNat = [dig (t + 1)]) := Lib.hid (by rw [show ((t : Int) + 1).toNat = t + 1 by omega]; exact fmtNat_small (by omega))
        have hsum : ((strOf (fpUp l j)).size : Int) + ((strOf [dig (t + 1)]).size : Int) ≤ 9223372036854775807 := by
          rw [strOf_size, strOf_size]
          have := fpUp_len l j
          simp only [List.length_singleton]; omega
        clear hc hy
        go_wp2_with fail
        refine (iFmt_small _ (by omega) (by omega) _).mono ?_
        rintro e' w2 ⟨rfl, rfl⟩
        rw [hf.out]
        go_wp2_with fail
        go_round
        case rel => exact ⟨j + 1, by omega, by go_num, by rw [strOf_append, e.out]⟩
        case measure => simp [intOf]; omega
      · clear hc
        obtain rfl : j = n := by omega
        go_wp2
        go_ret
        rw [HR.out, ← HL.out]
        exact ⟨rfl, b1⟩

end Go.Proofs.Ytfepepakellbbaa
