/-
  l2At, l2Unit, l2Variable: a key's digit, the unit of a place.
-/
import Derived.Test.YtoioiippdchgmaaExpS
import Derived.Test.YtoioiippdchgmaaPerm
namespace Go.Proofs.Ytoioiippdchgmaa
open Go.RowKit
set_option linter.unusedVariables false

theorem and127 {x : Int} (h0 : 0 ≤ x) (h1 : x < 562949953421312) : bits .and .i64 x 127 = x % 128 := by
  have h : bits .and .i64 x 127 = IntKind.i64.wrap ((BitVec.ofInt 64 x &&& BitVec.ofInt 64 127).toNat : Int) := rfl
  have hb : (BitVec.ofInt 64 127).toNat = 2 ^ 7 - 1 := by decide
  have hx : (BitVec.ofInt 64 x).toNat = x.toNat := by
    rw [BitVec.toNat_ofInt]
    have : x % ((2 ^ 64 : Nat) : Int) = x := Int.emod_eq_of_lt h0 (by omega)
    rw [this]
  rw [h, BitVec.toNat_and, hb, hx, Nat.and_two_pow_sub_one_eq_mod]
  have e : ((x.toNat % 2 ^ 7 : Nat) : Int) = x % 128 := by omega
  rw [e]
  exact IntWalk.i64_in _ (by omega)

def atK (k : Int) (i : Nat) : Int := cutK k i % 128
def unitK (i : Nat) : Int := ((128 ^ i : Nat) : Int)
theorem atK_bnd {k : Int} (i : Nat) : 0 ≤ atK k i ∧ atK k i ≤ 127 := by unfold atK; omega
theorem unitK_bnd {i : Nat} (h : i ≤ 6) : 1 ≤ unitK i ∧ unitK i ≤ 4398046511104 := by
  have h7 : i = 0 ∨ i = 1 ∨ i = 2 ∨ i = 3 ∨ i = 4 ∨ i = 5 ∨ i = 6 := by omega
  rcases h7 with rfl | rfl | rfl | rfl | rfl | rfl | rfl <;> decide

set_option maxHeartbeats 800000 in
theorem l2At_c (k : Int) (i : Nat) (w : World) (h0 : 0 ≤ k) (h1 : k < 562949953421312) (hi : i ≤ 6) :
    Calls Try.prog 54 #[.int .i64 k, .int .i64 (i : Int)] w fun e w' => e = .returned (.int .i64 (atK k i)) ∧ w = w' := by
  have h7 : i = 0 ∨ i = 1 ∨ i = 2 ∨ i = 3 ∨ i = 4 ∨ i = 5 ∨ i = 6 := by omega
  have HB := cutK_bnd h0 h1 i
  have HA := Lib.hid (and127 HB.1 HB.2)
  have HR := Lib.hid (show atK k i = cutK k i % 128 from rfl)
  clear hi
  rcases h7 with rfl | rfl | rfl | rfl | rfl | rfl | rfl
  all_goals
    simp only [cutK, Nat.reducePow, Int.cast_ofNat_Int] at HA HR
    go_enter Try.func54, Try.ntmps54
    go_wp2
    have := HA.out
    have := HR.out
    go_ret
    simp_all

set_option maxHeartbeats 800000 in
theorem l2Unit_c (i : Nat) (w : World) (hi : i ≤ 6) :
    Calls Try.prog 55 #[.int .i64 (i : Int)] w fun e w' => e = .returned (.int .i64 (unitK i)) ∧ w = w' := by
  have h7 : i = 0 ∨ i = 1 ∨ i = 2 ∨ i = 3 ∨ i = 4 ∨ i = 5 ∨ i = 6 := by omega
  clear hi
  rcases h7 with rfl | rfl | rfl | rfl | rfl | rfl | rfl
  all_goals
    go_enter Try.func55, Try.ntmps55
    go_wp2
    go_ret
    simp [unitK]

theorem l2Var_c (i : Int) (w : World) : Calls Try.prog 36 #[.int .i64 i] w fun e w' => e = .returned (.bool (inB i 0 5)) ∧ w = w' := by
  go_enter Try.func36, Try.ntmps36
  go_wp2_with fail
  refine (l1In_c _ _ _ _).mono ?_
  rintro e2 w1 ⟨rfl, rfl⟩
  go_wp2_with fail
  go_ret
  exact ⟨rfl, rfl⟩

theorem l2AtX_c (k x : Int) (i : Nat) (w : World) (hx : x = (i : Int)) (h0 : 0 ≤ k) (h1 : k < 562949953421312) (hi : i ≤ 6) :
    Calls Try.prog 54 #[.int .i64 k, .int .i64 x] w fun e w' => e = .returned (.int .i64 (atK k i)) ∧ w = w' := by
  subst hx; exact l2At_c k i w h0 h1 hi
theorem l2UnitX_c (x : Int) (i : Nat) (w : World) (hx : x = (i : Int)) (hi : i ≤ 6) :
    Calls Try.prog 55 #[.int .i64 x] w fun e w' => e = .returned (.int .i64 (unitK i)) ∧ w = w' := by
  subst hx; exact l2Unit_c i w hi
theorem mul_unit {d u : Int} (hd : -127 ≤ d ∧ d ≤ 127) (hu : 1 ≤ u ∧ u ≤ 4398046511104) : -558551906910208 ≤ d * u ∧ d * u ≤ 558551906910208 := by
  have h1 : (d * u).natAbs ≤ 127 * 4398046511104 := by rw [Int.natAbs_mul]; exact Nat.mul_le_mul (by omega) (by omega)
  omega

def swapK (k : Int) (i : Nat) : Int := k + (atK k (i + 1) - atK k i) * unitK i + (atK k i - atK k (i + 1)) * unitK (i + 1)
set_option maxHeartbeats 800000 in
theorem l2Swapped_c (k : Int) (i : Nat) (w : World) (h0 : 0 ≤ k) (h1 : k < 562949953421312) (hi : i ≤ 5) :
    Calls Try.prog 53 #[.int .i64 k, .int .i64 (i : Int)] w fun e w' => e = .returned (.int .i64 (swapK k i)) ∧ w = w' := by
  have HS := Lib.hid (show swapK k i = k + (atK k (i + 1) - atK k i) * unitK i + (atK k i - atK k (i + 1)) * unitK (i + 1) from rfl)
  obtain ⟨a, ha⟩ : ∃ a, a = atK k i := ⟨_, rfl⟩
  obtain ⟨b, hb⟩ : ∃ b, b = atK k (i + 1) := ⟨_, rfl⟩
  obtain ⟨u, hu⟩ : ∃ u, u = unitK i := ⟨_, rfl⟩
  obtain ⟨v, hv⟩ : ∃ v, v = unitK (i + 1) := ⟨_, rfl⟩
  have ba := atK_bnd (k := k) i
  have bb := atK_bnd (k := k) (i + 1)
  have bu := unitK_bnd (i := i) (by omega)
  have bv := unitK_bnd (i := i + 1) (by omega)
  have HA := Lib.hid ha
  have HB := Lib.hid hb
  have HU := Lib.hid hu
  have HV := Lib.hid hv
  rw [← ha, ← hb, ← hu, ← hv] at HS
  rw [← ha] at ba
  rw [← hb] at bb
  rw [← hu] at bu
  rw [← hv] at bv
  have m1 := mul_unit (d := b - a) (u := u) (by omega) bu
  have m2 := mul_unit (d := a - b) (u := v) (by omega) bv
  clear ha hb hu hv bu bv
  have w1 : IntKind.i64.wrap (b - a) = b - a := IntWalk.i64_in _ (by omega)
  have w2 : IntKind.i64.wrap (a - b) = a - b := IntWalk.i64_in _ (by omega)
  have w3 : IntKind.i64.wrap ((b - a) * u) = (b - a) * u := IntWalk.i64_in _ (by omega)
  have w4 : IntKind.i64.wrap ((a - b) * v) = (a - b) * v := IntWalk.i64_in _ (by omega)
  have w5 : IntKind.i64.wrap (k + (b - a) * u) = k + (b - a) * u := IntWalk.i64_in _ (by omega)
  have w6 : IntKind.i64.wrap (k + (b - a) * u + (a - b) * v) = k + (b - a) * u + (a - b) * v := IntWalk.i64_in _ (by omega)
  go_enter Try.func53, Try.ntmps53
  go_wp2_with fail
  refine (l2AtX_c k _ i _ rfl h0 h1 (by omega)).mono ?_
  rw [← HA.out]
  rintro e w1 ⟨rfl, rfl⟩
  go_wp2_with fail
  refine (l2AtX_c k _ (i + 1) _ (by omega) h0 h1 (by omega)).mono ?_
  rw [← HB.out]
  rintro e w1 ⟨rfl, rfl⟩
  go_wp2_with fail
  refine (l2UnitX_c _ i _ rfl (by omega)).mono ?_
  rw [← HU.out]
  rintro e w1 ⟨rfl, rfl⟩
  go_wp2_with fail
  refine (l2UnitX_c _ (i + 1) _ (by omega) (by omega)).mono ?_
  rw [← HV.out]
  rintro e w1 ⟨rfl, rfl⟩
  go_wp2_with fail
  go_ret
  exact ⟨ret_int HS.out.symm, rfl⟩

end Go.Proofs.Ytoioiippdchgmaa
