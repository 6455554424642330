/-
  l2Exp: the exponents of a key.
-/
import Derived.Test.YtoioiippdchgmaaDig
import Derived.Test.YtoioiippdchgmaaGives
namespace Go.Proofs.Ytoioiippdchgmaa
open Go.RowKit
set_option linter.unusedVariables false

theorem digits_snoc : ∀ (n : Nat) (k : Int), digits (n + 1) k = digits n k ++ [(k / (128 ^ n : Nat)) % 128]
  | 0, k => by simp [digits]
  | n + 1, k => by
    rw [digits, digits_snoc n (k / 128)]
    have : k / 128 / ((128 ^ n : Nat) : Int) = k / ((128 ^ (n + 1) : Nat) : Int) := by
      rw [Int.ediv_ediv_of_nonneg (by decide), Nat.pow_succ, Nat.mul_comm]; rfl
    rw [this]; rfl

def cutK (k : Int) (i : Nat) : Int := k / ((128 ^ i : Nat) : Int)
theorem cutK_succ (k : Int) (i : Nat) : cutK k i / 128 = cutK k (i + 1) := by
  unfold cutK
  rw [Int.ediv_ediv_of_nonneg (Int.natCast_nonneg _), Nat.pow_succ]; rfl
theorem cutK_bnd {k : Int} (h0 : 0 ≤ k) (h1 : k < 562949953421312) (i : Nat) : 0 ≤ cutK k i ∧ cutK k i < 562949953421312 := by
  unfold cutK
  refine ⟨Int.ediv_nonneg h0 (Int.natCast_nonneg _), Int.lt_of_le_of_lt (Int.ediv_le_self _ h0) h1⟩
theorem cutK_snoc (k : Int) (i : Nat) : digits (i + 1) k = digits i k ++ [cutK k i % 128] := digits_snoc i k

set_option maxHeartbeats 800000 in
theorem l2Exp_c (k : Int) (w : World) (h0 : 0 ≤ k) (h1 : k < 562949953421312) :
    Calls Try.prog 45 #[.int .i64 k] w (GivesI w (digits 7 k)) := by
  have HB := Lib.hid (cutK_bnd h0 h1)
  have hk0 : cutK k 0 = k := by simp [cutK]
  have hO0 : OwnI w.heap.size (w.alloc (.cells #[] 3)) (.slice (some ⟨w.heap.size, 0, none⟩) 0 0) (digits 0 k) := OwnI.lit w
  have hB0 : Below w.heap.size w (w.alloc (.cells #[] 3)) := (Below.refl _ _).alloc (Nat.le_refl _) _
  go_enter Try.func45, Try.ntmps45
  go_wp2_with fail
  go_loopw [0, 3, 4] (fun kv tv iv wr => ∃ (i : Nat), i ≤ 7 ∧ iv = .int .i64 i ∧ kv = .int .i64 (cutK k i) ∧ OwnI w.heap.size wr tv (digits i k) ∧ Below w.heap.size w wr) (fun _ _ iv _ => 7 - (intOf iv).toNat)
  case atStart => exact ⟨0, by omega, rfl, by rw [hk0], hO0, hB0⟩
  case round =>
    obtain ⟨i, hi, rfl, rfl, hO, hB⟩ := hrel
    clear hO0 hB0 hk0
    by_cases hi7 : i < 7
    · have hc := HB.out i
      have HS := Lib.hid (cutK_succ k i)
      have HD := Lib.hid (cutK_snoc k i)
      generalize cutK k i = x at *
      have e1 : Int.tmod x 128 = x % 128 := Int.tmod_eq_emod_of_nonneg hc.1
      have e2 : Int.tdiv x 128 = x / 128 := Int.tdiv_eq_ediv_of_nonneg hc.1
      have hw1 : IntKind.i64.wrap (x % 128) = x % 128 := IntWalk.i64_in _ (by omega)
      have hw2 : IntKind.i64.wrap (x / 128) = x / 128 := IntWalk.i64_in _ (by omega)
      have hi1 : (i : Int) < 7 := by omega
      have hlen : (digits i k).length + 1 ≤ 1099511627776 := by rw [digits_len]; omega
      have hsz := hB.size
      go_wp2_with (at_builtin; refine wpList_push wr rfl _ _ rfl hO rfl rfl hlen hsz ?_)
      intro v' w1 hO' hb1 _ _
      have hB' := hB.trans hb1
      rw [← HD.out] at hO'
      clear hO hB
      go_wp2
      go_roundw
      case rel => exact ⟨i + 1, by omega, by go_num, by rw [← HS.out], hO', hB'⟩
      case measure => simp [intOf]; omega
    · obtain rfl : i = 7 := by omega
      go_wp2
      go_ret
      exact ⟨_, rfl, hO, hB⟩

end Go.Proofs.Ytoioiippdchgmaa
