/-
  Contracts: FormatInt.
-/
import Derived.Test.YtfepepakellbbaaGives
import Derived.Test.YtfepepakellbbaaFmtPure
namespace Go.Proofs.Ytfepepakellbbaa
open Go.RowKit
set_option linter.unusedVariables false

theorem enc_dig : ∀ k : Fin 10, Utf8.encode (48 + ((k.val : Nat) : Int)) = strOf [dig k.val] := by decide
theorem enc_int {n : Int} (h0 : 0 ≤ n) (h : n < 10) : Utf8.encode (48 + n) = strOf [dig n.toNat] := by
  have := enc_dig ⟨n.toNat, by omega⟩
  simp only [Int.toNat_of_nonneg h0] at this
  exact this

set_option maxHeartbeats 400000 in
theorem iFmt_small (n : Int) (h0 : 0 ≤ n) (hk : n < 10) (w : World) :
    Calls Try.prog 54 #[.int .i64 n] w fun e w' => e = .returned (.string (strOf (fmtNat n.toNat))) ∧ w = w' := by
  have HR := Lib.hid (fmtNat_small (k := n.toNat) (by omega))
  go_enter Try.func54, Try.ntmps54
  go_wp2_with fail
  go_ret
  exact ⟨ret_str (by rw [HR.out, enc_int h0 hk]), rfl⟩

set_option maxHeartbeats 400000 in
theorem iFmt_nat (f : Nat) : ∀ (n : Int) (w : World), 0 ≤ n → n.toNat < 10 ^ f → n < 9223372036854775808 →
    Calls Try.prog 54 #[.int .i64 n] w fun e w' => e = .returned (.string (strOf (fmtNat n.toNat))) ∧ w = w' := by
  induction f with
  | zero => intro n w h0 h _; exact iFmt_small n h0 (by simp at h; omega) w
  | succ f ih =>
    intro n w h0 h hb
    by_cases hk : n < 10
    · exact iFmt_small n h0 hk w
    have HR := Lib.hid (fmtNat_big (k := n.toNat) (by omega) (by omega))
    have H' : Hid ((n / 10).toNat < 10 ^ f) := Lib.hid (by rw [Nat.pow_succ] at h; omega)
    have HI := Lib.hid ih
    have hsum : ((strOf (fmtNat (n / 10).toNat)).size : Int) + ((Utf8.encode (48 + n % 10)).size : Int) ≤ 9223372036854775807 := by
      rw [enc_int (by omega) (by omega), strOf_size, strOf_size]
      have := fmtNat_len (n / 10).toNat
      simp; omega
    clear h ih
    go_enter Try.func54, Try.ntmps54
    go_wp2_with fail
    refine (HI.out _ _ (by omega) H'.out (by omega)).mono ?_
    rintro e w1 ⟨rfl, rfl⟩
    go_wp2_with fail
    go_ret
    refine ⟨ret_str ?_, rfl⟩
    rw [HR.out]
    rw [enc_int (by omega) (by omega), strOf_append, show (n / 10).toNat = n.toNat / 10 by omega, show (n % 10).toNat = n.toNat % 10 by omega]

theorem tdiv_facts {n : Int} (h : n < 0) : n.tdiv 10 = -((-n) / 10) ∧ n.tmod 10 = -((-n) % 10) := by
  obtain ⟨m, rfl⟩ : ∃ m : Int, n = -m := ⟨-n, by omega⟩
  rw [Int.neg_tdiv, Int.neg_tmod, Int.tdiv_eq_ediv_of_nonneg (by omega), Int.tmod_eq_emod_of_nonneg (by omega)]
  simp

set_option maxHeartbeats 400000 in
theorem iFmt_neg (f : Nat) : ∀ (n : Int) (w : World), n < 0 → n.natAbs < 10 ^ f → -9223372036854775808 ≤ n →
    Calls Try.prog 54 #[.int .i64 n] w fun e w' => e = .returned (.string (strOf (45 :: fmtNat n.natAbs))) ∧ w = w' := by
  induction f with
  | zero => intro n w h0 h _; simp at h; omega
  | succ f ih =>
    intro n w h0 h hb
    by_cases hk : -10 < n
    · have e : Hid (n.natAbs = (-n).toNat) := Lib.hid (by omega)
      have hsum : ((1 : Int)) + ((strOf (fmtNat (-n).toNat)).size : Int) ≤ 9223372036854775807 := by
        rw [strOf_size]
        have := fmtNat_len (-n).toNat
        omega
      clear h ih
      go_enter Try.func54, Try.ntmps54
      go_wp2_with fail
      refine (iFmt_small _ (by omega) (by omega) _).mono ?_
      rintro e w1 ⟨rfl, rfl⟩
      go_wp2_with fail
      go_ret
      refine ⟨ret_str ?_, rfl⟩
      rw [e.out]
      exact strOf_append [45] _
    · obtain ⟨q1, q2⟩ := tdiv_facts h0
      have HR := Lib.hid (fmtNat_big (k := n.natAbs) (by omega) (by omega))
      have H' : Hid ((-((-n) / 10)).natAbs < 10 ^ f) := Lib.hid (by rw [Nat.pow_succ] at h; omega)
      have HI := Lib.hid ih
      clear h ih
      go_enter Try.func54, Try.ntmps54
      go_wp2_with fail
      refine (HI.out _ _ (by omega) H'.out (by omega)).mono ?_
      rintro e w1 ⟨rfl, rfl⟩
      go_wp2_with fail
      refine (iFmt_small _ (by omega) (by omega) _).mono ?_
      rintro e w1 ⟨rfl, rfl⟩
      have hsum : ((strOf (45 :: fmtNat ((-n) / 10).natAbs)).size : Int) + ((strOf (fmtNat ((-n) % 10).toNat)).size : Int) ≤ 9223372036854775807 := by
        rw [strOf_size, strOf_size]
        have := fmtNat_len ((-n) / 10).natAbs
        have := fmtNat_len ((-n) % 10).toNat
        simp only [List.length_cons]; omega
      go_wp2_with fail
      go_ret
      refine ⟨ret_str ?_, rfl⟩
      rw [HR.out, strOf_append, fmtNat_small (k := ((-n) % 10).toNat) (by omega), show ((-n) / 10).natAbs = n.natAbs / 10 by omega, show ((-n) % 10).toNat = n.natAbs % 10 by omega]
      rfl

/-- FormatInt of the program, for every number. -/
theorem iFmt_c (n : Int) (w : World) (h1 : -9223372036854775808 ≤ n) (h2 : n ≤ 9223372036854775807) :
    Calls Try.prog 54 #[.int .i64 n] w fun e w' => e = .returned (.string (strOf (fmtInt n))) ∧ w = w' := by
  by_cases h : n < 0
  · rw [fmtInt, if_pos h]
    exact iFmt_neg 20 n w h (by omega) h1
  · rw [fmtInt, if_neg h, show n.natAbs = n.toNat by omega]
    exact iFmt_nat 20 n w (by omega) (by omega) (by omega)

end Go.Proofs.Ytfepepakellbbaa
