/-
  Plain: the decimal digits of a number.
-/
import Derived.Deep.OwnRows
import Derived.Laws.Concat
import Derived.Laws.Strings
namespace Go.Proofs.Ytfepepakellbbaa
set_option linter.unusedVariables false

def dig (k : Nat) : UInt8 := UInt8.ofNat (48 + k)
theorem dig_nat {k : Nat} (h : k < 10) : (dig k).toNat = 48 + k := by
  simp [dig]; omega

/-- The digits of k, f of them at most. -/
def fmtF : Nat → Nat → List UInt8
  | 0, _ => []
  | f + 1, k => if k < 10 then [dig k] else fmtF f (k / 10) ++ [dig (k % 10)]

theorem fmtF_more : ∀ (f k : Nat), k < 10 ^ f → 0 < f → fmtF (f + 1) k = fmtF f k
  | 0, k, _, h => absurd h (Nat.lt_irrefl 0)
  | f + 1, k, h, _ => by
    by_cases hk : k < 10
    · simp [fmtF, hk]
    · have hf : 0 < f := by
        rcases f with _ | f
        · simp at h; omega
        · omega
      have h' : k / 10 < 10 ^ f := by rw [Nat.pow_succ] at h; omega
      have e := fmtF_more f (k / 10) h' hf
      rw [fmtF, if_neg hk, e]
      conv => rhs; rw [fmtF, if_neg hk]

/-- The digits of a number of at most 24 digits. -/
def fmtNat (k : Nat) : List UInt8 := fmtF 25 k
theorem fmtNat_small {k : Nat} (h : k < 10) : fmtNat k = [dig k] := by simp [fmtNat, fmtF, h]
theorem fmtNat_big {k : Nat} (h : ¬ k < 10) (hk : k < 100000000000000000000) : fmtNat k = fmtNat (k / 10) ++ [dig (k % 10)] := by
  have e : fmtF 25 (k / 10) = fmtF 24 (k / 10) := fmtF_more 24 (k / 10) (by omega) (by omega)
  rw [fmtNat, fmtF, if_neg h, fmtNat, e]

theorem fmtF_len (f k : Nat) : (fmtF f k).length ≤ f := by
  induction f generalizing k with
  | zero => simp [fmtF]
  | succ f ih =>
    rw [fmtF]
    split
    · simp
    · have := ih (k / 10); simp; omega
theorem fmtNat_len (k : Nat) : (fmtNat k).length ≤ 25 := fmtF_len 25 k
theorem fmtF_ne {f k : Nat} (h : 0 < f) : fmtF f k ≠ [] := by
  rcases f with _ | f
  · omega
  · rw [fmtF]; split <;> simp
theorem fmtNat_ne (k : Nat) : fmtNat k ≠ [] := fmtF_ne (by omega)

def fmtInt (n : Int) : List UInt8 := if n < 0 then 45 :: fmtNat n.natAbs else fmtNat n.natAbs
theorem fmtInt_len (n : Int) : (fmtInt n).length ≤ 26 := by
  have := fmtNat_len n.natAbs
  unfold fmtInt; split <;> simp <;> omega
theorem fmtInt_nat (m : Nat) : fmtInt (m : Int) = fmtNat m := by
  rw [fmtInt, if_neg (by omega)]; simp
theorem fmtInt_neg {m : Nat} (h : 0 < m) : fmtInt (-(m : Int)) = 45 :: fmtNat m := by
  rw [fmtInt, if_pos (by omega)]; simp

/-- A list of bytes as a string. -/
def strOf (l : List UInt8) : ByteArray := ⟨l.toArray⟩
theorem strOf_size (l : List UInt8) : (strOf l).size = l.length := by simp [strOf, ByteArray.size]
theorem strOf_append (a b : List UInt8) : strOf a ++ strOf b = strOf (a ++ b) := ByteArray.mk_append_mk a b
theorem strOf_toList (l : List UInt8) : (strOf l).toList = l := ByteArray.toList_mk l
theorem strOf_of (s : ByteArray) : strOf s.data.toList = s := rfl

end Go.Proofs.Ytfepepakellbbaa
