/-
  FormatInt of the reference: the digits from the last one on, then turned round.
-/
import Derived.Test.YtfepepakellbbaaFmt
import Derived.Test.YtfepepakellbbaaOwn
namespace Go.Proofs.Ytfepepakellbbaa
open Go.RowKit
set_option linter.unusedVariables false

theorem Try.infoU : (Try.prog.info? 5).map (fun i => (i.zero, i.size, i.bytes)) = some (some (.int .u8 0), 1, 1) := by kernel_rfl

/-- What is left to be written: nothing for 0. -/
def restF (r : Nat) : List UInt8 := if r = 0 then [] else fmtNat r
theorem fmtNat_rest {r : Nat} (h : r < 100000000000000000000) : fmtNat r = restF (r / 10) ++ [dig (r % 10)] := by
  by_cases hr : r < 10
  · rw [fmtNat_small hr, restF, if_pos (by omega), Nat.mod_eq_of_lt hr]; rfl
  · rw [fmtNat_big hr h, restF, if_neg (by omega)]

/-- The digits ds are written, the last one first; r is left. -/
def DigUp (m r : Nat) (ds : List UInt8) : Prop := r = m / 10 ^ ds.length ∧ (ds = [] ∨ fmtNat m = restF r ++ ds.reverse)
theorem DigUp.zero (m : Nat) : DigUp m m [] := ⟨by simp, .inl rfl⟩
theorem DigUp.step {m r : Nat} {ds : List UInt8} (h : DigUp m r ds) (hm : m < 100000000000000000000) (hgo : r ≠ 0 ∨ ds = []) :
    DigUp m (r / 10) (ds ++ [dig (r % 10)]) := by
  obtain ⟨h0, h⟩ := h
  refine ⟨by rw [h0, List.length_append, List.length_singleton, Nat.pow_succ, Nat.div_div_eq_div_mul], .inr ?_⟩
  have hr : r < 100000000000000000000 := by rw [h0]; exact Nat.lt_of_le_of_lt (Nat.div_le_self _ _) hm
  rcases h with rfl | h2
  · obtain rfl : r = m := by simpa using h0
    rw [fmtNat_rest hm]; simp
  · rcases hgo with h3 | h3
    · rw [h2, restF, if_neg h3, fmtNat_rest hr]
      simp
    · subst h3
      obtain rfl : r = m := by simpa using h0
      rw [fmtNat_rest hm]; simp
theorem DigUp.done {m : Nat} {ds : List UInt8} (h : DigUp m 0 ds) (hne : ds ≠ []) : fmtNat m = ds.reverse := by
  rcases h.2 with h | h
  · exact absurd h hne
  · simpa [restF] using h
theorem DigUp.short {m r : Nat} {ds : List UInt8} (h : DigUp m r ds) (hm : m < 100000000000000000000) (hgo : r ≠ 0 ∨ ds = []) : ds.length ≤ 19 := by
  rcases hgo with hr | rfl
  · have h1 : 10 ^ ds.length ≤ m := by
      by_cases hc : 10 ^ ds.length ≤ m
      · exact hc
      · exact absurd (by rw [h.1]; exact Nat.div_eq_of_lt (by omega)) hr
    have h2 : 10 ^ ds.length < 10 ^ 20 := Nat.lt_of_le_of_lt h1 hm
    have := (Nat.pow_lt_pow_iff_right (a := 10) (by omega)).1 h2
    omega
  · simp

theorem DigUp.len20 {m r : Nat} {ds : List UInt8} (h : DigUp m r ds) (hm : m < 100000000000000000000) : ds.length ≤ 1000 := by
  rcases h.2 with rfl | h2
  · simp
  · have := congrArg List.length h2
    have h3 := fmtNat_len m
    simp at this
    omega

/-- 1 where nothing is written yet. -/
def lenZ : Value → Nat
  | .slice _ 0 _ => 1
  | _ => 0
theorem lenZ_zero (a : Option Addr) (c : Nat) : lenZ (.slice a 0 c) = 1 := rfl
theorem lenZ_pos {a : Option Addr} {n c : Nat} (h : n ≠ 0) : lenZ (.slice a n c) = 0 := by
  cases n with
  | zero => exact absurd rfl h
  | succ n => rfl
theorem lenZ_le (v : Value) : lenZ v ≤ 1 := by unfold lenZ; split <;> omega

theorem dig_val {d : Int} (h0 : 0 ≤ d) (h : d < 10) : Value.int .u8 (48 + d) = byteV (dig d.toNat) := by
  rw [byteV, dig_nat (by omega)]
  congr 1
  omega

def revU (ds : List UInt8) (j : Nat) : List UInt8 := (ds.reverse).take j
theorem revU_zero (ds : List UInt8) : revU ds 0 = [] := by simp [revU]
theorem revU_len (ds : List UInt8) (j : Nat) : (revU ds j).length ≤ j := by simp [revU]; omega
theorem revU_succ {ds : List UInt8} {j : Nat} {x : UInt8} (hj : j < ds.length) (hx : ds[ds.length - 1 - j]? = some x) : revU ds j ++ [x] = revU ds (j + 1) := by
  rw [revU, revU, List.take_add_one, List.getElem?_reverse hj, hx]; rfl
theorem revU_all (ds : List UInt8) {j : Nat} (h : j = ds.length) : revU ds j = ds.reverse := by
  rw [revU, List.take_of_length_le (by simp; omega)]

end Go.Proofs.Ytfepepakellbbaa
