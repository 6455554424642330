/-
  Contracts: l1Sum, LengthOf.
-/
import Derived.Test.YthgigbihpcelpaaCode
namespace Go.Proofs.Ythgigbihpcelpaa
open Go.RowKit
set_option linter.unusedVariables false

/-- The sum of the first j numbers. -/
def sumUp (l : List Int) (j : Nat) : Int := (l.take j).sum
theorem sumUp_zero (l : List Int) : sumUp l 0 = 0 := by simp [sumUp]
theorem sumUp_succ {l : List Int} {j : Nat} {x : Int} (hx : l[j]? = some x) : sumUp l (j + 1) = sumUp l j + x := by
  rw [sumUp, sumUp, List.take_add_one, hx]; simp
theorem sumUp_all (l : List Int) {j : Nat} (h : j = l.length) : sumUp l j = l.sum := by rw [sumUp, List.take_of_length_le (by omega)]
/-- Small numbers, none less than 0. -/
def Small (l : List Int) : Prop := ∀ x ∈ l, 0 ≤ x ∧ x ≤ 1048576
theorem sumUp_le {l : List Int} (h : Small l) : ∀ j, j ≤ l.length → 0 ≤ sumUp l j ∧ sumUp l j ≤ 1048576 * (j : Int)
  | 0, _ => by simp [sumUp_zero]
  | j + 1, hj => by
    have ih := sumUp_le h j (by omega)
    have hx := h (l[j]'(by omega)) (List.getElem_mem _)
    rw [sumUp_succ (List.getElem?_eq_getElem (by omega))]
    omega

set_option maxHeartbeats 400000 in
theorem l1Sum_c (v : Value) (l : List Int) (w : World) (hv : IntsV w v l) (hs : Small l) (hl : l.length ≤ 1048576) :
    Calls Try.prog 46 #[v] w fun e w' => e = .returned (.int .i64 l.sum) ∧ w = w' := by
  obtain ⟨n, ao, b, off, c, rfl, HL, hnc, hcm, ha, hc, hn⟩ := hv.open
  have hn2 : n ≤ 1048576 := by rw [HL.out]; exact hl
  have HS := Lib.hid hs
  clear hcm hs hl
  go_enter Try.func46, Try.ntmps46
  go_wp2
  go_loop [3, 4] (fun k i => ∃ j : Nat, j ≤ n ∧ i = .int .i64 j ∧ k = .int .i64 (sumUp l j)) (fun _ i => n - (intOf i).toNat)
  case atStart => exact ⟨0, Nat.zero_le _, rfl, by rw [sumUp_zero]⟩
  case round =>
    obtain ⟨j, hj, rfl, rfl⟩ := hrel
    obtain ⟨hs1, hs2⟩ := sumUp_le HS.out j (by rw [← HL.out]; exact hj)
    by_cases hlt : j < n
    · obtain rfl := ha (by omega)
      have hcj := hc j hlt
      obtain ⟨x, hx⟩ : ∃ x, x = l.getD j 0 := ⟨_, rfl⟩
      rw [← hx] at hcj
      have HX := Lib.hid (getElem?_of_getD hx (by rw [← HL.out]; exact hlt))
      have hxr := HS.out x (List.mem_of_getElem? HX.out)
      have e := Lib.hid (sumUp_succ HX.out)
      obtain ⟨S, hS⟩ : ∃ S, S = sumUp l j := ⟨_, rfl⟩
      have HSS := Lib.hid hS
      rw [← hS] at hs1 hs2 ⊢
      clear hc ha hx hS
      go_wp2
      go_round
      case rel => exact ⟨j + 1, by omega, by go_num, by rw [e.out, ← HSS.out]⟩
      case measure => simp [intOf]; omega
    · clear hc ha
      obtain rfl : j = n := by omega
      have e := Lib.hid (sumUp_all l HL.out)
      go_wp2
      go_ret
      exact ⟨ret_int e.out, rfl⟩

/-- The number of inversions. -/
def lenOf (l : List Int) : Int := (codeOf l).sum
def lengthL (l : List Int) : Int := if isPermB l = true then lenOf l else -1
theorem codeOf_len (l : List Int) : (codeOf l).length = l.length := by simp [codeOf]
theorem codeOf_small {l : List Int} (h : l.length ≤ 1048576) : Small (codeOf l) := by
  intro x hx
  simp only [codeOf, List.mem_map, List.mem_range] at hx
  obtain ⟨t, ht, rfl⟩ := hx
  have := cntUp_le l t l.length
  omega

end Go.Proofs.Ythgigbihpcelpaa
