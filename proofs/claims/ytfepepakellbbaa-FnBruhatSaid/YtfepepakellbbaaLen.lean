/-
  Contracts: l1Sum, LengthOf.
-/
import Derived.Test.YtfepepakellbbaaCode
namespace Go.Proofs.Ytfepepakellbbaa
open Go.RowKit
set_option linter.unusedVariables false

/-- The sum of the first j numbers. -/
def sumUp (l : List Int) (j : Nat) : Int := (l.take j).sum
theorem sumUp_zero (l : List Int) : sumUp l 0 = 0 := by simp [sumUp]
theorem sumUp_succ {l : List Int} {j : Nat} {x : Int} (hx : l[j]? = some x) : sumUp l (j + 1) = sumUp l j + x := by
  rw [sumUp, sumUp, List.take_add_one, hx]; simp
theorem sumUp_all (l : List Int) {j : Nat} (h : j = l.length) : sumUp l j = l.sum := by rw [sumUp, List.take_of_length_le (by omega)]
/-- Small numbers, none less than 0. -/
def Small (l : List Int) : Prop := ∀ x ∈ l, 0 ≤ x ∧ x ≤ 1048576
theorem sumUp_le {l : List Int} (h : Small l) : ∀ j, j ≤ l.length → 0 ≤ sumUp l j ∧ sumUp l j ≤ 1048576 * (j : Int)
  | 0, _ => by simp [sumUp_zero]
  | j + 1, hj => by
    have ih := sumUp_le h j (by omega)
    have hx := h (l[j]'(by omega)) (List.getElem_mem _)
    rw [sumUp_succ (List.getElem?_eq_getElem (by omega))]
    omega

set_option maxHeartbeats 400000 in
theorem l1Sum_c (v : Value) (l : List Int) (w : World) (hv : IntsV w v l) (hs : Small l) (hl : l.length ≤ 1048576) :
    Calls Try.prog 77 #[v] w fun e w' => e = .returned (.int .i64 l.sum) ∧ w = w' := by
  obtain ⟨n, ao, b, off, c, rfl, HL, hnc, hcm, ha, hc, hn⟩ := hv.open
  have hn2 : n ≤ 1048576 := by rw [HL.out]; exact hl
  have HS := Lib.hid hs
  clear hcm hs hl
  go_enter Try.func77, Try.ntmps77
  go_wp2
  go_loop [3, 4] (fun k i => ∃ j : Nat, j ≤ n ∧ i = .int .i64 j ∧ k = .int .i64 (sumUp l j)) (fun _ i => n - (intOf i).toNat)
  case atStart => exact ⟨0, Nat.zero_le _, rfl, by rw [sumUp_zero]⟩
  case round =>
    obtain ⟨j, hj, rfl, rfl⟩ := hrel
    obtain ⟨hs1, hs2⟩ := sumUp_le HS.out j (by rw [← HL.out]; exact hj)
    by_cases hlt : j < n
    · obtain rfl := ha (by omega)
      have hcj := hc j hlt
      obtain ⟨x, hx⟩ : ∃ x, x = l.getD j 0 := ⟨_, rfl⟩
      rw [← hx] at hcj
      have HX := Lib.hid (getElem?_of_getD hx (by rw [← HL.out]; exact hlt))
      have hxr := HS.out x (List.mem_of_getElem? HX.out)
      have e := Lib.hid (sumUp_succ HX.out)
      obtain ⟨S, hS⟩ : ∃ S, S = sumUp l j := ⟨_, rfl⟩
      have HSS := Lib.hid hS
      rw [← hS] at hs1 hs2 ⊢
      clear hc ha hx hS
      go_wp2
      go_round
      case rel => exact ⟨j + 1, by omega, by go_num, by rw [e.out, ← HSS.out]⟩
      case measure => simp [intOf]; omega
    · clear hc ha
      obtain rfl : j = n := by omega
      have e := Lib.hid (sumUp_all l HL.out)
      go_wp2
      go_ret
      exact ⟨ret_int e.out, rfl⟩

/-- The number of inversions. -/
def lenOf (l : List Int) : Int := (codeOf l).sum
def lengthL (l : List Int) : Int := if isPermB l = true then lenOf l else -1
theorem codeOf_len (l : List Int) : (codeOf l).length = l.length := by simp [codeOf]
theorem codeOf_small {l : List Int} (h : l.length ≤ 1048576) : Small (codeOf l) := by
  intro x hx
  simp only [codeOf, List.mem_map, List.mem_range] at hx
  obtain ⟨t, ht, rfl⟩ := hx
  have := cntUp_le l t l.length
  omega

theorem l1Length_c (v : Value) (l : List Int) (w : World) (hv : IntsV w v l) (hl : l.length ≤ 1048576) :
    Calls Try.prog 68 #[v] w (GivesN w (lenOf l)) := by
  have HL := Lib.hid hl
  clear hl
  go_enter Try.func68, Try.ntmps68
  go_wp2_with fail
  refine (l1Code_c _ _ _ hv).mono ?_
  rintro e w1 ⟨r, rfl, o1, b1⟩
  go_wp2_with fail
  refine (l1Sum_c _ _ _ o1.ints (codeOf_small HL.out) (by rw [codeOf_len]; exact HL.out)).mono ?_
  rintro e w2 ⟨rfl, rfl⟩
  clear o1
  go_wp2_with fail
  go_ret
  exact ⟨rfl, b1⟩

set_option maxHeartbeats 400000 in
theorem iLength_c (v : Value) (l : List Int) (w : World) (hv : IntsV w v l) :
    Calls Try.prog 18 #[v] w (GivesN w (lengthL l)) := by
  cases hp : isPermB l with
  | false =>
    have HR : Hid (lengthL l = -1) := Lib.hid (by simp [lengthL, hp])
    go_enter Try.func18, Try.ntmps18
    go_wp2_with fail
    refine (iIsPerm_c _ _ _ hv).mono ?_
    rintro e w1 ⟨rfl, b1⟩
    go_wp2_with fail
    go_ret
    rw [HR.out]
    exact ⟨rfl, b1⟩
  | true =>
    have HR : Hid (lengthL l = (codeOf l).sum) := Lib.hid (by simp [lengthL, lenOf, hp])
    have h7 := (isPermB_iff.1 hp).2.1
    have HS := Lib.hid (codeOf_small (l := l) (by omega))
    have H7 : Hid (codeL l = codeOf l ∧ (codeOf l).length ≤ 7) := Lib.hid ⟨by simp [codeL, hp], by rw [codeOf_len]; exact h7⟩
    clear h7
    go_enter Try.func18, Try.ntmps18
    go_wp2_with fail
    refine (iIsPerm_c _ _ _ hv).mono ?_
    rintro e w1 ⟨rfl, b1⟩
    go_wp2_with fail
    refine (iCode_c _ _ _ (hv.kept b1)).mono ?_
    rintro e w2 ⟨r, rfl, o2, b2⟩
    have F2 := below_step b1 b2 b1.size
    rw [H7.out.1] at o2
    obtain ⟨n, ao, b, off, c, rfl, HL, hnc, hcm, ha, hc, hn⟩ := o2.ints.open
    have hn7 : n ≤ 7 := by rw [HL.out]; exact H7.out.2
    clear b1 b2 o2 hcm
    go_wp2_with fail
    go_loop [3, 12] (fun k i => ∃ j : Nat, j ≤ n ∧ i = .int .i64 j ∧ k = .int .i64 (sumUp (codeOf l) j)) (fun _ i => n - (intOf i).toNat)
    case atStart => exact ⟨0, Nat.zero_le _, rfl, by rw [sumUp_zero]⟩
    case round =>
      obtain ⟨j, hj, rfl, rfl⟩ := hrel
      obtain ⟨hs1, hs2⟩ := sumUp_le HS.out j (by rw [← HL.out]; exact hj)
      by_cases hlt : j < n
      · obtain rfl := ha (by omega)
        have hcj := hc j hlt
        obtain ⟨x, hx⟩ : ∃ x, x = (codeOf l).getD j 0 := ⟨_, rfl⟩
        rw [← hx] at hcj
        have HX := Lib.hid (getElem?_of_getD hx (by rw [← HL.out]; exact hlt))
        have hxr := HS.out x (List.mem_of_getElem? HX.out)
        have e := Lib.hid (sumUp_succ HX.out)
        obtain ⟨S, hS⟩ : ∃ S, S = sumUp (codeOf l) j := ⟨_, rfl⟩
        have HSS := Lib.hid hS
        rw [← hS] at hs1 hs2 ⊢
        clear hc ha hx hS
        go_wp2
        go_round
        case rel => exact ⟨j + 1, by omega, by go_num, by rw [e.out, ← HSS.out]⟩
        case measure => simp [intOf]; omega
      · clear hc ha
        obtain rfl : j = n := by omega
        have e := Lib.hid (sumUp_all (codeOf l) HL.out)
        go_wp2
        go_ret
        rw [HR.out, e.out]
        exact ⟨rfl, F2⟩

end Go.Proofs.Ytfepepakellbbaa
