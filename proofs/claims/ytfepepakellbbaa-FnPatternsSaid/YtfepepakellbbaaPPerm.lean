/-
  Contracts: ParsePerm.
-/
import Derived.Test.YtfepepakellbbaaPermI
namespace Go.Proofs.Ytfepepakellbbaa
open Go.RowKit
set_option linter.unusedVariables false

/-- The first j bytes, each less 49. -/
def ppUp (s : ByteArray) (j : Nat) : List Int := (s.data.toList.take j).map (fun b => (b.toNat : Int) - 49)
def ppAll (s : ByteArray) : List Int := ppUp s s.size
def ppB (s : ByteArray) : Bool := isPermB (ppAll s)
def ppL (s : ByteArray) : List Int := if ppB s = true then ppAll s else []
theorem ppUp_zero (s : ByteArray) : ppUp s 0 = [] := by simp [ppUp]
theorem ppUp_len (s : ByteArray) (j : Nat) : (ppUp s j).length ≤ j := by simp [ppUp]; omega
theorem ppUp_ge (s : ByteArray) (j : Nat) (h : j ≤ s.size) : (ppUp s j).length = j := by
  have : s.data.size = s.size := rfl
  simp [ppUp]; omega
theorem ppUp_succ {s : ByteArray} {j : Nat} (h : j < s.size) : ppUp s j ++ [(s[j].toNat : Int) - 49] = ppUp s (j + 1) := by
  have h' : j < s.data.toList.length := h
  rw [ppUp, ppUp, List.take_add_one, List.getElem?_eq_getElem h']
  simp; rfl

theorem wf_byte (b : UInt8) : 0 ≤ (b.toNat : Int) ∧ (b.toNat : Int) < 256 := by
  have := b.toNat_lt; omega

set_option maxHeartbeats 800000 in
theorem iPPerm_c (s : ByteArray) (w : World) (hs : s.size ≤ 1048576) :
    Calls Try.prog 21 #[.string s] w (GivesIB w (ppL s) (ppB s)) := by
  by_cases h7 : 7 < s.size
  · have hb : ppB s = false := not_perm_len (.inr (by rw [ppAll, ppUp_ge s _ (Nat.le_refl _)]; exact h7))
    have HB := Lib.hid hb
    have HL : Hid (ppL s = []) := Lib.hid (by simp [ppL, hb])
    clear hb
    go_enter Try.func21, Try.ntmps21
    go_wp2
    go_ret2
    rw [HB.out, HL.out]
    exact ⟨_, rfl, OwnI.nil _ _, Below.refl _ _⟩
  · go_enter Try.func21, Try.ntmps21
    go_wp2
    go_loopw [4, 12] (fun v i wr => ∃ j : Nat, j ≤ s.size ∧ i = .int .i64 j ∧ OwnI w.heap.size wr v (ppUp s j) ∧ Below w.heap.size w wr) (fun _ i _ => s.size - (intOf i).toNat)
    case atStart => exact ⟨0, Nat.zero_le _, rfl, ppUp_zero s ▸ OwnI.lit w, (Below.refl _ _).alloc (Nat.le_refl _) _⟩
    case round =>
      obtain ⟨j, hj, rfl, hO, hB⟩ := hrel
      have hlen : (ppUp s j).length + 1 ≤ 1099511627776 := by have := ppUp_len s j; omega
      have hsz := hB.size
      by_cases hlt : j < s.size
      · have e := Lib.hid (ppUp_succ hlt)
        have hb := wf_byte s[j]
        go_wp2_with (at_builtin; refine wpList_push wr rfl _ _ rfl hO rfl rfl hlen hsz ?_)
        intro v' w3 hO' hb1 _ _
        have hB' := hB.trans hb1
        rw [e.out] at hO'
        clear hO hB hb
        go_wp2
        go_roundw
        case rel => exact ⟨j + 1, by omega, by go_num, hO', hB'⟩
        case measure => simp [intOf]; omega
      · obtain rfl : j = s.size := by omega
        clear hlen
        cases hp : isPermB (ppUp s s.size) with
        | false =>
          have HB : Hid (ppB s = false) := Lib.hid hp
          have HL : Hid (ppL s = []) := Lib.hid (by simp [ppL, ppB, ppAll, hp])
          go_wp2_with fail
          refine (iIsPerm_c _ _ _ hO.ints).mono ?_
          rintro e w2 ⟨rfl, b2⟩
          have F2 := below_step hB b2 hsz
          go_wp2_with fail
          go_ret2
          rw [HB.out, HL.out]
          exact ⟨_, rfl, OwnI.nil _ _, F2⟩
        | true =>
          have HB : Hid (ppB s = true) := Lib.hid hp
          have HL : Hid (ppL s = ppUp s s.size) := Lib.hid (by simp [ppL, ppB, ppAll, hp])
          go_wp2_with fail
          refine (iIsPerm_c _ _ _ hO.ints).mono ?_
          rintro e w2 ⟨rfl, b2⟩
          have F2 := below_step hB b2 hsz
          have hO2 := hO.kept b2
          clear hO
          go_wp2_with fail
          go_ret2
          rw [HB.out, HL.out]
          exact ⟨_, rfl, hO2, F2⟩

end Go.Proofs.Ytfepepakellbbaa
