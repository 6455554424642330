/-
  Contracts: ParsePerm.
-/
import Derived.Test.YtdbfpagfikdclaaPermI
namespace Go.Proofs.Ytdbfpagfikdclaa
open Go.RowKit
set_option linter.unusedVariables false

/-- A list of ints and a bool. -/
def GivesIB (w : World) (l : List Int) (b : Bool) (e : Ending) (w' : World) : Prop := ∃ r, e = .returned (.tuple #[r, .bool b]) ∧ OwnI w.heap.size w' r l ∧ Below w.heap.size w w'

/-- The first j bytes, each less 49. -/
def ppUp (s : ByteArray) (j : Nat) : List Int := (s.data.toList.take j).map (fun b => (b.toNat : Int) - 49)
def ppAll (s : ByteArray) : List Int := ppUp s s.size
def ppB (s : ByteArray) : Bool := isPermB (ppAll s)
def ppL (s : ByteArray) : List Int := if ppB s = true then ppAll s else []
theorem ppUp_zero (s : ByteArray) : ppUp s 0 = [] := by simp [ppUp]
theorem ppUp_len (s : ByteArray) (j : Nat) : (ppUp s j).length ≤ j := by simp [ppUp]; omega
theorem ppUp_ge (s : ByteArray) (j : Nat) (h : j ≤ s.size) : (ppUp s j).length = j := by
  have : s.data.size = s.size := rfl
  simp [ppUp]; omega
theorem ppUp_succ {s : ByteArray} {j : Nat} (h : j < s.size) : ppUp s j ++ [(s[j].toNat : Int) - 49] = ppUp s (j + 1) := by
  have h' : j < s.data.toList.length := h
  rw [ppUp, ppUp, List.take_add_one, List.getElem?_eq_getElem h']
  simp; rfl

theorem wf_byte (b : UInt8) : 0 ≤ (b.toNat : Int) ∧ (b.toNat : Int) < 256 := by
  have := b.toNat_lt; omega

set_option maxHeartbeats 800000 in
theorem iPPerm_c (s : ByteArray) (w : World) (hs : s.size ≤ 1048576) :
    Calls Try.prog 39 #[.string s] w (GivesIB w (ppL s) (ppB s)) := by
  by_cases h7 : 7 < s.size
  · have hb : ppB s = false := not_perm_len (.inr (by rw [ppAll, ppUp_ge s _ (Nat.le_refl _)]; exact h7))
    have HB := Lib.hid hb
    have HL : Hid (ppL s = []) := Lib.hid (by simp [ppL, hb])
    clear hb
    go_enter Try.func39, Try.ntmps39
    go_wp2
    go_ret2
    rw [HB.out, HL.out]
    exact ⟨_, rfl, OwnI.nil _ _, Below.refl _ _⟩
  · go_enter Try.func39, Try.ntmps39
    go_wp2
    go_loopw [4, 12] (fun v i wr => ∃ j : Nat, j ≤ s.size ∧ i = .int .i64 j ∧ OwnI w.heap.size wr v (ppUp s j) ∧ Below w.heap.size w wr) (fun _ i _ => s.size - (intOf i).toNat)
    case atStart => exact ⟨0, Nat.zero_le _, rfl, ppUp_zero s ▸ OwnI.lit w, (Below.refl _ _).alloc (Nat.le_refl _) _⟩
    case round =>
      obtain ⟨j, hj, rfl, hO, hB⟩ := hrel
      have hlen : (ppUp s j).length + 1 ≤ 1099511627776 := by have := ppUp_len s j; omega
      have hsz := hB.size
      by_cases hlt : j < s.size
      · have e := Lib.hid (ppUp_succ hlt)
        have hb := wf_byte s[j]
        go_wp2_with (at_builtin; refine wpList_push wr rfl _ _ rfl hO rfl rfl hlen hsz ?_)
        intro v' w3 hO' hb1 _ _
        have hB' := hB.trans hb1
        rw [e.out] at hO'
        clear hO hB hb
        go_wp2
        go_roundw
        case rel => exact ⟨j + 1, by omega, by go_num, hO', hB'⟩
        case measure => simp [intOf]; omega
      · obtain rfl : j = s.size := by omega
        clear hlen
        cases hp : isPermB (ppUp s s.size) with
        | false =>
          have HB : Hid (ppB s = false) := Lib.hid hp
          have HL : Hid (ppL s = []) := Lib.hid (by simp [ppL, ppB, ppAll, hp])
          go_wp2_with fail
          refine (iIsPerm_c _ _ _ hO.ints).mono ?_
          rintro e w2 ⟨rfl, b2⟩
          have F2 := below_step hB b2 hsz
          go_wp2_with fail
          go_ret2
          rw [HB.out, HL.out]
          exact ⟨_, rfl, OwnI.nil _ _, F2⟩
        | true =>
          have HB : Hid (ppB s = true) := Lib.hid hp
          have HL : Hid (ppL s = ppUp s s.size) := Lib.hid (by simp [ppL, ppB, ppAll, hp])
          go_wp2_with fail
          refine (iIsPerm_c _ _ _ hO.ints).mono ?_
          rintro e w2 ⟨rfl, b2⟩
          have F2 := below_step hB b2 hsz
          have hO2 := hO.kept b2
          clear hO
          go_wp2_with fail
          go_ret2
          rw [HB.out, HL.out]
          exact ⟨_, rfl, hO2, F2⟩

set_option maxHeartbeats 800000 in
theorem sPPerm_c (s : ByteArray) (w : World) (hs : s.size ≤ 1048576) :
    Calls Try.prog 38 #[.string s] w (GivesIB w (ppL s) (ppB s)) := by
  obtain ⟨m, hm⟩ : ∃ m, m = min s.size 8 := ⟨_, rfl⟩
  have hm1 : m ≤ s.size := by omega
  have hm8 : m ≤ 8 := by omega
  have hm2 : m < s.size → m = 8 := by omega
  have HM := Lib.hid hm2
  have hpm : isPermB (ppUp s m) = ppB s := by
    by_cases h8 : s.size ≤ 8
    · have : m = s.size := by omega
      rw [this]; rfl
    · rw [not_perm_len (l := ppUp s m) (.inr (by rw [ppUp_ge s _ (by omega)]; omega)), ppB, not_perm_len (l := ppAll s) (.inr (by rw [ppAll, ppUp_ge s _ (Nat.le_refl _)]; omega))]
  have hpl : ppB s = true → ppUp s m = ppAll s := by
    intro h
    have := (isPermB_iff.1 h).2.1
    rw [ppAll, ppUp_ge s _ (Nat.le_refl _)] at this
    rw [ppAll, show m = s.size by omega]
  have HPM := Lib.hid hpm
  have HPL := Lib.hid hpl
  clear hm hm2 hpm hpl
  go_enter Try.func38, Try.ntmps38
  go_wp2
  go_loopw [4, 5] (fun v i wr => ∃ j : Nat, j ≤ m ∧ i = .int .i64 j ∧ OwnI w.heap.size wr v (ppUp s j) ∧ Below w.heap.size w wr) (fun _ i _ => m - (intOf i).toNat)
  case atStart => exact ⟨0, Nat.zero_le _, rfl, ppUp_zero s ▸ OwnI.lit w, (Below.refl _ _).alloc (Nat.le_refl _) _⟩
  case round =>
    obtain ⟨j, hj, rfl, hO, hB⟩ := hrel
    have hlen : (ppUp s j).length + 1 ≤ 1099511627776 := by have := ppUp_len s j; omega
    have hsz := hB.size
    by_cases hlt : j < m
    · have hlt2 : j < s.size := by omega
      have h7 : j ≤ 7 := by omega
      have e := Lib.hid (ppUp_succ hlt2)
      have hb := wf_byte s[j]
      go_wp2_with (at_builtin; refine wpList_push wr rfl _ _ rfl hO rfl rfl hlen hsz ?_)
      intro v' w3 hO' hb1 _ _
      have hB' := hB.trans hb1
      rw [e.out] at hO'
      clear hO hB hb
      go_wp2
      go_roundw
      case rel => exact ⟨j + 1, by omega, by go_num, hO', hB'⟩
      case measure => simp [intOf]; omega
    · obtain rfl : j = m := by omega
      clear hlen
      have hout : ¬ j < s.size ∨ (j < s.size ∧ ¬ j ≤ 7) := by
        by_cases h : j < s.size
        · have := HM.out h; exact .inr ⟨h, by omega⟩
        · exact .inl h
      rcases hout with hx | ⟨hx, hx7⟩
      all_goals
        cases hp : ppB s with
        | false =>
          have HL : Hid (ppL s = []) := Lib.hid (by simp [ppL, hp])
          have hq : isPermB (ppUp s j) = false := by rw [HPM.out, hp]
          have HB := Lib.hid hp
          clear hp
          go_wp2_with fail
          refine (sIsPerm_c _ _ _ hO.ints).mono ?_
          rintro e w2 ⟨rfl, b2⟩
          have F2 := below_step hB b2 hsz
          go_wp2_with fail
          go_ret2
          rw [HB.out, HL.out]
          exact ⟨_, rfl, OwnI.nil _ _, F2⟩
        | true =>
          have HL : Hid (ppL s = ppUp s j) := Lib.hid (by rw [HPL.out hp]; simp [ppL, hp])
          have hq : isPermB (ppUp s j) = true := by rw [HPM.out, hp]
          have HB := Lib.hid hp
          clear hp
          go_wp2_with fail
          refine (sIsPerm_c _ _ _ hO.ints).mono ?_
          rintro e w2 ⟨rfl, b2⟩
          have F2 := below_step hB b2 hsz
          have hO2 := hO.kept b2
          clear hO
          go_wp2_with fail
          go_ret2
          rw [HB.out, HL.out]
          exact ⟨_, rfl, hO2, F2⟩

end Go.Proofs.Ytdbfpagfikdclaa
