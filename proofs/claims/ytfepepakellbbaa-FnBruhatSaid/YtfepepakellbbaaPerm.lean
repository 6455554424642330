/-
  Contracts: l1In, l1Has, IsPerm of the reference and of the program.
-/
import Derived.Test.YtfepepakellbbaaGives
import Derived.Test.YtfepepakellbbaaPure
import Derived.Deep.OwnRows
namespace Go.Proofs.Ytfepepakellbbaa
open Go.RowKit
set_option linter.unusedVariables false

theorem l1In_c (x lo hi : Int) (w : World) :
    Calls Try.prog 52 #[.int .i64 x, .int .i64 lo, .int .i64 hi] w fun e w' => e = .returned (.bool (inB x lo hi)) ∧ w = w' := by
  by_cases h1 : lo ≤ x
  · by_cases h2 : x ≤ hi
    · go_enter Try.func52, Try.ntmps52
      go_wp2
      go_ret
      exact ⟨ret_bool (by simp [inB, h1, h2]), rfl⟩
    · have h2' : hi < x := by omega
      go_enter Try.func52, Try.ntmps52
      go_wp2
      go_ret
      exact ⟨ret_bool (by rw [inB_not (.inr h2')]), rfl⟩
  · have h1' : x < lo := by omega
    go_enter Try.func52, Try.ntmps52
    go_wp2
    go_ret
    exact ⟨ret_bool (by rw [inB_not (.inl h1')]), rfl⟩

theorem mem_take_succ {l : List Int} {j : Nat} {x y : Int} (hy : l[j]? = some y) : x ∈ l.take (j + 1) ↔ x ∈ l.take j ∨ x = y := by
  rw [List.take_add_one, hy]
  simp

set_option maxHeartbeats 400000 in
theorem l1Has_c (v : Value) (l : List Int) (x : Int) (w : World) (hv : IntsV w v l) :
    Calls Try.prog 53 #[v, .int .i64 x] w fun e w' => e = .returned (.bool (hasB l x)) ∧ w = w' := by
  obtain ⟨n, ao, b, off, c, rfl, HL, _, hcm, ha, hc, hn⟩ := hv.open
  clear hcm
  go_enter Try.func53, Try.ntmps53
  go_wp2
  go_loop [5] (fun i => ∃ j : Nat, j ≤ n ∧ i = .int .i64 j ∧ hasB (l.take j) x = false) (fun i => n - (intOf i).toNat)
  case atStart => exact ⟨0, Nat.zero_le _, rfl, by simp [hasB]⟩
  case round =>
    obtain ⟨j, hj, rfl, hno⟩ := hrel
    have HN := Lib.hid hno
    clear hno
    by_cases hlt : j < n
    · obtain rfl := ha (by omega)
      have hcj := hc j hlt
      obtain ⟨y, hy⟩ : ∃ y, y = l.getD j 0 := ⟨_, rfl⟩
      rw [← hy] at hcj
      have HY := Lib.hid (getElem?_of_getD hy (by rw [← HL.out]; exact hlt))
      clear hc ha hy
      by_cases hyx : y = x
      · have he : (y == x) = true := by simpa using hyx
        have hh : hasB l x = true := by simp only [hasB, decide_eq_true_eq]; rw [← hyx]; exact List.mem_of_getElem? HY.out
        have HH := Lib.hid hh
        clear hh hyx
        go_wp2
        go_ret
        exact ⟨ret_bool HH.out.symm, rfl⟩
      · have he : (y == x) = false := by simpa using hyx
        have hh : hasB (l.take (j + 1)) x = false := by
          have h0 := HN.out
          simp only [hasB, decide_eq_false_iff_not] at h0 ⊢
          rw [mem_take_succ HY.out]
          rintro (h | h)
          · exact h0 h
          · exact hyx h.symm
        have HH := Lib.hid hh
        clear hh hyx
        go_wp2
        go_round
        case rel => exact ⟨j + 1, by omega, by go_num, HH.out⟩
        case measure => simp [intOf]; omega
    · clear hc ha
      obtain rfl : j = n := by omega
      go_wp2
      go_ret
      have h0 := HN.out
      rw [List.take_of_length_le (by rw [← HL.out]; exact Nat.le_refl _)] at h0
      exact ⟨ret_bool h0.symm, rfl⟩

/-- The beginning of a slice. -/
theorem IntsV.take {w : World} {ao : Option Addr} {b off n c : Nat} {l : List Int} (hl : n = l.length) (hcm : c ≤ maxLen) (hnc : n ≤ c) (ha : 0 < c → ao = some ⟨b, off, none⟩)
    (hc : ∀ j, j < n → w.cell? ⟨b, off + j, none⟩ = some (.int .i64 (l.getD j 0))) (hn : n ≤ 1099511627776) (i : Nat) (hi : i ≤ n) : IntsV w (.slice ao i c) (l.take i) := by
  have e : (l.take i).length = i := by rw [List.length_take]; omega
  refine ⟨ao, b, off, c, by rw [e], by omega, hcm, ha, fun j hj => ?_, by omega⟩
  rw [e] at hj
  rw [hc j (by omega)]
  simp [List.getD_eq_getElem?_getD, hj]

theorem hasB_true {l : List Int} {x : Int} (h : hasB l x = true) : x ∈ l := by simpa [hasB] using h
theorem hasB_false {l : List Int} {x : Int} (h : hasB l x = false) : x ∉ l := by simpa [hasB] using h

set_option maxHeartbeats 800000 in
theorem sIsPerm_c (v : Value) (l : List Int) (w : World) (hv : IntsV w v l) :
    Calls Try.prog 20 #[v] w (GivesB w (isPermB l)) := by
  obtain ⟨n, ao, b, off, c, rfl, HL, hnc, hcm, ha, hc, hn⟩ := hv.open
  by_cases hr : 1 ≤ n ∧ n ≤ 7
  · have hin : inB (n : Int) 1 7 = true := inB_mk (by omega) (by omega)
    obtain rfl := ha (by omega)
    go_enter Try.func20, Try.ntmps20
    go_wp2_with (go_at_call 52; refine (l1In_c _ _ _ _).mono ?_; rintro e w' ⟨rfl, rfl⟩)
    go_loopw [3] (fun i wr => ∃ j : Nat, j ≤ n ∧ i = .int .i64 j ∧ GoodUp l j ∧ Below w.heap.size w wr) (fun i _ => n - (intOf i).toNat)
    case atStart => exact ⟨0, Nat.zero_le _, rfl, GoodUp.zero _, Below.refl _ _⟩
    case round =>
      obtain ⟨j, hj, rfl, hG, hB⟩ := hrel
      by_cases hlt : j < n
      · obtain ⟨y, hy⟩ : ∃ y, y = l.getD j 0 := ⟨_, rfl⟩
        have hcj : wr.cell? ⟨b, off + j, none⟩ = some (.int .i64 y) := by
          rw [hy, hB.cell (p := ⟨b, off + j, none⟩) (World.block_lt_of_cell? _ _ (hc j hlt))]; exact hc j hlt
        have hT : IntsV wr (.slice (some ⟨b, off, none⟩) j c) (l.take j) := IntsV.take HL.out hcm hnc (fun _ => rfl) (fun t ht => by
          rw [hB.cell (p := ⟨b, off + t, none⟩) (World.block_lt_of_cell? _ _ (hc t ht))]; exact hc t ht) hn j hj
        have HY := Lib.hid (getElem?_of_getD hy (by rw [← HL.out]; exact hlt))
        have hjn : (j : Int) < (n : Int) := by omega
        have hjc : (j : Int) ≤ (c : Int) := by omega
        clear hc ha hy hin
        have hn1 : IntKind.i64.wrap ((n : Int) - 1) = (n : Int) - 1 := IntWalk.i64_in _ (by omega)
        cases hi : inB y 0 ((n : Int) - 1) with
        | true =>
          have hi2 : (!inB y 0 ((n : Int) - 1)) = false := by rw [hi]; rfl
          cases hh : hasB (l.take j) y with
          | true =>
            have hbad : isPermB l = false := not_perm_at HY.out (.inr (.inr (hasB_true hh)))
            have HB := Lib.hid hbad
            clear hbad
            go_wp2_with fail
            go_quiet ((first | (go_at_call 52; exact quiet_back (l1In_c _ _ _ _)) | (go_at_call 53; exact quiet_back (l1Has_c _ _ _ _ hT))))
            go_wp2
            go_ret
            exact ⟨ret_bool HB.out.symm, below_drewN hB _⟩
          | false =>
            have hG' := hG.step HY.out (inB_true hi).1 (by have := (inB_true hi).2; have := HL.out; omega) (hasB_false hh)
            go_wp2_with fail
            go_quiet ((first | (go_at_call 52; exact quiet_back (l1In_c _ _ _ _)) | (go_at_call 53; exact quiet_back (l1Has_c _ _ _ _ hT))))
            go_wp2
            go_roundw
            case rel => exact ⟨j + 1, by omega, by go_num, hG', below_drewN hB _⟩
            case measure => simp [intOf]; omega
        | false =>
          have hi2 : (!inB y 0 ((n : Int) - 1)) = true := by rw [hi]; rfl
          have hbad : isPermB l = false := not_perm_at HY.out (by have := inB_false hi; have := HL.out; omega)
          have HB := Lib.hid hbad
          clear hbad
          go_wp2_with fail
          go_quiet ((first | (go_at_call 52; exact quiet_back (l1In_c _ _ _ _)) | (go_at_call 53; exact quiet_back (l1Has_c _ _ _ _ hT))))
          go_wp2
          go_ret
          exact ⟨ret_bool HB.out.symm, below_drewN hB _⟩
      · obtain rfl : j = n := by omega
        have hgood : isPermB l = true := perm_of_goodUp (by rw [← HL.out]; omega) (by rw [← HL.out]; omega) (by rw [← HL.out]; exact hG)
        have HB := Lib.hid hgood
        clear hgood hc ha
        go_wp2
        go_ret
        exact ⟨ret_bool HB.out.symm, hB⟩
  · have hin : inB (n : Int) 1 7 = false := inB_not (by omega)
    have hbad : isPermB l = false := not_perm_len (by rw [← HL.out]; omega)
    have HB := Lib.hid hbad
    clear hbad hc ha
    go_enter Try.func20, Try.ntmps20
    go_wp2_with (go_at_call 52; refine (l1In_c _ _ _ _).mono ?_; rintro e w' ⟨rfl, rfl⟩)
    go_ret
    exact ⟨ret_bool HB.out.symm, Below.refl _ _⟩

end Go.Proofs.Ytfepepakellbbaa
