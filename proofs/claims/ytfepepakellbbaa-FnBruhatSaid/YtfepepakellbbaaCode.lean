/-
  Contracts: CodeOf, LengthOf, l1Sum.
-/
import Derived.Test.YtfepepakellbbaaPermI
namespace Go.Proofs.Ytfepepakellbbaa
open Go.RowKit
set_option linter.unusedVariables false

/-- How many of the places from i + 1 on and before j bear less than the place i. -/
def cntUp (l : List Int) (i : Nat) : Nat → Nat
  | 0 => 0
  | j + 1 => cntUp l i j + if i < j ∧ l.getD j 0 < l.getD i 0 then 1 else 0
theorem cntUp_le (l : List Int) (i j : Nat) : cntUp l i j ≤ j := by
  induction j with
  | zero => simp [cntUp]
  | succ j ih => simp only [cntUp]; split <;> omega
theorem cntUp_low (l : List Int) (i : Nat) : ∀ j, j ≤ i + 1 → cntUp l i j = 0
  | 0, _ => rfl
  | j + 1, h => by
    have := cntUp_low l i j (by omega)
    simp only [cntUp, this]
    rw [if_neg (by omega)]
theorem cntUp_yes {l : List Int} {i j : Nat} (hij : i < j) {x y : Int} (hx : x = l.getD i 0) (hy : y = l.getD j 0) (h : y < x) : cntUp l i (j + 1) = cntUp l i j + 1 := by
  simp only [cntUp]
  rw [if_pos ⟨hij, by rw [← hx, ← hy]; exact h⟩]
theorem cntUp_no {l : List Int} {i j : Nat} {x y : Int} (hx : x = l.getD i 0) (hy : y = l.getD j 0) (h : ¬ y < x) : cntUp l i (j + 1) = cntUp l i j := by
  simp only [cntUp]
  rw [if_neg (by rw [← hx, ← hy]; exact fun c => h c.2)]
  rfl

/-- The rows before i are counted; the row i up to the place j. -/
def codeUp (l : List Int) (i j : Nat) : List Int := (List.range l.length).map (fun t => ((if t < i then cntUp l t l.length else if t = i then cntUp l i j else 0 : Nat) : Int))
def codeOf (l : List Int) : List Int := (List.range l.length).map (fun t => (cntUp l t l.length : Int))
def codeL (l : List Int) : List Int := if isPermB l = true then codeOf l else []
theorem codeUp_len (l : List Int) (i j : Nat) : (codeUp l i j).length = l.length := by simp [codeUp]
theorem codeUp_zero (l : List Int) : List.replicate l.length 0 = codeUp l 0 1 := by
  apply List.ext_getElem
  · simp [codeUp]
  · intro t h1 h2
    simp only [codeUp, List.getElem_replicate, List.getElem_map, List.getElem_range]
    rw [if_neg (by omega)]
    split
    · rw [cntUp_low l 0 1 (by omega)]; rfl
    · rfl
theorem codeUp_next (l : List Int) (i : Nat) : codeUp l i l.length = codeUp l (i + 1) (i + 2) := by
  apply List.ext_getElem
  · simp [codeUp]
  · intro t h1 h2
    simp only [codeUp, List.getElem_map, List.getElem_range]
    by_cases h : t < i
    · rw [if_pos h, if_pos (by omega)]
    · rw [if_neg h]
      by_cases e : t = i
      · subst e; rw [if_pos rfl, if_pos (by omega)]
      · rw [if_neg e, if_neg (by omega)]
        split
        · rename_i h3; subst h3; rw [cntUp_low _ _ _ (by omega)]
        · rfl
theorem codeUp_at {l : List Int} {i j : Nat} (h : i < l.length) : (codeUp l i j).getD i 0 = (cntUp l i j : Int) := by
  simp [codeUp, List.getD_eq_getElem?_getD, h]
theorem codeUp_set {l : List Int} {i j : Nat} {c : Int} (hi : i < l.length) (h : c = (cntUp l i (j + 1) : Int)) : (codeUp l i j).set i c = codeUp l i (j + 1) := by
  apply List.ext_getElem
  · simp [codeUp]
  · intro t h1 h2
    simp only [codeUp, List.getElem_map, List.getElem_range, List.getElem_set]
    by_cases e : i = t
    · subst e; rw [if_pos rfl, if_neg (by omega), if_pos rfl, h]
    · rw [if_neg e]
      by_cases h3 : t < i
      · rw [if_pos h3, if_pos h3]
      · rw [if_neg h3, if_neg h3, if_neg (by omega), if_neg (by omega)]
theorem codeUp_same {l : List Int} {i j : Nat} (h : cntUp l i (j + 1) = cntUp l i j) : codeUp l i (j + 1) = codeUp l i j := by
  simp only [codeUp, h]
theorem codeUp_all (l : List Int) (j : Nat) : codeUp l l.length j = codeOf l := by
  apply List.ext_getElem
  · simp [codeUp, codeOf]
  · intro t h1 h2
    simp only [codeUp, codeOf, List.getElem_map, List.getElem_range]
    rw [codeUp_len] at h1
    rw [if_pos h1]

set_option maxHeartbeats 1600000 in
theorem l1Code_c (v : Value) (l : List Int) (w : World) (hv : IntsV w v l) :
    Calls Try.prog 78 #[v] w (GivesI w (codeOf l)) := by
  obtain ⟨n, ao, b, off, c, rfl, HL, hnc, hcm, ha, hc, hn⟩ := hv.open
  clear hcm
  go_enter Try.func78, Try.ntmps78
  go_wp2_with (at_make; refine wpList_zeros _ rfl _ _ rfl n rfl rfl hn ?_)
  intro w1 hO hB
  rw [show List.replicate n 0 = codeUp l 0 1 by rw [HL.out]; exact codeUp_zero l] at hO
  go_wp2
  go_loopw [4] (fun i wr => ∃ j : Nat, j ≤ n ∧ i = .int .i64 j ∧ OwnI w.heap.size wr (.slice (some ⟨w.heap.size, 0, none⟩) n n) (codeUp l j (j + 1)) ∧ Below w.heap.size w wr) (fun i _ => n - (intOf i).toNat)
  case atStart => exact ⟨0, Nat.zero_le _, rfl, hO, hB⟩
  case round =>
    obtain ⟨i, hi, rfl, hOi, hBi⟩ := hrel
    clear hO hB
    obtain ⟨wo, rfl⟩ : ∃ wo : World, wo = wr := ⟨_, rfl⟩
    by_cases hlt : i < n
    · obtain rfl := ha (by omega)
      have hil : i < l.length := by rw [← HL.out]; exact hlt
      have Hil := Lib.hid hil
      clear hil
      obtain ⟨x, hx⟩ : ∃ x, x = l.getD i 0 := ⟨_, rfl⟩
      have HX := Lib.hid hx
      have hcx := (hc i hlt).trans (by rw [← hx])
      clear hx
      have HC := Lib.hid hc
      clear hc ha
      go_wp2
      go_loopw [5] (fun jj wr => ∃ j : Nat, i < j ∧ j ≤ n ∧ jj = .int .i64 j ∧ OwnI w.heap.size wr (.slice (some ⟨w.heap.size, 0, none⟩) n n) (codeUp l i j) ∧ Below w.heap.size w wr) (fun jj _ => n - (intOf jj).toNat)
      case atStart => exact ⟨i + 1, by omega, by omega, by go_num, hOi, hBi⟩
      case round =>
        obtain ⟨j, hij, hj, rfl, hOj, hBj⟩ := hrel
        clear hOi hBi
        by_cases hjn : j < n
        · obtain ⟨y, hy⟩ : ∃ y, y = l.getD j 0 := ⟨_, rfl⟩
          have hcy : wr.cell? ⟨b, off + j, none⟩ = some (.int .i64 y) := by
            rw [hy, hBj.cell (p := ⟨b, off + j, none⟩) (World.block_lt_of_cell? _ _ (HC.out j hjn))]; exact HC.out j hjn
          have hcx' : wr.cell? ⟨b, off + i, none⟩ = some (.int .i64 x) := by
            rw [hBj.cell (p := ⟨b, off + i, none⟩) (World.block_lt_of_cell? _ _ hcx)]; exact hcx
          have HY := Lib.hid hy
          have hji : (j : Int) < (n : Int) := by omega
          have hii : (i : Int) < (n : Int) := by omega
          clear hy
          by_cases hyx : y < x
          · have e := cntUp_yes hij HX.out HY.out hyx
            have hst : wr.cell? ⟨w.heap.size, i, none⟩ = some (.int .i64 (cntUp l i j : Int)) := by
              have := hOj.cellAt i (by rw [codeUp_len]; exact Hil.out)
              rw [codeUp_at Hil.out] at this; exact this
            have hfr := hOj.free i
            have hO2 := (hOj.store i ((cntUp l i j : Int) + 1)).1
            rw [codeUp_set Hil.out (by rw [e]; simp)] at hO2
            have hB2 := hBj.setCell (p := ⟨w.heap.size, i, none⟩) (Nat.le_refl _) (.int .i64 ((cntUp l i j : Int) + 1))
            have hle := cntUp_le l i j
            obtain ⟨k, hk⟩ : ∃ k : Nat, k = cntUp l i j := ⟨_, rfl⟩
            rw [← hk] at hst hO2 hB2 hle
            have hd : decide (y < x) = true := by simpa using hyx
            clear hk e hOj hBj
            go_wp2
            go_quiet (fail)
            have hO3 : OwnI w.heap.size ((wr.drewN nq).setCell ⟨w.heap.size, i, none⟩ (.int .i64 ((k : Int) + 1))) (.slice (some ⟨w.heap.size, 0, none⟩) n n) (codeUp l i (j + 1)) := hO2
            have hB3 : Below w.heap.size w ((wr.drewN nq).setCell ⟨w.heap.size, i, none⟩ (.int .i64 ((k : Int) + 1))) := below_drewN hB2 nq
            go_wp2
            go_roundw
            case rel => exact ⟨j + 1, by omega, by omega, by go_num, hO3, hB3⟩
            case measure => simp [intOf]; omega
          · have e := Lib.hid (codeUp_same (cntUp_no HX.out HY.out hyx))
            have hd : decide (y < x) = false := by simpa using hyx
            go_wp2
            go_quiet (fail)
            have hB3 := below_drewN hBj nq
            have hO3 := hOj
            rw [← e.out] at hO3
            clear hOj hBj
            go_wp2
            go_roundw
            case rel => exact ⟨j + 1, by omega, by omega, by go_num, hO3, hB3⟩
            case measure => simp [intOf]; omega
        · obtain rfl : j = n := by omega
          have hO3 := hOj
          rw [show codeUp l i j = codeUp l (i + 1) (i + 2) by rw [HL.out]; exact codeUp_next l i] at hO3
          clear hOj
          go_wp2
          go_roundw
          case rel => exact ⟨i + 1, by omega, by go_num, hO3, hBj⟩
          case measure => simp [intOf]; omega
    · obtain rfl : i = n := by omega
      clear hc ha
      go_wp2
      go_ret
      exact ⟨_, rfl, by rw [← codeUp_all l (i + 1), ← HL.out]; exact hOi, hBi⟩

set_option maxHeartbeats 1600000 in
theorem iCode_c (v : Value) (l : List Int) (w : World) (hv : IntsV w v l) :
    Calls Try.prog 50 #[v] w (GivesI w (codeL l)) := by
  cases hp : isPermB l with
  | false =>
    have HR : Hid (codeL l = []) := Lib.hid (by simp [codeL, hp])
    go_enter Try.func50, Try.ntmps50
    go_wp2_with fail
    refine (iIsPerm_c _ _ _ hv).mono ?_
    rintro e w1 ⟨rfl, b1⟩
    go_wp2_with fail
    go_ret
    rw [HR.out]
    exact ⟨_, rfl, OwnI.nil _ _, b1⟩
  | true =>
    have HR : Hid (codeL l = codeOf l) := Lib.hid (by simp [codeL, hp])
    obtain ⟨n, ao, b, off, c, rfl, HL, hnc, hcm, ha, hc, hn⟩ := hv.open
    have hn1 : 1 ≤ n := by rw [HL.out]; exact (isPermB_iff.1 hp).1
    have hn7 : n ≤ 7 := by rw [HL.out]; exact (isPermB_iff.1 hp).2.1
    obtain rfl := ha (by omega)
    clear hcm ha
    go_enter Try.func50, Try.ntmps50
    go_wp2_with fail
    refine (iIsPerm_c _ _ _ hv).mono ?_
    rintro e w0 ⟨rfl, b1⟩
    go_wp2_with (at_make; refine wpList_zeros _ rfl _ _ rfl n rfl rfl hn ?_)
    intro w1 hO hB
    rw [show List.replicate n 0 = codeUp l 0 1 by rw [HL.out]; exact codeUp_zero l] at hO
    have hs0 := b1.size
    have F1 := below_step b1 hB b1.size
    clear b1 hB
    go_wp2
    go_loopw [15] (fun i wr => ∃ j : Nat, j ≤ n ∧ i = .int .i64 j ∧ OwnI w0.heap.size wr (.slice (some ⟨w0.heap.size, 0, none⟩) n n) (codeUp l j (j + 1)) ∧ Below w.heap.size w wr) (fun i _ => n - (intOf i).toNat)
    case atStart => exact ⟨0, Nat.zero_le _, rfl, hO, F1⟩
    case round =>
      obtain ⟨i, hi, rfl, hOi, hBi⟩ := hrel
      clear hO F1
      obtain ⟨wo, rfl⟩ : ∃ wo : World, wo = wr := ⟨_, rfl⟩
      by_cases hlt : i < n
      · have Hil : Hid (i < l.length) := Lib.hid (by rw [← HL.out]; exact hlt)
        obtain ⟨x, hx⟩ : ∃ x, x = l.getD i 0 := ⟨_, rfl⟩
        have HX := Lib.hid hx
        have hcx := (hc i hlt).trans (by rw [← hx])
        clear hx
        have HC := Lib.hid hc
        clear hc
        have hic : (i : Int) + 1 ≤ (n : Int) := by omega
        by_cases hci : c = i + 1
        · -- nothing stands behind the last place
          have hni : n = i + 1 := by omega
          subst hni
          subst hci
          have hO3 := hOi
          rw [show codeUp l i (i + 1) = codeUp l (i + 1) (i + 2) by rw [← codeUp_next l i, ← HL.out]] at hO3
          clear hOi hic
          go_wp2
          refine wp_loop_rounds 1 ?_
          rw [rounds_succ]
          go_wp2
          go_roundw
          case rel => exact ⟨i + 1, by omega, by go_num, hO3, hBi⟩
          case measure => simp [intOf]
        · go_wp2
          go_loopw [23] (fun kk wr => ∃ k : Nat, i + 1 + k ≤ n ∧ kk = .int .i64 k ∧ OwnI w0.heap.size wr (.slice (some ⟨w0.heap.size, 0, none⟩) n n) (codeUp l i (i + 1 + k)) ∧ Below w.heap.size w wr) (fun kk _ => n - (intOf kk).toNat)
          case atStart => exact ⟨0, by omega, rfl, hOi, hBi⟩
          case round =>
            obtain ⟨k, hk, rfl, hOj, hBj⟩ := hrel
            clear hOi hBi
            by_cases hjn : i + 1 + k < n
            · obtain ⟨y, hy⟩ : ∃ y, y = l.getD (i + 1 + k) 0 := ⟨_, rfl⟩
              have hcy : wr.cell? ⟨b, off + (i + 1) + k, none⟩ = some (.int .i64 y) := by
                rw [hy, show off + (i + 1) + k = off + (i + 1 + k) by omega, hBj.cell (p := ⟨b, off + (i + 1 + k), none⟩) (World.block_lt_of_cell? _ _ (HC.out _ hjn))]; exact HC.out _ hjn
              have hcx' : wr.cell? ⟨b, off + i, none⟩ = some (.int .i64 x) := by
                rw [hBj.cell (p := ⟨b, off + i, none⟩) (World.block_lt_of_cell? _ _ hcx)]; exact hcx
              have HY := Lib.hid hy
              have hij : i < i + 1 + k := by omega
              clear hy
              by_cases hyx : y < x
              · have e := cntUp_yes hij HX.out HY.out hyx
                have hst : wr.cell? ⟨w0.heap.size, i, none⟩ = some (.int .i64 (cntUp l i (i + 1 + k) : Int)) := by
                  have := hOj.cellAt i (by rw [codeUp_len]; exact Hil.out)
                  rw [codeUp_at Hil.out] at this; exact this
                have hfr := hOj.free i
                have hO2 := (hOj.store i ((cntUp l i (i + 1 + k) : Int) + 1)).1
                rw [codeUp_set Hil.out (by rw [e]; simp)] at hO2
                have hB2 := hBj.setCell (p := ⟨w0.heap.size, i, none⟩) hs0 (.int .i64 ((cntUp l i (i + 1 + k) : Int) + 1))
                have hle := cntUp_le l i (i + 1 + k)
                obtain ⟨q, hq⟩ : ∃ q : Nat, q = cntUp l i (i + 1 + k) := ⟨_, rfl⟩
                rw [← hq] at hst hO2 hB2 hle
                clear hq e hOj hBj
                go_wp2
                go_roundw
                case rel => exact ⟨k + 1, by omega, by go_num, hO2, hB2⟩
                case measure => simp [intOf]; omega
              · have e := Lib.hid (codeUp_same (cntUp_no HX.out HY.out hyx))
                have hO3 := hOj
                rw [← e.out] at hO3
                clear hOj
                go_wp2
                go_roundw
                case rel => exact ⟨k + 1, by omega, by go_num, hO3, hBj⟩
                case measure => simp [intOf]; omega
            · have hkn : i + 1 + k = n := by omega
              have hO3 := hOj
              rw [show codeUp l i (i + 1 + k) = codeUp l (i + 1) (i + 2) by rw [hkn, HL.out]; exact codeUp_next l i] at hO3
              clear hOj hkn
              go_wp2
              go_roundw
              case rel => exact ⟨i + 1, by omega, by go_num, hO3, hBj⟩
              case measure => simp [intOf]; omega
      · obtain rfl : i = n := by omega
        clear hc
        go_wp2
        go_ret
        exact ⟨_, rfl, by rw [HR.out, ← codeUp_all l (i + 1), ← HL.out]; exact hOi.mono hs0, hBi⟩

end Go.Proofs.Ytfepepakellbbaa
