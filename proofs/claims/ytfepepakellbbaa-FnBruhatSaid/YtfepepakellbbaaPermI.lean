/-
  The program's IsPerm, by a table of what was met.
-/
import Derived.Test.YtfepepakellbbaaPerm
namespace Go.Proofs.Ytfepepakellbbaa
open Go.RowKit
set_option linter.unusedVariables false

set_option maxHeartbeats 800000 in
theorem iIsPerm_c (v : Value) (l : List Int) (w : World) (hv : IntsV w v l) :
    Calls Try.prog 34 #[v] w (GivesB w (isPermB l)) := by
  obtain ⟨n, ao, b, off, c, rfl, HL, hnc, hcm, ha, hc, hn⟩ := hv.open
  by_cases h1 : n < 1
  · have hbad : isPermB l = false := not_perm_len (by rw [← HL.out]; omega)
    have HB := Lib.hid hbad
    clear hbad hc ha hcm
    go_enter Try.func34, Try.ntmps34
    go_wp2
    go_ret
    exact ⟨ret_bool HB.out.symm, Below.refl _ _⟩
  by_cases h7 : 7 < n
  · have hbad : isPermB l = false := not_perm_len (by rw [← HL.out]; omega)
    have HB := Lib.hid hbad
    clear hbad hc ha hcm
    go_enter Try.func34, Try.ntmps34
    go_wp2
    go_ret
    exact ⟨ret_bool HB.out.symm, Below.refl _ _⟩
  obtain rfl := ha (by omega)
  clear ha hcm
  go_enter Try.func34, Try.ntmps34
  go_wp2
  have hrow : (w.alloc (Obj.cells #[Value.bool false, Value.bool false, Value.bool false, Value.bool false, Value.bool false, Value.bool false, Value.bool false] 68)).rowIs w.heap.size 68 7
      (fun t => .bool (hasB (l.take 0) (t : Int))) := World.rowIs_alloc w _ _ _ (fun i hi => by
    match i, hi with
    | 0, _ => rfl
    | 1, _ => rfl
    | 2, _ => rfl
    | 3, _ => rfl
    | 4, _ => rfl
    | 5, _ => rfl
    | 6, _ => rfl)
  have hB0 := (Below.refl w.heap.size w).alloc (Nat.le_refl _) (Obj.cells #[Value.bool false, Value.bool false, Value.bool false, Value.bool false, Value.bool false, Value.bool false, Value.bool false] 68)
  go_loopw [17] (fun i wr => ∃ j : Nat, j ≤ n ∧ i = .int .i64 j ∧ GoodUp l j ∧ wr.rowIs w.heap.size 68 7 (fun t => .bool (hasB (l.take j) (t : Int))) ∧ Below w.heap.size w wr) (fun i _ => n - (intOf i).toNat)
  case atStart => exact ⟨0, Nat.zero_le _, rfl, GoodUp.zero _, hrow, hB0⟩
  case round =>
    obtain ⟨j, hj, rfl, hG, hR, hB⟩ := hrel
    clear hrow hB0
    by_cases hlt : j < n
    · obtain ⟨y, hy⟩ : ∃ y, y = l.getD j 0 := ⟨_, rfl⟩
      have hcj : wr.cell? ⟨b, off + j, none⟩ = some (.int .i64 y) := by
        rw [hy, hB.cell (p := ⟨b, off + j, none⟩) (World.block_lt_of_cell? _ _ (hc j hlt))]; exact hc j hlt
      have HY := Lib.hid (getElem?_of_getD hy (by rw [← HL.out]; exact hlt))
      clear hc hy
      by_cases hy0 : y < 0
      · have hbad : isPermB l = false := not_perm_at HY.out (.inl hy0)
        have HB := Lib.hid hbad
        clear hbad
        go_wp2
        go_ret
        exact ⟨ret_bool HB.out.symm, hB⟩
      · by_cases hyn : (n : Int) ≤ y
        · have hbad : isPermB l = false := not_perm_at HY.out (.inr (.inl (by have := HL.out; omega)))
          have HB := Lib.hid hbad
          clear hbad
          go_wp2
          go_ret
          exact ⟨ret_bool HB.out.symm, hB⟩
        · obtain ⟨t, rfl⟩ : ∃ t : Nat, y = (t : Int) := ⟨y.toNat, by omega⟩
          have htn : t < n := by omega
          have ht7 : t < 7 := by omega
          have hct := hR.cell ht7
          have hfr := hR.frozen t
          cases hh : hasB (l.take j) (t : Int) with
          | true =>
            have hbad : isPermB l = false := not_perm_at HY.out (.inr (.inr (hasB_true hh)))
            have HB := Lib.hid hbad
            rw [hh] at hct
            clear hbad hh
            go_wp2
            go_ret
            exact ⟨ret_bool HB.out.symm, hB⟩
          | false =>
            have hG' := hG.step HY.out (by omega) (by have := HL.out; omega) (hasB_false hh)
            rw [hh] at hct
            clear hh
            have hR' := (hR.set t (.bool true)).congr (g := fun s => .bool (hasB (l.take (j + 1)) (s : Int))) (fun s _ => by
              by_cases e : s = t
              · subst e
                rw [if_pos rfl]
                have : hasB (l.take (j + 1)) (s : Int) = true := by simp only [hasB, decide_eq_true_eq]; rw [mem_take_succ HY.out]; exact .inr rfl
                rw [this]
              · rw [if_neg e]
                congr 1
                have e2 : ¬ (s : Int) = (t : Int) := by omega
                simp only [hasB, decide_eq_decide]
                rw [mem_take_succ HY.out]
                constructor
                · exact .inl
                · rintro (h | h)
                  · exact h
                  · exact absurd h e2)
            have hB' := hB.setCell (p := ⟨w.heap.size, t, none⟩) (Nat.le_refl _) (.bool true)
            go_wp2
            go_roundw
            case rel => exact ⟨j + 1, by omega, by go_num, hG', hR', hB'⟩
            case measure => simp [intOf]; omega
    · obtain rfl : j = n := by omega
      have hgood : isPermB l = true := perm_of_goodUp (by rw [← HL.out]; omega) (by rw [← HL.out]; omega) (by rw [← HL.out]; exact hG)
      have HB := Lib.hid hgood
      clear hgood hc
      go_wp2
      go_ret
      exact ⟨ret_bool HB.out.symm, hB⟩

end Go.Proofs.Ytfepepakellbbaa
