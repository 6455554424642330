/-
  Contracts: IdentityPerm.
-/
import Derived.Test.YtfepepakellbbaaPerm
namespace Go.Proofs.Ytfepepakellbbaa
open Go.RowKit
set_option linter.unusedVariables false

theorem idL_succ (j : Nat) : idL (j + 1) = idL j ++ [(j : Int)] := by simp [idL, List.range_succ]
theorem identL_in {m : Nat} (h : inB (m : Int) 1 7 = true) : identL (m : Int) = idL m := by simp [identL, h]
theorem identL_out {n : Int} (h : inB n 1 7 = false) : identL n = [] := by simp [identL, h]

set_option maxHeartbeats 400000 in
theorem sIdent_c (n : Int) (w : World) : Calls Try.prog 71 #[.int .i64 n] w (GivesI w (identL n)) := by
  cases hin : inB n 1 7 with
  | false =>
    have HL := Lib.hid (identL_out hin)
    go_enter Try.func71, Try.ntmps71
    go_wp2_with (go_at_call 52; refine (l1In_c _ _ _ _).mono ?_; rintro e w' ⟨rfl, rfl⟩)
    go_ret
    rw [HL.out]
    exact ⟨_, rfl, OwnI.nil _ _, Below.refl _ _⟩
  | true =>
    have hb := inB_true hin
    obtain ⟨m, rfl⟩ : ∃ m : Nat, n = (m : Int) := ⟨n.toNat, by omega⟩
    have HL := Lib.hid (identL_in hin)
    have hm : m ≤ 7 := by omega
    go_enter Try.func71, Try.ntmps71
    go_wp2_with (go_at_call 52; refine (l1In_c _ _ _ _).mono ?_; rintro e w' ⟨rfl, rfl⟩)
    go_loopw [3, 4] (fun v i wr => ∃ j : Nat, j ≤ m ∧ i = .int .i64 j ∧ OwnI w.heap.size wr v (idL j) ∧ Below w.heap.size w wr) (fun _ i _ => m - (intOf i).toNat)
    case atStart => exact ⟨0, Nat.zero_le _, rfl, OwnI.lit w, (Below.refl _ _).alloc (Nat.le_refl _) _⟩
    case round =>
      obtain ⟨j, hj, rfl, hO, hB⟩ := hrel
      have hlen : (idL j).length + 1 ≤ 1099511627776 := by rw [idL_len]; omega
      have hsz := hB.size
      by_cases hlt : j < m
      · go_wp2_with (at_builtin; refine wpList_push wr rfl _ _ rfl hO rfl rfl hlen hsz ?_)
        intro v' w1 hO' hb1 _ _
        have hB' := hB.trans hb1
        rw [← idL_succ] at hO'
        clear hO hB
        go_wp2
        go_roundw
        case rel => exact ⟨j + 1, by omega, by go_num, hO', hB'⟩
        case measure => simp [intOf]; omega
      · obtain rfl : j = m := by omega
        clear hlen
        go_wp2
        go_ret
        rw [HL.out]
        exact ⟨_, rfl, hO, hB⟩

theorem isSize_c (n : Int) (w : World) :
    Calls Try.prog 62 #[.int .i64 n] w fun e w' => e = .returned (.bool (inB n 1 7)) ∧ w = w' := by
  by_cases h1 : 1 ≤ n
  · by_cases h2 : n ≤ 7
    · go_enter Try.func62, Try.ntmps62
      go_wp2
      go_ret
      exact ⟨ret_bool (by simp [inB, h1, h2]), rfl⟩
    · have h2' : 7 < n := by omega
      go_enter Try.func62, Try.ntmps62
      go_wp2
      go_ret
      exact ⟨ret_bool (by rw [inB_not (.inr h2')]), rfl⟩
  · have h1' : n < 1 := by omega
    go_enter Try.func62, Try.ntmps62
    go_wp2
    go_ret
    exact ⟨ret_bool (by rw [inB_not (.inl h1')]), rfl⟩

/-- What IdentityPerm gives, told so that nil and not nil are known. -/
def GivesIdent (w : World) (n : Int) (e : Ending) (w' : World) : Prop :=
  ∃ r, e = .returned r ∧ OwnI w.heap.size w' r (identL n) ∧ Below w.heap.size w w' ∧
    ((inB n 1 7 = false ∧ r = .slice none 0 0) ∨ (inB n 1 7 = true ∧ r = .slice (some ⟨w.heap.size, 0, none⟩) n.toNat n.toNat))

theorem Upto.id_step {cur : List Int} {m j : Nat} (h : Upto cur (idL m) j) (hj : j < m) : Upto (cur.set j (j : Int)) (idL m) (j + 1) :=
  h.step (by simp [idL, List.getD_eq_getElem?_getD, hj]) (by rw [idL_len]; exact hj)

set_option maxHeartbeats 400000 in
theorem iIdent_all (n : Int) (w : World) : Calls Try.prog 35 #[.int .i64 n] w (GivesIdent w n) := by
  cases hin : inB n 1 7 with
  | false =>
    have HL := Lib.hid (identL_out hin)
    have HI := Lib.hid hin
    go_enter Try.func35, Try.ntmps35
    go_wp2_with (go_at_call 62; refine (isSize_c _ _).mono ?_; rintro e w' ⟨rfl, rfl⟩)
    go_ret
    exact ⟨_, rfl, by rw [HL.out]; exact OwnI.nil _ _, Below.refl _ _, .inl ⟨HI.out, rfl⟩⟩
  | true =>
    have hb := inB_true hin
    obtain ⟨m, rfl⟩ : ∃ m : Nat, n = (m : Int) := ⟨n.toNat, by omega⟩
    have HL := Lib.hid (identL_in hin)
    have HI := Lib.hid hin
    have hm : m ≤ 7 := by omega
    have hm2 : m ≤ 1099511627776 := by omega
    go_enter Try.func35, Try.ntmps35
    go_wp2_with (first | (go_at_call 62; refine (isSize_c _ _).mono ?_; rintro e w' ⟨rfl, rfl⟩) | (at_make; refine wpList_zeros _ rfl _ _ rfl m rfl rfl hm2 ?_))
    intro w1 hO hB
    go_wp2
    go_loopw [12] (fun i wr => ∃ (j : Nat) (cur : List Int), j ≤ m ∧ i = .int .i64 j ∧ Upto cur (idL m) j ∧ OwnI w.heap.size wr (.slice (some ⟨w.heap.size, 0, none⟩) m m) cur ∧ Below w.heap.size w wr) (fun i _ => m - (intOf i).toNat)
    case atStart => exact ⟨0, _, Nat.zero_le _, rfl, ⟨by simp [idL_len], fun t ht => absurd ht (Nat.not_lt_zero _)⟩, hO, hB⟩
    case round =>
      obtain ⟨j, cur, hj, rfl, hup, hOr, hBr⟩ := hrel
      clear hO hB
      by_cases hlt : j < m
      · have hcur : j < cur.length := by rw [hup.1, idL_len]; exact hlt
        have hst := hOr.cellAt j hcur
        have hfr := hOr.free j
        have hfin := hup.id_step hlt
        have hO2 := (hOr.store j (j : Int)).1
        have hB2 := hBr.setCell (p := ⟨w.heap.size, j, none⟩) (Nat.le_refl _) (.int .i64 (j : Int))
        obtain ⟨z, hz⟩ : ∃ z, z = cur.getD j 0 := ⟨_, rfl⟩
        rw [← hz] at hst
        clear hz hOr hBr hcur
        go_wp2
        go_roundw
        case rel => exact ⟨j + 1, _, by omega, by go_num, hfin, hO2, hB2⟩
        case measure => simp [intOf]; omega
      · go_wp2
        go_ret
        obtain rfl : j = m := by omega
        have e : cur = idL j := Upto.done (by rw [idL_len]; exact hup)
        exact ⟨_, rfl, by rw [HL.out, ← e]; exact hOr, hBr, .inr ⟨HI.out, by simp⟩⟩

theorem iIdent_c (n : Int) (w : World) : Calls Try.prog 35 #[.int .i64 n] w (GivesI w (identL n)) :=
  (iIdent_all n w).mono fun e w' ⟨r, h1, h2, h3, _⟩ => ⟨r, h1, h2, h3⟩

end Go.Proofs.Ytfepepakellbbaa
