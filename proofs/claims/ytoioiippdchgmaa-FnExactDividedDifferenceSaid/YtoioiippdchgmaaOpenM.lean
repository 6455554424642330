/-
  open: a list of terms as a map.
-/
import Derived.Test.YtoioiippdchgmaaPlus
import Derived.Test.YtoioiippdchgmaaPoly
import Derived.Deep.QuietTactic
import Derived.Deep.RegionHeld3
namespace Go.Proofs.Ytoioiippdchgmaa
open Go.RowKit Go.Maps
set_option linter.unusedVariables false
set_option linter.unusedSimpArgs false

theorem cell_grown {w w' : World} {mb : Nat} (h : w.grownBy w' (some mb)) {p : Addr} (hp : p.block ≠ mb) {u : Value} (hc : w.cell? p = some u) : w'.cell? p = some u := by
  have hlt := World.block_lt_of_cell? w p hc
  have hb := h.block p.block hlt (by simp [hp])
  simp only [World.cell?] at hc ⊢
  rw [hb]; exact hc
theorem range_grown {w w' : World} {mb b o : Nat} {cs : List Value} (h : w.grownBy w' (some mb)) (hp : b ≠ mb) (hc : w.rangeAt b o cs) : w'.rangeAt b o cs := fun j v hv => cell_grown h hp (hc j v hv)
theorem termOk_E7 {e : List Int} {c : Int} (h : TermOk e c) : E7 e := ⟨h.1, fun x hx => by
  obtain ⟨i, hi, rfl⟩ := List.getElem_of_mem hx
  have h1 := h.2.2.2 i (by rw [← h.1]; exact hi)
  rw [List.getD_eq_getElem?_getD, List.getElem?_eq_getElem hi, Option.getD_some] at h1
  omega⟩
theorem coef_bnd {e : List Int} {c : Int} (h : TermOk e c) : -1000000 ≤ c ∧ c ≤ 1000000 := by
  have := h.2.2.1
  simpa [inB] using this
theorem polyB_take_bnd {ts : TermL} (h : polyB ts = true) (j : Nat) (e : List Int) : -600000000 ≤ val (ts.take j) e ∧ val (ts.take j) e ≤ 600000000 := by
  have hl : (ts.take j).length ≤ 600 := by have := (polyB_iff.1 h).1; rw [List.length_take]; omega
  have hv := val_bnd (l := ts.take j) (B := 1000000) (by decide) (fun p hp => by
    obtain ⟨i, hi, rfl⟩ := List.getElem_of_mem (List.mem_of_mem_take hp)
    exact coef_bnd ((polyB_iff.1 h).2 i hi _ _ (List.getElem?_eq_getElem hi)).1) e
  omega

set_option maxRecDepth 100000 in
set_option maxHeartbeats 1600000 in
theorem openM_c (v : Value) (ts : TermL) (w : World) (hv : TermsV w v ts) (hP : polyB ts = true) :
    Calls Try.prog 30 #[v] w fun e' w' => ∃ D n, e' = .returned (.map (some w.heap.size)) ∧ OwnE w' w.heap.size n D ∧ n ≤ 600 ∧ HoldsF D (val ts) ∧ Below w.heap.size w w' := by
  obtain ⟨n, ao, b, c, rfl, HL, hnc, hcm, ha, hc, hn⟩ := hv.open
  have HC := Lib.hid hc
  have hn6 : n ≤ 600 := by rw [HL.out]; exact (polyB_iff.1 hP).1
  have HPO := Lib.hid (polyB_iff.1 hP).2
  have HB := Lib.hid (polyB_take_bnd hP)
  have hmm := @run_makeMap Try.prog
  clear hc hcm hP hv
  go_enter Try.func30, Try.ntmps30
  go_wp2_with fail
  go_loopw [9] (fun iv wr => ∃ (j k : Nat) (D : DataW Unit), j ≤ n ∧ iv = .int .i64 j ∧ OwnE wr w.heap.size k D ∧ k ≤ j ∧ HoldsF D (val (ts.take j)) ∧ Below w.heap.size w wr) (fun iv _ => n - (intOf iv).toNat)
  case atStart => exact ⟨0, 0, .map [], Nat.zero_le _, rfl, World.ownsMap_made _ _ _ _, Nat.le_refl _, HoldsF.empty, (Below.refl _ _).alloc (Nat.le_refl _) _⟩
  case round =>
    obtain ⟨j, k, D, hj, rfl, hown, hkj, hF, hB⟩ := hrel
    by_cases hlt : j < n
    · obtain rfl := ha (by omega)
      obtain ⟨x, hx⟩ : ∃ x, ts[j]? = some x := ⟨_, List.getElem?_eq_getElem (by rw [← HL.out]; exact hlt)⟩
      obtain ⟨e, d⟩ := x
      obtain ⟨q, h1, h2, hq⟩ := HC.out j e d hx
      have k1 := (hB.cell (World.block_lt_of_cell? _ _ h1)).trans h1
      have k2 := (hB.cell (World.block_lt_of_cell? _ _ h2)).trans h2
      have HX := Lib.hid hx
      have HT := Lib.hid (HPO.out j (by rw [← HL.out]; exact hlt) e d hx).1
      obtain ⟨qn, qao, qb, qoff, qc, rfl, HQ, hqnc, hqcm, hqa, hqc, hqn⟩ := hq.open
      have hq7 : qn = 7 := HQ.out.trans HT.out.1
      subst hq7
      obtain rfl := hqa (by omega)
      have hmb := hown.lt
      have hqb : qb < w.heap.size := World.block_lt_of_cell? _ _ (hqc 0 (by omega))
      have hj0 : (0 : Int) ≤ (j : Int) := Int.natCast_nonneg _
      have hj1 : (j : Int) < (n : Int) := by omega
      have HR := Lib.hid (show wr.rangeAt qb qoff (arrC e) from fun i v hv => by
        obtain ⟨hi, rfl⟩ := List.getElem?_eq_some_iff.1 hv
        have hi' : i < e.length := by simpa [arrC] using hi
        rw [(hB.cell (p := ⟨qb, qoff + i, none⟩) hqb), hqc i (by rw [← HT.out.1]; exact hi'), List.getD_eq_getElem?_getD, List.getElem?_eq_getElem hi']
        simp [arrC])
      clear h1 h2 hx hqc hq
      go_wp2_with fail
      have hWB := hB.alloc hB.size (Obj.cells #[.slice (some ⟨qb, qoff, none⟩) 7 qc, .int .i64 d] 46)
      have hwo := hown.alloc (Obj.cells #[.slice (some ⟨qb, qoff, none⟩) 7 qc, .int .i64 d] 46)
      have HC1 := Lib.hid (show (wr.alloc (Obj.cells #[.slice (some ⟨qb, qoff, none⟩) 7 qc, .int .i64 d] 46)).drew.cell? ⟨wr.heap.size, 0, none⟩ = some (.slice (some ⟨qb, qoff, none⟩) 7 qc) by simp)
      have HC2 := Lib.hid (show (wr.alloc (Obj.cells #[.slice (some ⟨qb, qoff, none⟩) 7 qc, .int .i64 d] 46)).drew.cell? ⟨wr.heap.size, 1, none⟩ = some (.int .i64 d) by simp)
      have HRR := Lib.hid (show (wr.alloc (Obj.cells #[.slice (some ⟨qb, qoff, none⟩) 7 qc, .int .i64 d] 46)).drew.rangeAt qb qoff (arrC e) by simpa using World.rangeAt_alloc HR.out _)
      have hgm : wr.heap.size ≠ w.heap.size := by omega
      have hgr0 : (wr.alloc (Obj.cells #[.slice (some ⟨qb, qoff, none⟩) 7 qc, .int .i64 d] 46)).drew.grownBy (wr.alloc (Obj.cells #[.slice (some ⟨qb, qoff, none⟩) 7 qc, .int .i64 d] 46)).drew (some w.heap.size) := ⟨rfl, rfl, rfl, Nat.le_refl _, fun _ _ _ => rfl⟩
      have hap : ∀ w' : World, (Instr.arrayAt 59 (.slice (some ⟨qb, qoff, none⟩) 7 qc)).run Try.prog w' = .ok (.pointer (some ⟨qb, qoff, none⟩)) w' := fun w' => by simp [Instr.arrayAt, run_underlying Try.underlying59]
      have HAI := Lib.hid (show (Try.prog.info? 59).map (·.size) = some (arrC e).length by simpa using arr_info (termOk_E7 HT.out))
      have hwd := hwo.drew
      have hWD := below_drewT hWB
      clear hwo hWB
      refine wp_region_noPanic ?_
      refine wp_region_held_drew (S := (fun w' => (wr.alloc (Obj.cells #[.slice (some ⟨qb, qoff, none⟩) 7 qc, .int .i64 d] 46)).drew.grownBy w' (some w.heap.size))) (by kernel_rfl) hgr0 (fun hHeld => ?_)
      clear hgr0
      generalize (wr.alloc (Obj.cells #[.slice (some ⟨qb, qoff, none⟩) 7 qc, .int .i64 d] 46)).drew = W at hHeld hWD hwd HC1 HC2 HRR ⊢
      refine wpAnyH_take (i := 0) (v := ?_) rfl (by kernel_rfl) (by kernel_rfl) (by kernel_rfl) (fun _ _ _ h => h) (Or.inl ⟨by rfl, ?_⟩) hHeld ?_
      rotate_left
      · (intro w' hSw; have hS1 := cell_grown hSw hgm HC1.out; have hS2 := cell_grown hSw hgm HC2.out; clear hSw; go_simp; try with_reducible rfl)
      try simp only [Act.put, List.getElem_toArray, List.getElem_cons_succ, List.getElem_cons_zero, List.setIfInBounds_toArray, List.set_cons_zero, List.set_cons_succ]
      refine wpAnyH_take (i := 1) (v := ?_) rfl (by kernel_rfl) (by kernel_rfl) (by kernel_rfl) (fun _ _ _ h => h) (Or.inl ⟨by rfl, ?_⟩) hHeld ?_
      rotate_left
      · (intro w' hSw; have hS1 := cell_grown hSw hgm HC1.out; have hS2 := cell_grown hSw hgm HC2.out; clear hSw; go_simp; try with_reducible rfl)
      try simp only [Act.put, List.getElem_toArray, List.getElem_cons_succ, List.getElem_cons_zero, List.setIfInBounds_toArray, List.set_cons_zero, List.set_cons_succ]
      refine wpAnyH_take (i := 2) (v := ?_) rfl (by kernel_rfl) (by kernel_rfl) (by kernel_rfl) (fun _ _ _ h => h) (Or.inl ⟨by rfl, ?_⟩) hHeld ?_
      rotate_left
      · (intro w' hSw; have hS1 := cell_grown hSw hgm HC1.out; have hS2 := cell_grown hSw hgm HC2.out; clear hSw; go_simp; try with_reducible rfl)
      try simp only [Act.put, List.getElem_toArray, List.getElem_cons_succ, List.getElem_cons_zero, List.setIfInBounds_toArray, List.set_cons_zero, List.set_cons_succ]
      refine wpAnyH_take (i := 3) (v := ?_) rfl (by kernel_rfl) (by kernel_rfl) (by kernel_rfl) (fun _ _ _ h => h) (Or.inl ⟨by rfl, ?_⟩) hHeld ?_
      rotate_left
      · (intro w' hSw; have hS1 := cell_grown hSw hgm HC1.out; have hS2 := cell_grown hSw hgm HC2.out; clear hSw; go_simp; try with_reducible rfl)
      try simp only [Act.put, List.getElem_toArray, List.getElem_cons_succ, List.getElem_cons_zero, List.setIfInBounds_toArray, List.set_cons_zero, List.set_cons_succ]
      refine wpAnyH_take (i := 4) (v := .agg (arrC e).toArray) rfl (by kernel_rfl) (by kernel_rfl) (by kernel_rfl) (fun _ _ _ h => h) (yieldsIf_load_mid (by rfl) _ _ rfl qb qoff rfl (arrC e) _ (fun _ h => range_grown h (by omega) HRR.out) Try.underlying59 rfl HAI.out) hHeld ?_
      try simp only [Act.put, List.getElem_toArray, List.getElem_cons_succ, List.getElem_cons_zero, List.setIfInBounds_toArray, List.set_cons_zero, List.set_cons_succ]
      refine wpAnyH_take (i := 5) (v := ?_) rfl (by kernel_rfl) (by kernel_rfl) (by kernel_rfl) (fun _ _ _ h => h) (Or.inl ⟨by rfl, ?_⟩) hHeld ?_
      rotate_left
      · (intro w' hSw; have hS1 := cell_grown hSw hgm HC1.out; have hS2 := cell_grown hSw hgm HC2.out; clear hSw; go_simp; try with_reducible rfl)
      try simp only [Act.put, List.getElem_toArray, List.getElem_cons_succ, List.getElem_cons_zero, List.setIfInBounds_toArray, List.set_cons_zero, List.set_cons_succ]
      refine wpAnyH_take (i := 6) (v := ?_) rfl (by kernel_rfl) (by kernel_rfl) (by kernel_rfl) (fun _ _ _ h => h) (Or.inl ⟨by rfl, ?_⟩) hHeld ?_
      rotate_left
      · (intro w' hSw; have hS1 := cell_grown hSw hgm HC1.out; have hS2 := cell_grown hSw hgm HC2.out; clear hSw; go_simp; try with_reducible rfl)
      try simp only [Act.put, List.getElem_toArray, List.getElem_cons_succ, List.getElem_cons_zero, List.setIfInBounds_toArray, List.set_cons_zero, List.set_cons_succ]
      refine wpAnyH_ready (rs := [7]) (by kernel_rfl) (by simp) ?_
      refine AllReadyH.cons rfl (fun K hK => ?_) AllReadyH.nil
      go_simp
      (go_at_call 39; refine (add_c w.heap.size k D (val (ts.take j)) e d _ hwd hF (termOk_E7 HT.out) (by omega) ?_).mono ?_)
      · have h1 := HB.out j e
        have h2 := coef_bnd HT.out
        omega
      rintro e2 w3 ⟨rfl, ⟨D', hout3, hD3⟩, hg3⟩
      refine hK.out _ _ hg3 (fun hHeld2 => ?_)
      clear hK K hHeld
      try simp only [Act.put, List.getElem_toArray, List.getElem_cons_succ, List.getElem_cons_zero, List.setIfInBounds_toArray, List.set_cons_zero, List.set_cons_succ]
      refine wpAnyH_done (by kernel_rfl) ?_ _
      refine NoPanic.normal ?_
      go_wp2_with fail
      go_roundw
      case rel =>
        refine ⟨j + 1, k + 1, D', by omega, by go_num, hout3, by omega, ?_, hWD.grown hg3 hWD.size (fun i hi => by cases hi; exact Nat.le_refl _)⟩
        rw [val_snoc] at hD3
        rw [List.take_add_one, HX.out]
        exact hD3
      case measure => simp [intOf]; omega
    · obtain rfl : j = n := by omega
      go_wp2_with fail
      go_ret
      rw [HL.out, List.take_length] at hF
      exact ⟨D, k, rfl, hown, by omega, hF, hB⟩

end Go.Proofs.Ytoioiippdchgmaa
