/-
  Contracts: PolyOk.
-/
import Derived.Test.YtoioiippdchgmaaTerm
import Derived.Test.YtoioiippdchgmaaPerm
import Derived.Test.YtoioiippdchgmaaKey
namespace Go.Proofs.Ytoioiippdchgmaa
open Go.RowKit
set_option linter.unusedVariables false

def ExpTo (e : List Int) (j : Nat) : Prop := ∀ t, t < j → 0 ≤ e.getD t 0 ∧ e.getD t 0 ≤ 24
def TermOk (e : List Int) (c : Int) : Prop := e.length = 7 ∧ c ≠ 0 ∧ inB c (-1000000) 1000000 = true ∧ ExpTo e 7
/-- The first k terms are right. -/
def PolyTo (ts : TermL) (k : Nat) : Prop := ∀ t, t < k → ∀ e c, ts[t]? = some (e, c) → TermOk e c ∧ (∀ e' c', 0 < t → ts[t - 1]? = some (e', c') → keyOf e < keyOf e')
noncomputable def polyB (ts : TermL) : Bool := @decide (ts.length ≤ 600 ∧ PolyTo ts ts.length) (Classical.propDecidable _)
theorem polyB_yes {ts : TermL} (h1 : ts.length ≤ 600) (h2 : PolyTo ts ts.length) : polyB ts = true := by
  unfold polyB; exact @decide_eq_true _ (Classical.propDecidable _) ⟨h1, h2⟩
theorem polyB_iff {ts : TermL} : polyB ts = true ↔ ts.length ≤ 600 ∧ PolyTo ts ts.length := by
  unfold polyB; exact @decide_eq_true_iff _ (Classical.propDecidable _)
theorem polyB_no {ts : TermL} (h : ¬ (ts.length ≤ 600 ∧ PolyTo ts ts.length)) : polyB ts = false := by
  cases e : polyB ts with
  | false => rfl
  | true => exact absurd (polyB_iff.1 e) h
theorem polyB_big {ts : TermL} (h : 600 < ts.length) : polyB ts = false := polyB_no fun h2 => by omega
theorem polyB_term {ts : TermL} {k : Nat} {e : List Int} {c : Int} (hk : ts[k]? = some (e, c)) (h : ¬ TermOk e c) : polyB ts = false :=
  polyB_no fun h2 => h (h2.2 k (List.getElem?_eq_some_iff.1 hk).1 e c hk).1
theorem polyB_key {ts : TermL} {k : Nat} {e e' : List Int} {c c' : Int} (hk : ts[k + 1]? = some (e, c)) (hk' : ts[k]? = some (e', c')) (h : ¬ keyOf e < keyOf e') : polyB ts = false :=
  polyB_no fun h2 => h ((h2.2 (k + 1) (List.getElem?_eq_some_iff.1 hk).1 e c hk).2 e' c' (Nat.succ_pos _) (by simpa using hk'))
theorem PolyTo.zero (ts : TermL) : PolyTo ts 0 := fun t ht => absurd ht (Nat.not_lt_zero _)
theorem PolyTo.step0 {ts : TermL} {e : List Int} {c : Int} (hk : ts[0]? = some (e, c)) (ht : TermOk e c) : PolyTo ts 1 := by
  intro t h e' c' he
  obtain rfl : t = 0 := by omega
  rw [hk] at he
  simp at he
  obtain ⟨rfl, rfl⟩ := he
  exact ⟨ht, fun _ _ h => absurd h (Nat.lt_irrefl 0)⟩
theorem PolyTo.step {ts : TermL} {k : Nat} {e e' : List Int} {c c' : Int} (h : PolyTo ts (k + 1)) (hk : ts[k + 1]? = some (e, c)) (hk' : ts[k]? = some (e', c')) (ht : TermOk e c) (hlt : keyOf e < keyOf e') : PolyTo ts (k + 2) := by
  intro t h1 x d hx
  by_cases e1 : t = k + 1
  · subst e1
    rw [hk] at hx
    simp at hx
    obtain ⟨rfl, rfl⟩ := hx
    refine ⟨ht, fun x' d' _ hx' => ?_⟩
    simp at hx'
    rw [hk'] at hx'
    simp at hx'
    obtain ⟨rfl, rfl⟩ := hx'
    exact hlt
  · exact h t (by omega) x d hx
theorem ExpTo.exps {e : List Int} {c : Int} (h : TermOk e c) : Exps e := by
  intro x hx
  obtain ⟨i, hi, rfl⟩ := List.mem_iff_getElem.1 hx
  have := h.2.2.2 i (by have := h.1; omega)
  rw [List.getD_eq_getElem?_getD, List.getElem?_eq_getElem hi] at this
  simp at this
  omega
theorem ExpTo.step {e : List Int} {j : Nat} {x : Int} (h : ExpTo e j) (hx : x = e.getD j 0) (h0 : 0 ≤ x) (h1 : x ≤ 24) : ExpTo e (j + 1) := by
  intro t ht
  by_cases e1 : t = j
  · subst e1; rw [← hx]; exact ⟨h0, h1⟩
  · exact h t (by omega)

set_option maxHeartbeats 3200000 in
theorem sPolyOk_c (v : Value) (ts : TermL) (w : World) (hv : TermsV w v ts) :
    Calls Try.prog 21 #[v] w (GivesB w (polyB ts)) := by
  obtain ⟨n, ao, b, c, rfl, HL, hnc, hcm, ha, hc, hn⟩ := hv.open
  have HC := Lib.hid hc
  clear hc hcm
  by_cases hbig : 600 < n
  · have HR := Lib.hid (polyB_big (ts := ts) (by rw [← HL.out]; exact hbig))
    go_enter Try.func21, Try.ntmps21
    go_wp2_with fail
    go_ret
    exact ⟨ret_bool HR.out.symm, Below.refl _ _⟩
  · go_enter Try.func21, Try.ntmps21
    go_wp2_with fail
    go_loopw [3] (fun iv wr => ∃ k : Nat, k ≤ n ∧ iv = .int .i64 k ∧ Hid (PolyTo ts k) ∧ Below w.heap.size w wr) (fun iv _ => n - (intOf iv).toNat)
    case atStart => exact ⟨0, Nat.zero_le _, rfl, Lib.hid (PolyTo.zero _), Below.refl _ _⟩
    case round =>
      obtain ⟨k, hk, rfl, HT, hB⟩ := hrel
      by_cases hlt : k < n
      · obtain rfl := ha (by omega)
        obtain ⟨t, ht⟩ : ∃ t, ts[k]? = some t := ⟨_, List.getElem?_eq_getElem (by rw [← HL.out]; exact hlt)⟩
        obtain ⟨e, d⟩ := t
        have HK := Lib.hid ht
        obtain ⟨u, h1, h2, hu⟩ := HC.out k e d ht
        have hcell : ∀ (a : Addr) (x : Value), w.cell? a = some x → wr.cell? a = some x := fun a u h => by rw [hB.cell (World.block_lt_of_cell? _ _ h)]; exact h
        have hu0 := hu
        obtain ⟨m, eo, eb, eoff, ec, rfl, HM, hmc, hcm2, hea, hec, hem⟩ := hu.open
        have k1 := hcell _ _ h1
        have k2 := hcell _ _ h2
        have HE := Lib.hid hec
        have HU := Lib.hid hu
        have HH1 := Lib.hid h1
        have HH2 := Lib.hid h2
        have hk0 : (0 : Int) ≤ (k : Int) := Int.natCast_nonneg _
        have hk1 : (k : Int) < (n : Int) := by omega
        clear h1 h2 hcell hec ht hu hu0 hcm2
        by_cases h7 : m = 7
        · subst h7
          have hm7 : (((7 : Nat) : Int) != 7) = false := by decide
          by_cases hd0 : d = 0
          · have HR := Lib.hid (polyB_term HK.out (fun h => h.2.1 hd0))
            have hd1 : (d == 0) = true := by simpa using hd0
            go_wp2_with fail
            go_ret
            exact ⟨ret_bool HR.out.symm, hB⟩
          · have hd1 : (d == 0) = false := by simpa using hd0
            cases hin : inB d (-1000000) 1000000 with
            | false =>
              have HR := Lib.hid (polyB_term HK.out (fun h => by have h3 := h.2.2.1; rw [hin] at h3; exact absurd h3 (by simp)))
              go_wp2_with fail
              refine (l1In_c _ _ _ _).mono ?_
              rintro e2 w1 ⟨rfl, rfl⟩
              go_wp2_with fail
              go_ret
              exact ⟨ret_bool HR.out.symm, hB⟩
            | true =>
              go_wp2_with fail
              refine (l1In_c _ _ _ _).mono ?_
              rintro e2 w1 ⟨rfl, rfl⟩
              obtain ⟨wo, rfl⟩ : ∃ wo : World, wo = wr := ⟨_, rfl⟩
              go_wp2_with fail
              go_loopw [4] (fun iv wr => ∃ i : Nat, i ≤ 7 ∧ iv = .int .i64 i ∧ Hid (ExpTo e i) ∧ Below w.heap.size w wr) (fun iv _ => 7 - (intOf iv).toNat)
              case atStart => exact ⟨0, Nat.zero_le _, rfl, Lib.hid (fun t ht => absurd ht (Nat.not_lt_zero _)), hB⟩
              case round =>
                obtain ⟨i, hi, rfl, HX, hBi⟩ := hrel
                clear hB k1 k2
                have hcell : ∀ (a : Addr) (x : Value), w.cell? a = some x → wr.cell? a = some x := fun a u h => by rw [hBi.cell (World.block_lt_of_cell? _ _ h)]; exact h
                have k1 := hcell _ _ HH1.out
                by_cases hi7 : i < 7
                · obtain rfl := hea (by omega)
                  obtain ⟨x, hx⟩ : ∃ x, x = e.getD i 0 := ⟨_, rfl⟩
                  have k3 := hcell _ _ ((HE.out i hi7).trans (by rw [← hx]))
                  have HXX := Lib.hid hx
                  clear hx hcell
                  cases hb : inB x 0 24 with
                  | false =>
                    have HR := Lib.hid (polyB_term HK.out (fun h => by have h3 := h.2.2.2 i hi7; rw [← HXX.out] at h3; have := inB_false hb; omega))
                    go_wp2_with fail
                    refine (l1In_c _ _ _ _).mono ?_
                    rintro e2 w1 ⟨rfl, rfl⟩
                    go_wp2_with fail
                    go_ret
                    exact ⟨ret_bool HR.out.symm, hBi⟩
                  | true =>
                    have HX' := Lib.hid (HX.out.step HXX.out (inB_true hb).1 (inB_true hb).2)
                    go_wp2_with fail
                    refine (l1In_c _ _ _ _).mono ?_
                    rintro e2 w1 ⟨rfl, rfl⟩
                    go_wp2_with fail
                    go_roundw
                    case rel => exact ⟨i + 1, by omega, by go_num, HX', hBi⟩
                    case measure => simp [intOf]; omega
                · obtain rfl : i = 7 := by omega
                  have HOK : Hid (TermOk e d) := Lib.hid ⟨HM.out.symm, hd0, hin, HX.out⟩
                  cases k with
                  | zero =>
                    have HT' : Hid (PolyTo ts 1) := Lib.hid (PolyTo.step0 HK.out HOK.out)
                    clear hcell hin
                    go_wp2_with fail
                    go_quiet (fail)
                    go_wp2_with fail
                    go_roundw
                    case rel => exact ⟨1, by omega, by go_num, HT', below_drewN hBi _⟩
                    case measure => simp [intOf] <;> omega
                  | succ k =>
                    obtain ⟨t, ht⟩ : ∃ t, ts[k]? = some t := ⟨_, List.getElem?_eq_getElem (by rw [← HL.out]; omega)⟩
                    obtain ⟨e', d'⟩ := t
                    obtain ⟨u', h1', h2', hu'⟩ := HC.out k e' d' ht
                    have hOK' := (HT.out k (Nat.lt_succ_self _) e' d' ht).1
                    have k4 := hcell _ _ h1'
                    obtain ⟨eo', n', c', rfl⟩ := hu'.shape
                    have i1 := hu'.kept hBi
                    have i2 := HU.out.kept hBi
                    have hx1 := ExpTo.exps hOK'
                    have hx2 := ExpTo.exps HOK.out
                    have hl1 : e'.length ≤ 7 := by rw [hOK'.1]; exact Nat.le_refl _
                    have hl2 : e.length ≤ 7 := by rw [HOK.out.1]; exact Nat.le_refl _
                    have HK2 := Lib.hid ht
                    have hw1 : IntKind.i64.wrap ((k : Int) + 1 - 1) = (k : Int) := (IntWalk.i64_in _ (by omega)).trans (by omega)
                    have hk2 : (0 : Int) ≤ (k : Int) := Int.natCast_nonneg _
                    have hk3 : (k : Int) < (n : Int) := by omega
                    have hk4 : (k : Int) + 1 < (n : Int) := by omega
                    have hk5 : (0 : Int) ≤ (k : Int) + 1 := by omega
                    have hk6 : ((k : Int) + 1).toNat = k + 1 := by omega
                    clear ht h1' h2' hu' hOK' hcell hin
                    by_cases hlt2 : keyOf e < keyOf e'
                    · have HT' : Hid (PolyTo ts (k + 1 + 1)) := Lib.hid (HT.out.step HK.out HK2.out HOK.out hlt2)
                      have hle : decide (keyOf e' ≤ keyOf e) = false := by simpa using hlt2
                      clear hlt2
                      go_wp2_with fail
                      go_quiet ((go_at_call 44; first | exact quiet_back (l2Key_c _ _ _ i1 hl1 hx1) | exact quiet_back (l2Key_c _ _ _ i2 hl2 hx2)))
                      clear hw1 hk2 hk3 hk4 hk5 hk6
                      go_wp2_with fail
                      go_roundw
                      case rel => exact ⟨k + 1 + 1, by omega, by go_num, HT', below_drewN hBi _⟩
                      case measure => simp [intOf] <;> omega
                    · have HR := Lib.hid (polyB_key HK.out HK2.out hlt2)
                      have hle : decide (keyOf e' ≤ keyOf e) = true := by simpa using hlt2
                      clear hlt2
                      go_wp2_with fail
                      go_quiet ((go_at_call 44; first | exact quiet_back (l2Key_c _ _ _ i1 hl1 hx1) | exact quiet_back (l2Key_c _ _ _ i2 hl2 hx2)))
                      clear hw1 hk2 hk3 hk4 hk5 hk6
                      go_wp2_with fail
                      go_ret
                      exact ⟨ret_bool HR.out.symm, below_drewN hBi _⟩
        · have HR := Lib.hid (polyB_term HK.out (fun h => h7 (HM.out.trans h.1)))
          have hm7 : ((m : Int) != 7) = true := by simp; omega
          go_wp2_with fail
          go_ret
          exact ⟨ret_bool HR.out.symm, hB⟩
      · obtain rfl : k = n := by omega
        have HR := Lib.hid (polyB_yes (ts := ts) (by rw [← HL.out]; omega) (by rw [← HL.out]; exact HT.out))
        go_wp2_with fail
        go_ret
        exact ⟨ret_bool HR.out.symm, hB⟩

theorem polyB_sign {ts : TermL} {k : Nat} {e e' : List Int} {c c' : Int} (ho : TermOk e c) (ho' : TermOk e' c') : (0 ≤ byOf e' e 7 ↔ ¬ keyOf e < keyOf e') := by
  have h := byOf_sign (ExpTo.exps ho') (ExpTo.exps ho) (by rw [ho.1, ho'.1]) 7 (by rw [ho'.1]; exact Nat.le_refl _) (by rw [List.drop_of_length_le (by rw [ho'.1]; exact Nat.le_refl _), List.drop_of_length_le (by rw [ho.1]; exact Nat.le_refl _)])
  have h1 := h.1
  constructor
  · intro h2 h3
    have := h1.2 h3
    omega
  · intro h2
    by_cases h3 : byOf e' e 7 < 0
    · exact absurd (h1.1 h3) h2
    · omega

set_option maxHeartbeats 3200000 in
theorem iPolyOk_c (v : Value) (ts : TermL) (w : World) (hv : TermsV w v ts) :
    Calls Try.prog 27 #[v] w (GivesB w (polyB ts)) := by
  obtain ⟨n, ao, b, c, rfl, HL, hnc, hcm, ha, hc, hn⟩ := hv.open
  have HC := Lib.hid hc
  clear hc hcm
  by_cases hbig : 600 < n
  · have HR := Lib.hid (polyB_big (ts := ts) (by rw [← HL.out]; exact hbig))
    go_enter Try.func27, Try.ntmps27
    go_wp2_with fail
    go_ret
    exact ⟨ret_bool HR.out.symm, Below.refl _ _⟩
  · go_enter Try.func27, Try.ntmps27
    go_wp2_with fail
    go_loopw [12] (fun iv wr => ∃ k : Nat, k ≤ n ∧ iv = .int .i64 k ∧ Hid (PolyTo ts k) ∧ Below w.heap.size w wr) (fun iv _ => n - (intOf iv).toNat)
    case atStart => exact ⟨0, Nat.zero_le _, rfl, Lib.hid (PolyTo.zero _), Below.refl _ _⟩
    case round =>
      obtain ⟨k, hk, rfl, HT, hB⟩ := hrel
      by_cases hlt : k < n
      · obtain rfl := ha (by omega)
        obtain ⟨t, ht⟩ : ∃ t, ts[k]? = some t := ⟨_, List.getElem?_eq_getElem (by rw [← HL.out]; exact hlt)⟩
        obtain ⟨e, d⟩ := t
        have HK := Lib.hid ht
        obtain ⟨u, h1, h2, hu⟩ := HC.out k e d ht
        have hcell : ∀ (a : Addr) (x : Value), w.cell? a = some x → wr.cell? a = some x := fun a u h => by rw [hB.cell (World.block_lt_of_cell? _ _ h)]; exact h
        have hu0 := hu
        obtain ⟨m, eo, eb, eoff, ec, rfl, HM, hmc, hcm2, hea, hec, hem⟩ := hu.open
        have k1 := hcell _ _ h1
        have k2 := hcell _ _ h2
        have HE := Lib.hid hec
        have HU := Lib.hid hu
        have BA := (Below.refl wr.heap.size wr).alloc (Nat.le_refl _) (Obj.cells #[.slice eo m ec, .int .i64 d] 46)
        have a0 : (wr.alloc (Obj.cells #[.slice eo m ec, .int .i64 d] 46)).cell? ⟨wr.heap.size, 0, none⟩ = some (.slice eo m ec) := by simp
        have HA0 := Lib.hid a0
        have hBA := below_step hB BA hB.size
        have hk0 : (0 : Int) ≤ (k : Int) := Int.natCast_nonneg _
        have hk1 : (k : Int) < (n : Int) := by omega
        clear h1 h2 hcell hec ht hu hu0 hcm2 a0
        by_cases h7 : m = 7
        · subst h7
          have hm7 : (((7 : Nat) : Int) != 7) = false := by decide
          by_cases hd0 : d = 0
          · have HR := Lib.hid (polyB_term HK.out (fun h => h.2.1 hd0))
            subst hd0
            go_wp2_with fail
            go_ret
            exact ⟨ret_bool HR.out.symm, hBA⟩
          · have hd1 : (d == 0) = false := by simpa using hd0
            by_cases hlo : d < -1000000
            · have HR := Lib.hid (polyB_term HK.out (fun h => by have h3 := inB_true h.2.2.1; omega))
              go_wp2_with fail
              go_ret
              exact ⟨ret_bool HR.out.symm, hBA⟩
            · by_cases hhi : 1000000 < d
              · have HR := Lib.hid (polyB_term HK.out (fun h => by have h3 := inB_true h.2.2.1; omega))
                go_wp2_with fail
                go_ret
                exact ⟨ret_bool HR.out.symm, hBA⟩
              · have hin : inB d (-1000000) 1000000 = true := inB_mk (by omega) (by omega)
                obtain ⟨wo, rfl⟩ : ∃ wo : World, wo = wr := ⟨_, rfl⟩
                go_wp2_with fail
                go_loopw [39] (fun iv wr => ∃ i : Nat, i ≤ 7 ∧ iv = .int .i64 i ∧ Hid (ExpTo e i) ∧ Below (wo.alloc (Obj.cells #[.slice eo 7 ec, .int .i64 d] 46)).heap.size (wo.alloc (Obj.cells #[.slice eo 7 ec, .int .i64 d] 46)) wr) (fun iv _ => 7 - (intOf iv).toNat)
                case atStart => exact ⟨0, Nat.zero_le _, rfl, Lib.hid (fun t ht => absurd ht (Nat.not_lt_zero _)), Below.refl _ _⟩
                case round =>
                  obtain ⟨i, hi, rfl, HX, hBi⟩ := hrel
                  have hBw := below_step hBA hBi hBA.size
                  clear k1 k2
                  have hcell : ∀ (a : Addr) (x : Value), w.cell? a = some x → wr.cell? a = some x := fun a u h => by rw [hBw.cell (World.block_lt_of_cell? _ _ h)]; exact h
                  by_cases hi7 : i < 7
                  · obtain rfl := hea (by omega)
                    obtain ⟨x, hx⟩ : ∃ x, x = e.getD i 0 := ⟨_, rfl⟩
                    have k3 := hcell _ _ ((HE.out i hi7).trans (by rw [← hx]))
                    have HXX := Lib.hid hx
                    clear hx hcell
                    by_cases hx0 : x < 0
                    · have HR := Lib.hid (polyB_term HK.out (fun h => by have h3 := h.2.2.2 i hi7; rw [← HXX.out] at h3; omega))
                      go_wp2_with fail
                      go_ret
                      exact ⟨ret_bool HR.out.symm, hBw⟩
                    · by_cases hx24 : 24 < x
                      · have HR := Lib.hid (polyB_term HK.out (fun h => by have h3 := h.2.2.2 i hi7; rw [← HXX.out] at h3; omega))
                        go_wp2_with fail
                        go_ret
                        exact ⟨ret_bool HR.out.symm, hBw⟩
                      · have HX' := Lib.hid (HX.out.step HXX.out (by omega) (by omega))
                        go_wp2_with fail
                        go_roundw
                        case rel => exact ⟨i + 1, by omega, by go_num, HX', hBi⟩
                        case measure => simp [intOf]; omega
                  · obtain rfl : i = 7 := by omega
                    have HOK : Hid (TermOk e d) := Lib.hid ⟨HM.out.symm, hd0, hin, HX.out⟩
                    have k5 : wr.cell? ⟨wo.heap.size, 0, none⟩ = some (.slice eo 7 ec) := by rw [hBi.cell (World.block_lt_of_cell? _ _ HA0.out)]; exact HA0.out
                    cases k with
                    | zero =>
                      have HT' : Hid (PolyTo ts 1) := Lib.hid (PolyTo.step0 HK.out HOK.out)
                      clear hcell hin
                      go_wp2_with fail
                      go_quiet (fail)
                      go_wp2_with fail
                      go_roundw
                      case rel => exact ⟨1, by omega, by go_num, HT', below_drewN hBw _⟩
                      case measure => simp [intOf] <;> omega
                    | succ k =>
                      obtain ⟨t, ht⟩ : ∃ t, ts[k]? = some t := ⟨_, List.getElem?_eq_getElem (by rw [← HL.out]; omega)⟩
                      obtain ⟨e', d'⟩ := t
                      obtain ⟨u', h1', h2', hu'⟩ := HC.out k e' d' ht
                      have hOK' := (HT.out k (Nat.lt_succ_self _) e' d' ht).1
                      have k4 := hcell _ _ h1'
                      obtain ⟨eo', n', c', rfl⟩ := hu'.shape
                      have i1 := hu'.kept hBw
                      have i2 := HU.out.kept hBw
                      have hx1 := ExpTo.exps hOK'
                      have hx2 := ExpTo.exps HOK.out
                      have hl1 : e'.length = 7 := hOK'.1
                      have hl2 : e.length = 7 := HOK.out.1
                      have hsg := Lib.hid (polyB_sign (ts := ts) (k := k) HOK.out hOK')
                      have HK2 := Lib.hid ht
                      obtain ⟨z, hz⟩ : ∃ z, z = byOf e' e 7 := ⟨_, rfl⟩
                      have hby := Lib.hid (fun q => byTerms_back _ _ e' e wr q i1 i2 hl1 hl2 hx1 hx2)
                      rw [← hz] at hsg hby
                      have hw1 : IntKind.i64.wrap ((k : Int) + 1 - 1) = (k : Int) := (IntWalk.i64_in _ (by omega)).trans (by omega)
                      have hk2 : (0 : Int) ≤ (k : Int) := Int.natCast_nonneg _
                      have hk3 : (k : Int) < (n : Int) := by omega
                      have hk4 : (k : Int) + 1 < (n : Int) := by omega
                      have hk5 : (0 : Int) ≤ (k : Int) + 1 := by omega
                      have hk6 : ((k : Int) + 1).toNat = k + 1 := by omega
                      clear ht h1' h2' hu' hOK' hcell hin hz i1 i2 hx1 hx2 hl1 hl2
                      by_cases hlt2 : keyOf e < keyOf e'
                      · have HT' : Hid (PolyTo ts (k + 1 + 1)) := Lib.hid (HT.out.step HK.out HK2.out HOK.out hlt2)
                        have hz0 : ¬ 0 ≤ z := fun h => hsg.out.1 h hlt2
                        have hle : decide (0 ≤ z) = false := by simpa using hz0
                        clear hlt2 hz0
                        go_wp2_with fail
                        go_quiet ((go_at_call 48; exact hby.out _))
                        clear hw1 hk2 hk3 hk4 hk5 hk6
                        go_wp2_with fail
                        go_roundw
                        case rel => exact ⟨k + 1 + 1, by omega, by go_num, HT', below_drewN hBw _⟩
                        case measure => simp [intOf] <;> omega
                      · have HR := Lib.hid (polyB_key HK.out HK2.out hlt2)
                        have hz0 : 0 ≤ z := hsg.out.2 hlt2
                        have hle : decide (0 ≤ z) = true := by simpa using hz0
                        clear hlt2 hz0
                        go_wp2_with fail
                        go_quiet ((go_at_call 48; exact hby.out _))
                        clear hw1 hk2 hk3 hk4 hk5 hk6
                        go_wp2_with fail
                        go_ret
                        exact ⟨ret_bool HR.out.symm, below_drewN hBw _⟩
        · have HR := Lib.hid (polyB_term HK.out (fun h => h7 (HM.out.trans h.1)))
          have hm7 : ((m : Int) != 7) = true := by simp; omega
          go_wp2_with fail
          go_ret
          exact ⟨ret_bool HR.out.symm, hBA⟩
      · obtain rfl : k = n := by omega
        have HR := Lib.hid (polyB_yes (ts := ts) (by rw [← HL.out]; omega) (by rw [← HL.out]; exact HT.out))
        go_wp2_with fail
        go_ret
        exact ⟨ret_bool HR.out.symm, hB⟩

end Go.Proofs.Ytoioiippdchgmaa
