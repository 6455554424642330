/-
  Contracts: EssentialOf.
-/
import Derived.Test.YtfepepakellbbaaDiag
import Derived.Laws.StructEq
import Derived.Deep.QuietTactic
namespace Go.Proofs.Ytfepepakellbbaa
open Go.RowKit
set_option linter.unusedVariables false

theorem Try.cellHeld : Try.prog.stoodInHeld 43 = false := by kernel_rfl
theorem Try.cellGuard : Try.prog.eqGuardType Try.prog.depth 43 = false := by kernel_rfl
theorem eqlCell (w : World) (a b c d : Int) : (binOp .eql 43 (.agg #[.int .i64 a, .int .i64 b]) (.agg #[.int .i64 c, .int .i64 d])).run Try.prog w = .ok (.bool ((a == c) && (b == d))) w := by
  have hu : Try.prog.underlying 43 = some (.struct (Try.prog.fieldsOf 43)) := by
    simp [Program.fieldsOf, Try.underlying43]
  rw [run_eql_struct, run_equalIn_struct _ _ _ _ _ hu Try.cellHeld]
  simp only [Program.fieldsOf, Try.underlying43]
  cases h1 : a == c <;> cases h2 : b == d <;> simp [go_sem, Op.eqFields, h1, h2, Try.underlying3]

def hasC (l : List (Int × Int)) (x : Int × Int) : Bool := decide (x ∈ l)
theorem mem_take_succC {l : List (Int × Int)} {j : Nat} {x y : Int × Int} (hy : l[j]? = some y) : x ∈ l.take (j + 1) ↔ x ∈ l.take j ∨ x = y := by
  rw [List.take_add_one, hy, List.mem_append]
  simp
theorem hasC_yes {l : List (Int × Int)} {j : Nat} {x y : Int × Int} (hy : l[j]? = some y) (h : x = y) : hasC l x = true := by
  simp only [hasC, decide_eq_true_eq]; rw [h]; exact List.mem_of_getElem? hy
theorem hasC_no {l : List (Int × Int)} {j : Nat} {x y : Int × Int} (hy : l[j]? = some y) (h : x ≠ y) (hn : hasC (l.take j) x = false) : hasC (l.take (j + 1)) x = false := by
  simp only [hasC, decide_eq_false_iff_not] at hn ⊢
  rw [mem_take_succC hy]
  rintro (h1 | h1)
  · exact hn h1
  · exact h h1

def GivesIdx (w : World) (b : Bool) (e : Ending) (w' : World) : Prop := ∃ r, e = .returned r ∧ ((b = true ∧ ∃ k : Nat, r = .int .i64 k) ∨ (b = false ∧ r = .int .i64 (-1))) ∧ Below w.heap.size w w'
set_option maxHeartbeats 1600000 in
theorem indexC_c (v : Value) (l : List (Int × Int)) (x0 x1 : Int) (w : World) (hv : CellsV w v l) :
    Calls Try.prog 75 #[v, .agg #[.int .i64 x0, .int .i64 x1]] w (GivesIdx w (hasC l (x0, x1))) := by
  obtain ⟨n, ao, b, c, rfl, HL, hnc, hcm, ha, hc, hn⟩ := hv.open
  have HC := Lib.hid hc
  clear hc hcm
  have B0 := (Below.refl w.heap.size w).alloc (Nat.le_refl _) (Obj.cells #[.int .i64 x0, .int .i64 x1] 43)
  have hb0 : (w.alloc (Obj.cells #[.int .i64 x0, .int .i64 x1] 43)).cell? ⟨w.heap.size, 0, none⟩ = some (.int .i64 x0) := by simp
  have hb1 : (w.alloc (Obj.cells #[.int .i64 x0, .int .i64 x1] 43)).cell? ⟨w.heap.size, 1, none⟩ = some (.int .i64 x1) := by simp
  obtain ⟨W0, hW0⟩ : ∃ W0, W0 = w.alloc (Obj.cells #[.int .i64 x0, .int .i64 x1] 43) := ⟨_, rfl⟩
  have HW := Lib.hid hW0
  rw [← hW0] at B0 hb0 hb1
  clear hW0
  go_enter Try.func75, Try.ntmps75
  go_wp2
  go_loopw [8] (fun i wr => ∃ j : Nat, j ≤ n ∧ i = .int .i64 j ∧ Hid (hasC (l.take j) (x0, x1) = false) ∧ Below W0.heap.size W0 wr) (fun i _ => n - (intOf i).toNat)
  case atStart => exact ⟨0, Nat.zero_le _, rfl, Lib.hid (by simp [hasC]), HW.out ▸ Below.refl _ _⟩
  case round =>
    obtain ⟨j, hj, rfl, HN, hB⟩ := hrel
    have k1 : wr.cell? ⟨w.heap.size, 0, none⟩ = some (.int .i64 x0) := by rw [hB.cell (World.block_lt_of_cell? _ _ hb0)]; exact hb0
    have k2 : wr.cell? ⟨w.heap.size, 1, none⟩ = some (.int .i64 x1) := by rw [hB.cell (World.block_lt_of_cell? _ _ hb1)]; exact hb1
    have hBw := below_step B0 hB B0.size
    by_cases hlt : j < n
    · obtain rfl := ha (by omega)
      obtain ⟨y, hy⟩ : ∃ y, l[j]? = some y := ⟨_, List.getElem?_eq_getElem (by rw [← HL.out]; exact hlt)⟩
      obtain ⟨y0, y1⟩ := y
      have HY := Lib.hid hy
      obtain ⟨h1, h2⟩ := HC.out j _ hy
      have k3 : wr.cell? ⟨b, j * 2, none⟩ = some (.int .i64 y0) := by rw [hBw.cell (World.block_lt_of_cell? _ _ h1)]; exact h1
      have k4 : wr.cell? ⟨b, j * 2 + 1, none⟩ = some (.int .i64 y1) := by rw [hBw.cell (World.block_lt_of_cell? _ _ h2)]; exact h2
      have hj0 : (0 : Int) ≤ (j : Int) := Int.natCast_nonneg _
      have hj1 : (j : Int) < (n : Int) := by omega
      clear h1 h2 hy hb0 hb1
      by_cases he : (x0 == y0 && x1 == y1) = true
      · have hq := fun w => (eqlCell w x0 x1 y0 y1).trans (by rw [he])
        have hxy : (x0, x1) = (y0, y1) := by simp at he; rw [he.1, he.2]
        have HR := Lib.hid (hasC_yes HY.out hxy)
        clear he hxy
        go_wp2
        go_quiet (fail)
        go_wp2
        go_ret
        exact ⟨_, rfl, .inl ⟨HR.out, j, rfl⟩, below_drewN hBw _⟩
      · have he' : (x0 == y0 && x1 == y1) = false := by simpa using he
        have hq := fun w => (eqlCell w x0 x1 y0 y1).trans (by rw [he'])
        have hxy : (x0, x1) ≠ (y0, y1) := fun h => he (by simp at h; simp [h])
        have HN' := Lib.hid (hasC_no HY.out hxy HN.out)
        clear he he' hxy
        go_wp2
        go_quiet (fail)
        go_wp2
        go_roundw
        case rel => exact ⟨j + 1, by omega, by go_num, HN', below_drewN hB _⟩
        case measure => simp [intOf]; omega
    · obtain rfl : j = n := by omega
      have HR : Hid (hasC l (x0, x1) = false) := Lib.hid (by
        have := HN.out
        rw [List.take_of_length_le (by rw [← HL.out]; exact Nat.le_refl _)] at this
        exact this)
      go_wp2
      go_ret
      exact ⟨_, rfl, .inr ⟨HR.out, rfl⟩, hBw⟩

set_option maxHeartbeats 800000 in
theorem containsC_c (v : Value) (l : List (Int × Int)) (x0 x1 : Int) (w : World) (hv : CellsV w v l) :
    Calls Try.prog 59 #[v, .agg #[.int .i64 x0, .int .i64 x1]] w (GivesB w (hasC l (x0, x1))) := by
  have B0 := (Below.refl w.heap.size w).alloc (Nat.le_refl _) (Obj.cells #[.int .i64 x0, .int .i64 x1] 43)
  go_enter Try.func59, Try.ntmps59
  go_wp2_with fail
  refine (indexC_c _ _ _ _ _ (hv.kept B0)).mono ?_
  rintro e w1 ⟨r, rfl, hr, b1⟩
  have F1 := below_step B0 b1 B0.size
  rcases hr with ⟨hh, k, rfl⟩ | ⟨hh, rfl⟩
  · have HH := Lib.hid hh
    clear hh
    have hk : (0 : Int) ≤ (k : Int) := Int.natCast_nonneg _
    go_wp2_with fail
    go_ret
    exact ⟨ret_bool HH.out.symm, F1⟩
  · have HH := Lib.hid hh
    clear hh
    go_wp2_with fail
    go_ret
    exact ⟨ret_bool HH.out.symm, F1⟩

def essB (al : List (Int × Int)) (x0 x1 : Int) : Bool := !hasC al (x0 + 1, x1) && !hasC al (x0, x1 + 1)
def essUp (al : List (Int × Int)) (k : Nat) : List (Int × Int) := (al.take k).filter (fun x => essB al x.1 x.2)
def essL (l : List Int) : List (Int × Int) := essUp (diagL l) (diagL l).length
theorem essUp_yes {al : List (Int × Int)} {k : Nat} {x0 x1 : Int} (hx : al[k]? = some (x0, x1)) (h : essB al x0 x1 = true) : essUp al (k + 1) = essUp al k ++ [(x0, x1)] := by
  simp [essUp, List.take_add_one, hx, List.filter_append, h]
theorem essUp_no {al : List (Int × Int)} {k : Nat} {x0 x1 : Int} (hx : al[k]? = some (x0, x1)) (h : essB al x0 x1 = false) : essUp al (k + 1) = essUp al k := by
  simp [essUp, List.take_add_one, hx, List.filter_append, h]
theorem essUp_len (al : List (Int × Int)) (k : Nat) : (essUp al k).length ≤ k := Nat.le_trans (List.length_filter_le _ _) (by simp; omega)
theorem diagL_bnd {l : List Int} {k : Nat} {x0 x1 : Int} (h : (diagL l)[k]? = some (x0, x1)) : 0 ≤ x0 ∧ x0 ≤ 7 ∧ 0 ≤ x1 ∧ x1 ≤ 7 := by
  cases hp : isPermB l with
  | false => rw [diagL_no hp] at h; simp at h
  | true =>
    have hm := List.mem_of_getElem? h
    rw [diagL_yes hp] at hm
    have h7 := (isPermB_iff.1 hp).2.1
    have hv := perm_vals hp
    simp only [diagAt, cellsIn, List.mem_append, List.mem_flatMap, List.mem_map, List.mem_filter, List.mem_range, Prod.mk.injEq] at hm
    rcases hm with ⟨t, ht, j, ⟨hj, _⟩, rfl, rfl⟩ | ⟨j, ⟨hj, _⟩, rfl, rfl⟩
    · have := hv t; omega
    · omega

set_option maxHeartbeats 1600000 in
theorem iEss_c (v : Value) (l : List Int) (w : World) (hv : IntsV w v l) :
    Calls Try.prog 28 #[v] w (GivesC w (essL l)) := by
  have HBND := Lib.hid (fun k x0 x1 h => diagL_bnd (l := l) (k := k) (x0 := x0) (x1 := x1) h)
  have HESS : Hid (essL l = essUp (diagL l) (diagL l).length) := Lib.hid rfl
  go_enter Try.func28, Try.ntmps28
  go_wp2_with fail
  refine (iDiag_c _ _ _ hv).mono ?_
  rintro e w1 ⟨r, rfl, o1, b1⟩
  obtain ⟨al, hal⟩ : ∃ al, al = diagL l := ⟨_, rfl⟩
  rw [← hal] at o1 HBND HESS
  clear hal hv
  obtain ⟨n, ao, b, c, rfl, HL, hnc, hcm, ha, hc, hn⟩ := o1.cells.open
  have HC := Lib.hid hc
  have HO := Lib.hid o1
  have B0 := (Below.refl w1.heap.size w1).alloc (Nat.le_refl _) (Obj.cells #[] 43)
  have F1 := below_step b1 B0 b1.size
  have O0 := OwnT.lit 43 cf0 cf1 w1
  have hsz1 := b1.size
  clear hcm hc o1 
  go_wp2_with fail
  go_loopw [4, 12] (fun ov iv wr => ∃ i : Nat, i ≤ n ∧ iv = .int .i64 i ∧ OwnT 43 cf0 cf1 w1.heap.size wr ov (essUp al i) ∧ Below w1.heap.size w1 wr) (fun _ iv _ => n - (intOf iv).toNat)
  case atStart => exact ⟨0, Nat.zero_le _, rfl, O0, B0⟩
  case round =>
    obtain ⟨i, hi1, rfl, hO, hB⟩ := hrel
    clear O0 B0
    have hsz := hB.size
    by_cases hlt : i < n
    · obtain rfl := ha (by omega)
      obtain ⟨x, hx⟩ : ∃ x, al[i]? = some x := ⟨_, List.getElem?_eq_getElem (by rw [← HL.out]; exact hlt)⟩
      obtain ⟨x0, x1⟩ := x
      have HX := Lib.hid hx
      obtain ⟨h1, h2⟩ := HC.out i _ hx
      have k1 : wr.cell? ⟨b, i * 2, none⟩ = some (.int .i64 x0) := by rw [hB.cell (World.block_lt_of_cell? _ _ h1)]; exact h1
      have k2 : wr.cell? ⟨b, i * 2 + 1, none⟩ = some (.int .i64 x1) := by rw [hB.cell (World.block_lt_of_cell? _ _ h2)]; exact h2
      obtain ⟨g1, g2, g3, g4⟩ := HBND.out i _ _ hx
      have hj0 : (0 : Int) ≤ (i : Int) := Int.natCast_nonneg _
      have hj1 : (i : Int) < (n : Int) := by omega
      clear h1 h2 hx
      have BA := (Below.refl wr.heap.size wr).alloc (Nat.le_refl _) (Obj.cells #[.int .i64 x0, .int .i64 x1] 43)
      have a0 : (wr.alloc (Obj.cells #[.int .i64 x0, .int .i64 x1] 43)).cell? ⟨wr.heap.size, 0, none⟩ = some (.int .i64 x0) := by simp
      have a1 : (wr.alloc (Obj.cells #[.int .i64 x0, .int .i64 x1] 43)).cell? ⟨wr.heap.size, 1, none⟩ = some (.int .i64 x1) := by simp
      have HA0 := Lib.hid a0
      have HA1 := Lib.hid a1
      have hBA := below_step hB BA hsz
      have hOA := hO.kept BA
      have hcv := (HO.out.cells.kept hBA)
      have hw1 : IntKind.i64.wrap (x0 + 1) = x0 + 1 := IntWalk.i64_in _ (by omega)
      have hw2 : IntKind.i64.wrap (x1 + 1) = x1 + 1 := IntWalk.i64_in _ (by omega)
      clear a0 a1 hO
      cases q1 : hasC al (x0 + 1, x1) with
      | true =>
        have e := Lib.hid (essUp_no HX.out (show essB al x0 x1 = false by simp [essB, q1]))
        go_wp2_with fail
        refine (containsC_c _ al _ _ _ hcv).mono ?_
        rintro e2 v1 ⟨rfl, c1⟩
        have F2 := below_step hBA c1 hBA.size
        have hO2 := hOA.kept c1
        rw [← e.out] at hO2
        go_wp2_with fail
        go_roundw
        case rel => exact ⟨i + 1, by omega, by go_num, hO2, F2⟩
        case measure => simp [intOf]; omega
      | false =>
        cases q2 : hasC al (x0, x1 + 1) with
        | true =>
          have e := Lib.hid (essUp_no HX.out (show essB al x0 x1 = false by simp [essB, q2]))
          go_wp2_with fail
          refine (containsC_c _ al _ _ _ hcv).mono ?_
          rintro e2 v1 ⟨rfl, c1⟩
          have F2 := below_step hBA c1 hBA.size
          have hO2 := hOA.kept c1
          have d0 : v1.cell? ⟨wr.heap.size, 0, none⟩ = some (.int .i64 x0) := by rw [c1.cell (World.block_lt_of_cell? _ _ HA0.out)]; exact HA0.out
          have d1 : v1.cell? ⟨wr.heap.size, 1, none⟩ = some (.int .i64 x1) := by rw [c1.cell (World.block_lt_of_cell? _ _ HA1.out)]; exact HA1.out
          go_wp2_with fail
          refine (containsC_c _ al _ _ _ (hcv.kept c1)).mono ?_
          rintro e2 v2 ⟨rfl, c2⟩
          have F3 := below_step F2 c2 F2.size
          have hO3 := hO2.kept c2
          rw [← e.out] at hO3
          clear hO2 hOA
          go_wp2_with fail
          go_roundw
          case rel => exact ⟨i + 1, by omega, by go_num, hO3, F3⟩
          case measure => simp [intOf]; omega
        | false =>
          have e := Lib.hid (essUp_yes HX.out (show essB al x0 x1 = true by simp [essB, q1, q2]))
          go_wp2_with fail
          refine (containsC_c _ al _ _ _ hcv).mono ?_
          rintro e2 v1 ⟨rfl, c1⟩
          have F2 := below_step hBA c1 hBA.size
          have hO2 := hOA.kept c1
          have d0 : v1.cell? ⟨wr.heap.size, 0, none⟩ = some (.int .i64 x0) := by rw [c1.cell (World.block_lt_of_cell? _ _ HA0.out)]; exact HA0.out
          have d1 : v1.cell? ⟨wr.heap.size, 1, none⟩ = some (.int .i64 x1) := by rw [c1.cell (World.block_lt_of_cell? _ _ HA1.out)]; exact HA1.out
          have HD0 := Lib.hid d0
          have HD1 := Lib.hid d1
          go_wp2_with fail
          refine (containsC_c _ al _ _ _ (hcv.kept c1)).mono ?_
          rintro e2 v2 ⟨rfl, c2⟩
          have F3 := below_step F2 c2 F2.size
          have hO3 := hO2.kept c2
          have e0 : v2.cell? ⟨wr.heap.size, 0, none⟩ = some (.int .i64 x0) := by rw [c2.cell (World.block_lt_of_cell? _ _ HD0.out)]; exact HD0.out
          have e1 : v2.cell? ⟨wr.heap.size, 1, none⟩ = some (.int .i64 x1) := by rw [c2.cell (World.block_lt_of_cell? _ _ HD1.out)]; exact HD1.out
          have hsz3 := F3.size
          have hlen : (essUp al i).length + 1 ≤ 1099511627776 := by have := essUp_len al i; omega
          clear hO2 hOA hw1 hw2 d0 d1
          go_wp2_with (at_builtin; refine wpList_push2 v2 rfl _ _ rfl Try.underlying39 Try.infoC rfl (by decide) hO3 (y := (x0, x1)) rfl rfl ⟨rfl, rfl⟩ rfl rfl rfl hlen hsz3 ?_)
          intro v' w3 hO' hb1 _ _
          have hB' := F3.trans hb1
          rw [← e.out] at hO'
          clear hO3 F3 e0 e1
          go_wp2_with fail
          go_roundw
          case rel => exact ⟨i + 1, by omega, by go_num, hO', hB'⟩
          case measure => simp [intOf]; omega
    · obtain rfl : i = n := by omega
      go_wp2_with fail
      go_ret
      rw [HESS.out, ← HL.out]
      refine ⟨_, rfl, ⟨hO.mono hsz1, ?_⟩, below_step b1 hB b1.size⟩
      have h1 := essUp_len al i
      have h2 := HO.out.2
      have h3 := HL.out
      show 2 * _ ≤ _
      simp only [cLen] at h2
      omega

end Go.Proofs.Ytfepepakellbbaa
