/-
  Contracts: DescentsOf, IsGrassmannian, RankAt.
-/
import Derived.Test.YtfepepakellbbaaPermI
namespace Go.Proofs.Ytfepepakellbbaa
open Go.RowKit
set_option linter.unusedVariables false

/-- The descents before the place k. -/
def descUp (l : List Int) (k : Nat) : List Int := ((List.range k).filter (fun t => decide (l.getD (t + 1) 0 < l.getD t 0))).map (fun t : Nat => (t : Int))
def descL (l : List Int) : List Int := if isPermB l = true then descUp l (l.length - 1) else []
theorem descUp_zero (l : List Int) : descUp l 0 = [] := rfl
theorem descUp_len (l : List Int) (k : Nat) : (descUp l k).length ≤ k := by
  rw [descUp, List.length_map]
  exact Nat.le_trans (List.length_filter_le _ _) (by simp)
theorem descUp_yes {l : List Int} {k : Nat} {x y : Int} (hx : x = l.getD k 0) (hy : y = l.getD (k + 1) 0) (h : y < x) : descUp l (k + 1) = descUp l k ++ [(k : Int)] := by
  have : decide (l.getD (k + 1) 0 < l.getD k 0) = true := by rw [← hx, ← hy]; simpa using h
  simp only [descUp, List.range_succ, List.filter_append, List.map_append, List.filter_cons, this, if_true, List.filter_nil, List.map_cons, List.map_nil]
theorem descUp_no {l : List Int} {k : Nat} {x y : Int} (hx : x = l.getD k 0) (hy : y = l.getD (k + 1) 0) (h : ¬ y < x) : descUp l (k + 1) = descUp l k := by
  have : decide (l.getD (k + 1) 0 < l.getD k 0) = false := by rw [← hx, ← hy]; simpa using h
  simp only [descUp, List.range_succ, List.filter_append, List.filter_cons, this, List.filter_nil, Bool.false_eq_true, if_false, List.append_nil]

theorem quietGtr {x y : Int} (h : y < x) : decide (y < x) = true := by simpa using h

set_option maxHeartbeats 800000 in
theorem sDesc_c (v : Value) (l : List Int) (w : World) (hv : IntsV w v l) :
    Calls Try.prog 69 #[v] w (GivesI w (descL l)) := by
  cases hp : isPermB l with
  | false =>
    have HR : Hid (descL l = []) := Lib.hid (by simp [descL, hp])
    go_enter Try.func69, Try.ntmps69
    go_wp2_with fail
    refine (sIsPerm_c _ _ _ hv).mono ?_
    rintro e w1 ⟨rfl, b1⟩
    go_wp2_with fail
    go_ret
    rw [HR.out]
    exact ⟨_, rfl, OwnI.nil _ _, b1⟩
  | true =>
    have HR : Hid (descL l = descUp l (l.length - 1)) := Lib.hid (by simp [descL, hp])
    obtain ⟨n, ao, b, off, c, rfl, HL, hnc, hcm, ha, hc, hn⟩ := hv.open
    have hn1 : 1 ≤ n := by rw [HL.out]; exact (isPermB_iff.1 hp).1
    have hn7 : n ≤ 7 := by rw [HL.out]; exact (isPermB_iff.1 hp).2.1
    obtain rfl := ha (by omega)
    clear hcm ha hn
    go_enter Try.func69, Try.ntmps69
    go_wp2_with fail
    refine (sIsPerm_c _ _ _ hv).mono ?_
    rintro e w1 ⟨rfl, b1⟩
    go_wp2_with fail
    go_loopw [3, 4] (fun v i wr => ∃ j : Nat, j + 1 ≤ n ∧ i = .int .i64 j ∧ OwnI w.heap.size wr v (descUp l j) ∧ Below w.heap.size w wr) (fun _ i _ => n - (intOf i).toNat)
    case atStart => exact ⟨0, hn1, rfl, descUp_zero l ▸ (OwnI.lit w1).mono b1.size, b1.alloc b1.size _⟩
    case round =>
      obtain ⟨j, hj, rfl, hO, hB⟩ := hrel
      have hlen : (descUp l j).length + 1 ≤ 1099511627776 := by have := descUp_len l j; omega
      have hsz := hB.size
      by_cases hlt : j + 1 < n
      · obtain ⟨x, hx⟩ : ∃ x, x = l.getD j 0 := ⟨_, rfl⟩
        obtain ⟨y, hy⟩ : ∃ y, y = l.getD (j + 1) 0 := ⟨_, rfl⟩
        have hcx : wr.cell? ⟨b, off + j, none⟩ = some (.int .i64 x) := by
          rw [hx, hB.cell (p := ⟨b, off + j, none⟩) (World.block_lt_of_cell? _ _ (hc j (by omega)))]; exact hc j (by omega)
        have hcy : wr.cell? ⟨b, off + (j + 1), none⟩ = some (.int .i64 y) := by
          rw [hy, hB.cell (p := ⟨b, off + (j + 1), none⟩) (World.block_lt_of_cell? _ _ (hc (j + 1) hlt))]; exact hc (j + 1) hlt
        have HX := Lib.hid hx
        have HY := Lib.hid hy
        have hj1 : (j : Int) < (n : Int) := by omega
        have hj2 : (j : Int) + 1 < (n : Int) := by omega
        have hj3 : IntKind.i64.wrap ((j : Int) + 1) = (j : Int) + 1 := IntWalk.i64_in _ (by omega)
        have hj4 : 0 ≤ (j : Int) + 1 := by omega
        have hj5 : ((j : Int) + 1).toNat = j + 1 := by omega
        clear hc hx hy
        by_cases hxy : y < x
        · have hd := quietGtr hxy
          have e := Lib.hid (descUp_yes HX.out HY.out hxy)
          go_wp2
          go_quiet (fail)
          have hO1 : OwnI w.heap.size (wr.drewN nq) _ (descUp l j) := hO
          have hB1 := below_drewN hB nq
          clear hj3 hj4 hj5
          go_wp2_with (at_builtin; refine wpList_push (wr.drewN nq) rfl _ _ rfl hO1 rfl rfl hlen hsz ?_)
          intro v' w3 hO' hb1 _ _
          have hB' := hB1.trans hb1
          rw [← e.out] at hO'
          clear hO hB hO1 hB1
          go_wp2
          go_roundw
          case rel => exact ⟨j + 1, by omega, by go_num, hO', hB'⟩
          case measure => simp [intOf]; omega
        · have e := Lib.hid (descUp_no HX.out HY.out hxy)
          have hd : decide (y < x) = false := by simpa using hxy
          go_wp2
          go_quiet (fail)
          have hO1 : OwnI w.heap.size (wr.drewN nq) _ (descUp l j) := hO
          have hB1 := below_drewN hB nq
          rw [← e.out] at hO1
          clear hj3 hj4 hj5 hO hB
          go_wp2
          go_roundw
          case rel => exact ⟨j + 1, by omega, by go_num, hO1, hB1⟩
          case measure => simp [intOf]; omega
      · clear hlen hc
        go_wp2
        go_ret
        obtain rfl : n = j + 1 := by omega
        rw [HR.out, ← HL.out]
        exact ⟨_, rfl, hO, hB⟩

set_option maxHeartbeats 800000 in
theorem iDesc_c (v : Value) (l : List Int) (w : World) (hv : IntsV w v l) :
    Calls Try.prog 56 #[v] w (GivesI w (descL l)) := by
  cases hp : isPermB l with
  | false =>
    have HR : Hid (descL l = []) := Lib.hid (by simp [descL, hp])
    have B0 := (Below.refl w.heap.size w).alloc (Nat.le_refl _) (Obj.cells #[] 3)
    have O0 := OwnI.lit w
    have hv1 := hv.kept B0
    go_enter Try.func56, Try.ntmps56
    go_wp2_with fail
    refine (iIsPerm_c _ _ _ hv1).mono ?_
    rintro e w1 ⟨rfl, b1⟩
    have F1 := below_step B0 b1 B0.size
    have O1 := O0.kept b1
    clear O0 B0
    go_wp2_with fail
    go_ret
    rw [HR.out]
    exact ⟨_, rfl, O1, F1⟩
  | true =>
    have HR : Hid (descL l = descUp l (l.length - 1)) := Lib.hid (by simp [descL, hp])
    obtain ⟨n, ao, b, off, c, rfl, HL, hnc, hcm, ha, hc, hn⟩ := hv.open
    have hn1 : 1 ≤ n := by rw [HL.out]; exact (isPermB_iff.1 hp).1
    have hn7 : n ≤ 7 := by rw [HL.out]; exact (isPermB_iff.1 hp).2.1
    obtain rfl := ha (by omega)
    clear hcm ha hn
    have B0 := (Below.refl w.heap.size w).alloc (Nat.le_refl _) (Obj.cells #[] 3)
    have O0 := OwnI.lit w
    have hv1 := hv.kept B0
    go_enter Try.func56, Try.ntmps56
    go_wp2_with fail
    refine (iIsPerm_c _ _ _ hv1).mono ?_
    rintro e w1 ⟨rfl, b1⟩
    have F1 := below_step B0 b1 B0.size
    have O1 := O0.kept b1
    clear O0 B0 b1 hv1
    go_wp2_with fail
    go_loopw [3, 4] (fun v i wr => ∃ j : Nat, j + 1 ≤ n ∧ i = .int .i64 ((j : Int) + 1) ∧ OwnI w.heap.size wr v (descUp l j) ∧ Below w.heap.size w wr) (fun _ i _ => n - (intOf i).toNat)
    case atStart => exact ⟨0, hn1, by go_num, descUp_zero l ▸ O1, F1⟩
    case round =>
      obtain ⟨j, hj, rfl, hO, hB⟩ := hrel
      clear O1 F1
      have hlen : (descUp l j).length + 1 ≤ 1099511627776 := by have := descUp_len l j; omega
      have hsz := hB.size
      by_cases hlt : j + 1 < n
      · obtain ⟨x, hx⟩ : ∃ x, x = l.getD j 0 := ⟨_, rfl⟩
        obtain ⟨y, hy⟩ : ∃ y, y = l.getD (j + 1) 0 := ⟨_, rfl⟩
        have hcx : wr.cell? ⟨b, off + j, none⟩ = some (.int .i64 x) := by
          rw [hx, hB.cell (p := ⟨b, off + j, none⟩) (World.block_lt_of_cell? _ _ (hc j (by omega)))]; exact hc j (by omega)
        have hcy : wr.cell? ⟨b, off + (j + 1), none⟩ = some (.int .i64 y) := by
          rw [hy, hB.cell (p := ⟨b, off + (j + 1), none⟩) (World.block_lt_of_cell? _ _ (hc (j + 1) hlt))]; exact hc (j + 1) hlt
        have HX := Lib.hid hx
        have HY := Lib.hid hy
        have hj1 : (j : Int) < (n : Int) := by omega
        have hj2 : (j : Int) + 1 < (n : Int) := by omega
        have hj3 : IntKind.i64.wrap ((j : Int) + 1 - 1) = (j : Int) := (IntWalk.i64_in _ (by omega)).trans (by omega)
        have hj4 : 0 ≤ (j : Int) + 1 := by omega
        have hj5 : ((j : Int) + 1).toNat = j + 1 := by omega
        clear hc hx hy
        by_cases hxy : y < x
        · have hd := quietGtr hxy
          have e := Lib.hid (descUp_yes HX.out HY.out hxy)
          go_wp2
          go_quiet (fail)
          have hO1 : OwnI w.heap.size (wr.drewN nq) _ (descUp l j) := hO
          have hB1 := below_drewN hB nq
          clear hj3 hj4 hj5
          go_wp2_with (at_builtin; refine wpList_push (wr.drewN nq) rfl _ _ rfl hO1 rfl rfl hlen hsz ?_)
          intro v' w3 hO' hb1 _ _
          have hB' := hB1.trans hb1
          first | rw [← e.out] at hO' | (rw [show ((j : Int) + 1 - 1) = (j : Int) by omega, ← e.out] at hO')
          clear hO hB hO1 hB1
          go_wp2
          go_roundw
          case rel => exact ⟨j + 1, by omega, by go_num, hO', hB'⟩
          case measure => simp [intOf]; omega
        · have e := Lib.hid (descUp_no HX.out HY.out hxy)
          have hd : decide (y < x) = false := by simpa using hxy
          go_wp2
          go_quiet (fail)
          have hO1 : OwnI w.heap.size (wr.drewN nq) _ (descUp l j) := hO
          have hB1 := below_drewN hB nq
          rw [← e.out] at hO1
          clear hj3 hj4 hj5 hO hB
          go_wp2
          go_roundw
          case rel => exact ⟨j + 1, by omega, by go_num, hO1, hB1⟩
          case measure => simp [intOf]; omega
      · clear hlen hc
        go_wp2
        go_ret
        obtain rfl : n = j + 1 := by omega
        rw [HR.out, ← HL.out]
        exact ⟨_, rfl, hO, hB⟩

end Go.Proofs.Ytfepepakellbbaa
