/-
  The law: essential cells and ranks.
-/
import Derived.Test.YtfepepakellbbaaOpenB
import Derived.Test.YtfepepakellbbaaEssR
import Derived.Test.YtfepepakellbbaaPat
import Derived.Test.YtfepepakellbbaaPushT
import Derived.BigQuiet
namespace Go.Proofs.Ytfepepakellbbaa
open Go.RowKit
set_option linter.unusedVariables false

set_option maxRecDepth 4000 in
set_option maxHeartbeats 1600000 in
theorem essRanks_w (ao : Option Addr) (len c : Nat) (w : World) (hb : BytesR w ao len c) (hl : len ≤ 9223372036854775807) :
    Calls Try.prog 5 #[.slice ao len c] w fun e w' => e = .returned (.bool true) ∧ Below w.heap.size w w' := by
  by_cases hbig : 1048576 < len
  · have hd : decide (1048576 < len) = true := decide_eq_true hbig
    go_enter Try.func5, Try.ntmps5
    go_wp2_with fail
    refine (big_c ao len c _ hl).mono ?_
    rw [hd]
    rintro e w1 ⟨rfl, rfl⟩
    go_wp2_with fail
    go_ret
    exact ⟨rfl, Below.refl _ _⟩
  · have hd : decide (1048576 < len) = false := decide_eq_false hbig
    go_enter Try.func5, Try.ntmps5
    go_wp2_with fail
    refine (big_c ao len c _ hl).mono ?_
    rw [hd]
    rintro e w1 ⟨rfl, rfl⟩
    go_wp2_with fail
    refine (drawTwo_c ao len c _ hb (by omega)).mono ?_
    rintro e w2 ⟨r1, r2, n, u, v, rfl, hn1, hn5, hu, hv, iu2, iv2, F2⟩
    obtain ⟨uo, un, uc, rfl⟩ := iu2.shapeL
    obtain ⟨vo, vn, vc, rfl⟩ := iv2.shapeL
    obtain rfl : n = un := (iu2.lenEq.trans hu.2).symm
    obtain rfl : n = vn := (iv2.lenEq.trans hv.2).symm
    have HER := Lib.hid (fun k hk => ess_ranks hu hv (k := k) hk)
    have HRA := Lib.hid (rank_all hv)
    have HBND := Lib.hid (fun i j hx => (mem_ess hu (i, j)).1 hx)
    have HD7 : Hid (∀ x0 x1, (x0, x1) ∈ essL u → 0 ≤ x0 ∧ x0 ≤ 7 ∧ 0 ≤ x1 ∧ x1 ≤ 7) := Lib.hid (fun x0 x1 hx => by
      obtain ⟨i, j, e, hD, _⟩ := (mem_ess hu _).1 hx
      simp only [Prod.mk.injEq] at e
      have := hD.1
      have := hD.2.1
      omega)
    clear HBND hu hv hb hd
    go_wp2_with fail
    refine (iEss_c _ _ _ iu2).mono ?_
    rintro e w3 ⟨rs, rfl, os, b3⟩
    have G3 := below_step F2 b3 F2.size
    have iu3 := iu2.kept b3
    have iv3 := iv2.kept b3
    generalize essL u = es at os HER HD7
    obtain ⟨m, eo, eb, ec, rfl, HL, hmc, hcm, ha, hc, hm⟩ := os.cells.open
    have HC := Lib.hid hc
    have GS := G3.size
    clear b3 iu2 iv2 F2 os hcm hc
    go_wp2_with fail
    go_loopw [6, 7] (fun kv iv wr => ∃ i : Nat, i ≤ m ∧ iv = .int .i64 i ∧ kv = .bool (keepUp es u v i) ∧ Below w3.heap.size w3 wr) (fun _ iv _ => m - (intOf iv).toNat)
    case atStart => exact ⟨0, Nat.zero_le _, rfl, rfl, Below.refl _ _⟩
    case round =>
      obtain ⟨i, hi, rfl, rfl, hB⟩ := hrel
      by_cases hlt : i < m
      · obtain rfl := ha (by omega)
        obtain ⟨x, hx⟩ : ∃ x, es[i]? = some x := ⟨_, List.getElem?_eq_getElem (by rw [← HL.out]; exact hlt)⟩
        obtain ⟨x0, x1⟩ := x
        have HX := Lib.hid hx
        obtain ⟨h1, h2⟩ := HC.out i _ hx
        have k1 : wr.cell? ⟨eb, i * 2, none⟩ = some (.int .i64 x0) := by rw [hB.cell (World.block_lt_of_cell? _ _ h1)]; exact h1
        have k2 : wr.cell? ⟨eb, i * 2 + 1, none⟩ = some (.int .i64 x1) := by rw [hB.cell (World.block_lt_of_cell? _ _ h2)]; exact h2
        obtain ⟨g1, g2, g3, g4⟩ := HD7.out x0 x1 (List.mem_of_getElem? hx)
        have hj0 : (0 : Int) ≤ (i : Int) := Int.natCast_nonneg _
        have hj1 : (i : Int) < (m : Int) := by omega
        have HK := Lib.hid (keepUp_succ (u := u) (v := v) hx)
        have hw1 : IntKind.i64.wrap (x0 + 1) = x0 + 1 := IntWalk.i64_in _ (by omega)
        have hw2 : IntKind.i64.wrap (x1 + 1) = x1 + 1 := IntWalk.i64_in _ (by omega)
        have hw3 : wrap64 (x0 + 1) = x0 + 1 := IntWalk.wrap64_in _ (by omega)
        have hw4 : wrap64 (x1 + 1) = x1 + 1 := IntWalk.wrap64_in _ (by omega)
        clear h1 h2 hx
        generalize keepUp es u v i = K at HK
        cases K with
        | false =>
          go_wp2_with fail
          go_quiet (fail)
          go_wp2
          go_roundw
          case rel => exact ⟨i + 1, by omega, by go_num, by rw [HK.out]; rfl, hB.trans ⟨rfl, rfl, rfl, Nat.le_refl _, fun _ _ => rfl⟩⟩
          case measure => simp [intOf]; omega
        | true =>
          go_wp2_with fail
          go_region_held3 (fun w' => Below w3.heap.size w3 w' ∧ w'.cell? ⟨eb, i * 2, none⟩ = some (.int .i64 x0) ∧ w'.cell? ⟨eb, i * 2 + 1, none⟩ = some (.int .i64 x1))
            (first
              | exact keep2_drew hB k1 k2
              | exact keep2_call b1' (by assumption) (Nat.le_refl _))
            (first
              | (go_at_call 29; refine (iRank_c _ _ _ _ _ (by first | exact iv3.kept (held2_below (by assumption)) | exact iu3.kept (held2_below (by assumption)))).mono ?_; rintro e1 w1' ⟨rfl, b1'⟩))
          all_goals
            have FF := held2_below (p := ⟨eb, i * 2, none⟩) (q := ⟨eb, i * 2 + 1, none⟩) (x := .int .i64 x0) (y := .int .i64 x1) (B := w3.heap.size) (w := w3) (by assumption)
            go_wp2_with fail
            go_roundw
            case rel => exact ⟨i + 1, by omega, by go_num, by rw [HK.out]; rfl, FF⟩
            case measure => simp [intOf]; omega
      · obtain rfl : i = m := by omega
        have HE := Lib.hid (HER.out i HL.out)
        have G4 := below_step G3 hB GS
        rw [HE.out]
        have cB : Hid (∀ W, IntsV W (.slice uo n uc) u → IntsV W (.slice vo n vc) v → Calls Try.prog 12 #[.slice uo n uc, .slice vo n vc] W (GivesB W (belowB u v))) := Lib.hid (fun W h1 h2 => iBelow_c _ _ _ _ _ h1 h2)
        generalize belowB u v = bl at cB
        have iu4 := iu3.kept hB
        have iv4 := iv3.kept hB
        clear HE HER HD7 HC
        go_wp2_with fail
        refine (cB.out _ iu4 iv4).mono ?_
        rintro e w4 ⟨rfl, b4⟩
        have G5 := below_step G4 b4 G4.size
        have iv5 := iv4.kept b4
        clear b4
        go_wp2_with fail
        refine (iRank_c _ _ _ _ _ iv5).mono ?_
        rw [HRA.out]
        rintro e w5 ⟨rfl, b5⟩
        have G6 := below_step G5 b5 G5.size
        go_wp2_with fail
        go_ret
        exact ⟨ret_bool (by simp), G6⟩

end Go.Proofs.Ytfepepakellbbaa
