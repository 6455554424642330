/-
  Contracts: EvaluatePoly.
-/
import Derived.Test.YthgigbihpcelpaaDeg
namespace Go.Proofs.Ythgigbihpcelpaa
open Go.RowKit
set_option linter.unusedVariables false

theorem tmod_cases (k : Int) : (0 ≤ k ∧ k.tmod 32003 = k % 32003) ∨ (k < 0 ∧ k.tmod 32003 = -((-k) % 32003)) := by
  by_cases h : 0 ≤ k
  · exact .inl ⟨h, Int.tmod_eq_emod_of_nonneg h⟩
  · refine .inr ⟨by omega, ?_⟩
    have h2 : k = -(-k) := by omega
    rw [h2, Int.neg_tmod, Int.tmod_eq_emod_of_nonneg (by omega), Int.neg_neg]
theorem wrap64_in {x : Int} (h : -9223372036854775808 ≤ x ∧ x ≤ 9223372036854775807) : wrap64 x = x := IntWalk.wrap64_in x h

theorem l2Residue_c (k : Int) (w : World) :
    Calls Try.prog 45 #[.int .i64 k] w fun e w' => e = .returned (.int .i64 (k % 32003)) ∧ w = w' := by
  have h1 := tmod_cases k
  have h3 : wrap64 (k.tmod 32003 + 32003) = k.tmod 32003 + 32003 := wrap64_in (by omega)
  have h2 := tmod_cases (k.tmod 32003 + 32003)
  have HR := Lib.hid (show (wrap64 (k.tmod 32003 + 32003)).tmod 32003 = k % 32003 by rw [h3]; omega)
  clear h1 h2 h3
  go_enter Try.func45, Try.ntmps45
  go_wp2
  go_ret
  exact ⟨ret_int HR.out, rfl⟩

/-- What a term is worth: the first i variables count. -/
def prodUp (e vs : List Int) (c : Int) : Nat → Int
  | 0 => c
  | i + 1 => prodUp e vs c i * (vs.getD i 0) ^ (e.getD i 0).toNat
def worthF (vs : List Int) : TermL → Int
  | [] => 0
  | t :: ts => prodUp t.1 vs t.2 7 + worthF vs ts
theorem worthF_append (vs : List Int) : ∀ (a b : TermL), worthF vs (a ++ b) = worthF vs a + worthF vs b
  | [], b => by simp [worthF]
  | t :: a, b => by simp only [List.cons_append, worthF, worthF_append vs a b]; omega
theorem worthF_step {vs : List Int} {ts : TermL} {j : Nat} {e : List Int} {d : Int} (h : ts[j]? = some (e, d)) : worthF vs (ts.take (j + 1)) = worthF vs (ts.take j) + prodUp e vs d 7 := by
  rw [List.take_add_one, h, worthF_append]; simp [worthF]
noncomputable def evalL (ts : TermL) (vs : List Int) : Int := if polyB ts = true ∧ vs.length = 7 then worthF vs ts % 32003 else -1
theorem evalL_yes {ts : TermL} {vs : List Int} (h : polyB ts = true) (h7 : vs.length = 7) : evalL ts vs = worthF vs ts % 32003 := if_pos ⟨h, h7⟩
theorem evalL_no {ts : TermL} {vs : List Int} (h : polyB ts = false) : evalL ts vs = -1 := if_neg (by rw [h]; simp)
theorem evalL_no7 {ts : TermL} {vs : List Int} (h : vs.length ≠ 7) : evalL ts vs = -1 := if_neg (fun h2 => h h2.2)
theorem mul_range {x y : Int} (h1 : 0 ≤ x) (h2 : x < 32003) (h3 : 0 ≤ y) (h4 : y < 32003) : 0 ≤ x * y ∧ x * y ≤ 1024192009 :=
  ⟨Int.mul_nonneg h1 h3, Int.le_trans (Int.mul_le_mul (Int.le_of_lt h2) (Int.le_of_lt h4) h3 (by decide)) (by decide)⟩
theorem pow_step {x V P : Int} {q : Nat} (h : x = P * V ^ q % 32003) : x * (V % 32003) % 32003 = P * V ^ (q + 1) % 32003 := by
  rw [h, ← Int.mul_emod, Int.pow_succ, Int.mul_assoc]

set_option maxHeartbeats 3200000 in
theorem sEval_c (v u : Value) (ts : TermL) (vs : List Int) (w : World) (hv : TermsV w v ts) (hu : IntsV w u vs) :
    Calls Try.prog 25 #[v, u] w fun e w' => e = .returned (.int .i64 (evalL ts vs)) ∧ Below w.heap.size w w' := by
  have hv0 := hv
  obtain ⟨n, ao, b, c, rfl, HL, hnc, hcm, ha, hc, hn⟩ := hv.open
  have HC := Lib.hid hc
  obtain ⟨m, uo, ub, uoff, uc, rfl, HM, hmc, hum, hua, huc, hm⟩ := hu.open
  have HU := Lib.hid huc
  clear hc hcm huc hum
  cases hP : polyB ts with
  | false =>
    have HR := Lib.hid (evalL_no (vs := vs) hP)
    go_enter Try.func25, Try.ntmps25
    go_wp2_with fail
    refine (sPolyOk_c _ _ _ hv).mono ?_
    rw [hP]
    rintro e w1 ⟨rfl, b1⟩
    go_wp2_with fail
    go_ret
    exact ⟨ret_int HR.out.symm, b1⟩
  | true =>
    by_cases h7 : m = 7
    · subst h7
      have HP := Lib.hid (polyB_all hP)
      have HR := Lib.hid (evalL_yes (vs := vs) hP HM.out.symm)
      have h77 : (((7 : Nat) : Int) != 7) = false := by decide
      go_enter Try.func25, Try.ntmps25
      go_wp2_with fail
      refine (sPolyOk_c _ _ _ hv).mono ?_
      rw [hP]
      rintro e w1 ⟨rfl, b1⟩
      clear hP
      obtain rfl := hua (by omega)
      go_wp2_with fail
      go_loop [5, 6] (fun sv iv => ∃ (j : Nat) (s : Int), j ≤ n ∧ iv = .int .i64 j ∧ sv = .int .i64 s ∧ Hid (s = worthF vs (ts.take j) % 32003) ∧ 0 ≤ s ∧ s < 32003) (fun _ iv => n - (intOf iv).toNat)
      case atStart => exact ⟨0, 0, Nat.zero_le _, rfl, rfl, Lib.hid rfl, by decide, by decide⟩
      case round =>
        obtain ⟨j, s, hj, rfl, rfl, HS, hs0, hs1⟩ := hrel
        by_cases hlt : j < n
        · obtain rfl := ha (by omega)
          obtain ⟨x, hx⟩ : ∃ x, ts[j]? = some x := ⟨_, List.getElem?_eq_getElem (by rw [← HL.out]; exact hlt)⟩
          obtain ⟨e, d⟩ := x
          obtain ⟨q, h1, h2, hq⟩ := HC.out j e d hx
          have k1 := (b1.cell (World.block_lt_of_cell? _ _ h1)).trans h1
          have k2 := (b1.cell (World.block_lt_of_cell? _ _ h2)).trans h2
          have HX := Lib.hid (worthF_step (vs := vs) hx)
          have HO := Lib.hid (HP.out j e d hx)
          obtain ⟨en, eo, eb, eoff, ec, rfl, HE, hec, hem, hea, hecell, _⟩ := hq.open
          have HEC := Lib.hid hecell
          obtain rfl : en = 7 := HE.out.trans HO.out.1
          obtain rfl := hea (by omega)
          have hj0 : (0 : Int) ≤ (j : Int) := Int.natCast_nonneg _
          have hj1 : (j : Int) < (n : Int) := by omega
          clear h1 h2 hx hecell hem hea
          go_wp2_with fail
          refine (l2Residue_c _ _).mono ?_
          rintro e2 w2 ⟨rfl, rfl⟩
          have hd0 : 0 ≤ d % 32003 := by omega
          have hd1 : d % 32003 < 32003 := by omega
          have HD : Hid (d % 32003 = prodUp e vs d 0 % 32003) := Lib.hid rfl
          generalize d % 32003 = dr at hd0 hd1 HD
          go_wp2_with fail
          go_loop [7, 8] (fun xv iv => ∃ (i : Nat) (x : Int), i ≤ 7 ∧ iv = .int .i64 i ∧ xv = .int .i64 x ∧ Hid (x = prodUp e vs d i % 32003) ∧ 0 ≤ x ∧ x < 32003) (fun _ iv => 7 - (intOf iv).toNat)
          case atStart => exact ⟨0, dr, Nat.zero_le _, rfl, rfl, HD, hd0, hd1⟩
          case round =>
            obtain ⟨i, x, hi, rfl, rfl, HPx, hx0, hx1⟩ := hrel
            clear HD
            by_cases hi7 : i < 7
            · obtain ⟨E, hE⟩ : ∃ E : Nat, e.getD i 0 = (E : Int) := ⟨(e.getD i 0).toNat, by have := (HO.out.2.2.2 i hi7).1; omega⟩
              have hEc := (HEC.out i hi7).trans (by rw [hE])
              have k3 := (b1.cell (World.block_lt_of_cell? _ _ hEc)).trans hEc
              obtain ⟨V, hV⟩ : ∃ V, V = vs.getD i 0 := ⟨_, rfl⟩
              have hVc := (HU.out i hi7).trans (by rw [← hV])
              have k4 := (b1.cell (World.block_lt_of_cell? _ _ hVc)).trans hVc
              have hE24 : E ≤ 24 := by have := (HO.out.2.2.2 i hi7).2; omega
              have HSt : Hid (prodUp e vs d (i + 1) = prodUp e vs d i * V ^ E) := Lib.hid (by
                rw [prodUp, ← hV, hE]; simp)
              have hi0 : (0 : Int) ≤ (i : Int) := Int.natCast_nonneg _
              have hi1 : (i : Int) < 7 := by omega
              generalize hPP : prodUp e vs d i = P at HPx HSt
              clear hEc hVc hV hE hPP
              go_wp2_with fail
              go_loop [7, 9] (fun xv qv => ∃ (q : Nat) (x : Int), q ≤ E ∧ qv = .int .i64 q ∧ xv = .int .i64 x ∧ Hid (x = P * V ^ q % 32003) ∧ 0 ≤ x ∧ x < 32003) (fun _ qv => E - (intOf qv).toNat)
              case atStart => exact ⟨0, x, Nat.zero_le _, rfl, rfl, Lib.hid (by rw [HPx.out]; simp), hx0, hx1⟩
              case round =>
                obtain ⟨q, y, hq', rfl, rfl, HY, hy0, hy1⟩ := hrel
                clear HPx hx0 hx1
                by_cases hqE : q < E
                · have hqi : (q : Int) < (E : Int) := by omega
                  go_wp2_with fail
                  refine (l2Residue_c _ _).mono ?_
                  rintro e2 w2 ⟨rfl, rfl⟩
                  have hV0 : 0 ≤ V % 32003 := by omega
                  have hV1 : V % 32003 < 32003 := by omega
                  have HY' := Lib.hid (pow_step HY.out)
                  generalize V % 32003 = Vr at hV0 hV1 HY'
                  have hr := mul_range hy0 hy1 hV0 hV1
                  go_wp2_with fail
                  go_round
                  case rel => exact ⟨q + 1, y * Vr % 32003, by omega, by go_num, rfl, HY', by omega, by omega⟩
                  case measure => simp [intOf]; omega
                · obtain rfl : q = E := by omega
                  go_wp2_with fail
                  go_round
                  case rel => exact ⟨i + 1, y, by omega, by go_num, rfl, Lib.hid (by rw [HSt.out]; exact HY.out), hy0, hy1⟩
                  case measure => simp [intOf]; omega
            · obtain rfl : i = 7 := by omega
              have HS' : Hid ((s + x) % 32003 = worthF vs (ts.take (j + 1)) % 32003) := Lib.hid (by rw [HX.out, HS.out, HPx.out, ← Int.add_emod])
              go_wp2_with fail
              go_round
              case rel => exact ⟨j + 1, (s + x) % 32003, by omega, by go_num, rfl, HS', by omega, by omega⟩
              case measure => simp [intOf]; omega
        · obtain rfl : j = n := by omega
          go_wp2_with fail
          go_ret
          refine ⟨ret_int ?_, b1⟩
          rw [HR.out, HS.out, show j = ts.length from HL.out, List.take_length]
    · have HR := Lib.hid (evalL_no7 (ts := ts) (vs := vs) (fun h => h7 (HM.out.trans h)))
      have hm7 : ((m : Int) != 7) = true := by simp; omega
      go_enter Try.func25, Try.ntmps25
      go_wp2_with fail
      refine (sPolyOk_c _ _ _ hv).mono ?_
      rw [hP]
      rintro e w1 ⟨rfl, b1⟩
      go_wp2_with fail
      go_ret
      exact ⟨ret_int HR.out.symm, b1⟩

theorem mul_range2 {x y : Int} (h1 : -32003 < x) (h2 : x < 32003) (h3 : -32003 < y) (h4 : y < 32003) : -1024192009 ≤ x * y ∧ x * y ≤ 1024192009 := by
  have := Nat.mul_le_mul (show x.natAbs ≤ 32003 by omega) (show y.natAbs ≤ 32003 by omega)
  rw [← Int.natAbs_mul] at this
  omega

set_option maxHeartbeats 3200000 in
theorem iEval_c (v u : Value) (ts : TermL) (vs : List Int) (w : World) (hv : TermsV w v ts) (hu : IntsV w u vs) :
    Calls Try.prog 26 #[v, u] w fun e w' => e = .returned (.int .i64 (evalL ts vs)) ∧ Below w.heap.size w w' := by
  have hv0 := hv
  obtain ⟨n, ao, b, c, rfl, HL, hnc, hcm, ha, hc, hn⟩ := hv.open
  have HC := Lib.hid hc
  obtain ⟨m, uo, ub, uoff, uc, rfl, HM, hmc, hum, hua, huc, hm⟩ := hu.open
  have HU := Lib.hid huc
  clear hc hcm huc hum
  cases hP : polyB ts with
  | false =>
    have HR := Lib.hid (evalL_no (vs := vs) hP)
    go_enter Try.func26, Try.ntmps26
    go_wp2_with fail
    refine (iPolyOk_c _ _ _ hv).mono ?_
    rw [hP]
    rintro e w1 ⟨rfl, b1⟩
    go_wp2_with fail
    go_ret
    exact ⟨ret_int HR.out.symm, b1⟩
  | true =>
    by_cases h7 : m = 7
    · subst h7
      have HP := Lib.hid (polyB_all hP)
      have hn6 : n ≤ 600 := by rw [HL.out]; exact (polyB_iff.1 hP).1
      have HR := Lib.hid (evalL_yes (vs := vs) hP HM.out.symm)
      have h77 : (((7 : Nat) : Int) != 7) = false := by decide
      go_enter Try.func26, Try.ntmps26
      go_wp2_with fail
      refine (iPolyOk_c _ _ _ hv).mono ?_
      rw [hP]
      rintro e w1 ⟨rfl, b1⟩
      clear hP
      obtain rfl := hua (by omega)
      go_wp2_with fail
      go_loopw [5, 21] (fun sv iv wr => ∃ (j : Nat) (s : Int), j ≤ n ∧ iv = .int .i64 j ∧ sv = .int .i64 s ∧ Hid (s % 32003 = worthF vs (ts.take j) % 32003) ∧ -32003 * (j : Int) ≤ s ∧ s ≤ 32003 * (j : Int) ∧ Below w.heap.size w wr) (fun _ iv _ => n - (intOf iv).toNat)
      case atStart => exact ⟨0, 0, Nat.zero_le _, rfl, rfl, Lib.hid rfl, by decide, by decide, b1⟩
      case round =>
        obtain ⟨j, s, hj, rfl, rfl, HS, hs0, hs1, hB⟩ := hrel
        by_cases hlt : j < n
        · obtain rfl := ha (by omega)
          obtain ⟨x, hx⟩ : ∃ x, ts[j]? = some x := ⟨_, List.getElem?_eq_getElem (by rw [← HL.out]; exact hlt)⟩
          obtain ⟨e, d⟩ := x
          obtain ⟨q, h1, h2, hq⟩ := HC.out j e d hx
          have k1 := (hB.cell (World.block_lt_of_cell? _ _ h1)).trans h1
          have k2 := (hB.cell (World.block_lt_of_cell? _ _ h2)).trans h2
          have HX := Lib.hid (worthF_step (vs := vs) hx)
          have HO := Lib.hid (HP.out j e d hx)
          obtain ⟨en, eo, eb, eoff, ec, rfl, HE, hec, hem, hea, hecell, _⟩ := hq.open
          have HEC := Lib.hid hecell
          obtain rfl : en = 7 := HE.out.trans HO.out.1
          obtain rfl := hea (by omega)
          have hj0 : (0 : Int) ≤ (j : Int) := Int.natCast_nonneg _
          have hj1 : (j : Int) < (n : Int) := by omega
          have FB := hB.alloc hB.size (Obj.cells #[.slice (some ⟨eb, eoff, none⟩) 7 ec, .int .i64 d] 46)
          obtain ⟨wo, hwo⟩ : ∃ wo, wo = wr.alloc (Obj.cells #[.slice (some ⟨eb, eoff, none⟩) 7 ec, .int .i64 d] 46) := ⟨_, rfl⟩
          have HWO := Lib.hid hwo
          have FW := FB
          rw [← hwo] at FW
          clear h1 h2 hx hecell hem hea hwo
          have td := tmod_cases d
          obtain ⟨dr, hdr⟩ : ∃ dr, d.tmod 32003 = dr := ⟨_, rfl⟩
          rw [hdr] at td
          have hd0 : -32003 < dr := by omega
          have hd1 : dr < 32003 := by omega
          have HD : Hid (dr % 32003 = prodUp e vs d 0 % 32003) := Lib.hid (by show dr % 32003 = d % 32003; omega)
          clear td
          go_wp2_with fail
          go_loop [8, 31] (fun xv iv => ∃ (i : Nat) (x : Int), i ≤ 7 ∧ iv = .int .i64 i ∧ xv = .int .i64 x ∧ Hid (x % 32003 = prodUp e vs d i % 32003) ∧ -32003 < x ∧ x < 32003) (fun _ iv => 7 - (intOf iv).toNat)
          case atStart => exact ⟨0, dr, Nat.zero_le _, rfl, rfl, HD, hd0, hd1⟩
          case round =>
            obtain ⟨i, x, hi, rfl, rfl, HPx, hx0, hx1⟩ := hrel
            clear HD hdr
            by_cases hi7 : i < 7
            · obtain ⟨E, hE⟩ : ∃ E : Nat, e.getD i 0 = (E : Int) := ⟨(e.getD i 0).toNat, by have := (HO.out.2.2.2 i hi7).1; omega⟩
              have hEc := (HEC.out i hi7).trans (by rw [hE])
              have k3 := (FB.cell (World.block_lt_of_cell? _ _ hEc)).trans hEc
              obtain ⟨V, hV⟩ : ∃ V, V = vs.getD i 0 := ⟨_, rfl⟩
              have hVc := (HU.out i hi7).trans (by rw [← hV])
              have k4 := (FB.cell (World.block_lt_of_cell? _ _ hVc)).trans hVc
              have hE24 : E ≤ 24 := by have := (HO.out.2.2.2 i hi7).2; omega
              have HSt : Hid (prodUp e vs d (i + 1) = prodUp e vs d i * V ^ E) := Lib.hid (by
                rw [prodUp, ← hV, hE]; simp)
              have hi0 : (0 : Int) ≤ (i : Int) := Int.natCast_nonneg _
              have hi1 : (i : Int) < 7 := by omega
              generalize hPP : prodUp e vs d i = P at HPx HSt
              clear hEc hVc hV hE hPP
              go_wp2_with fail
              go_loop [8, 37] (fun xv qv => ∃ (q : Nat) (x : Int), q ≤ E ∧ qv = .int .i64 q ∧ xv = .int .i64 x ∧ Hid (x % 32003 = P * V ^ q % 32003) ∧ -32003 < x ∧ x < 32003) (fun _ qv => E - (intOf qv).toNat)
              case atStart => exact ⟨0, x, Nat.zero_le _, rfl, rfl, Lib.hid (by rw [HPx.out]; simp), hx0, hx1⟩
              case round =>
                obtain ⟨q, y, hq', rfl, rfl, HY, hy0, hy1⟩ := hrel
                clear HPx hx0 hx1
                by_cases hqE : q < E
                · have hqi : (q : Int) < (E : Int) := by omega
                  have tv := tmod_cases V
                  obtain ⟨Vr, hVr⟩ : ∃ r, V.tmod 32003 = r := ⟨_, rfl⟩
                  rw [hVr] at tv
                  have hV0 : -32003 < Vr := by omega
                  have hV1 : Vr < 32003 := by omega
                  have HVr := Lib.hid (show Vr % 32003 = V % 32003 by omega)
                  clear tv
                  have hr := mul_range2 hy0 hy1 hV0 hV1
                  have tz := tmod_cases (y * Vr)
                  obtain ⟨z, hz⟩ : ∃ z, (y * Vr).tmod 32003 = z := ⟨_, rfl⟩
                  rw [hz] at tz
                  have hz0 : -32003 < z := by omega
                  have hz1 : z < 32003 := by omega
                  have HZ : Hid (z % 32003 = P * V ^ (q + 1) % 32003) := Lib.hid (by
                    have : z % 32003 = (y * Vr) % 32003 := by omega
                    rw [this, Int.mul_emod, HY.out, HVr.out, ← Int.mul_emod, Int.pow_succ, Int.mul_assoc])
                  clear tz
                  have hwz : wrap64 (y * Vr) = y * Vr := wrap64_in ⟨by omega, by omega⟩
                  have hwz2 : IntKind.i64.wrap (y * Vr) = y * Vr := IntWalk.i64_in _ ⟨by omega, by omega⟩
                  go_wp2_with fail
                  go_round
                  case rel => exact ⟨q + 1, z, by omega, by go_num, rfl, HZ, hz0, hz1⟩
                  case measure => simp [intOf]; omega
                · obtain rfl : q = E := by omega
                  go_wp2_with fail
                  go_round
                  case rel => exact ⟨i + 1, y, by omega, by go_num, rfl, Lib.hid (by rw [HSt.out]; exact HY.out), hy0, hy1⟩
                  case measure => simp [intOf]; omega
            · obtain rfl : i = 7 := by omega
              have HS' : Hid ((s + x) % 32003 = worthF vs (ts.take (j + 1)) % 32003) := Lib.hid (by rw [HX.out, Int.add_emod, HS.out, HPx.out, ← Int.add_emod])
              go_wp2_with fail
              go_roundw
              case rel => exact ⟨j + 1, s + x, by omega, by go_num, rfl, HS', by omega, by omega, FB⟩
              case measure => simp [intOf]; omega
        · obtain rfl : j = n := by omega
          have tv := tmod_cases s
          obtain ⟨t, ht⟩ : ∃ r, s.tmod 32003 = r := ⟨_, rfl⟩
          rw [ht] at tv
          have ht0 : -32003 < t := by omega
          have ht1 : t < 32003 := by omega
          have HT := Lib.hid (show (t + 32003) % 32003 = s % 32003 by omega)
          clear tv
          go_wp2_with fail
          go_ret
          refine ⟨ret_int ?_, hB⟩
          rw [HR.out, HT.out, HS.out, show j = ts.length from HL.out, List.take_length]
    · have HR := Lib.hid (evalL_no7 (ts := ts) (vs := vs) (fun h => h7 (HM.out.trans h)))
      have hm7 : ((m : Int) != 7) = true := by simp; omega
      go_enter Try.func26, Try.ntmps26
      go_wp2_with fail
      refine (iPolyOk_c _ _ _ hv).mono ?_
      rw [hP]
      rintro e w1 ⟨rfl, b1⟩
      go_wp2_with fail
      go_ret
      exact ⟨ret_int HR.out.symm, b1⟩

end Go.Proofs.Ythgigbihpcelpaa
