/-
  Contracts: counted, CountReduced (the program's).
-/
import Derived.Test.YtfepepakellbbaaBeg
import Derived.Test.YtfepepakellbbaaFPerm
import Derived.Maps.Own
import Derived.Maps.OwnOps
import Derived.Maps.OwnSet
namespace Go.Proofs.Ytfepepakellbbaa
open Go.RowKit Go.Maps
set_option linter.unusedVariables false

/-! Plain. -/
def tri : Nat → Nat
  | 0 => 0
  | k + 1 => k + tri k
theorem lenOf_tri : ∀ l : List Int, lenOf l ≤ (tri l.length : Int)
  | [] => by simp [lenOf_nil, tri]
  | x :: l => by
    have ih := lenOf_tri l
    have h : ltc x l ≤ l.length := List.countP_le_length
    rw [lenOf_cons, List.length_cons, tri]
    omega
theorem tri_le : ∀ k : Nat, k ≤ 7 → tri k ≤ 21
  | 0, _ | 1, _ | 2, _ | 3, _ | 4, _ | 5, _ | 6, _ | 7, _ => by simp [tri]
  | k + 8, h => by omega
theorem len_le {n : Nat} {w : List Int} (h : PermN n w) : lenOf w ≤ 21 := by
  have := lenOf_tri w
  have := tri_le w.length (by rw [h.2]; exact h.size.2)
  omega
theorem sum_le_mul {c : Nat} : ∀ {l : List Nat}, (∀ x ∈ l, x ≤ c) → l.sum ≤ l.length * c
  | [], _ => by simp
  | x :: l, h => by
    have ih := sum_le_mul (l := l) (fun y hy => h y (by simp [hy]))
    have := h x (by simp)
    rw [List.sum_cons, List.length_cons, Nat.succ_mul]
    omega
theorem ldesc_len (n : Nat) (w : List Int) : (ldesc n w).length ≤ n - 1 := by
  unfold ldesc
  exact Nat.le_trans (List.length_filter_le _ _) (by simp)
theorem redL_le {n : Nat} (h7 : n ≤ 7) : ∀ (m : Nat) (w : List Int), (redL n m w).length ≤ 6 ^ m
  | 0, w => by simp [redL]
  | m + 1, w => by
    rw [redL, List.length_flatMap]
    refine Nat.le_trans (sum_le_mul (c := 6 ^ m) (fun x hx => ?_)) ?_
    · obtain ⟨k, _, rfl⟩ := List.mem_map.1 hx
      rw [List.length_map]; exact redL_le h7 m _
    · rw [List.length_map, Nat.pow_succ, Nat.mul_comm]
      exact Nat.mul_le_mul_left _ (by have := ldesc_len n w; omega)
theorem redN_le {n : Nat} {w : List Int} (h : PermN n w) : redN n w ≤ 21936950640377856 := by
  have h1 := redL_le h.size.2 (lenOf w).toNat w
  have h2 := len_le h
  have h3 : 6 ^ (lenOf w).toNat ≤ 6 ^ 21 := Nat.pow_le_pow_right (by decide) (by omega)
  exact Nat.le_trans h1 (Nat.le_trans h3 (by decide))
/-- The ways on from the first j values. -/
def partN (n : Nat) (l : List Int) (j : Nat) : Nat := (((ldesc n l).take j).map (fun k => redN n (lsw l k))).sum
def startN (n : Nat) (l : List Int) : Nat := if (ldesc n l).length = 0 then 1 else 0
theorem partN_zero (n : Nat) (l : List Int) : partN n l 0 = 0 := by simp [partN]
theorem partN_succ {n : Nat} {l : List Int} {j k : Nat} (h : (ldesc n l)[j]? = some k) : partN n l (j + 1) = partN n l j + redN n (lsw l k) := by
  rw [partN, partN, List.take_add_one, h]; simp
theorem redN_all {n : Nat} {l : List Int} (h : PermN n l) : redN n l = startN n l + partN n l (ldesc n l).length := by
  unfold partN
  rw [List.take_length]
  have h0 := lenOf_nonneg l
  obtain ⟨m, hm⟩ : ∃ m : Nat, lenOf l = (m : Int) := ⟨(lenOf l).toNat, by omega⟩
  have hpos := redL_pos m h hm
  cases m with
  | zero =>
    have e : ldesc n l = [] := by
      rw [List.eq_nil_iff_forall_not_mem]
      intro k hk
      obtain ⟨h1, h2⟩ := mem_ldesc.1 hk
      have := len_lsw_down h h1 h2
      have := lenOf_nonneg (lsw l k)
      omega
    rw [redN, hm, startN, e]; simp [redL]
  | succ m =>
    have hne : (ldesc n l).length ≠ 0 := fun e => by
      rw [redL, List.eq_nil_of_length_eq_zero e] at hpos; simp at hpos
    rw [startN, if_neg hne, Nat.zero_add, redN, hm]
    show (redL n (m + 1) l).length = _
    rw [redL, List.length_flatMap]
    congr 1
    apply List.map_congr_left
    intro k hk
    obtain ⟨h1, h2⟩ := mem_ldesc.1 hk
    have := len_lsw_down h h1 h2
    rw [List.length_map, redN, show (lenOf (lsw l k)).toNat = m by omega]
theorem partN_mono (n : Nat) (l : List Int) (j : Nat) : partN n l j ≤ partN n l (ldesc n l).length := by
  unfold partN
  rw [List.take_length]
  conv => rhs; rw [← List.take_append_drop j (ldesc n l), List.map_append, List.sum_append]
  omega
theorem partN_le {n : Nat} {l : List Int} (h : PermN n l) (j : Nat) : startN n l + partN n l j ≤ 21936950640377856 := by
  have := partN_mono n l j
  have := redN_all h
  have := redN_le h
  omega
/-- How many entries a call may lay. -/
def tot : Nat → Nat
  | 0 => 1
  | m + 1 => 1 + 6 * tot m
theorem tot_le : ∀ m, tot m ≤ 7 ^ m
  | 0 => by simp [tot]
  | m + 1 => by
    have ih := tot_le m
    have : 1 ≤ 7 ^ m := Nat.one_le_pow _ _ (by decide)
    rw [tot, Nat.pow_succ]; omega

/-- The key of a permutation. -/
def kOf (v : List Int) : Lit := .string (strOf (fpL v)).data.toList
theorem kOf_inj {n : Nat} {u v : List Int} (hu : PermN n u) (hv : PermN n v) (h : kOf u = kOf v) : u = v := by
  have e : fpL u = fpL v := by
    have h2 := Lit.string.inj h
    simpa [strOf] using h2
  rw [fpL, if_pos hu.1, fpL, if_pos hv.1, fpUp, fpUp, List.take_length, List.take_length] at e
  refine perm_ext hu hv fun i hi => ?_
  have e2 := congrArg (·[i]?) e
  simp only [List.getElem?_map, (hu.get hi).1, (hv.get hi).1, Option.map_some, Option.some.injEq, Int.toNat_natCast] at e2
  have e3 := congrArg UInt8.toNat e2
  have d1 := hu.lt hi
  have d2 := hv.lt hi
  have h7 := hu.size.2
  rw [dig_nat (by omega), dig_nat (by omega)] at e3
  omega
structure KnownOk (n : Nat) (D : DataW Unit) : Prop where
  isMap : IsMap D
  right : ∀ v, PermN n v → Maps.has D (kOf v) = true → D.atKey (kOf v) (.lit (.int .i64 0)) = .lit (.int .i64 (redN n v : Int))
theorem KnownOk.empty (n : Nat) : KnownOk n (.map []) := ⟨isMap_empty, fun v _ h => by simp [Maps.has] at h⟩
theorem KnownOk.put {n : Nat} {D : DataW Unit} {l : List Int} (h : KnownOk n D) (hl : PermN n l) : KnownOk n (D.put (kOf l) (.lit (.int .i64 (redN n l : Int)))) := by
  refine ⟨h.isMap.put _ _, fun v hv hh => ?_⟩
  by_cases e : kOf v = kOf l
  · rw [kOf_inj hv hl e, atKey_put_same h.isMap (show WideAt.IsKeyLit (kOf l) from trivial)]
  · rw [atKey_put_other e]
    rw [has_put_other e] at hh
    exact h.right v hv hh
theorem KnownOk.at {n : Nat} {D : DataW Unit} {l : List Int} {c : Int} (h : KnownOk n D) (hl : PermN n l) (hh : Maps.has D (kOf l) = true) (hat : D.atKey (kOf l) (.lit (.int .i64 0)) = .lit (.int .i64 c)) : c = (redN n l : Int) := by
  have := h.right l hl hh
  rw [hat] at this
  injection this with this
  injection this with this

theorem grown_of_below {w w' : World} (row : Option Nat) (h : Below w.heap.size w w') : w.grownBy w' row := ⟨h.os, h.tape, h.output, h.size, fun k hk _ => h.block k hk⟩
theorem cell_far {P : Program} {k : TypeId} {R : Value → Option (DataW Unit × List MemPlace)} {w w' : World} {bm cnt : Nat} {D : DataW Unit} (hm : w.ownsMap P k R bm cnt D) (hg : w.grownBy w' (some bm)) {p : Addr} {u : Value} (hc : w.cell? p = some u) : w'.cell? p = some u := by
  obtain ⟨es, clock, hb, _⟩ := hm
  have hne : p.block ≠ bm := fun e => by
    obtain ⟨b, o, f⟩ := p
    simp at e; subst e
    simp [World.cell?, hb] at hc
  rw [World.cell?_of_block (hg.block p.block (World.block_lt_of_cell? _ _ hc) (fun e => hne (Option.some.inj e)))]
  exact hc
theorem IntsV.far {P : Program} {k : TypeId} {R : Value → Option (DataW Unit × List MemPlace)} {w w' : World} {bm cnt : Nat} {D : DataW Unit} {v : Value} {l : List Int} (h : IntsV w v l) (hm : w.ownsMap P k R bm cnt D) (hg : w.grownBy w' (some bm)) : IntsV w' v l := by
  obtain ⟨ao, b, off, c, h0, h1, h2, h3, h4, h5⟩ := h
  exact ⟨ao, b, off, c, h0, h1, h2, h3, fun j hj => cell_far hm hg (h4 j hj), h5⟩

theorem Try.keyS : Keyed Try.prog 9 := string_keyed Try.underlying9
theorem Try.zeroI (w : World) : (zeroValue 3).run Try.prog w = .ok (.int .i64 0) w := by kernel_rfl
theorem Try.hkey {l : List Int} : keyOf Try.prog 9 (.string (strOf (fpL l))) = some (kOf l) := WideMaps.keyOf_string_mk Try.underlying9 (by
  rw [strOf_size]
  have : (fpL l).length ≤ 7 := by
    unfold fpL; split
    · rename_i h; have := fpUp_len l l.length; have := (isPermB_iff.1 h).2.1; omega
    · simp
  unfold maxLen; omega)
abbrev KnownAt (w : World) (bm cnt : Nat) (D : DataW Unit) : Prop := w.ownsMap Try.prog 9 (plainElem Try.prog 3) bm cnt D
def CountPost (n bm cnt T : Nat) (w : World) (l : List Int) (e : Ending) (w' : World) : Prop :=
  e = .returned (.int .i64 (redN n l : Int)) ∧ ∃ cnt' D', KnownAt w' bm cnt' D' ∧ KnownOk n D' ∧ cnt' ≤ cnt + T ∧ w.grownBy w' (some bm)

set_option maxHeartbeats 3200000 in
theorem counted_c (n : Nat) : ∀ (m : Nat) (l : List Int) (v : Value) (bm cnt : Nat) (D : DataW Unit) (w : World), lenOf l = (m : Int) → PermN n l → IntsV w v l → KnownAt w bm cnt D → KnownOk n D → cnt + tot m ≤ 9000000000000000000 →
    Calls Try.prog 64 #[v, .map (some bm)] w (CountPost n bm cnt (tot m) w l) := by
  intro m
  induction m using Nat.strongRecOn with
  | ind m ih => ?_
  intro l v bm cnt D w hm hp hv hown hok hcnt
  have hv0 := hv
  obtain ⟨vo, vn, vc, rfl⟩ := hv.shape'
  have HP := Lib.hid hp
  have HM := Lib.hid hm
  have HOK := Lib.hid hok
  have HIH := Lib.hid ih
  have HRN := Lib.hid (redN_all hp)
  have hrn := redN_le hp
  have hbm := hown.lt
  have HCNT := Lib.hid hcnt
  have hcm : cnt < maxLen := by unfold maxLen; omega
  have HCM := Lib.hid hcm
  have htot : 1 ≤ tot m := by cases m <;> simp [tot]
  clear hp hm hok ih hv hcnt hcm
  go_enter Try.func64, Try.ntmps64
  go_wp2_with fail
  refine (iFPerm_c _ _ _ hv0).mono ?_
  rintro e w1 ⟨rfl, b1⟩
  have g1 := grown_of_below (some bm) b1
  have hown1 : KnownAt w1 bm cnt D := hown.kept (grown_of_below none b1) (by simp)
  have hv1 := hv0.kept b1
  go_wp2_with (at_lookup; refine wpList_lookup_own_ok_int _ rfl _ _ 71 rfl 9 3 .i64 Try.keyS Try.underlying71 Try.underlying3 (Try.zeroI _) bm cnt D rfl hown1 _ (kOf l) rfl Try.hkey ?_)
  intro c hat hwc
  cases hh : Maps.has D (kOf l) with
  | true =>
    have HE := Lib.hid (HOK.out.at HP.out hh hat)
    clear hh hat
    go_wp2
    go_ret
    rw [HE.out]
    exact ⟨rfl, cnt, D, hown1, HOK.out, by omega, g1⟩
  | false =>
    clear hh hat hwc
    go_wp2_with fail
    refine (beginnings_c n _ l _ HP.out hv1).mono ?_
    rintro e w2 ⟨r1, r2, us, rfl, hr1, hR, b2⟩
    have g2 : w.grownBy w2 (some bm) := grownBy_trans g1 (grown_of_below _ b2)
    have hown2 : KnownAt w2 bm cnt D := hown1.kept (grown_of_below none b2) (by simp)
    obtain ⟨q, ro, rb, rc, rfl, HQ, hqc, hra, hrc, hrq⟩ := RowsV.open (AtII.rows ⟨us, hR⟩)
    have hq : q = (ldesc n l).length := HQ.out.trans (restsL_len _ _)
    have hq6 : q ≤ 6 := by have := ldesc_len n l; have := HP.out.size; omega
    have HQ' := Lib.hid hq
    have HRC := Lib.hid hrc
    clear hq hrc hr1 hR b2 g1 b1 hv1 hown1
    by_cases hq0 : q = 0
    · have HS : Hid (startN n l = 1) := Lib.hid (by unfold startN; rw [← HQ'.out, if_pos hq0])
      have HE : Hid ((redN n l : Int) = 1) := Lib.hid (by rw [HRN.out, HS.out, ← HQ'.out, hq0, partN_zero]; rfl)
      have hrn2 : (Lit.int .i64 (redN n l : Int)).wf = true := WalkArith.wf_i64 (by omega)
      subst hq0
      go_wp2
      refine wp_loop_rounds 1 ?_
      rw [rounds_succ]
      go_wp2_with (at_mapUpdate; refine wpList_mapUpdate_own _ rfl _ _ _ 71 rfl 9 3 Try.keyS Try.underlying71 _ bm cnt _ rfl hown2 HCM.out _ _ _ rfl rfl Try.hkey _ [] (plainElem_int Try.underlying3 (WalkArith.wf_i64 (by omega))) ?_)
      intro w3 hown3 g3
      go_wp2
      go_ret
      have hone : (redN n l : Int) = 1 := HE.out
      rw [← hone] at hown3
      exact ⟨ret_int hone.symm, cnt + 1, _, hown3, HOK.out.put HP.out, by omega, grownBy_trans g2 g3⟩
    · have HS : Hid (startN n l = 0) := Lib.hid (by unfold startN; rw [← HQ'.out, if_neg hq0])
      obtain ⟨m', rfl⟩ : ∃ m', m = m' + 1 := by
        cases m with
        | zero =>
          exfalso
          have hk : (ldesc n l)[0]? ≠ none := by rw [Ne, List.getElem?_eq_none_iff, ← HQ'.out]; omega
          obtain ⟨k, hk⟩ := Option.ne_none_iff_exists'.1 hk
          obtain ⟨h1, h2⟩ := mem_ldesc.1 (List.mem_of_getElem? hk)
          have := len_lsw_down HP.out h1 h2
          have := lenOf_nonneg (lsw l k)
          have := HM.out
          omega
        | succ m' => exact ⟨m', rfl⟩
      obtain rfl := hra (by omega)
      have hqne : ((q : Int) == 0) = false := by simp; omega
      go_wp2
      clear hqne
      go_loopw [10, 33] (fun nv iv wr => ∃ (j cnt' : Nat) (D' : DataW Unit) (s : Nat), j ≤ q ∧ iv = .int .i64 j ∧ nv = .int .i64 (s : Int) ∧ Hid (s = partN n l j) ∧ KnownAt wr bm cnt' D' ∧ KnownOk n D' ∧ cnt' ≤ cnt + j * tot m' ∧ w2.grownBy wr (some bm))
        (fun _ iv _ => q - (intOf iv).toNat)
      case atStart => exact ⟨0, cnt, D, 0, Nat.zero_le _, rfl, rfl, Lib.hid (partN_zero _ _).symm, hown2, HOK.out, by simp, ⟨rfl, rfl, rfl, Nat.le_refl _, fun _ _ _ => rfl⟩⟩
      case round =>
        obtain ⟨j, cnt', D', s, hj, rfl, rfl, HSJ, hownj, hokj, hcj, hgj⟩ := hrel
        by_cases hlt : j < q
        · obtain ⟨k, hk⟩ : ∃ k, (ldesc n l)[j]? = some k := ⟨_, List.getElem?_eq_getElem (by rw [← HQ'.out]; exact hlt)⟩
          have hx : (restsL l (ldesc n l))[j]? = some (lsw l k) := by rw [restsL, List.getElem?_map, hk]; rfl
          obtain ⟨u, hu, hiu⟩ := HRC.out j _ hx
          have cu := cell_far hown2 hgj hu
          have hiu2 := hiu.far hown2 hgj
          obtain ⟨h1, h2⟩ := mem_ldesc.1 (List.mem_of_getElem? hk)
          have hdn := len_lsw_down HP.out h1 h2
          have HLM : Hid (lenOf (lsw l k) = (m' : Int)) := Lib.hid (by have := HM.out; omega)
          have HPL := Lib.hid (lsw_perm HP.out h1)
          have HNX := Lib.hid (partN_succ hk)
          rw [← HSJ.out] at HNX
          have hb1 := partN_le HP.out (j + 1)
          rw [HNX.out] at hb1
          have HCJ : Hid (cnt' + tot m' ≤ 9000000000000000000) := Lib.hid (by
            have h0 := HCNT.out
            have h3 : j * tot m' ≤ 5 * tot m' := Nat.mul_le_mul_right _ (by omega)
            have h4 : tot (m' + 1) = 1 + 6 * tot m' := rfl
            omega)
          have HOKJ := Lib.hid hokj
          obtain ⟨rn, hrn3⟩ : ∃ rn, redN n (lsw l k) = rn := ⟨_, rfl⟩
          rw [hrn3] at hb1
          have HRN3 := Lib.hid hrn3
          have hj0 : (0 : Int) ≤ (j : Int) := Int.natCast_nonneg _
          have hj1 : (j : Int) < (q : Int) := by omega
          clear hk hx hu hiu h1 h2 hdn hokj hrn3
          go_wp2_with fail
          refine (HIH.out m' (Nat.lt_succ_self _) _ _ bm cnt' D' _ HLM.out HPL.out hiu2 hownj HOKJ.out HCJ.out).mono ?_
          rintro e w4 ⟨he, cnt4, D4, hown4, hok4, hc4, hg4⟩
          rw [HRN3.out] at he
          subst he
          have HOK4 := Lib.hid hok4
          have hG4 := grownBy_trans hgj hg4
          clear hok4
          go_wp2_with fail
          go_roundw
          case rel => exact ⟨j + 1, cnt4, D4, s + rn, by omega, by go_num, by go_num, Lib.hid (by rw [HNX.out, HRN3.out]), hown4, HOK4.out, by rw [Nat.succ_mul]; omega, hG4⟩
          case measure => simp [intOf]; omega
        · obtain rfl : j = q := by omega
          have HE : Hid (redN n l = s) := Lib.hid (by rw [HRN.out, HS.out, ← HQ'.out, ← HSJ.out]; simp)
          have hsb : s ≤ 21936950640377856 := by rw [← HE.out]; exact hrn
          have HCM2 : Hid (cnt' < maxLen) := Lib.hid (by
            have h0 := HCNT.out
            have h3 : j * tot m' ≤ 6 * tot m' := Nat.mul_le_mul_right _ (by omega)
            have h4 : tot (m' + 1) = 1 + 6 * tot m' := rfl
            unfold maxLen; omega)
          have HOKJ := Lib.hid hokj
          clear hokj
          go_wp2_with (at_mapUpdate; refine wpList_mapUpdate_own _ rfl _ _ _ 71 rfl 9 3 Try.keyS Try.underlying71 _ bm cnt' _ rfl hownj HCM2.out _ _ _ rfl rfl Try.hkey _ [] (plainElem_int Try.underlying3 (WalkArith.wf_i64 (by omega))) ?_)
          intro w5 hown5 g5
          go_wp2
          go_ret
          rw [← HE.out] at hown5
          refine ⟨ret_int (by rw [HE.out]), cnt' + 1, _, hown5, HOKJ.out.put HP.out, ?_, grownBy_trans g2 (grownBy_trans hgj g5)⟩
          have h3 : j * tot m' ≤ 6 * tot m' := Nat.mul_le_mul_right _ (by omega)
          have h4 : tot (m' + 1) = 1 + 6 * tot m' := rfl
          omega

def GivesN' (w : World) (n : Int) (e : Ending) (w' : World) : Prop := GivesN w n e w'
def countL (l : List Int) : Int := if isPermB l = true then (redN l.length l : Int) else -1
theorem countL_yes {n : Nat} {l : List Int} (h : PermN n l) : countL l = (redN n l : Int) := by rw [countL, if_pos h.1, h.2]

set_option maxHeartbeats 1600000 in
theorem iCount_c (v : Value) (l : List Int) (w : World) (hv : IntsV w v l) :
    Calls Try.prog 37 #[v] w (GivesN w (countL l)) := by
  have hmm := @run_makeMap Try.prog
  cases hp : isPermB l with
  | false =>
    have HR : Hid (countL l = -1) := Lib.hid (by simp [countL, hp])
    go_enter Try.func37, Try.ntmps37
    go_wp2_with fail
    refine (iIsPerm_c _ _ _ hv).mono ?_
    rw [hp]
    rintro e w1 ⟨rfl, b1⟩
    go_wp2_with fail
    go_ret
    rw [HR.out]
    exact ⟨rfl, b1⟩
  | true =>
    have HP : Hid (PermN l.length l) := Lib.hid ⟨hp, rfl⟩
    have HR : Hid (countL l = (redN l.length l : Int)) := Lib.hid (countL_yes HP.out)
    obtain ⟨m, hm⟩ : ∃ m : Nat, lenOf l = (m : Int) := ⟨(lenOf l).toNat, by have := lenOf_nonneg l; omega⟩
    have HM := Lib.hid hm
    have HT : Hid (0 + tot m ≤ 9000000000000000000) := Lib.hid (by
      have h1 := tot_le m
      have h2 := len_le HP.out
      have h3 : 7 ^ m ≤ 7 ^ 21 := Nat.pow_le_pow_right (by decide) (by omega)
      have h4 : 7 ^ 21 = 558545864083284007 := by decide
      omega)
    clear hm
    go_enter Try.func37, Try.ntmps37
    go_wp2_with fail
    refine (iIsPerm_c _ _ _ hv).mono ?_
    rw [hp]
    rintro e w1 ⟨rfl, b1⟩
    clear hp
    have hv1 := hv.kept (b1.alloc b1.size (.map #[] 0))
    go_wp2_with fail
    refine (counted_c l.length m l _ w1.heap.size 0 (.map []) _ HM.out HP.out hv1 (World.ownsMap_made _ _ _ _) (KnownOk.empty _) HT.out).mono ?_
    rintro e w2 ⟨rfl, cnt', D', hown2, hok2, hc2, hg2⟩
    have hb := b1.alloc b1.size (.map #[] 0)
    have hb2 := hb.grown hg2 hb.size (fun k hk => by cases hk; exact b1.size)
    clear hown2 hok2 hc2
    go_wp2
    go_ret
    rw [HR.out]
    exact ⟨rfl, hb2⟩

end Go.Proofs.Ytfepepakellbbaa
