/-
  AddPolys, MulPolys, SwapVariables, DividedDifference of the reference.
-/
import Derived.Test.YtoioiippdchgmaaTopP
import Derived.Test.YtoioiippdchgmaaOpenS
import Derived.Test.YtoioiippdchgmaaPlusS
import Derived.Test.YtoioiippdchgmaaTimesS
import Derived.Test.YtoioiippdchgmaaSwapS
import Derived.Test.YtoioiippdchgmaaDivS
import Derived.Test.YtoioiippdchgmaaShutS
namespace Go.Proofs.Ytoioiippdchgmaa
open Go.RowKit Go.Maps
set_option linter.unusedVariables false

theorem gat_keyM {L : TermL} (h : Good7 L) : KeyM (gatM (L.map mon)) := fun p hp => by
  obtain ⟨e, he, h1, _⟩ := mon_key h hp
  rw [← h1]
  have := keyOf_drop_bnd he.2 (by rw [he.1]; exact Nat.le_refl _) 0
  simpa using this
theorem OwnM.mon_len {ts : TermL} (h : polyB ts = true) : (ts.map mon).length ≤ 600 := by rw [List.length_map]; exact polyB_len h

set_option maxHeartbeats 1600000 in
theorem sAdd_c (v : Value) (f : TermL) (k : Int) (u : Value) (g : TermL) (w : World) (hv : TermsV w v f) (hu : TermsV w u g) :
    Calls Try.prog 8 #[v, .int .i64 k, u] w (GivesTB w (addL f k g) (addB f k g)) := by
  cases hF : polyB f with
  | false =>
    have HR := Lib.hid (add_no (f := f) (g := g) (k := k) (by unfold addOk; rw [hF]; rfl))
    go_enter Try.func8, Try.ntmps8
    go_wp2_with fail
    refine (sPolyOk_c _ _ _ hv).mono ?_
    rw [hF]
    rintro e w1 ⟨rfl, b1⟩
    go_wp2_with fail
    go_ret2
    rw [HR.out.1, HR.out.2]
    exact ⟨_, rfl, OwnP.nil _ _, b1⟩
  | true =>
    cases hG : polyB g with
    | false =>
      have HR := Lib.hid (add_no (f := f) (g := g) (k := k) (by unfold addOk; rw [hG]; simp))
      go_enter Try.func8, Try.ntmps8
      go_wp2_with fail
      refine (sPolyOk_c _ _ _ hv).mono ?_
      rw [hF]
      rintro e w1 ⟨rfl, b1⟩
      go_wp2_with fail
      refine (sPolyOk_c _ _ _ (hu.kept b1)).mono ?_
      rw [hG]
      rintro e w2 ⟨rfl, b2⟩
      have F2 := below_step b1 b2 b1.size
      go_wp2_with fail
      go_ret2
      rw [HR.out.1, HR.out.2]
      exact ⟨_, rfl, OwnP.nil _ _, F2⟩
    | true =>
      by_cases hk : -1000 ≤ k ∧ k ≤ 1000
      · have HR := Lib.hid (add_yes (f := f) (g := g) (k := k) (by unfold addOk; rw [hF, hG, decide_eq_true hk]; rfl))
        have HPF := Lib.hid hF
        have HPG := Lib.hid hG
        have HGD := Lib.hid (show Good7 (addT f k g) from plusT_good (polyB_good hF) (polyB_good hG))
        have HMN := Lib.hid (show (addT f k g).map mon = f.map mon ++ scaleM k (g.map mon) from plusT_mon f g k)
        have hin : inB k (-1000) 1000 = true := inB_mk hk.1 hk.2
        clear hF hG
        go_enter Try.func8, Try.ntmps8
        go_wp2_with fail
        refine (sPolyOk_c _ _ _ hv).mono ?_
        rw [HPF.out]
        rintro e w1 ⟨rfl, b1⟩
        go_wp2_with fail
        refine (sPolyOk_c _ _ _ (hu.kept b1)).mono ?_
        rw [HPG.out]
        rintro e w2 ⟨rfl, b2⟩
        have F2 := below_step b1 b2 b1.size
        go_wp2_with fail
        refine (l1In_c _ _ _ _).mono ?_
        rw [hin]
        rintro e w3 ⟨rfl, rfl⟩
        go_wp2_with fail
        refine (l2Open_c _ _ _ (hv.kept F2) HPF.out).mono ?_
        rintro e w3 ⟨r3, rfl, o3, b3⟩
        have F3 := below_step F2 b3 F2.size
        go_wp2_with fail
        refine (l2Open_c _ _ _ (hu.kept F3) HPG.out).mono ?_
        rintro e w4 ⟨r4, rfl, o4, b4⟩
        have F4 := below_step F3 b4 F3.size
        have o34 := o3.kept b4
        go_wp2_with fail
        refine (l2Plus_c _ _ _ _ _ _ k _ o34 o4 (polyB_small HPF.out) (polyB_small HPG.out) hk (OwnM.mon_len HPF.out) (OwnM.mon_len HPG.out)).mono ?_
        rintro e w5 ⟨r5, rfl, o5, b5⟩
        have F5 := below_step F4 b5 F4.size
        have HKM := Lib.hid (gat_keyM HGD.out)
        rw [HMN.out] at HKM
        go_wp2_with fail
        refine (l2Shut_c _ _ _ _ o5 HKM.out).mono ?_
        rw [← HMN.out]
        rintro e w6 ⟨r, rfl, o6, b6⟩
        have F6 := below_step F5 b6 F5.size
        have hs5 := F5.size
        go_wp2_with fail
        go_ret2
        rw [HR.out.1, HR.out.2]
        exact ⟨_, rfl, o6.mono hs5, F6⟩
      · have HR := Lib.hid (add_no (f := f) (g := g) (k := k) (by unfold addOk; rw [decide_eq_false hk]; simp))
        have hin : inB k (-1000) 1000 = false := by
          cases h : inB k (-1000) 1000 with
          | false => rfl
          | true => exact absurd (inB_true h) hk
        clear hk
        go_enter Try.func8, Try.ntmps8
        go_wp2_with fail
        refine (sPolyOk_c _ _ _ hv).mono ?_
        rw [hF]
        rintro e w1 ⟨rfl, b1⟩
        go_wp2_with fail
        refine (sPolyOk_c _ _ _ (hu.kept b1)).mono ?_
        rw [hG]
        rintro e w2 ⟨rfl, b2⟩
        have F2 := below_step b1 b2 b1.size
        go_wp2_with fail
        refine (l1In_c _ _ _ _).mono ?_
        rw [hin]
        rintro e w3 ⟨rfl, rfl⟩
        go_wp2_with fail
        go_ret2
        rw [HR.out.1, HR.out.2]
        exact ⟨_, rfl, OwnP.nil _ _, F2⟩

set_option maxHeartbeats 1600000 in
theorem sMul_c (v : Value) (f : TermL) (u : Value) (g : TermL) (w : World) (hv : TermsV w v f) (hu : TermsV w u g) :
    Calls Try.prog 14 #[v, u] w (GivesTB w (mulL f g) (mulB f g)) := by
  cases hF : polyB f with
  | false =>
    have HR := Lib.hid (mul_no (f := f) (g := g) (by unfold mulOk; rw [hF]; rfl))
    go_enter Try.func14, Try.ntmps14
    go_wp2_with fail
    refine (sPolyOk_c _ _ _ hv).mono ?_
    rw [hF]
    rintro e w1 ⟨rfl, b1⟩
    go_wp2_with fail
    go_ret2
    rw [HR.out.1, HR.out.2]
    exact ⟨_, rfl, OwnP.nil _ _, b1⟩
  | true =>
    cases hG : polyB g with
    | false =>
      have HR := Lib.hid (mul_no (f := f) (g := g) (by unfold mulOk; rw [hG]; simp))
      go_enter Try.func14, Try.ntmps14
      go_wp2_with fail
      refine (sPolyOk_c _ _ _ hv).mono ?_
      rw [hF]
      rintro e w1 ⟨rfl, b1⟩
      go_wp2_with fail
      refine (sPolyOk_c _ _ _ (hu.kept b1)).mono ?_
      rw [hG]
      rintro e w2 ⟨rfl, b2⟩
      have F2 := below_step b1 b2 b1.size
      go_wp2_with fail
      go_ret2
      rw [HR.out.1, HR.out.2]
      exact ⟨_, rfl, OwnP.nil _ _, F2⟩
    | true =>
      have HR := Lib.hid (mul_yes (f := f) (g := g) (by unfold mulOk; rw [hF, hG]; rfl))
      have HPF := Lib.hid hF
      have HPG := Lib.hid hG
      have HGD := Lib.hid (prodT_good hF hG)
      have HMN := Lib.hid (prodT_mon (polyB_good hF) (polyB_good hG))
      clear hF hG
      go_enter Try.func14, Try.ntmps14
      go_wp2_with fail
      refine (sPolyOk_c _ _ _ hv).mono ?_
      rw [HPF.out]
      rintro e w1 ⟨rfl, b1⟩
      go_wp2_with fail
      refine (sPolyOk_c _ _ _ (hu.kept b1)).mono ?_
      rw [HPG.out]
      rintro e w2 ⟨rfl, b2⟩
      have F2 := below_step b1 b2 b1.size
      go_wp2_with fail
      refine (l2Open_c _ _ _ (hv.kept F2) HPF.out).mono ?_
      rintro e w3 ⟨r3, rfl, o3, b3⟩
      have F3 := below_step F2 b3 F2.size
      go_wp2_with fail
      refine (l2Open_c _ _ _ (hu.kept F3) HPG.out).mono ?_
      rintro e w4 ⟨r4, rfl, o4, b4⟩
      have F4 := below_step F3 b4 F3.size
      have o34 := o3.kept b4
      go_wp2_with fail
      refine (l2Times_c _ _ _ _ _ _ _ o34 o4 (polyB_small HPF.out) (polyB_small HPG.out) (polyB_keys HPF.out) (polyB_keys HPG.out) (OwnM.mon_len HPF.out) (OwnM.mon_len HPG.out)).mono ?_
      rintro e w5 ⟨r5, rfl, o5, b5⟩
      have F5 := below_step F4 b5 F4.size
      have HKM := Lib.hid (gat_keyM HGD.out)
      rw [HMN.out] at HKM
      go_wp2_with fail
      refine (l2Shut_c _ _ _ _ o5 HKM.out).mono ?_
      rw [← HMN.out]
      rintro e w6 ⟨r, rfl, o6, b6⟩
      have F6 := below_step F5 b6 F5.size
      have hs5 := F5.size
      go_wp2_with fail
      go_ret2
      rw [HR.out.1, HR.out.2]
      exact ⟨_, rfl, o6.mono hs5, F6⟩

set_option maxHeartbeats 1600000 in
theorem sSwap_c (v : Value) (f : TermL) (i : Int) (w : World) (hv : TermsV w v f) :
    Calls Try.prog 16 #[v, .int .i64 i] w (GivesT w (swapL f i)) := by
  cases hF : polyB f with
  | false =>
    have HR := Lib.hid (show swapL f i = [] by unfold swapL; rw [if_neg (by rw [hF]; simp)])
    go_enter Try.func16, Try.ntmps16
    go_wp2_with fail
    refine (sPolyOk_c _ _ _ hv).mono ?_
    rw [hF]
    rintro e w1 ⟨rfl, b1⟩
    go_wp2_with fail
    go_ret
    rw [HR.out]
    exact ⟨_, rfl, OwnP.nil _ _, b1⟩
  | true =>
    cases hI : varB i with
    | false =>
      have HR := Lib.hid (show swapL f i = [] by unfold swapL; rw [if_neg (by rw [hI]; simp)])
      go_enter Try.func16, Try.ntmps16
      go_wp2_with fail
      refine (sPolyOk_c _ _ _ hv).mono ?_
      rw [hF]
      rintro e w1 ⟨rfl, b1⟩
      go_wp2_with fail
      refine (l2Var_c _ _).mono ?_
      rw [varB_in, hI]
      rintro e w2 ⟨rfl, rfl⟩
      go_wp2_with fail
      go_ret
      rw [HR.out]
      exact ⟨_, rfl, OwnP.nil _ _, b1⟩
    | true =>
      obtain ⟨k, rfl, hk⟩ := varB_nat hI
      have HR := Lib.hid (show swapL f (k : Int) = shutL (gathT (swapT k f)) by unfold swapL; rw [if_pos ⟨hF, hI⟩]; rfl)
      have HPF := Lib.hid hF
      have HII := Lib.hid hI
      have HGD := Lib.hid (swapT_good (polyB_good hF) hk)
      have HMN := Lib.hid (swapT_mon (polyB_good hF) hk)
      clear hF hI
      go_enter Try.func16, Try.ntmps16
      go_wp2_with fail
      refine (sPolyOk_c _ _ _ hv).mono ?_
      rw [HPF.out]
      rintro e w1 ⟨rfl, b1⟩
      go_wp2_with fail
      refine (l2Var_c _ _).mono ?_
      rw [varB_in, HII.out]
      rintro e w2 ⟨rfl, rfl⟩
      go_wp2_with fail
      refine (l2Open_c _ _ _ (hv.kept b1) HPF.out).mono ?_
      rintro e w3 ⟨r3, rfl, o3, b3⟩
      have F3 := below_step b1 b3 b1.size
      go_wp2_with fail
      refine (l2Swap_c _ _ _ k _ o3 (polyB_small HPF.out).coef (polyB_keys HPF.out) hk (OwnM.mon_len HPF.out)).mono ?_
      rintro e w5 ⟨r5, rfl, o5, b5⟩
      have F5 := below_step F3 b5 F3.size
      have HKM := Lib.hid (gat_keyM HGD.out)
      rw [HMN.out] at HKM
      go_wp2_with fail
      refine (l2Shut_c _ _ _ _ o5 HKM.out).mono ?_
      rw [← HMN.out]
      rintro e w6 ⟨r, rfl, o6, b6⟩
      have F6 := below_step F5 b6 F5.size
      have hs5 := F5.size
      go_wp2_with fail
      go_ret
      rw [HR.out]
      exact ⟨_, rfl, o6.mono hs5, F6⟩

set_option maxHeartbeats 1600000 in
theorem sDiff_c (v : Value) (f : TermL) (i : Int) (w : World) (hv : TermsV w v f) :
    Calls Try.prog 18 #[v, .int .i64 i] w (GivesTB w (ddL f i) (ddB f i)) := by
  cases hF : polyB f with
  | false =>
    have HR := Lib.hid (dd_no (f := f) (i := i) (by unfold ddOk; rw [hF]; rfl))
    go_enter Try.func18, Try.ntmps18
    go_wp2_with fail
    refine (sPolyOk_c _ _ _ hv).mono ?_
    rw [hF]
    rintro e w1 ⟨rfl, b1⟩
    go_wp2_with fail
    go_ret2
    rw [HR.out.1, HR.out.2]
    exact ⟨_, rfl, OwnP.nil _ _, b1⟩
  | true =>
    cases hI : varB i with
    | false =>
      have HR := Lib.hid (dd_no (f := f) (i := i) (by unfold ddOk; rw [hI]; simp))
      go_enter Try.func18, Try.ntmps18
      go_wp2_with fail
      refine (sPolyOk_c _ _ _ hv).mono ?_
      rw [hF]
      rintro e w1 ⟨rfl, b1⟩
      go_wp2_with fail
      refine (l2Var_c _ _).mono ?_
      rw [varB_in, hI]
      rintro e w2 ⟨rfl, rfl⟩
      go_wp2_with fail
      go_ret2
      rw [HR.out.1, HR.out.2]
      exact ⟨_, rfl, OwnP.nil _ _, b1⟩
    | true =>
      obtain ⟨k, rfl, hk⟩ := varB_nat hI
      have HR := Lib.hid (dd_yes (f := f) (k := k) (by unfold ddOk; rw [hF, hI]; rfl))
      have HPF := Lib.hid hF
      have HII := Lib.hid hI
      have HGD := Lib.hid (divT7_good (polyB_good hF) hk)
      have HMN := Lib.hid (divT7_mon (polyB_good hF) hk)
      clear hF hI
      go_enter Try.func18, Try.ntmps18
      go_wp2_with fail
      refine (sPolyOk_c _ _ _ hv).mono ?_
      rw [HPF.out]
      rintro e w1 ⟨rfl, b1⟩
      go_wp2_with fail
      refine (l2Var_c _ _).mono ?_
      rw [varB_in, HII.out]
      rintro e w2 ⟨rfl, rfl⟩
      go_wp2_with fail
      refine (l2Open_c _ _ _ (hv.kept b1) HPF.out).mono ?_
      rintro e w3 ⟨r3, rfl, o3, b3⟩
      have F3 := below_step b1 b3 b1.size
      go_wp2_with fail
      refine (l2Divided_c _ _ _ k _ o3 (polyB_small HPF.out) (polyB_keys HPF.out) hk (OwnM.mon_len HPF.out)).mono ?_
      rintro e w5 ⟨r5, rfl, o5, b5⟩
      have F5 := below_step F3 b5 F3.size
      have HKM := Lib.hid (gat_keyM HGD.out)
      rw [HMN.out] at HKM
      go_wp2_with fail
      refine (l2Shut_c _ _ _ _ o5 HKM.out).mono ?_
      rw [← HMN.out]
      rintro e w6 ⟨r, rfl, o6, b6⟩
      have F6 := below_step F5 b6 F5.size
      have hs5 := F5.size
      go_wp2_with fail
      go_ret2
      rw [HR.out.1, HR.out.2]
      exact ⟨_, rfl, o6.mono hs5, F6⟩

end Go.Proofs.Ytoioiippdchgmaa
