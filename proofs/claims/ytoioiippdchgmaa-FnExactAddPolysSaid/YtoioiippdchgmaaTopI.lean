/-
  AddPolys and MulPolys of the program.
-/
import Derived.Test.YtoioiippdchgmaaTopP
namespace Go.Proofs.Ytoioiippdchgmaa
open Go.RowKit Go.Maps
set_option linter.unusedVariables false

set_option maxHeartbeats 1600000 in
theorem iAdd_c (v : Value) (f : TermL) (k : Int) (u : Value) (g : TermL) (w : World) (hv : TermsV w v f) (hu : TermsV w u g) :
    Calls Try.prog 10 #[v, .int .i64 k, u] w (GivesTB w (addL f k g) (addB f k g)) := by
  cases hF : polyB f with
  | false =>
    have HR := Lib.hid (add_no (f := f) (g := g) (k := k) (by unfold addOk; rw [hF]; rfl))
    go_enter Try.func10, Try.ntmps10
    go_wp2_with fail
    refine (iPolyOk_c _ _ _ hv).mono ?_
    rw [hF]
    rintro e w1 ⟨rfl, b1⟩
    go_wp2_with fail
    go_ret2
    rw [HR.out.1, HR.out.2]
    exact ⟨_, rfl, OwnP.nil _ _, b1⟩
  | true =>
    cases hG : polyB g with
    | false =>
      have HR := Lib.hid (add_no (f := f) (g := g) (k := k) (by unfold addOk; rw [hG]; simp))
      go_enter Try.func10, Try.ntmps10
      go_wp2_with fail
      refine (iPolyOk_c _ _ _ hv).mono ?_
      rw [hF]
      rintro e w1 ⟨rfl, b1⟩
      go_wp2_with fail
      refine (iPolyOk_c _ _ _ (hu.kept b1)).mono ?_
      rw [hG]
      rintro e w2 ⟨rfl, b2⟩
      have F2 := below_step b1 b2 b1.size
      go_wp2_with fail
      go_ret2
      rw [HR.out.1, HR.out.2]
      exact ⟨_, rfl, OwnP.nil _ _, F2⟩
    | true =>
      by_cases hk : -1000 ≤ k ∧ k ≤ 1000
      · have HR := Lib.hid (add_yes (f := f) (g := g) (k := k) (by unfold addOk; rw [hF, hG, decide_eq_true hk]; rfl))
        have HPF := Lib.hid hF
        have HPG := Lib.hid hG
        have HGD := Lib.hid (show Good7 (addT f k g) from plusT_good (polyB_good hF) (polyB_good hG))
        have hlo : ¬ k < -1000 := by omega
        have hhi : ¬ 1000 < k := by omega
        clear hF hG
        go_enter Try.func10, Try.ntmps10
        go_wp2_with fail
        refine (iPolyOk_c _ _ _ hv).mono ?_
        rw [HPF.out]
        rintro e w1 ⟨rfl, b1⟩
        go_wp2_with fail
        refine (iPolyOk_c _ _ _ (hu.kept b1)).mono ?_
        rw [HPG.out]
        rintro e w2 ⟨rfl, b2⟩
        have F2 := below_step b1 b2 b1.size
        go_wp2_with fail
        refine (openM_c _ _ _ (hv.kept F2) HPF.out).mono ?_
        rintro e w3 ⟨Df, nf, rfl, hf, hnf, hFF, b3⟩
        have F3 := below_step F2 b3 F2.size
        go_wp2_with fail
        refine (openM_c _ _ _ (hu.kept F3) HPG.out).mono ?_
        rintro e w4 ⟨Dg, ng, rfl, hg, hng, hGG, b4⟩
        have F4 := below_step F3 b4 F3.size
        have hf4 := OwnE.below hf b4 hf.lt
        go_wp2_with fail
        refine (plus_c _ nf Df f k _ ng Dg g _ hf4 hFF (polyB_good HPF.out).all7 hg hGG (polyB_good HPG.out).all7 (by omega) (by omega) (polyB_val HPF.out) (polyB_val HPG.out) hk).mono ?_
        rintro e w5 ⟨D, n, rfl, hD, hn, hH, b5⟩
        have F5 := below_step F4 b5 F4.size
        have hGv : ∀ e, E7 e → val (gathT (addT f k g)) e = val (f ++ g.map (fun p => (p.1, k * p.2))) e := fun e he => gathT_val HGD.out e
        go_wp2_with fail
        refine (closed_c _ n D _ (gathT (addT f k g)) _ hD hH (gathT_clean HGD.out) (gathT_good HGD.out).all7 hGv (gathT_good HGD.out) (gathT_sorted HGD.out)).mono ?_
        rw [← HR.out.1, ← HR.out.2]
        rintro e w6 ⟨r, rfl, o6, b6⟩
        have F6 := below_step F5 b6 F5.size
        have hs5 := F5.size
        go_wp2_with fail
        go_ret2
        exact ⟨_, rfl, o6.mono hs5, F6⟩
      · have HR := Lib.hid (add_no (f := f) (g := g) (k := k) (by unfold addOk; rw [decide_eq_false hk]; simp))
        by_cases hlo : k < -1000
        · go_enter Try.func10, Try.ntmps10
          go_wp2_with fail
          refine (iPolyOk_c _ _ _ hv).mono ?_
          rw [hF]
          rintro e w1 ⟨rfl, b1⟩
          go_wp2_with fail
          refine (iPolyOk_c _ _ _ (hu.kept b1)).mono ?_
          rw [hG]
          rintro e w2 ⟨rfl, b2⟩
          have F2 := below_step b1 b2 b1.size
          clear hk
          go_wp2_with fail
          go_ret2
          rw [HR.out.1, HR.out.2]
          exact ⟨_, rfl, OwnP.nil _ _, F2⟩
        · have hhi : 1000 < k := by omega
          go_enter Try.func10, Try.ntmps10
          go_wp2_with fail
          refine (iPolyOk_c _ _ _ hv).mono ?_
          rw [hF]
          rintro e w1 ⟨rfl, b1⟩
          go_wp2_with fail
          refine (iPolyOk_c _ _ _ (hu.kept b1)).mono ?_
          rw [hG]
          rintro e w2 ⟨rfl, b2⟩
          have F2 := below_step b1 b2 b1.size
          clear hk
          go_wp2_with fail
          go_ret2
          rw [HR.out.1, HR.out.2]
          exact ⟨_, rfl, OwnP.nil _ _, F2⟩

set_option maxHeartbeats 1600000 in
theorem iMul_c (v : Value) (f : TermL) (u : Value) (g : TermL) (w : World) (hv : TermsV w v f) (hu : TermsV w u g) :
    Calls Try.prog 15 #[v, u] w (GivesTB w (mulL f g) (mulB f g)) := by
  cases hF : polyB f with
  | false =>
    have HR := Lib.hid (mul_no (f := f) (g := g) (by unfold mulOk; rw [hF]; rfl))
    go_enter Try.func15, Try.ntmps15
    go_wp2_with fail
    refine (iPolyOk_c _ _ _ hv).mono ?_
    rw [hF]
    rintro e w1 ⟨rfl, b1⟩
    go_wp2_with fail
    go_ret2
    rw [HR.out.1, HR.out.2]
    exact ⟨_, rfl, OwnP.nil _ _, b1⟩
  | true =>
    cases hG : polyB g with
    | false =>
      have HR := Lib.hid (mul_no (f := f) (g := g) (by unfold mulOk; rw [hG]; simp))
      go_enter Try.func15, Try.ntmps15
      go_wp2_with fail
      refine (iPolyOk_c _ _ _ hv).mono ?_
      rw [hF]
      rintro e w1 ⟨rfl, b1⟩
      go_wp2_with fail
      refine (iPolyOk_c _ _ _ (hu.kept b1)).mono ?_
      rw [hG]
      rintro e w2 ⟨rfl, b2⟩
      have F2 := below_step b1 b2 b1.size
      go_wp2_with fail
      go_ret2
      rw [HR.out.1, HR.out.2]
      exact ⟨_, rfl, OwnP.nil _ _, F2⟩
    | true =>
      have HR := Lib.hid (mul_yes (f := f) (g := g) (by unfold mulOk; rw [hF, hG]; rfl))
      have HPF := Lib.hid hF
      have HPG := Lib.hid hG
      have HGD := Lib.hid (prodT_good hF hG)
      clear hF hG
      go_enter Try.func15, Try.ntmps15
      go_wp2_with fail
      refine (iPolyOk_c _ _ _ hv).mono ?_
      rw [HPF.out]
      rintro e w1 ⟨rfl, b1⟩
      go_wp2_with fail
      refine (iPolyOk_c _ _ _ (hu.kept b1)).mono ?_
      rw [HPG.out]
      rintro e w2 ⟨rfl, b2⟩
      have F2 := below_step b1 b2 b1.size
      go_wp2_with fail
      refine (openM_c _ _ _ (hv.kept F2) HPF.out).mono ?_
      rintro e w3 ⟨Df, nf, rfl, hf, hnf, hFF, b3⟩
      have F3 := below_step F2 b3 F2.size
      go_wp2_with fail
      refine (openM_c _ _ _ (hu.kept F3) HPG.out).mono ?_
      rintro e w4 ⟨Dg, ng, rfl, hg, hng, hGG, b4⟩
      have F4 := below_step F3 b4 F3.size
      have hf4 := OwnE.below hf b4 hf.lt
      go_wp2_with fail
      refine (times_c _ nf Df f _ ng Dg g _ hf4 hFF (polyB_good HPF.out).all7 hg hGG (polyB_good HPG.out).all7 hnf hng (polyB_val HPF.out) (polyB_val HPG.out) (polyB_clean HPF.out) (polyB_clean HPG.out) (polyB_len HPG.out) (polyB_crow HPG.out) (polyB_sm HPF.out) (polyB_sm HPG.out)).mono ?_
      rintro e w5 ⟨D, n, rfl, hD, hn, hH, b5⟩
      have F5 := below_step F4 b5 F4.size
      have hGv : ∀ e, E7 e → val (gathT (prodT f g)) e = val (prodT f g) e := fun e he => gathT_val HGD.out e
      go_wp2_with fail
      refine (closed_c _ n D _ (gathT (prodT f g)) _ hD hH (gathT_clean HGD.out) (gathT_good HGD.out).all7 hGv (gathT_good HGD.out) (gathT_sorted HGD.out)).mono ?_
      rw [← HR.out.1, ← HR.out.2]
      rintro e w6 ⟨r, rfl, o6, b6⟩
      have F6 := below_step F5 b6 F5.size
      have hs5 := F5.size
      go_wp2_with fail
      go_ret2
      exact ⟨_, rfl, o6.mono hs5, F6⟩

end Go.Proofs.Ytoioiippdchgmaa
