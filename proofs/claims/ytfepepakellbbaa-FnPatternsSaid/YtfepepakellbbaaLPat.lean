/-
  The law: patterns, inverses, texts.
-/
import Derived.Test.YtfepepakellbbaaDHas
import Derived.Test.YtfepepakellbbaaPatR
namespace Go.Proofs.Ytfepepakellbbaa
open Go.RowKit
set_option linter.unusedVariables false

theorem fp_none {l : List Int} (h : isPermB l = false) : fpL l = [] := by unfold fpL; rw [if_neg (by rw [h]; decide)]
theorem pp_empty : ppB (strOf []) = false := by decide
theorem fp_size {l : List Int} (h : l.length ≤ 7) : (strOf (fpL l)).size ≤ 1048576 := by
  rw [strOf_size]; unfold fpL; split
  · simp [fpUp]; omega
  · decide

set_option maxRecDepth 4000 in
set_option maxHeartbeats 1600000 in
theorem patterns_w (ao : Option Addr) (len c : Nat) (w : World) (hb : BytesR w ao len c) (hl : len ≤ 9223372036854775807) :
    Calls Try.prog 4 #[.slice ao len c] w fun e w' => e = .returned (.bool true) ∧ Below w.heap.size w w' := by
  by_cases hbig : 1048576 < len
  · have hd : decide (1048576 < len) = true := decide_eq_true hbig
    go_enter Try.func4, Try.ntmps4
    go_wp2_with fail
    refine (big_c ao len c _ hl).mono ?_
    rw [hd]
    rintro e w1 ⟨rfl, rfl⟩
    go_wp2_with fail
    go_ret
    exact ⟨rfl, Below.refl _ _⟩
  · have hd : decide (1048576 < len) = false := decide_eq_false hbig
    go_enter Try.func4, Try.ntmps4
    go_wp2_with fail
    refine (big_c ao len c _ hl).mono ?_
    rw [hd]
    rintro e w1 ⟨rfl, rfl⟩
    go_wp2_with fail
    refine (drawHas_c ao len c _ hb (by omega)).mono ?_
    rintro e w2 ⟨r1, r2, l, p, m, rfl, hl7, hp, il2, ip2, F2⟩
    clear hb hd
    cases hperm : isPermB l with
    | false =>
      have HP := Lib.hid hperm
      have HF := Lib.hid (fp_none hperm)
      have HH := Lib.hid (hasPatB_no1 (p := p) hperm)
      clear hperm
      go_wp2_with fail
      refine (sIsPerm_c _ _ _ il2).mono ?_
      rw [HP.out]
      rintro e w3 ⟨rfl, b3⟩
      have F3 := below_step F2 b3 F2.size
      have il3 := il2.kept b3
      have ip3 := ip2.kept b3
      clear b3 il2 ip2 F2
      go_wp2_with fail
      refine (iFPerm_c _ _ _ il3).mono ?_
      rw [HF.out]
      rintro e w4 ⟨rfl, b4⟩
      have F4 := below_step F3 b4 F3.size
      have il4 := il3.kept b4
      have ip4 := ip3.kept b4
      clear b4 il3 ip3 F3
      go_wp2_with fail
      refine (iPPerm_c _ _ (by decide)).mono ?_
      rw [pp_empty]
      rintro e w5 ⟨r, rfl, o5, b5⟩
      have F5 := below_step F4 b5 F4.size
      have il5 := il4.kept b5
      have ip5 := ip4.kept b5
      clear b5 il4 ip4 F4 o5
      go_wp2_with fail
      refine (iHas_c _ _ _ _ _ il5 ip5).mono ?_
      rw [HH.out]
      rintro e w6 ⟨rfl, b6⟩
      have F6 := below_step F5 b6 F5.size
      go_wp2_with fail
      go_ret
      exact ⟨rfl, F6⟩
    | true =>
      have hN : PermN l.length l := ⟨hperm, rfl⟩
      obtain ⟨is, his⟩ : ∃ is, is = hasPatB l p := ⟨_, rfl⟩
      have HP := Lib.hid hperm
      have HIS := Lib.hid his.symm
      have HI1 : Hid (inverseL l = invOf l) := Lib.hid (if_pos hperm)
      have HI2 : Hid (inverseL p = invOf p) := Lib.hid (if_pos hp.1)
      have HINV : Hid (hasPatB (invOf l) (invOf p) = is) := Lib.hid ((has_inverse hN hp).trans his.symm)
      have HSELF := Lib.hid (has_self hN)
      obtain ⟨q, hq⟩ : ∃ q, hasPatB l vexL = q := ⟨_, rfl⟩
      have HQ := Lib.hid hq
      have HV : Hid (vexB l = !q) := Lib.hid (vexB_has hperm hq)
      obtain ⟨g, hg⟩ : ∃ g, grassB l = g := ⟨_, rfl⟩
      have HG := Lib.hid hg
      have HGV : Hid (g = true → q = false) := Lib.hid fun h => by
        have := grass_vex hN (hg.trans h)
        rw [HV.out] at this
        simpa using this
      have HPF := Lib.hid (parse_format hN)
      have HSZ := Lib.hid (fp_size hl7)
      have HTE := Lib.hid (trim_embed hN)
      have HPB : Hid (ppB (strOf (fpL l)) = true) := Lib.hid (by unfold ppB; rw [HPF.out]; exact hperm)
      have HPL : Hid (ppL (strOf (fpL l)) = l) := Lib.hid (by unfold ppL; rw [HPB.out, if_pos rfl]; exact HPF.out)
      clear hperm hN his hq hg hp hl7
      go_wp2_with fail
      refine (sIsPerm_c _ _ _ il2).mono ?_
      rw [HP.out]
      rintro e w3 ⟨rfl, b3⟩
      have F3 := below_step F2 b3 F2.size
      have il3 := il2.kept b3
      have ip3 := ip2.kept b3
      clear b3 il2 ip2 F2
      go_wp2_with fail
      refine (iHas_c _ _ _ _ _ il3 ip3).mono ?_
      rw [HIS.out]
      rintro e w4 ⟨rfl, b4⟩
      have F4 := below_step F3 b4 F3.size
      have il4 := il3.kept b4
      have ip4 := ip3.kept b4
      clear b4 il3 ip3 F3
      go_wp2_with fail
      refine (iInverse_c _ _ _ il4).mono ?_
      rw [HI1.out]
      rintro e w5 ⟨ry, rfl, oy, b5⟩
      have F5 := below_step F4 b5 F4.size
      have il5 := il4.kept b5
      have ip5 := ip4.kept b5
      have iy5 := oy.ints
      clear b5 il4 ip4 F4 oy
      go_wp2_with fail
      refine (iInverse_c _ _ _ ip5).mono ?_
      rw [HI2.out]
      rintro e w6 ⟨rz, rfl, oz, b6⟩
      have F6 := below_step F5 b6 F5.size
      have il6 := il5.kept b6
      have iy6 := iy5.kept b6
      have iz6 := oz.ints
      clear b6 il5 ip5 iy5 F5 oz
      go_wp2_with fail
      refine (iHas_c _ _ _ _ _ iy6 iz6).mono ?_
      rw [HINV.out]
      rintro e w7 ⟨rfl, b7⟩
      have F7 := below_step F6 b7 F6.size
      have il7 := il6.kept b7
      clear b7 il6 iy6 iz6 F6
      have his0 : (is != is) = false := by simp
      go_wp2_with fail
      refine (iHas_c _ _ _ _ _ il7 il7).mono ?_
      rw [HSELF.out]
      rintro e w8 ⟨rfl, b8⟩
      have F8 := below_step F7 b8 F7.size
      have il8 := il7.kept b8
      clear b8 il7 F7
      go_wp2_with fail
      refine (iVex_c _ _ _ il8).mono ?_
      rw [HV.out]
      rintro e w9 ⟨rfl, b9⟩
      have F9 := below_step F8 b9 F8.size
      have il9 := il8.kept b9
      clear b9 il8 F8
      have BA := (Below.refl w9.heap.size w9).alloc (Nat.le_refl _) (Obj.cells #[.int .i64 1, .int .i64 0, .int .i64 3, .int .i64 2] 3)
      have F10 := below_step F9 BA F9.size
      have il10 := il9.kept BA
      have iv10 := IntsV.vex w9
      clear BA il9 F9
      go_wp2_with fail
      refine (iHas_c _ _ _ _ _ il10 iv10).mono ?_
      rw [HQ.out]
      rintro e w11 ⟨rfl, b11⟩
      have F11 := below_step F10 b11 F10.size
      have il11 := il10.kept b11
      clear b11 il10 iv10 F10
      have hq0 : ((!q) == q) = false := by cases q <;> rfl
      go_wp2_with fail
      refine (iGrass_c _ _ _ il11).mono ?_
      rw [HG.out]
      rintro e w12 ⟨rfl, b12⟩
      have F12 := below_step F11 b12 F11.size
      have il12 := il11.kept b12
      clear b12 il11 F11
      cases g with
      | false =>
        go_wp2_with fail
        refine (iFPerm_c _ _ _ il12).mono ?_
        rintro e w13 ⟨rfl, b13⟩
        have F13 := below_step F12 b13 F12.size
        have il13 := il12.kept b13
        clear b13 il12 F12
        go_wp2_with fail
        refine (iPPerm_c _ _ HSZ.out).mono ?_
        rw [HPB.out, HPL.out]
        rintro e w14 ⟨rv, rfl, ov, b14⟩
        have F14 := below_step F13 b14 F13.size
        have il14 := il13.kept b14
        have iv14 := ov.ints
        clear b14 il13 F13 ov
        go_wp2_with fail
        refine (ints_same _ _ _ _ iv14 il14).mono ?_
        rintro e w15 ⟨rfl, b15⟩
        have F15 := below_step F14 b15 F14.size
        have il15 := il14.kept b15
        clear b15 il14 F14 iv14
        go_wp2_with fail
        refine (iEmbed_c _ _ _ _ il15).mono ?_
        rintro e w16 ⟨re, rfl, oe, b16⟩
        have F16 := below_step F15 b16 F15.size
        have il16 := il15.kept b16
        have ie16 := oe.ints
        clear b16 il15 F15 oe
        go_wp2_with fail
        refine (iTrim_c _ _ _ ie16).mono ?_
        rw [HTE.out]
        rintro e w17 ⟨rt, rfl, ot, b17⟩
        have F17 := below_step F16 b17 F16.size
        have il17 := il16.kept b17
        have it17 := ot.ints
        clear b17 il16 F16 ot ie16
        go_wp2_with fail
        refine (iTrim_c _ _ _ il17).mono ?_
        rintro e w18 ⟨ru, rfl, ou, b18⟩
        have F18 := below_step F17 b18 F17.size
        have it18 := it17.kept b18
        have iu18 := ou.ints
        clear b18 il17 F17 ou it17
        go_wp2_with fail
        refine (ints_same _ _ _ _ it18 iu18).mono ?_
        rintro e w19 ⟨rfl, b19⟩
        have F19 := below_step F18 b19 F18.size
        go_wp2_with fail
        go_ret
        exact ⟨rfl, F19⟩

      | true =>
        obtain rfl := HGV.out rfl
        go_wp2_with fail
        refine (iVex_c _ _ _ il12).mono ?_
        rw [HV.out]
        rintro e w13 ⟨rfl, b13⟩
        have F13 := below_step F12 b13 F12.size
        have il13 := il12.kept b13
        clear b13 il12 F12
        go_wp2_with fail
        refine (iFPerm_c _ _ _ il13).mono ?_
        rintro e w14 ⟨rfl, b14⟩
        have F14 := below_step F13 b14 F13.size
        have il14 := il13.kept b14
        clear b14 il13 F13
        go_wp2_with fail
        refine (iPPerm_c _ _ HSZ.out).mono ?_
        rw [HPB.out, HPL.out]
        rintro e w15 ⟨rv, rfl, ov, b15⟩
        have F15 := below_step F14 b15 F14.size
        have il15 := il14.kept b15
        have iv15 := ov.ints
        clear b15 il14 F14 ov
        go_wp2_with fail
        refine (ints_same _ _ _ _ iv15 il15).mono ?_
        rintro e w16 ⟨rfl, b16⟩
        have F16 := below_step F15 b16 F15.size
        have il16 := il15.kept b16
        clear b16 il15 F15 iv15
        go_wp2_with fail
        refine (iEmbed_c _ _ _ _ il16).mono ?_
        rintro e w17 ⟨re, rfl, oe, b17⟩
        have F17 := below_step F16 b17 F16.size
        have il17 := il16.kept b17
        have ie17 := oe.ints
        clear b17 il16 F16 oe
        go_wp2_with fail
        refine (iTrim_c _ _ _ ie17).mono ?_
        rw [HTE.out]
        rintro e w18 ⟨rt, rfl, ot, b18⟩
        have F18 := below_step F17 b18 F17.size
        have il18 := il17.kept b18
        have it18 := ot.ints
        clear b18 il17 F17 ot ie17
        go_wp2_with fail
        refine (iTrim_c _ _ _ il18).mono ?_
        rintro e w19 ⟨ru, rfl, ou, b19⟩
        have F19 := below_step F18 b19 F18.size
        have it19 := it18.kept b19
        have iu19 := ou.ints
        clear b19 il18 F18 ou it18
        go_wp2_with fail
        refine (ints_same _ _ _ _ it19 iu19).mono ?_
        rintro e w20 ⟨rfl, b20⟩
        have F20 := below_step F19 b20 F19.size
        go_wp2_with fail
        go_ret
        exact ⟨rfl, F20⟩


end Go.Proofs.Ytfepepakellbbaa
