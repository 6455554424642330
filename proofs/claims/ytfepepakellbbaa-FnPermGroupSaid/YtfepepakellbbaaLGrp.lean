/-
  The law: permutations are a group; their lengths.
-/
import Derived.Test.YtfepepakellbbaaOpenB
import Derived.Test.YtfepepakellbbaaPermI
import Derived.Test.YtfepepakellbbaaIdent
namespace Go.Proofs.Ytfepepakellbbaa
open Go.RowKit
set_option linter.unusedVariables false

theorem IntsV.shapeL {w : World} {v : Value} {l : List Int} (h : IntsV w v l) : ∃ ao n c, v = .slice ao n c := by
  obtain ⟨ao, b, off, c, rfl, _⟩ := h
  exact ⟨_, _, _, rfl⟩
theorem IntsV.lenEq {w : World} {ao : Option Addr} {n c : Nat} {l : List Int} (h : IntsV w (.slice ao n c) l) : n = l.length := by
  obtain ⟨ao', b, off, c', he, _⟩ := h
  simp at he
  exact he.2.1

set_option maxRecDepth 4000 in
set_option maxHeartbeats 1600000 in
theorem permGroup_w (ao : Option Addr) (len c : Nat) (w : World) (hb : BytesR w ao len c) (hl : len ≤ 9223372036854775807) :
    Calls Try.prog 7 #[.slice ao len c] w fun e w' => e = .returned (.bool true) ∧ Below w.heap.size w w' := by
  by_cases hbig : 1048576 < len
  · have hd : decide (1048576 < len) = true := decide_eq_true hbig
    go_enter Try.func7, Try.ntmps7
    go_wp2_with fail
    refine (big_c ao len c _ hl).mono ?_
    rw [hd]
    rintro e w1 ⟨rfl, rfl⟩
    go_wp2_with fail
    go_ret
    exact ⟨rfl, Below.refl _ _⟩
  · have hd : decide (1048576 < len) = false := decide_eq_false hbig
    go_enter Try.func7, Try.ntmps7
    go_wp2_with fail
    refine (big_c ao len c _ hl).mono ?_
    rw [hd]
    rintro e w1 ⟨rfl, rfl⟩
    go_wp2_with fail
    refine (drawTwo_c ao len c _ hb (by omega)).mono ?_
    rintro e w2 ⟨r1, r2, n, u, v, rfl, hn1, hn5, hu, hv, iu2, iv2, F2⟩
    obtain ⟨uo, un, uc, rfl⟩ := iu2.shapeL
    obtain rfl : n = un := (iu2.lenEq.trans hu.2).symm
    have HU := u_facts hn1 hn5 hu
    have hlv : lenOf v = ((lenOf v).toNat : Int) := by have := (red_facts hn1 hn5 hv).lo; omega
    have HLT := len_then hn1 hn5 hu _ v hv hlv
    have hx := then_perm hu hv
    have hyp := HU.inv
    have hx1 : composeL u v = thenL u v := if_pos ⟨hu.1, hv.1, by rw [hu.2, hv.2]⟩
    have hy1 : inverseL u = invOf u := if_pos hu.1
    have hyu : composeL (invOf u) u = idL n := by rw [composeL, if_pos ⟨hyp.1, hu.1, by rw [hyp.2, hu.2]⟩]; exact HU.left
    have hyx : composeL (invOf u) (thenL u v) = v := by rw [composeL, if_pos ⟨hyp.1, hx.1, by rw [hyp.2, hx.2]⟩]; exact then_back HU hu.2 hv
    have hid : identL (n : Int) = idL n := by rw [identL, if_pos (inB_mk (by omega) (by omega))]; rfl
    have hlong : longL (n : Int) = (idL n).reverse := by rw [longL, hid]
    have hlp : PermN n ((idL n).reverse) := by
      have h0 := id_perm hn1 (show n ≤ 7 by omega)
      obtain ⟨a1, a2, a3, a4⟩ := isPermB_iff.1 h0.1
      refine ⟨isPermB_iff.2 ⟨by simpa using a1, by simpa using a2, fun x hx => by have := a3 x (by simpa using hx); simpa using this, (List.reverse_perm _).nodup_iff.2 a4⟩, by simpa using h0.2⟩
    have hlu : composeL ((idL n).reverse) u = thenL ((idL n).reverse) u := if_pos ⟨hlp.1, hu.1, by rw [hlp.2, hu.2]⟩
    have hlup := then_perm hlp hu
    have hLx : lengthL (thenL u v) = lenOf (thenL u v) := if_pos hx.1
    have hLu : lengthL u = lenOf u := if_pos hu.1
    have hLv : lengthL v = lenOf v := if_pos hv.1
    have hLy : lengthL (invOf u) = lenOf u := by rw [lengthL, if_pos hyp.1]; exact HU.invLen
    have hLl : lengthL (thenL ((idL n).reverse) u) = (n : Int) * ((n : Int) - 1) / 2 - lenOf u := by rw [lengthL, if_pos hlup.1]; exact HU.long
    have hpx : isPermB (thenL u v) = true := hx.1
    have ha1 := (red_facts hn1 hn5 hu).hi
    have ha0 := (red_facts hn1 hn5 hu).lo
    have hb1 := (red_facts hn1 hn5 hv).hi
    have hb0 := (red_facts hn1 hn5 hv).lo
    have hd0 := (red_facts hn1 hn5 hx).lo
    have hq : (n : Int) * ((n : Int) - 1) / 2 = ((n * (n - 1) / 2 : Nat) : Int) := by
      rcases (show n = 1 ∨ n = 2 ∨ n = 3 ∨ n = 4 ∨ n = 5 by omega) with rfl | rfl | rfl | rfl | rfl <;> rfl
    clear HU hyp hx hlp hlup hu hv hlv hd
    generalize thenL ((idL n).reverse) u = LU at hlu hLl
    generalize (idL n).reverse = LL at hlong hlu
    generalize thenL u v = X at hx1 hyx hLx hpx HLT hd0
    generalize invOf u = Y at hy1 hyu hyx hLy
    generalize idL n = I at hyu hid
    generalize lenOf u = A at *
    generalize lenOf v = B at *
    generalize lenOf X = D at *
    obtain ⟨hle, hpar⟩ := HLT
    have hA : A ≤ 10 := ha1
    have hB : B ≤ 10 := hb1
    have HX1 := Lib.hid hx1
    have HY1 := Lib.hid hy1
    have HYU := Lib.hid hyu
    have HYX := Lib.hid hyx
    have HID := Lib.hid hid
    have HLO := Lib.hid hlong
    have HLU := Lib.hid hlu
    have HLx := Lib.hid hLx
    have HLa := Lib.hid hLu
    have HLv := Lib.hid hLv
    have HLy := Lib.hid hLy
    have HLl := Lib.hid hLl
    have HPX := Lib.hid hpx
    have HNUM : Hid (D ≤ A + B ∧ 0 ≤ A ∧ A ≤ 10 ∧ 0 ≤ B ∧ B ≤ 10 ∧ 0 ≤ D ∧ (A + B - D) % 2 = 0 ∧ (n : Int) * ((n : Int) - 1) / 2 = ((n * (n - 1) / 2 : Nat) : Int)) := Lib.hid ⟨hle, ha0, ha1, hb0, hb1, hd0, hpar, hq⟩
    clear hx1 hy1 hyu hyx hid hlong hlu hLx hLu hLv hLy hLl hpx hle hpar hq ha0 ha1 hb0 hb1 hd0 hA hB hb
    go_wp2_with fail
    refine (iCompose_c _ _ _ _ _ iu2 iv2).mono ?_
    rw [HX1.out]
    rintro e w3 ⟨rx, rfl, ox, b3⟩
    have G3 := below_step F2 b3 F2.size
    have iu3 := iu2.kept b3
    have iv3 := iv2.kept b3
    have ix3 := ox.ints
    clear b3 iu2 iv2 F2 ox
    go_wp2_with fail
    refine (iInverse_c _ _ _ iu3).mono ?_
    rw [HY1.out]
    rintro e w4 ⟨ry, rfl, oy, b4⟩
    have G4 := below_step G3 b4 G3.size
    have iu4 := iu3.kept b4
    have iv4 := iv3.kept b4
    have ix4 := ix3.kept b4
    have iy4 := oy.ints
    clear b4 iu3 iv3 ix3 G3 oy
    go_wp2_with fail
    refine (iIsPerm_c _ _ _ ix4).mono ?_
    rw [HPX.out]
    rintro e w5 ⟨rfl, b5⟩
    have G5 := below_step G4 b5 G4.size
    have iu5 := iu4.kept b5
    have iv5 := iv4.kept b5
    have ix5 := ix4.kept b5
    have iy5 := iy4.kept b5
    clear b5 iu4 iv4 ix4 iy4 G4
    go_wp2_with fail
    refine (iCompose_c _ _ _ _ _ iy5 iu5).mono ?_
    rw [HYU.out]
    rintro e w6 ⟨r1, rfl, o1, b6⟩
    have G6 := below_step G5 b6 G5.size
    have iu6 := iu5.kept b6
    have iv6 := iv5.kept b6
    have ix6 := ix5.kept b6
    have iy6 := iy5.kept b6
    have i16 := o1.ints
    clear b6 iu5 iv5 ix5 iy5 G5 o1
    go_wp2_with fail
    refine (iIdent_c _ _).mono ?_
    rw [HID.out]
    rintro e w7 ⟨r2, rfl, o2, b7⟩
    have G7 := below_step G6 b7 G6.size
    have iu7 := iu6.kept b7
    have iv7 := iv6.kept b7
    have ix7 := ix6.kept b7
    have iy7 := iy6.kept b7
    have i17 := i16.kept b7
    have i27 := o2.ints
    clear b7 iu6 iv6 ix6 iy6 i16 G6 o2
    go_wp2_with fail
    refine (ints_same _ _ _ _ i17 i27).mono ?_
    rintro e w8 ⟨rfl, b8⟩
    have G8 := below_step G7 b8 G7.size
    have iu8 := iu7.kept b8
    have iv8 := iv7.kept b8
    have ix8 := ix7.kept b8
    have iy8 := iy7.kept b8
    clear b8 iu7 iv7 ix7 iy7 i17 i27 G7
    go_wp2_with fail
    refine (iCompose_c _ _ _ _ _ iy8 ix8).mono ?_
    rw [HYX.out]
    rintro e w9 ⟨r3, rfl, o3, b9⟩
    have G9 := below_step G8 b9 G8.size
    have iu9 := iu8.kept b9
    have iv9 := iv8.kept b9
    have ix9 := ix8.kept b9
    have iy9 := iy8.kept b9
    have i39 := o3.ints
    clear b9 iu8 iv8 ix8 iy8 G8 o3
    go_wp2_with fail
    refine (ints_same _ _ _ _ i39 iv9).mono ?_
    rintro e w10 ⟨rfl, b10⟩
    have G10 := below_step G9 b10 G9.size
    have iu10 := iu9.kept b10
    have iv10 := iv9.kept b10
    have ix10 := ix9.kept b10
    have iy10 := iy9.kept b10
    clear b10 iu9 iv9 ix9 iy9 i39 G9
    go_wp2_with fail
    refine (iLength_c _ _ _ iu10).mono ?_
    rw [HLa.out]
    rintro e w11 ⟨rfl, b11⟩
    have G11 := below_step G10 b11 G10.size
    have iu11 := iu10.kept b11
    have iv11 := iv10.kept b11
    have ix11 := ix10.kept b11
    have iy11 := iy10.kept b11
    clear b11 iu10 iv10 ix10 iy10 G10
    go_wp2_with fail
    refine (iLength_c _ _ _ iv11).mono ?_
    rw [HLv.out]
    rintro e w12 ⟨rfl, b12⟩
    have G12 := below_step G11 b12 G11.size
    have iu12 := iu11.kept b12
    have ix12 := ix11.kept b12
    have iy12 := iy11.kept b12
    clear b12 iu11 iv11 ix11 iy11 G11
    go_wp2_with fail
    refine (iLength_c _ _ _ ix12).mono ?_
    rw [HLx.out]
    rintro e w13 ⟨rfl, b13⟩
    have G13 := below_step G12 b13 G12.size
    have iu13 := iu12.kept b13
    have iy13 := iy12.kept b13
    clear b13 iu12 ix12 iy12 G12
    obtain ⟨hle, ha0, ha1, hb0, hb1, hd0, hpar, hq⟩ := HNUM.out
    have hmod : (A + B - D).tmod 2 = 0 := by rw [Int.tmod_eq_emod_of_nonneg (by omega)]; exact hpar
    go_wp2_with fail
    refine (iLength_c _ _ _ iy13).mono ?_
    rw [HLy.out]
    rintro e w14 ⟨rfl, b14⟩
    have G14 := below_step G13 b14 G13.size
    have iu14 := iu13.kept b14
    clear b14 iu13 iy13 G13
    go_wp2_with fail
    refine (iLong_c _ _).mono ?_
    rw [HLO.out]
    rintro e w15 ⟨r4, rfl, o4, b15⟩
    have G15 := below_step G14 b15 G14.size
    have iu15 := iu14.kept b15
    have i415 := o4.ints
    clear b15 iu14 o4 G14
    go_wp2_with fail
    refine (iCompose_c _ _ _ _ _ i415 iu15).mono ?_
    rw [HLU.out]
    rintro e w16 ⟨r5, rfl, o5, b16⟩
    have G16 := below_step G15 b16 G15.size
    have i516 := o5.ints
    clear b16 iu15 i415 o5 G15
    go_wp2_with fail
    refine (iLength_c _ _ _ i516).mono ?_
    rw [HLl.out]
    rintro e w17 ⟨rfl, b17⟩
    have G17 := below_step G16 b17 G16.size
    clear b17 i516 G16
    go_wp2_with fail
    go_ret
    obtain ⟨q, hq1, hq2, hq3, hq4⟩ : ∃ q : Int, (wrap64 ((n : Int) * ((n : Int) - 1))).tdiv 2 = q ∧ (n : Int) * ((n - 1 : Nat) : Int) / 2 = q ∧ 0 ≤ q ∧ q ≤ 10 := by
      rcases (show n = 1 ∨ n = 2 ∨ n = 3 ∨ n = 4 ∨ n = 5 by omega) with rfl | rfl | rfl | rfl | rfl
      · exact ⟨0, by rw [IntWalk.wrap64_in _ (by omega)]; rfl, rfl, by omega, by omega⟩
      · exact ⟨1, by rw [IntWalk.wrap64_in _ (by omega)]; rfl, rfl, by omega, by omega⟩
      · exact ⟨3, by rw [IntWalk.wrap64_in _ (by omega)]; rfl, rfl, by omega, by omega⟩
      · exact ⟨6, by rw [IntWalk.wrap64_in _ (by omega)]; rfl, rfl, by omega, by omega⟩
      · exact ⟨10, by rw [IntWalk.wrap64_in _ (by omega)]; rfl, rfl, by omega, by omega⟩
    have hw1 : wrap64 q = q := IntWalk.wrap64_in _ (by omega)
    have hw2 : wrap64 (q - A) = q - A := IntWalk.wrap64_in _ (by omega)
    rw [hq1, hq2, hw1, hw2]
    exact ⟨ret_bool (by simp), G17⟩

end Go.Proofs.Ytfepepakellbbaa
