/-
  The law: the order of permutations.
-/
import Derived.Test.YtfepepakellbbaaBru
import Derived.Test.YtfepepakellbbaaOpenB
import Derived.Test.YtfepepakellbbaaRev
import Derived.Test.YtfepepakellbbaaComp
namespace Go.Proofs.Ytfepepakellbbaa
open Go.RowKit
set_option linter.unusedVariables false

set_option maxRecDepth 100000 in
set_option maxHeartbeats 3200000 in
theorem bruhat_w (ao : Option Addr) (len c : Nat) (w : World) (hb : BytesR w ao len c) (hl : len ≤ 9223372036854775807) :
    Calls Try.prog 3 #[.slice ao len c] w fun e w' => e = .returned (.bool true) ∧ Below w.heap.size w w' := by
  by_cases hbig : 1048576 < len
  · have hd : decide (1048576 < len) = true := decide_eq_true hbig
    go_enter Try.func3, Try.ntmps3
    go_wp2_with fail
    refine (big_c ao len c _ hl).mono ?_
    rw [hd]
    rintro e w1 ⟨rfl, rfl⟩
    go_wp2_with fail
    go_ret
    exact ⟨rfl, Below.refl _ _⟩
  · have hd : decide (1048576 < len) = false := decide_eq_false hbig
    go_enter Try.func3, Try.ntmps3
    go_wp2_with fail
    refine (big_c ao len c _ hl).mono ?_
    rw [hd]
    rintro e w1 ⟨rfl, rfl⟩
    go_wp2_with fail
    refine (drawTwo_c ao len c _ hb (by omega)).mono ?_
    rintro e w2 ⟨r1, r2, n, u, v, rfl, hn1, hn5, hu, hv, iu, iv, F⟩
    obtain ⟨uo, un, uc, rfl⟩ := iu.shapeL
    obtain ⟨vo, vn, vc, rfl⟩ := iv.shapeL
    obtain rfl : n = un := (iu.lenEq.trans hu.2).symm
    obtain rfl : n = vn := (iv.lenEq.trans hv.2).symm
    have HREF : Hid (belowB u u = true) := Lib.hid (bru_refl hu)
    have HINV : Hid (belowB (invOf u) (invOf v) = belowB u v) := Lib.hid (bru_inv hu hv)
    have HTOP : Hid (belowB (thenL (idL n).reverse v) (thenL (idL n).reverse u) = belowB u v) := Lib.hid (bru_top hu hv)
    have HANTI : Hid (belowB u v = true → belowB v u = true → decide (u = v) = true) := Lib.hid (fun h1 h2 => by simpa using bru_anti hu hv h1 h2)
    have HLONG : Hid (longL (n : Int) = (idL n).reverse) := Lib.hid (by rw [longL, identL, if_pos (inB_mk (by omega) (by omega)), Int.toNat_natCast])
    have HIU : Hid (inverseL u = invOf u) := Lib.hid (by rw [inverseL, if_pos hu.1])
    have HIV : Hid (inverseL v = invOf v) := Lib.hid (by rw [inverseL, if_pos hv.1])
    have htp := top_perm (n := n) (by omega) (by omega)
    have HCU : Hid (composeL (idL n).reverse u = thenL (idL n).reverse u) := Lib.hid (by rw [composeL, if_pos ⟨htp.1, hu.1, by rw [htp.2, hu.2]⟩])
    have HCV : Hid (composeL (idL n).reverse v = thenL (idL n).reverse v) := Lib.hid (by rw [composeL, if_pos ⟨htp.1, hv.1, by rw [htp.2, hv.2]⟩])
    have HALL : Hid (∀ i, i = (coversL u).length → foundC (decide (u = v)) (coversL u) v i = belowB u v) := Lib.hid (fun i hi => foundC_all hn5 hu hv hi)
    have HEACH : Hid (∀ z ∈ coversL u, lengthL z = lengthL u + 1 ∧ belowB u z = true) := Lib.hid (fun z hz => (cover_facts hn5 hu hz).2)
    have hlb := lengthL_bd u
    obtain ⟨m, hm⟩ : ∃ m, lengthL u = m := ⟨_, rfl⟩
    rw [hm] at hlb
    have HM := Lib.hid hm
    obtain ⟨hm1, hm2⟩ := hlb
    have hwm : IntKind.i64.wrap (m + 1) = m + 1 := IntWalk.i64_in _ (by omega)
    have HWM := Lib.hid hwm
    clear hu hv hb hd htp hm hwm
    obtain ⟨is, his⟩ : ∃ is, belowB u v = is := ⟨_, rfl⟩
    have HIS := Lib.hid his
    rw [his] at HINV HTOP HANTI HALL
    clear his
    go_wp2_with fail
    refine (iBelow_c _ _ u v _ iu iv).mono ?_
    rw [HIS.out]
    rintro e w' ⟨rfl, b⟩
    have F' := below_step F b F.size
    have iu' := iu.kept b
    have iv' := iv.kept b
    clear F b iu iv
    have F := F'
    have iu := iu'
    have iv := iv'
    clear F' iu' iv'
    go_wp2_with fail
    refine (iLong_c (n : Int) _).mono ?_
    rw [HLONG.out]
    rintro e w' ⟨rt, rfl, o, b⟩
    have F' := below_step F b F.size
    have iu' := iu.kept b
    have iv' := iv.kept b
    have it := o.ints
    clear F b iu iv o
    have F := F'
    have iu := iu'
    have iv := iv'
    clear F' iu' iv'
    go_wp2_with fail
    refine (iBelow_c _ _ u u _ iu iu).mono ?_
    rw [HREF.out]
    rintro e w' ⟨rfl, b⟩
    have F' := below_step F b F.size
    have iu' := iu.kept b
    have iv' := iv.kept b
    have it' := it.kept b
    clear F b iu iv it
    have F := F'
    have iu := iu'
    have iv := iv'
    have it := it'
    clear F' iu' iv' it'
    have STOP := trivial
    cases is with
    | false =>
      go_wp2_with fail
      refine (iInverse_c _ u _ iu).mono ?_
      rw [HIU.out]
      rintro e w' ⟨ru, rfl, o, b⟩
      have F' := below_step F b F.size
      have iu' := iu.kept b
      have iv' := iv.kept b
      have it' := it.kept b
      have ju := o.ints
      clear F b iu iv it o
      have F := F'
      have iu := iu'
      have iv := iv'
      have it := it'
      clear F' iu' iv' it'
      go_wp2_with fail
      refine (iInverse_c _ v _ iv).mono ?_
      rw [HIV.out]
      rintro e w' ⟨rv, rfl, o, b⟩
      have F' := below_step F b F.size
      have iu' := iu.kept b
      have iv' := iv.kept b
      have it' := it.kept b
      have ju' := ju.kept b
      have jv := o.ints
      clear F b iu iv it ju o
      have F := F'
      have iu := iu'
      have iv := iv'
      have it := it'
      have ju := ju'
      clear F' iu' iv' it' ju'
      go_wp2_with fail
      refine (iBelow_c _ _ (invOf u) (invOf v) _ ju jv).mono ?_
      rw [HINV.out]
      rintro e w' ⟨rfl, b⟩
      have F' := below_step F b F.size
      have iu' := iu.kept b
      have iv' := iv.kept b
      have it' := it.kept b
      clear F b iu iv it
      have F := F'
      have iu := iu'
      have iv := iv'
      have it := it'
      clear F' iu' iv' it'
      go_wp2_with fail
      refine (iCompose_c _ _ (idL n).reverse v _ it iv).mono ?_
      rw [HCV.out]
      rintro e w' ⟨rv2, rfl, o, b⟩
      have F' := below_step F b F.size
      have iu' := iu.kept b
      have iv' := iv.kept b
      have it' := it.kept b
      have tv := o.ints
      clear F b iu iv it o
      have F := F'
      have iu := iu'
      have iv := iv'
      have it := it'
      clear F' iu' iv' it'
      go_wp2_with fail
      refine (iCompose_c _ _ (idL n).reverse u _ it iu).mono ?_
      rw [HCU.out]
      rintro e w' ⟨ru2, rfl, o, b⟩
      have F' := below_step F b F.size
      have iu' := iu.kept b
      have iv' := iv.kept b
      have it' := it.kept b
      have tv' := tv.kept b
      have tu := o.ints
      clear F b iu iv it tv o
      have F := F'
      have iu := iu'
      have iv := iv'
      have it := it'
      have tv := tv'
      clear F' iu' iv' it' tv'
      go_wp2_with fail
      refine (iBelow_c _ _ (thenL (idL n).reverse v) (thenL (idL n).reverse u) _ tv tu).mono ?_
      rw [HTOP.out]
      rintro e w' ⟨rfl, b⟩
      have F' := below_step F b F.size
      have iu' := iu.kept b
      have iv' := iv.kept b
      clear F b iu iv
      have F := F'
      have iu := iu'
      have iv := iv'
      clear F' iu' iv'
      go_wp2_with fail
      refine (iCovers_c _ u _ iu).mono ?_
      generalize coversL u = L at HALL HEACH
      rintro e w3 ⟨r, rfl, h3, b3⟩
      have F3 := below_step F b3 F.size
      have iu3 := iu.kept b3
      have iv3 := iv.kept b3
      obtain ⟨q, lo, lb, lc, rfl, HQ, hqc, hla, hlcs, hlq⟩ := h3.rows.open
      have HLC := Lib.hid hlcs
      clear h3 hlcs iu iv F b3 it
      obtain ⟨f0, hf0⟩ : ∃ f0, decide (u = v) = f0 := ⟨_, rfl⟩
      rw [hf0] at HALL
      have HF0 := Lib.hid hf0
      clear hf0
      go_wp2_with fail
      refine (ints_c _ _ u v _ iu3 iv3).mono ?_
      rw [HF0.out]
      rintro e w4 ⟨rfl, b4⟩
      have F4 := below_step F3 b4 F3.size
      have iu4 := iu3.kept b4
      have iv4 := iv3.kept b4
      have HLC4 : Hid (∀ (j : Nat) (e : List Int), L[j]? = some e → ∃ u, w4.cell? ⟨lb, j, none⟩ = some u ∧ IntsV w4 u e) := Lib.hid (fun j e hj => by
        obtain ⟨z, hz, hi⟩ := HLC.out j e hj
        exact ⟨z, (b4.cell (World.block_lt_of_cell? _ _ hz)).trans hz, hi.kept b4⟩)
      clear iu3 iv3 F3 b4
      go_wp2_with fail
      go_loopw [9, 10] (fun fv iv wr => ∃ i : Nat, i ≤ q ∧ iv = .int .i64 i ∧ fv = .bool (foundC f0 L v i) ∧ Below w4.heap.size w4 wr) (fun _ iv _ => q - (intOf iv).toNat)
      case atStart => exact ⟨0, Nat.zero_le _, rfl, by simp [foundC], Below.refl _ _⟩
      case round =>
        obtain ⟨i, hi, rfl, rfl, hB⟩ := hrel
        by_cases hlt : i < q
        · obtain rfl := hla (by omega)
          obtain ⟨x, hx⟩ : ∃ x, L[i]? = some x := ⟨_, List.getElem?_eq_getElem (by rw [← HQ.out]; exact hlt)⟩
          obtain ⟨z1, hz1, iz1⟩ := HLC4.out i x hx
          obtain ⟨hxl, hxp⟩ := HEACH.out x (List.mem_of_getElem? hx)
          obtain ⟨zo, zn, zc, rfl⟩ := iz1.shapeL
          have c1 := (hB.cell (World.block_lt_of_cell? _ _ hz1)).trans hz1
          have HXL : Hid (lengthL x = m + 1) := Lib.hid (by rw [hxl, HM.out])
          have HXP := Lib.hid hxp
          have HFU := Lib.hid (foundC_succ (f0 := f0) (v := v) hx)
          have hi0 : (0 : Int) ≤ (i : Int) := Int.natCast_nonneg _
          have hi1 : (i : Int) < (q : Int) := by omega
          have hmm : ((m + 1) != (m + 1)) = false := by simp
          have iu5 := iu4.kept hB
          have iv5 := iv4.kept hB
          have iz5 := iz1.kept hB
          clear hxl hxp hx
          go_wp2_with fail
          refine (iLength_c _ x _ iz5).mono ?_
          rw [HXL.out]
          rintro e w5 ⟨rfl, b5⟩
          have B5 := below_step hB b5 hB.size
          have iu6 := iu4.kept B5
          clear hB b5 c1 iz5 iu5 iv5
          go_wp2_with fail
          refine (iLength_c _ u _ iu6).mono ?_
          rw [HM.out]
          rintro e w6 ⟨rfl, b6⟩
          have B6 := below_step B5 b6 B5.size
          have c6 := (B6.cell (World.block_lt_of_cell? _ _ hz1)).trans hz1
          have iu7 := iu4.kept B6
          have iz7 := iz1.kept B6
          clear B5 b6 iu6
          go_wp2_with fail
          refine (iBelow_c _ _ u x _ iu7 iz7).mono ?_
          rw [HXP.out]
          rintro e w7 ⟨rfl, b7⟩
          have B7 := below_step B6 b7 B6.size
          have c7 := (B7.cell (World.block_lt_of_cell? _ _ hz1)).trans hz1
          have iv7 := iv4.kept B7
          have iz8 := iz1.kept B7
          clear B6 b7 iu7 iz7 c6 hmm
          generalize foundC f0 L v i = fb at HFU
          cases fb with
          | true =>
            go_wp2_with fail
            go_roundw
            case rel => exact ⟨i + 1, by omega, by go_num, by rw [HFU.out]; rfl, B7⟩
            case measure => simp [intOf]; omega
          | false =>
            go_wp2_with fail
            refine (iBelow_c _ _ x v _ iz8 iv7).mono ?_
            generalize belowB x v = bb at HFU
            rintro e w8 ⟨rfl, b8⟩
            have B8 := below_step B7 b8 B7.size
            go_wp2_with fail
            go_roundw
            case rel => exact ⟨i + 1, by omega, by go_num, by rw [HFU.out]; rfl, B8⟩
            case measure => simp [intOf]; omega
        · obtain rfl : i = q := by omega
          have HE := Lib.hid (HALL.out i HQ.out)
          have F5 := below_step F4 hB F4.size
          rw [HE.out]
          go_wp2_with fail
          go_ret
          exact ⟨rfl, F5⟩
    | true =>
      obtain ⟨back, hbk⟩ : ∃ back, belowB v u = back := ⟨_, rfl⟩
      have HBK := Lib.hid hbk
      clear hbk
      go_wp2_with fail
      refine (iBelow_c _ _ v u _ iv iu).mono ?_
      rw [HBK.out]
      rintro e w' ⟨rfl, b⟩
      have F' := below_step F b F.size
      have iu' := iu.kept b
      have iv' := iv.kept b
      have it' := it.kept b
      clear F b iu iv it
      have F := F'
      have iu := iu'
      have iv := iv'
      have it := it'
      clear F' iu' iv' it'
      cases back with
      | false =>
        go_wp2_with fail
        refine (iInverse_c _ u _ iu).mono ?_
        rw [HIU.out]
        rintro e w' ⟨ru, rfl, o, b⟩
        have F' := below_step F b F.size
        have iu' := iu.kept b
        have iv' := iv.kept b
        have it' := it.kept b
        have ju := o.ints
        clear F b iu iv it o
        have F := F'
        have iu := iu'
        have iv := iv'
        have it := it'
        clear F' iu' iv' it'
        go_wp2_with fail
        refine (iInverse_c _ v _ iv).mono ?_
        rw [HIV.out]
        rintro e w' ⟨rv, rfl, o, b⟩
        have F' := below_step F b F.size
        have iu' := iu.kept b
        have iv' := iv.kept b
        have it' := it.kept b
        have ju' := ju.kept b
        have jv := o.ints
        clear F b iu iv it ju o
        have F := F'
        have iu := iu'
        have iv := iv'
        have it := it'
        have ju := ju'
        clear F' iu' iv' it' ju'
        go_wp2_with fail
        refine (iBelow_c _ _ (invOf u) (invOf v) _ ju jv).mono ?_
        rw [HINV.out]
        rintro e w' ⟨rfl, b⟩
        have F' := below_step F b F.size
        have iu' := iu.kept b
        have iv' := iv.kept b
        have it' := it.kept b
        clear F b iu iv it
        have F := F'
        have iu := iu'
        have iv := iv'
        have it := it'
        clear F' iu' iv' it'
        go_wp2_with fail
        refine (iCompose_c _ _ (idL n).reverse v _ it iv).mono ?_
        rw [HCV.out]
        rintro e w' ⟨rv2, rfl, o, b⟩
        have F' := below_step F b F.size
        have iu' := iu.kept b
        have iv' := iv.kept b
        have it' := it.kept b
        have tv := o.ints
        clear F b iu iv it o
        have F := F'
        have iu := iu'
        have iv := iv'
        have it := it'
        clear F' iu' iv' it'
        go_wp2_with fail
        refine (iCompose_c _ _ (idL n).reverse u _ it iu).mono ?_
        rw [HCU.out]
        rintro e w' ⟨ru2, rfl, o, b⟩
        have F' := below_step F b F.size
        have iu' := iu.kept b
        have iv' := iv.kept b
        have it' := it.kept b
        have tv' := tv.kept b
        have tu := o.ints
        clear F b iu iv it tv o
        have F := F'
        have iu := iu'
        have iv := iv'
        have it := it'
        have tv := tv'
        clear F' iu' iv' it' tv'
        go_wp2_with fail
        refine (iBelow_c _ _ (thenL (idL n).reverse v) (thenL (idL n).reverse u) _ tv tu).mono ?_
        rw [HTOP.out]
        rintro e w' ⟨rfl, b⟩
        have F' := below_step F b F.size
        have iu' := iu.kept b
        have iv' := iv.kept b
        clear F b iu iv
        have F := F'
        have iu := iu'
        have iv := iv'
        clear F' iu' iv'
        go_wp2_with fail
        refine (iCovers_c _ u _ iu).mono ?_
        generalize coversL u = L at HALL HEACH
        rintro e w3 ⟨r, rfl, h3, b3⟩
        have F3 := below_step F b3 F.size
        have iu3 := iu.kept b3
        have iv3 := iv.kept b3
        obtain ⟨q, lo, lb, lc, rfl, HQ, hqc, hla, hlcs, hlq⟩ := h3.rows.open
        have HLC := Lib.hid hlcs
        clear h3 hlcs iu iv F b3 it
        obtain ⟨f0, hf0⟩ : ∃ f0, decide (u = v) = f0 := ⟨_, rfl⟩
        rw [hf0] at HALL
        have HF0 := Lib.hid hf0
        clear hf0
        go_wp2_with fail
        refine (ints_c _ _ u v _ iu3 iv3).mono ?_
        rw [HF0.out]
        rintro e w4 ⟨rfl, b4⟩
        have F4 := below_step F3 b4 F3.size
        have iu4 := iu3.kept b4
        have iv4 := iv3.kept b4
        have HLC4 : Hid (∀ (j : Nat) (e : List Int), L[j]? = some e → ∃ u, w4.cell? ⟨lb, j, none⟩ = some u ∧ IntsV w4 u e) := Lib.hid (fun j e hj => by
          obtain ⟨z, hz, hi⟩ := HLC.out j e hj
          exact ⟨z, (b4.cell (World.block_lt_of_cell? _ _ hz)).trans hz, hi.kept b4⟩)
        clear iu3 iv3 F3 b4
        go_wp2_with fail
        go_loopw [9, 10] (fun fv iv wr => ∃ i : Nat, i ≤ q ∧ iv = .int .i64 i ∧ fv = .bool (foundC f0 L v i) ∧ Below w4.heap.size w4 wr) (fun _ iv _ => q - (intOf iv).toNat)
        case atStart => exact ⟨0, Nat.zero_le _, rfl, by simp [foundC], Below.refl _ _⟩
        case round =>
          obtain ⟨i, hi, rfl, rfl, hB⟩ := hrel
          by_cases hlt : i < q
          · obtain rfl := hla (by omega)
            obtain ⟨x, hx⟩ : ∃ x, L[i]? = some x := ⟨_, List.getElem?_eq_getElem (by rw [← HQ.out]; exact hlt)⟩
            obtain ⟨z1, hz1, iz1⟩ := HLC4.out i x hx
            obtain ⟨hxl, hxp⟩ := HEACH.out x (List.mem_of_getElem? hx)
            obtain ⟨zo, zn, zc, rfl⟩ := iz1.shapeL
            have c1 := (hB.cell (World.block_lt_of_cell? _ _ hz1)).trans hz1
            have HXL : Hid (lengthL x = m + 1) := Lib.hid (by rw [hxl, HM.out])
            have HXP := Lib.hid hxp
            have HFU := Lib.hid (foundC_succ (f0 := f0) (v := v) hx)
            have hi0 : (0 : Int) ≤ (i : Int) := Int.natCast_nonneg _
            have hi1 : (i : Int) < (q : Int) := by omega
            have hmm : ((m + 1) != (m + 1)) = false := by simp
            have iu5 := iu4.kept hB
            have iv5 := iv4.kept hB
            have iz5 := iz1.kept hB
            clear hxl hxp hx
            go_wp2_with fail
            refine (iLength_c _ x _ iz5).mono ?_
            rw [HXL.out]
            rintro e w5 ⟨rfl, b5⟩
            have B5 := below_step hB b5 hB.size
            have iu6 := iu4.kept B5
            clear hB b5 c1 iz5 iu5 iv5
            go_wp2_with fail
            refine (iLength_c _ u _ iu6).mono ?_
            rw [HM.out]
            rintro e w6 ⟨rfl, b6⟩
            have B6 := below_step B5 b6 B5.size
            have c6 := (B6.cell (World.block_lt_of_cell? _ _ hz1)).trans hz1
            have iu7 := iu4.kept B6
            have iz7 := iz1.kept B6
            clear B5 b6 iu6
            go_wp2_with fail
            refine (iBelow_c _ _ u x _ iu7 iz7).mono ?_
            rw [HXP.out]
            rintro e w7 ⟨rfl, b7⟩
            have B7 := below_step B6 b7 B6.size
            have c7 := (B7.cell (World.block_lt_of_cell? _ _ hz1)).trans hz1
            have iv7 := iv4.kept B7
            have iz8 := iz1.kept B7
            clear B6 b7 iu7 iz7 c6 hmm
            generalize foundC f0 L v i = fb at HFU
            cases fb with
            | true =>
              go_wp2_with fail
              go_roundw
              case rel => exact ⟨i + 1, by omega, by go_num, by rw [HFU.out]; rfl, B7⟩
              case measure => simp [intOf]; omega
            | false =>
              go_wp2_with fail
              refine (iBelow_c _ _ x v _ iz8 iv7).mono ?_
              generalize belowB x v = bb at HFU
              rintro e w8 ⟨rfl, b8⟩
              have B8 := below_step B7 b8 B7.size
              go_wp2_with fail
              go_roundw
              case rel => exact ⟨i + 1, by omega, by go_num, by rw [HFU.out]; rfl, B8⟩
              case measure => simp [intOf]; omega
          · obtain rfl : i = q := by omega
            have HE := Lib.hid (HALL.out i HQ.out)
            have F5 := below_step F4 hB F4.size
            rw [HE.out]
            go_wp2_with fail
            go_ret
            exact ⟨rfl, F5⟩
      | true =>
        have HEQ : Hid (decide (u = v) = true) := Lib.hid (HANTI.out (by first | exact HIS.out | trivial) HBK.out)
        go_wp2_with fail
        refine (ints_c _ _ u v _ iu iv).mono ?_
        rw [HEQ.out]
        rintro e w' ⟨rfl, b⟩
        have F' := below_step F b F.size
        have iu' := iu.kept b
        have iv' := iv.kept b
        have it' := it.kept b
        clear F b iu iv it
        have F := F'
        have iu := iu'
        have iv := iv'
        have it := it'
        clear F' iu' iv' it'
        go_wp2_with fail
        refine (iInverse_c _ u _ iu).mono ?_
        rw [HIU.out]
        rintro e w' ⟨ru, rfl, o, b⟩
        have F' := below_step F b F.size
        have iu' := iu.kept b
        have iv' := iv.kept b
        have it' := it.kept b
        have ju := o.ints
        clear F b iu iv it o
        have F := F'
        have iu := iu'
        have iv := iv'
        have it := it'
        clear F' iu' iv' it'
        go_wp2_with fail
        refine (iInverse_c _ v _ iv).mono ?_
        rw [HIV.out]
        rintro e w' ⟨rv, rfl, o, b⟩
        have F' := below_step F b F.size
        have iu' := iu.kept b
        have iv' := iv.kept b
        have it' := it.kept b
        have ju' := ju.kept b
        have jv := o.ints
        clear F b iu iv it ju o
        have F := F'
        have iu := iu'
        have iv := iv'
        have it := it'
        have ju := ju'
        clear F' iu' iv' it' ju'
        go_wp2_with fail
        refine (iBelow_c _ _ (invOf u) (invOf v) _ ju jv).mono ?_
        rw [HINV.out]
        rintro e w' ⟨rfl, b⟩
        have F' := below_step F b F.size
        have iu' := iu.kept b
        have iv' := iv.kept b
        have it' := it.kept b
        clear F b iu iv it
        have F := F'
        have iu := iu'
        have iv := iv'
        have it := it'
        clear F' iu' iv' it'
        go_wp2_with fail
        refine (iCompose_c _ _ (idL n).reverse v _ it iv).mono ?_
        rw [HCV.out]
        rintro e w' ⟨rv2, rfl, o, b⟩
        have F' := below_step F b F.size
        have iu' := iu.kept b
        have iv' := iv.kept b
        have it' := it.kept b
        have tv := o.ints
        clear F b iu iv it o
        have F := F'
        have iu := iu'
        have iv := iv'
        have it := it'
        clear F' iu' iv' it'
        go_wp2_with fail
        refine (iCompose_c _ _ (idL n).reverse u _ it iu).mono ?_
        rw [HCU.out]
        rintro e w' ⟨ru2, rfl, o, b⟩
        have F' := below_step F b F.size
        have iu' := iu.kept b
        have iv' := iv.kept b
        have it' := it.kept b
        have tv' := tv.kept b
        have tu := o.ints
        clear F b iu iv it tv o
        have F := F'
        have iu := iu'
        have iv := iv'
        have it := it'
        have tv := tv'
        clear F' iu' iv' it' tv'
        go_wp2_with fail
        refine (iBelow_c _ _ (thenL (idL n).reverse v) (thenL (idL n).reverse u) _ tv tu).mono ?_
        rw [HTOP.out]
        rintro e w' ⟨rfl, b⟩
        have F' := below_step F b F.size
        have iu' := iu.kept b
        have iv' := iv.kept b
        clear F b iu iv
        have F := F'
        have iu := iu'
        have iv := iv'
        clear F' iu' iv'
        go_wp2_with fail
        refine (iCovers_c _ u _ iu).mono ?_
        generalize coversL u = L at HALL HEACH
        rintro e w3 ⟨r, rfl, h3, b3⟩
        have F3 := below_step F b3 F.size
        have iu3 := iu.kept b3
        have iv3 := iv.kept b3
        obtain ⟨q, lo, lb, lc, rfl, HQ, hqc, hla, hlcs, hlq⟩ := h3.rows.open
        have HLC := Lib.hid hlcs
        clear h3 hlcs iu iv F b3 it
        obtain ⟨f0, hf0⟩ : ∃ f0, decide (u = v) = f0 := ⟨_, rfl⟩
        rw [hf0] at HALL
        have HF0 := Lib.hid hf0
        clear hf0
        go_wp2_with fail
        refine (ints_c _ _ u v _ iu3 iv3).mono ?_
        rw [HF0.out]
        rintro e w4 ⟨rfl, b4⟩
        have F4 := below_step F3 b4 F3.size
        have iu4 := iu3.kept b4
        have iv4 := iv3.kept b4
        have HLC4 : Hid (∀ (j : Nat) (e : List Int), L[j]? = some e → ∃ u, w4.cell? ⟨lb, j, none⟩ = some u ∧ IntsV w4 u e) := Lib.hid (fun j e hj => by
          obtain ⟨z, hz, hi⟩ := HLC.out j e hj
          exact ⟨z, (b4.cell (World.block_lt_of_cell? _ _ hz)).trans hz, hi.kept b4⟩)
        clear iu3 iv3 F3 b4
        go_wp2_with fail
        go_loopw [9, 10] (fun fv iv wr => ∃ i : Nat, i ≤ q ∧ iv = .int .i64 i ∧ fv = .bool (foundC f0 L v i) ∧ Below w4.heap.size w4 wr) (fun _ iv _ => q - (intOf iv).toNat)
        case atStart => exact ⟨0, Nat.zero_le _, rfl, by simp [foundC], Below.refl _ _⟩
        case round =>
          obtain ⟨i, hi, rfl, rfl, hB⟩ := hrel
          by_cases hlt : i < q
          · obtain rfl := hla (by omega)
            obtain ⟨x, hx⟩ : ∃ x, L[i]? = some x := ⟨_, List.getElem?_eq_getElem (by rw [← HQ.out]; exact hlt)⟩
            obtain ⟨z1, hz1, iz1⟩ := HLC4.out i x hx
            obtain ⟨hxl, hxp⟩ := HEACH.out x (List.mem_of_getElem? hx)
            obtain ⟨zo, zn, zc, rfl⟩ := iz1.shapeL
            have c1 := (hB.cell (World.block_lt_of_cell? _ _ hz1)).trans hz1
            have HXL : Hid (lengthL x = m + 1) := Lib.hid (by rw [hxl, HM.out])
            have HXP := Lib.hid hxp
            have HFU := Lib.hid (foundC_succ (f0 := f0) (v := v) hx)
            have hi0 : (0 : Int) ≤ (i : Int) := Int.natCast_nonneg _
            have hi1 : (i : Int) < (q : Int) := by omega
            have hmm : ((m + 1) != (m + 1)) = false := by simp
            have iu5 := iu4.kept hB
            have iv5 := iv4.kept hB
            have iz5 := iz1.kept hB
            clear hxl hxp hx
            go_wp2_with fail
            refine (iLength_c _ x _ iz5).mono ?_
            rw [HXL.out]
            rintro e w5 ⟨rfl, b5⟩
            have B5 := below_step hB b5 hB.size
            have iu6 := iu4.kept B5
            clear hB b5 c1 iz5 iu5 iv5
            go_wp2_with fail
            refine (iLength_c _ u _ iu6).mono ?_
            rw [HM.out]
            rintro e w6 ⟨rfl, b6⟩
            have B6 := below_step B5 b6 B5.size
            have c6 := (B6.cell (World.block_lt_of_cell? _ _ hz1)).trans hz1
            have iu7 := iu4.kept B6
            have iz7 := iz1.kept B6
            clear B5 b6 iu6
            go_wp2_with fail
            refine (iBelow_c _ _ u x _ iu7 iz7).mono ?_
            rw [HXP.out]
            rintro e w7 ⟨rfl, b7⟩
            have B7 := below_step B6 b7 B6.size
            have c7 := (B7.cell (World.block_lt_of_cell? _ _ hz1)).trans hz1
            have iv7 := iv4.kept B7
            have iz8 := iz1.kept B7
            clear B6 b7 iu7 iz7 c6 hmm
            generalize foundC f0 L v i = fb at HFU
            cases fb with
            | true =>
              go_wp2_with fail
              go_roundw
              case rel => exact ⟨i + 1, by omega, by go_num, by rw [HFU.out]; rfl, B7⟩
              case measure => simp [intOf]; omega
            | false =>
              go_wp2_with fail
              refine (iBelow_c _ _ x v _ iz8 iv7).mono ?_
              generalize belowB x v = bb at HFU
              rintro e w8 ⟨rfl, b8⟩
              have B8 := below_step B7 b8 B7.size
              go_wp2_with fail
              go_roundw
              case rel => exact ⟨i + 1, by omega, by go_num, by rw [HFU.out]; rfl, B8⟩
              case measure => simp [intOf]; omega
          · obtain rfl : i = q := by omega
            have HE := Lib.hid (HALL.out i HQ.out)
            have F5 := below_step F4 hB F4.size
            rw [HE.out]
            go_wp2_with fail
            go_ret
            exact ⟨rfl, F5⟩

end Go.Proofs.Ytfepepakellbbaa
