/-
  The law: parts of a reduced word lead below what the word leads to.
-/
import Derived.Test.YtfepepakellbbaaDWord
namespace Go.Proofs.Ytfepepakellbbaa
open Go.RowKit
set_option linter.unusedVariables false

set_option maxRecDepth 4000 in
set_option maxHeartbeats 1600000 in
theorem subwords_w (ao : Option Addr) (len c : Nat) (w : World) (hb : BytesR w ao len c) (hl : len ≤ 9223372036854775807) :
    Calls Try.prog 6 #[.slice ao len c] w fun e w' => e = .returned (.bool true) ∧ Below w.heap.size w w' := by
  by_cases hbig : 1048576 < len
  · have hd : decide (1048576 < len) = true := decide_eq_true hbig
    go_enter Try.func6, Try.ntmps6
    go_wp2_with fail
    refine (big_c ao len c _ hl).mono ?_
    rw [hd]
    rintro e w1 ⟨rfl, rfl⟩
    go_wp2_with fail
    go_ret
    exact ⟨rfl, Below.refl _ _⟩
  · have hd : decide (1048576 < len) = false := decide_eq_false hbig
    go_enter Try.func6, Try.ntmps6
    go_wp2_with fail
    refine (big_c ao len c _ hl).mono ?_
    rw [hd]
    rintro e w1 ⟨rfl, rfl⟩
    go_wp2_with fail
    refine (drawWord_c ao len c _ hb (by omega)).mono ?_
    rintro e w2 ⟨r1, r2, r3, n, u, word, more, rfl, hn2, hn5, hu, hway, hwl, hlet, hml, iu2, iw2, im2, F2⟩
    obtain ⟨uo, un, uc, rfl⟩ := iu2.shapeL
    obtain rfl : n = un := (iu2.lenEq.trans hu.2).symm
    obtain ⟨m, wo, wb, woff, wc, rfl, HL, hmc, hcm, ha, hc, hm⟩ := iw2.open
    have hm10 : m ≤ 10 := by rw [HL.out]; exact hwl
    have hwL : Letters n word := hway.2
    have HW1 : Hid (playL true (n : Int) word = u) := Lib.hid (by
      rw [playL, if_pos (letters_word (by omega) (by omega) hwL (by omega)), Int.toNat_natCast, playUp_all]; exact run_up hway.1)
    have HW2 : Hid (playL false (n : Int) word = u) := Lib.hid (by
      rw [playL, if_pos (letters_word (by omega) (by omega) hwL (by omega)), Int.toNat_natCast, playUp_all]; exact run_up hway.1)
    have HP : Hid (∀ part, List.Sublist part word → belowB (playL true (n : Int) part) u = true ∧ belowB (playL false (n : Int) part) u = true ∧ belowB (playL true (n : Int) part) (playL false (n : Int) part) = true) := Lib.hid (fun part hs => by
      have hi := id_perm (n := n) (by omega) (by omega)
      have hpl : Letters n part := fun k hk => hwL k (hs.subset hk)
      have hpn : part.length ≤ word.length := hs.length_le
      have hpb := letters_word (n := n) (by omega) (by omega) hpl (by omega)
      rw [playL, playL, if_pos hpb, if_pos hpb, Int.toNat_natCast, playUp_all, playUp_all]
      obtain ⟨h1, h2⟩ := run_part hway.1 part _ _ hi hi hi hwL hs (Le.refl _ _) (Le.refl _ _)
      have p1 := run_perm true part _ hi hpl
      have p2 := run_perm false part _ hi hpl
      exact ⟨(h1.trans h2).below p1 hu, h2.below p2 hu, h1.below p1 p2⟩)
    have HB := Lib.hid hb
    have HC := Lib.hid hc
    clear hway hwl hlet hml im2 hwL hu hb hd hcm hc
    have B0 := (Below.refl w2.heap.size w2).alloc (Nat.le_refl _) (Obj.cells #[] 3)
    have O0 : OwnI w2.heap.size (w2.alloc (Obj.cells #[] 3)) (.slice (some ⟨w2.heap.size, 0, none⟩) 0 0) [] := OwnI.lit w2
    go_wp2_with fail
    go_loopw [7, 8] (fun pv iv wr => ∃ (i : Nat) (part : List Int), i ≤ m ∧ iv = .int .i64 i ∧ Hid (List.Sublist part (word.take i)) ∧ part.length ≤ i ∧ OwnI w2.heap.size wr pv part ∧ Below w2.heap.size w2 wr) (fun _ iv _ => m - (intOf iv).toNat)
    case atStart => exact ⟨0, [], Nat.zero_le _, rfl, Lib.hid (List.nil_sublist _), Nat.le_refl _, O0, B0⟩
    case round =>
      obtain ⟨i, part, hi, rfl, HS, hpl, hO, hB⟩ := hrel
      clear O0 B0
      by_cases him : i < m
      · obtain rfl := ha (by omega)
        have hii : (i : Int) < (m : Int) := by omega
        have hi0 : (0 : Int) ≤ (i : Int) := Int.natCast_nonneg _
        obtain ⟨k, hk⟩ : ∃ k, k = word.getD i 0 := ⟨_, rfl⟩
        have hkc : wr.cell? ⟨wb, woff + i, none⟩ = some (.int .i64 k) := by rw [hk, hB.cell (World.block_lt_of_cell? _ _ (HC.out i him))]; exact HC.out i him
        have ht : word.take (i + 1) = word.take i ++ [k] := by
          rw [List.take_add_one, getElem?_of_getD hk (by rw [← HL.out]; exact him)]; rfl
        have HS1 : Hid (List.Sublist part (word.take (i + 1))) := Lib.hid (by rw [ht]; exact HS.out.trans (List.sublist_append_left _ _))
        have HS2 : Hid (List.Sublist (part ++ [k]) (word.take (i + 1))) := Lib.hid (by rw [ht]; exact HS.out.append (List.Sublist.refl _))
        have hlen : part.length + 1 ≤ 1099511627776 := by omega
        have hsz := hB.size
        have hb' : BytesR wr ao len c := by
          obtain ⟨b, off, h1, h2⟩ := HB.out
          refine ⟨b, off, h1, fun j hj => ?_⟩
          obtain ⟨x, hx, hcx⟩ := h2 j hj
          exact ⟨x, hx, by rw [(F2.trans (hB.mono F2.size)).cell (World.block_lt_of_cell? _ _ hcx)]; exact hcx⟩
        clear hk ht
        go_wp2_with fail
        refine (at0_c ao len c i _ hb' (by omega) (by omega)).mono ?_
        rintro e w3 ⟨x, rfl, hx0, hx1, rfl⟩
        have ht3 : x.tmod 3 = x % 3 := Int.tmod_eq_emod_of_nonneg hx0
        by_cases h3 : 0 < x % 3
        · have h3t : 0 < x.tmod 3 := by rw [ht3]; exact h3
          clear ht3
          go_wp2_with (at_builtin; refine wpList_push _ rfl _ _ rfl hO rfl rfl hlen hsz ?_)
          intro v' w8 hO8 hb8 _ _
          have B8 := hB.trans hb8
          clear hO hB
          go_wp2
          go_roundw
          case rel => exact ⟨i + 1, _, by omega, by go_num, HS2, by simp; omega, hO8, B8⟩
          case measure => simp [intOf] <;> omega
        · have h3t : ¬ 0 < x.tmod 3 := by rw [ht3]; exact h3
          clear ht3
          go_wp2_with fail
          go_roundw
          case rel => exact ⟨i + 1, _, by omega, by go_num, HS1, by omega, hO, hB⟩
          case measure => simp [intOf] <;> omega
      · obtain rfl : i = m := by omega
        have hsub : List.Sublist part word := by have := HS.out; rwa [HL.out, List.take_length] at this
        obtain ⟨q1, q2, q3⟩ := HP.out part hsub
        have Q1 := Lib.hid q1
        have Q2 := Lib.hid q2
        have Q3 := Lib.hid q3
        have F3 := F2.trans (hB.mono F2.size)
        have iu3 := iu2.kept hB
        have iw3 := iw2.kept hB
        have ip3 := hO.ints
        clear q1 q2 q3 HP HC hO hB iu2 iw2 hsub ha
        go_wp2_with fail
        refine (iWordPerm_c _ _ _ _ ip3).mono ?_
        generalize playL true (n : Int) part = A at Q1 Q3 ⊢
        rintro e w4 ⟨ra, rfl, oa, b4⟩
        have F4 := below_step F3 b4 F3.size
        have iu4 := iu3.kept b4
        have iw4 := iw3.kept b4
        have ip4 := ip3.kept b4
        have ia4 := oa.ints
        clear b4 iu3 iw3 ip3 oa F3
        go_wp2_with fail
        refine (iDemazure_c _ _ _ _ ip4).mono ?_
        generalize playL false (n : Int) part = B at Q2 Q3 ⊢
        rintro e w5 ⟨rb, rfl, ob, b5⟩
        have F5 := below_step F4 b5 F4.size
        have iu5 := iu4.kept b5
        have iw5 := iw4.kept b5
        have ia5 := ia4.kept b5
        have ib5 := ob.ints
        clear b5 iu4 iw4 ip4 ia4 ob F4
        go_wp2_with fail
        refine (iWordPerm_c _ _ _ _ iw5).mono ?_
        rw [HW1.out]
        rintro e w6 ⟨r1, rfl, o1, b6⟩
        have F6 := below_step F5 b6 F5.size
        have iu6 := iu5.kept b6
        have iw6 := iw5.kept b6
        have ia6 := ia5.kept b6
        have ib6 := ib5.kept b6
        have i16 := o1.ints
        clear b6 iu5 iw5 ia5 ib5 o1 F5
        go_wp2_with fail
        refine (ints_same _ _ _ _ i16 iu6).mono ?_
        rintro e w7 ⟨rfl, b7⟩
        have F7 := below_step F6 b7 F6.size
        have iu7 := iu6.kept b7
        have iw7 := iw6.kept b7
        have ia7 := ia6.kept b7
        have ib7 := ib6.kept b7
        clear b7 iu6 iw6 ia6 ib6 i16 F6
        go_wp2_with fail
        refine (iDemazure_c _ _ _ _ iw7).mono ?_
        rw [HW2.out]
        rintro e w8 ⟨r2, rfl, o2, b8⟩
        have F8 := below_step F7 b8 F7.size
        have iu8 := iu7.kept b8
        have ia8 := ia7.kept b8
        have ib8 := ib7.kept b8
        have i28 := o2.ints
        clear b8 iu7 iw7 ia7 ib7 o2 F7
        go_wp2_with fail
        refine (ints_same _ _ _ _ i28 iu8).mono ?_
        rintro e w9 ⟨rfl, b9⟩
        have F9 := below_step F8 b9 F8.size
        have iu9 := iu8.kept b9
        have ia9 := ia8.kept b9
        have ib9 := ib8.kept b9
        clear b9 iu8 ia8 ib8 i28 F8
        go_wp2_with fail
        refine (iBelow_c _ _ _ _ _ ia9 iu9).mono ?_
        rw [Q1.out]
        rintro e w10 ⟨rfl, b10⟩
        have F10 := below_step F9 b10 F9.size
        have iu10 := iu9.kept b10
        have ia10 := ia9.kept b10
        have ib10 := ib9.kept b10
        clear b10 iu9 ia9 ib9 F9
        go_wp2_with fail
        refine (iBelow_c _ _ _ _ _ ib10 iu10).mono ?_
        rw [Q2.out]
        rintro e w11 ⟨rfl, b11⟩
        have F11 := below_step F10 b11 F10.size
        have ia11 := ia10.kept b11
        have ib11 := ib10.kept b11
        clear b11 iu10 ia10 ib10 F10
        go_wp2_with fail
        refine (iBelow_c _ _ _ _ _ ia11 ib11).mono ?_
        rw [Q3.out]
        rintro e w12 ⟨rfl, b12⟩
        have F12 := below_step F11 b12 F11.size
        go_wp2_with fail
        go_ret
        exact ⟨rfl, F12⟩

end Go.Proofs.Ytfepepakellbbaa
