/-
  The law: the reduced words of a permutation.
-/
import Derived.Test.YtfepepakellbbaaDWord
import Derived.Test.YtfepepakellbbaaAll
import Derived.Test.YtfepepakellbbaaLLess
namespace Go.Proofs.Ytfepepakellbbaa
open Go.RowKit
set_option linter.unusedVariables false

theorem play_prod {n : Nat} (h1 : 1 ≤ n) (h7 : n ≤ 7) {word : List Int} (h : Letters n word) (hl : word.length ≤ 60) : playL true (n : Int) word = prodW n word := by
  rw [playL, if_pos (letters_word h1 h7 h hl), Int.toNat_natCast, playUp_all]; rfl
theorem up_red {n : Nat} : ∀ {v word u : List Int}, Up v word u → PermN n v → Letters n word → runL true v word = u ∧ lenOf u = lenOf v + (word.length : Int) := by
  intro v word u h hv hl
  induction h with
  | nil w => exact ⟨rfl, by simp⟩
  | @cons v w word k hlt hup ih =>
    obtain ⟨hk, hw⟩ := letters_cons.1 hl
    have hs := swap_perm hv (i := k) (j := k + 1) (by omega) (by omega)
    obtain ⟨e1, e2⟩ := ih hs hw
    have e3 := len_swap_up v k (by rw [hv.2]; omega) hlt
    refine ⟨?_, by rw [e2, e3, List.length_cons]; omega⟩
    rw [← e1]; simp [runL, stepL_all]
theorem way_red {n : Nat} {word u : List Int} (h1 : 1 ≤ n) (h7 : n ≤ 7) (h : WayTo n (idL n) word u) : IsRed n u word := by
  obtain ⟨e1, e2⟩ := up_red h.1 (id_perm h1 h7) h.2
  exact ⟨h.2, e1, by rw [e2, len_id]; omega⟩

def foundUp (ls : ListsL) (word : List Int) (i : Nat) : Bool := decide (word ∈ ls.take i)
theorem foundUp_succ {ls : ListsL} {word e : List Int} {i : Nat} (h : ls[i]? = some e) : foundUp ls word (i + 1) = (foundUp ls word i || decide (e = word)) := by
  unfold foundUp
  rw [List.take_add_one, h]
  by_cases h1 : word ∈ ls.take i
  · simp [h1]
  · by_cases h2 : e = word
    · simp [h2]
    · simp [h1, h2, Ne.symm h2]

set_option maxRecDepth 100000 in
set_option maxHeartbeats 3200000 in
theorem redWords_w (ao : Option Addr) (len c : Nat) (w : World) (hb : BytesR w ao len c) (hl : len ≤ 9223372036854775807) :
    Calls Try.prog 8 #[.slice ao len c] w fun e w' => e = .returned (.bool true) ∧ Below w.heap.size w w' := by
  by_cases hbig : 1048576 < len
  · have hd : decide (1048576 < len) = true := decide_eq_true hbig
    go_enter Try.func8, Try.ntmps8
    go_wp2_with fail
    refine (big_c ao len c _ hl).mono ?_
    rw [hd]
    rintro e w1 ⟨rfl, rfl⟩
    go_wp2_with fail
    go_ret
    exact ⟨rfl, Below.refl _ _⟩
  · have hd : decide (1048576 < len) = false := decide_eq_false hbig
    go_enter Try.func8, Try.ntmps8
    go_wp2_with fail
    refine (big_c ao len c _ hl).mono ?_
    rw [hd]
    rintro e w1 ⟨rfl, rfl⟩
    go_wp2_with fail
    refine (drawWord_c ao len c _ hb (by omega)).mono ?_
    rintro e w2 ⟨r1, r2, r3, n, u, word, more, rfl, hn2, hn5, hu, hway, hwl, hlet, hml, iu2, iw2, im2, F2⟩
    obtain ⟨uo, un, uc, rfl⟩ := iu2.shapeL
    obtain rfl : n = un := (iu2.lenEq.trans hu.2).symm
    obtain ⟨wo, wn, wc, rfl⟩ := iw2.shapeL
    have hred := way_red (by omega) (by omega) hway
    obtain ⟨m, hm⟩ : ∃ m : Nat, lenOf u = (m : Int) := ⟨(lenOf u).toNat, by have := lenOf_nonneg u; omega⟩
    have hm21 : m ≤ 21 := by have := len_le hu; omega
    have hfew : redN n u ≤ 800 := redN_few hn5 (22 - m) hu (by omega)
    have HU := Lib.hid hu
    have HWL : Hid (wordsL u = redL n m u ∧ wordsB' u = true) := Lib.hid ⟨by rw [wordsL, if_pos ⟨hu.1, by rw [hu.2]; exact hfew⟩, hu.2, hm]; rfl, by rw [wordsB', hu.1, hu.2]; simpa using hfew⟩
    have HCL : Hid (countL u = ((redL n m u).length : Int)) := Lib.hid (by rw [countL_yes hu, redN, hm]; rfl)
    have HLEN : Hid (lengthL u = (m : Int)) := Lib.hid (by rw [lengthL, if_pos hu.1, hm])
    have HASC := Lib.hid (asc_redL n m u)
    have HIN : Hid (word ∈ redL n m u) := Lib.hid ((mem_redL m hu hm word).2 hred)
    have HEACH : Hid (∀ e ∈ redL n m u, e.length = m ∧ playL true (n : Int) e = u) := Lib.hid (fun e he => by
      have hr := (mem_redL m hu hm e).1 he
      have hel : e.length = m := by have := hr.len; omega
      exact ⟨hel, by rw [play_prod (by omega) (by omega) hr.letters (by omega), hr.prod]⟩)
    have HL8 : Hid ((redL n m u).length ≤ 800) := Lib.hid (by have := hfew; rw [redN, hm] at this; exact this)
    clear hway hwl hlet hml im2 hred hm hfew hb hd hu
    go_wp2_with fail
    refine (iReduced_c _ u _ iu2).mono ?_
    rw [HWL.out.1, HWL.out.2]
    generalize redL n m u = L at HCL HASC HIN HEACH HL8
    rintro e w3 ⟨r, rfl, h3, b3⟩
    have F3 := below_step F2 b3 F2.size
    have iu3 := iu2.kept b3
    have iw3 := iw2.kept b3
    obtain ⟨q, lo, lb, lc, rfl, HQ, hqc, hla, hlcs, hlq⟩ := h3.rows.open
    have hq8 : q ≤ 800 := by rw [HQ.out]; exact HL8.out
    have HLC := Lib.hid hlcs
    clear h3 hlcs iu2 iw2 F2 b3
    go_wp2_with fail
    refine (iCount_c _ u _ iu3).mono ?_
    rw [HCL.out, ← HQ.out]
    rintro e w4 ⟨rfl, b4⟩
    have F4 := below_step F3 b4 F3.size
    have iu4 := iu3.kept b4
    have iw4 := iw3.kept b4
    have HLC4 : Hid (∀ (j : Nat) (e : List Int), L[j]? = some e → ∃ u, w4.cell? ⟨lb, j, none⟩ = some u ∧ IntsV w4 u e) := Lib.hid (fun j e hj => by
      obtain ⟨v, hv, hi⟩ := HLC.out j e hj
      exact ⟨v, (b4.cell (World.block_lt_of_cell? _ _ hv)).trans hv, hi.kept b4⟩)
    have hqq : ((q : Int) != (q : Int)) = false := by simp
    clear iu3 iw3 F3 b4
    go_wp2_with fail
    clear hqq
    go_loopw [8, 9] (fun fv iv wr => ∃ i : Nat, i ≤ q ∧ iv = .int .i64 i ∧ fv = .bool (foundUp L word i) ∧ Below w4.heap.size w4 wr) (fun _ iv _ => q - (intOf iv).toNat)
    case atStart => exact ⟨0, Nat.zero_le _, rfl, by simp [foundUp], Below.refl _ _⟩
    case round =>
      obtain ⟨i, hi, rfl, rfl, hB⟩ := hrel
      by_cases hlt : i < q
      · obtain rfl := hla (by omega)
        obtain ⟨x, hx⟩ : ∃ x, L[i]? = some x := ⟨_, List.getElem?_eq_getElem (by rw [← HQ.out]; exact hlt)⟩
        obtain ⟨v1, hv1, iv1⟩ := HLC4.out i x hx
        obtain ⟨hxl, hxp⟩ := HEACH.out x (List.mem_of_getElem? hx)
        obtain ⟨vo, vn, vc, rfl⟩ := iv1.shapeL
        obtain rfl : m = vn := (iv1.lenEq.trans hxl).symm
        have c1 := (hB.cell (World.block_lt_of_cell? _ _ hv1)).trans hv1
        have HXP := Lib.hid hxp
        have HFU := Lib.hid (foundUp_succ (word := word) hx)
        have HX := Lib.hid hx
        have hi0 : (0 : Int) ≤ (i : Int) := Int.natCast_nonneg _
        have hi1 : (i : Int) < (q : Int) := by omega
        clear hxl hxp hx
        by_cases hz : i = 0
        · subst hz
          have hq0 : (0 : Int) < (q : Int) := by omega
          have hq1 : 0 < q := by omega
          have hmm : ((m : Int) != (m : Int)) = false := by simp
          clear hi0 hi1 hlt hi
          go_wp2_with fail
          refine wp_region_noPanic ?_
          refine wp_region_held_drew (S := (fun w' => Below w4.heap.size w4 w' ∧ w'.cell? ⟨lb, 0, none⟩ = some (.slice vo m vc))) (by kernel_rfl) ⟨below_drewII hB, c1⟩ (fun hHeld => ?_)
          refine wpAnyH_take (i := 0) (v := ?_) rfl (by kernel_rfl) (by kernel_rfl) (by kernel_rfl) (fun _ _ _ h => h) (Or.inl ⟨by rfl, ?_⟩) hHeld ?_
          rotate_left
          · (intro w hSw; have hS2 := hSw.2; clear hSw; go_simp; try with_reducible rfl)
          try simp only [Act.put, List.getElem_toArray, List.getElem_cons_zero, List.setIfInBounds_toArray, List.set_cons_zero, List.set_cons_succ]
          refine wpAnyH_take (i := 1) (v := ?_) rfl (by kernel_rfl) (by kernel_rfl) (by kernel_rfl) (fun _ _ _ h => h) (Or.inl ⟨by rfl, ?_⟩) hHeld ?_
          rotate_left
          · (intro w hSw; have hS2 := hSw.2; clear hSw; go_simp; try with_reducible rfl)
          try simp only [Act.put, List.getElem_toArray, List.getElem_cons_succ, List.getElem_cons_zero, List.setIfInBounds_toArray, List.set_cons_zero, List.set_cons_succ]
          refine wpAnyH_take (i := 2) (v := ?_) rfl (by kernel_rfl) (by kernel_rfl) (by kernel_rfl) (fun _ _ _ h => h) (Or.inl ⟨by rfl, ?_⟩) hHeld ?_
          rotate_left
          · (intro w hSw; have hS2 := hSw.2; clear hSw; go_simp; try with_reducible rfl)
          try simp only [Act.put, List.getElem_toArray, List.getElem_cons_succ, List.getElem_cons_zero, List.setIfInBounds_toArray, List.set_cons_zero, List.set_cons_succ]
          refine wpAnyH_take (i := 3) (v := ?_) rfl (by kernel_rfl) (by kernel_rfl) (by kernel_rfl) (fun _ _ _ h => h) (Or.inl ⟨by rfl, ?_⟩) hHeld ?_
          rotate_left
          · (intro w hSw; have hS2 := hSw.2; clear hSw; go_simp; try with_reducible rfl)
          try simp only [Act.put, List.getElem_toArray, List.getElem_cons_succ, List.getElem_cons_zero, List.setIfInBounds_toArray, List.set_cons_zero, List.set_cons_succ]
          refine wpAnyH_take (i := 4) (v := ?_) rfl (by kernel_rfl) (by kernel_rfl) (by kernel_rfl) (fun _ _ _ h => h) (Or.inl ⟨by rfl, ?_⟩) hHeld ?_
          rotate_left
          · (intro w hSw; have hS2 := hSw.2; clear hSw; go_simp; try with_reducible rfl)
          try simp only [Act.put, List.getElem_toArray, List.getElem_cons_succ, List.getElem_cons_zero, List.setIfInBounds_toArray, List.set_cons_zero, List.set_cons_succ]
          refine wpAnyH_take (i := 5) (v := ?_) rfl (by kernel_rfl) (by kernel_rfl) (by kernel_rfl) (fun _ _ _ h => h) (Or.inl ⟨by rfl, ?_⟩) hHeld ?_
          rotate_left
          · (intro w hSw; have hS2 := hSw.2; clear hSw; go_simp; try with_reducible rfl)
          try simp only [Act.put, List.getElem_toArray, List.getElem_cons_succ, List.getElem_cons_zero, List.setIfInBounds_toArray, List.set_cons_zero, List.set_cons_succ]
          refine wpAnyH_ready (rs := [6]) (by kernel_rfl) (by simp) ?_
          refine AllReadyH.cons rfl (fun K hK => ?_) AllReadyH.nil
          go_simp
          (go_at_call 18; refine (iLength_c _ u _ (iu4.kept hHeld.1)).mono ?_; rw [HLEN.out]; rintro e1 w5 ⟨rfl, b5⟩)
          refine hK.out _ _ (by first | exact ⟨below_step hHeld.1 b5 hHeld.1.size, (b5.cell (World.block_lt_of_cell? _ _ hHeld.2)).trans hHeld.2⟩) (fun hHeld2 => ?_)
          clear hK K hHeld
          have hHeld := hHeld2
          clear hHeld2
          try simp only [Act.put, List.getElem_toArray, List.getElem_cons_succ, List.getElem_cons_zero, List.setIfInBounds_toArray, List.set_cons_zero, List.set_cons_succ]
          refine wpAnyH_take (i := 7) (v := ?_) rfl (by kernel_rfl) (by kernel_rfl) (by kernel_rfl) (fun _ _ _ h => h) (Or.inl ⟨by rfl, ?_⟩) hHeld ?_
          rotate_left
          · (intro w hSw; have hS2 := hSw.2; clear hSw; go_simp; try with_reducible rfl)
          try simp only [Act.put, List.getElem_toArray, List.getElem_cons_succ, List.getElem_cons_zero, List.setIfInBounds_toArray, List.set_cons_zero, List.set_cons_succ]
          refine wpAnyH_take (i := 8) (v := ?_) rfl (by kernel_rfl) (by kernel_rfl) (by kernel_rfl) (fun _ _ _ h => h) (Or.inl ⟨by rfl, ?_⟩) hHeld ?_
          rotate_left
          · (intro w hSw; have hS2 := hSw.2; clear hSw; go_simp; try with_reducible rfl)
          try simp only [Act.put, List.getElem_toArray, List.getElem_cons_succ, List.getElem_cons_zero, List.setIfInBounds_toArray, List.set_cons_zero, List.set_cons_succ]
          refine wpAnyH_take (i := 9) (v := ?_) rfl (by kernel_rfl) (by kernel_rfl) (by kernel_rfl) (fun _ _ _ h => h) (Or.inl ⟨by rfl, ?_⟩) hHeld ?_
          rotate_left
          · (intro w hSw; have hS2 := hSw.2; clear hSw; go_simp; try with_reducible rfl)
          try simp only [Act.put, List.getElem_toArray, List.getElem_cons_succ, List.getElem_cons_zero, List.setIfInBounds_toArray, List.set_cons_zero, List.set_cons_succ]
          refine wpAnyH_take (i := 10) (v := ?_) rfl (by kernel_rfl) (by kernel_rfl) (by kernel_rfl) (fun _ _ _ h => h) (Or.inl ⟨by rfl, ?_⟩) hHeld ?_
          rotate_left
          · (intro w hSw; have hS2 := hSw.2; clear hSw; go_simp; try with_reducible rfl)
          try simp only [Act.put, List.getElem_toArray, List.getElem_cons_succ, List.getElem_cons_zero, List.setIfInBounds_toArray, List.set_cons_zero, List.set_cons_succ]
          refine wpAnyH_take (i := 11) (v := ?_) rfl (by kernel_rfl) (by kernel_rfl) (by kernel_rfl) (fun _ _ _ h => h) (Or.inl ⟨by rfl, ?_⟩) hHeld ?_
          rotate_left
          · (intro w hSw; have hS2 := hSw.2; clear hSw; go_simp; try with_reducible rfl)
          try simp only [Act.put, List.getElem_toArray, List.getElem_cons_succ, List.getElem_cons_zero, List.setIfInBounds_toArray, List.set_cons_zero, List.set_cons_succ]
          refine wpAnyH_take (i := 12) (v := ?_) rfl (by kernel_rfl) (by kernel_rfl) (by kernel_rfl) (fun _ _ _ h => h) (Or.inl ⟨by rfl, ?_⟩) hHeld ?_
          rotate_left
          · (intro w hSw; have hS2 := hSw.2; clear hSw; go_simp; try with_reducible rfl)
          try simp only [Act.put, List.getElem_toArray, List.getElem_cons_succ, List.getElem_cons_zero, List.setIfInBounds_toArray, List.set_cons_zero, List.set_cons_succ]
          refine wpAnyH_take (i := 13) (v := ?_) rfl (by kernel_rfl) (by kernel_rfl) (by kernel_rfl) (fun _ _ _ h => h) (Or.inl ⟨by rfl, ?_⟩) hHeld ?_
          rotate_left
          · (intro w hSw; have hS2 := hSw.2; clear hSw; go_simp; try with_reducible rfl)
          try simp only [Act.put, List.getElem_toArray, List.getElem_cons_succ, List.getElem_cons_zero, List.setIfInBounds_toArray, List.set_cons_zero, List.set_cons_succ]
          refine wpAnyH_take (i := 14) (v := ?_) rfl (by kernel_rfl) (by kernel_rfl) (by kernel_rfl) (fun _ _ _ h => h) (Or.inl ⟨by rfl, ?_⟩) hHeld ?_
          rotate_left
          · (intro w hSw; have hS2 := hSw.2; clear hSw; go_simp; try with_reducible rfl)
          try simp only [Act.put, List.getElem_toArray, List.getElem_cons_succ, List.getElem_cons_zero, List.setIfInBounds_toArray, List.set_cons_zero, List.set_cons_succ]
          refine wpAnyH_take (i := 16) (v := ?_) rfl (by kernel_rfl) (by kernel_rfl) (by kernel_rfl) (fun _ _ _ h => h) (Or.inl ⟨by rfl, ?_⟩) hHeld ?_
          rotate_left
          · (intro w hSw; have hS2 := hSw.2; clear hSw; go_simp; try with_reducible rfl)
          try simp only [Act.put, List.getElem_toArray, List.getElem_cons_succ, List.getElem_cons_zero, List.setIfInBounds_toArray, List.set_cons_zero, List.set_cons_succ]
          refine wpAnyH_ready (rs := [15]) (by kernel_rfl) (by simp) ?_
          refine AllReadyH.cons rfl (fun K hK => ?_) AllReadyH.nil
          go_simp
          (go_at_call 32; refine (iWordPerm_c (n : Int) _ x _ (iv1.kept hHeld.1)).mono ?_; rw [HXP.out]; rintro e1 w6 ⟨r6, rfl, o6, b6⟩)
          refine hK.out _ _ (by first | exact ⟨below_step hHeld.1 b6 hHeld.1.size, (b6.cell (World.block_lt_of_cell? _ _ hHeld.2)).trans hHeld.2⟩) (fun hHeld2 => ?_)
          clear hK K hHeld
          have hHeld := hHeld2
          clear hHeld2
          try simp only [Act.put, List.getElem_toArray, List.getElem_cons_succ, List.getElem_cons_zero, List.setIfInBounds_toArray, List.set_cons_zero, List.set_cons_succ]
          refine wpAnyH_ready (rs := [17]) (by kernel_rfl) (by simp) ?_
          refine AllReadyH.cons rfl (fun K hK => ?_) AllReadyH.nil
          go_simp
          (go_at_call 14; refine (ints_same _ _ u _ o6.ints (iu4.kept hHeld.1)).mono ?_; rintro e1 w7 ⟨rfl, b7⟩)
          refine hK.out _ _ (by first | exact ⟨below_step hHeld.1 b7 hHeld.1.size, (b7.cell (World.block_lt_of_cell? _ _ hHeld.2)).trans hHeld.2⟩) (fun hHeld2 => ?_)
          clear hK K hHeld
          have hHeld := hHeld2
          clear hHeld2
          try simp only [Act.put, List.getElem_toArray, List.getElem_cons_succ, List.getElem_cons_zero, List.setIfInBounds_toArray, List.set_cons_zero, List.set_cons_succ]
          refine wpAnyH_take (i := 18) (v := ?_) rfl (by kernel_rfl) (by kernel_rfl) (by kernel_rfl) (fun _ _ _ h => h) (Or.inl ⟨by rfl, ?_⟩) hHeld ?_
          rotate_left
          · (intro w hSw; have hS2 := hSw.2; clear hSw; go_simp; try with_reducible rfl)
          try simp only [Act.put, List.getElem_toArray, List.getElem_cons_succ, List.getElem_cons_zero, List.setIfInBounds_toArray, List.set_cons_zero, List.set_cons_succ]
          refine wpAnyH_take (i := 19) (v := ?_) rfl (by kernel_rfl) (by kernel_rfl) (by kernel_rfl) (fun _ _ _ h => h) (Or.inl ⟨by rfl, ?_⟩) hHeld ?_
          rotate_left
          · (intro w hSw; have hS2 := hSw.2; clear hSw; go_simp; try with_reducible rfl)
          try simp only [Act.put, List.getElem_toArray, List.getElem_cons_succ, List.getElem_cons_zero, List.setIfInBounds_toArray, List.set_cons_zero, List.set_cons_succ]
          refine wpAnyH_take (i := 20) (v := ?_) rfl (by kernel_rfl) (by kernel_rfl) (by kernel_rfl) (fun _ _ _ h => h) (Or.inl ⟨by rfl, ?_⟩) hHeld ?_
          rotate_left
          · (intro w hSw; have hS2 := hSw.2; clear hSw; go_simp; try with_reducible rfl)
          try simp only [Act.put, List.getElem_toArray, List.getElem_cons_succ, List.getElem_cons_zero, List.setIfInBounds_toArray, List.set_cons_zero, List.set_cons_succ]
          refine wpAnyH_take (i := 21) (v := ?_) rfl (by kernel_rfl) (by kernel_rfl) (by kernel_rfl) (fun _ _ _ h => h) (Or.inl ⟨by rfl, ?_⟩) hHeld ?_
          rotate_left
          · (intro w hSw; have hS2 := hSw.2; clear hSw; go_simp; try with_reducible rfl)
          try simp only [Act.put, List.getElem_toArray, List.getElem_cons_succ, List.getElem_cons_zero, List.setIfInBounds_toArray, List.set_cons_zero, List.set_cons_succ]
          refine wpAnyH_take (i := 22) (v := ?_) rfl (by kernel_rfl) (by kernel_rfl) (by kernel_rfl) (fun _ _ _ h => h) (Or.inl ⟨by rfl, ?_⟩) hHeld ?_
          rotate_left
          · (intro w hSw; have hS2 := hSw.2; clear hSw; go_simp; try with_reducible rfl)
          try simp only [Act.put, List.getElem_toArray, List.getElem_cons_succ, List.getElem_cons_zero, List.setIfInBounds_toArray, List.set_cons_zero, List.set_cons_succ]
          refine wpAnyH_take (i := 23) (v := ?_) rfl (by kernel_rfl) (by kernel_rfl) (by kernel_rfl) (fun _ _ _ h => h) (Or.inl ⟨by rfl, ?_⟩) hHeld ?_
          rotate_left
          · (intro w hSw; have hS2 := hSw.2; clear hSw; go_simp; try with_reducible rfl)
          try simp only [Act.put, List.getElem_toArray, List.getElem_cons_succ, List.getElem_cons_zero, List.setIfInBounds_toArray, List.set_cons_zero, List.set_cons_succ]
          refine wpAnyH_take (i := 24) (v := undef) rfl (by kernel_rfl) (by kernel_rfl) (by kernel_rfl) (fun _ _ _ h => h) (Or.inr ⟨by rfl, rfl⟩) hHeld ?_
          try simp only [Act.put, List.getElem_toArray, List.getElem_cons_succ, List.getElem_cons_zero, List.setIfInBounds_toArray, List.set_cons_zero, List.set_cons_succ]
          refine wpAnyH_take (i := 25) (v := undef) rfl (by kernel_rfl) (by kernel_rfl) (by kernel_rfl) (fun _ _ _ h => h) (Or.inr ⟨by rfl, rfl⟩) hHeld ?_
          try simp only [Act.put, List.getElem_toArray, List.getElem_cons_succ, List.getElem_cons_zero, List.setIfInBounds_toArray, List.set_cons_zero, List.set_cons_succ]
          refine wpAnyH_take (i := 26) (v := undef) rfl (by kernel_rfl) (by kernel_rfl) (by kernel_rfl) (fun _ _ _ h => h) (Or.inr ⟨by rfl, rfl⟩) hHeld ?_
          try simp only [Act.put, List.getElem_toArray, List.getElem_cons_succ, List.getElem_cons_zero, List.setIfInBounds_toArray, List.set_cons_zero, List.set_cons_succ]
          refine wpAnyH_take (i := 27) (v := undef) rfl (by kernel_rfl) (by kernel_rfl) (by kernel_rfl) (fun _ _ _ h => h) (Or.inr ⟨by rfl, rfl⟩) hHeld ?_
          try simp only [Act.put, List.getElem_toArray, List.getElem_cons_succ, List.getElem_cons_zero, List.setIfInBounds_toArray, List.set_cons_zero, List.set_cons_succ]
          refine wpAnyH_take (i := 28) (v := undef) rfl (by kernel_rfl) (by kernel_rfl) (by kernel_rfl) (fun _ _ _ h => h) (Or.inr ⟨by rfl, rfl⟩) hHeld ?_
          try simp only [Act.put, List.getElem_toArray, List.getElem_cons_succ, List.getElem_cons_zero, List.setIfInBounds_toArray, List.set_cons_zero, List.set_cons_succ]
          refine wpAnyH_take (i := 29) (v := undef) rfl (by kernel_rfl) (by kernel_rfl) (by kernel_rfl) (fun _ _ _ h => h) (Or.inr ⟨by rfl, rfl⟩) hHeld ?_
          try simp only [Act.put, List.getElem_toArray, List.getElem_cons_succ, List.getElem_cons_zero, List.setIfInBounds_toArray, List.set_cons_zero, List.set_cons_succ]
          refine wpAnyH_take (i := 30) (v := undef) rfl (by kernel_rfl) (by kernel_rfl) (by kernel_rfl) (fun _ _ _ h => h) (Or.inr ⟨by rfl, rfl⟩) hHeld ?_
          try simp only [Act.put, List.getElem_toArray, List.getElem_cons_succ, List.getElem_cons_zero, List.setIfInBounds_toArray, List.set_cons_zero, List.set_cons_succ]
          refine wpAnyH_take (i := 31) (v := undef) rfl (by kernel_rfl) (by kernel_rfl) (by kernel_rfl) (fun _ _ _ h => h) (Or.inr ⟨by rfl, rfl⟩) hHeld ?_
          try simp only [Act.put, List.getElem_toArray, List.getElem_cons_succ, List.getElem_cons_zero, List.setIfInBounds_toArray, List.set_cons_zero, List.set_cons_succ]
          refine wpAnyH_take (i := 32) (v := undef) rfl (by kernel_rfl) (by kernel_rfl) (by kernel_rfl) (fun _ _ _ h => h) (Or.inr ⟨by rfl, rfl⟩) hHeld ?_
          try simp only [Act.put, List.getElem_toArray, List.getElem_cons_succ, List.getElem_cons_zero, List.setIfInBounds_toArray, List.set_cons_zero, List.set_cons_succ]
          refine wpAnyH_take (i := 33) (v := undef) rfl (by kernel_rfl) (by kernel_rfl) (by kernel_rfl) (fun _ _ _ h => h) (Or.inr ⟨by rfl, rfl⟩) hHeld ?_
          try simp only [Act.put, List.getElem_toArray, List.getElem_cons_succ, List.getElem_cons_zero, List.setIfInBounds_toArray, List.set_cons_zero, List.set_cons_succ]
          refine wpAnyH_take (i := 34) (v := undef) rfl (by kernel_rfl) (by kernel_rfl) (by kernel_rfl) (fun _ _ _ h => h) (Or.inr ⟨by rfl, rfl⟩) hHeld ?_
          try simp only [Act.put, List.getElem_toArray, List.getElem_cons_succ, List.getElem_cons_zero, List.setIfInBounds_toArray, List.set_cons_zero, List.set_cons_succ]
          refine wpAnyH_take (i := 35) (v := ?_) rfl (by kernel_rfl) (by kernel_rfl) (by kernel_rfl) (fun _ _ _ h => h) (Or.inl ⟨by rfl, ?_⟩) hHeld ?_
          rotate_left
          · (intro w hSw; have hS2 := hSw.2; clear hSw; go_simp; try with_reducible rfl)
          try simp only [Act.put, List.getElem_toArray, List.getElem_cons_succ, List.getElem_cons_zero, List.setIfInBounds_toArray, List.set_cons_zero, List.set_cons_succ]
          refine wpAnyH_take (i := 36) (v := ?_) rfl (by kernel_rfl) (by kernel_rfl) (by kernel_rfl) (fun _ _ _ h => h) (Or.inl ⟨by rfl, ?_⟩) hHeld ?_
          rotate_left
          · (intro w hSw; have hS2 := hSw.2; clear hSw; go_simp; try with_reducible rfl)
          try simp only [Act.put, List.getElem_toArray, List.getElem_cons_succ, List.getElem_cons_zero, List.setIfInBounds_toArray, List.set_cons_zero, List.set_cons_succ]
          refine wpAnyH_done (by kernel_rfl) ?_ _
          refine NoPanic.normal ?_
          all_goals
            have FF := hHeld.1
            have CC : w7.cell? ⟨lb, 0, none⟩ = some (.slice vo m vc) := (FF.cell (World.block_lt_of_cell? _ _ hv1)).trans hv1
            have iw8 := iw4.kept FF
            have iv8 := iv1.kept FF
            clear c1 hB hmm
            generalize foundUp L word 0 = fb at HFU
            cases fb with
            | true =>
              go_wp2_with fail
              go_roundw
              case rel => exact ⟨0 + 1, by omega, by go_num, by rw [HFU.out]; rfl, FF⟩
              case measure => simp [intOf]; omega
            | false =>
              go_wp2_with fail
              refine (ints_c _ _ x word _ iv8 iw8).mono ?_
              generalize decide (x = word) = bb at HFU
              rintro e1 w9 ⟨rfl, b9⟩
              have F9 := below_step FF b9 FF.size
              go_wp2_with fail
              go_roundw
              case rel => exact ⟨0 + 1, by omega, by go_num, by rw [HFU.out]; rfl, F9⟩
              case measure => simp [intOf]; omega
        · have hzi : decide ((0 : Int) < (i : Int)) = true := by simp; omega
          have hzn : decide (0 < i) = true := by simp; omega
          obtain ⟨y, hy⟩ : ∃ y, L[i - 1]? = some y := ⟨_, List.getElem?_eq_getElem (by rw [← HQ.out]; omega)⟩
          obtain ⟨v2, hv2, iv2⟩ := HLC4.out (i - 1) y hy
          obtain ⟨v2o, v2n, v2c, rfl⟩ := iv2.shapeL
          have c2 := (hB.cell (World.block_lt_of_cell? _ _ hv2)).trans hv2
          have HLT : Hid (lexLt y x = true) := Lib.hid (by
            have h1 := List.pairwise_iff_getElem.1 HASC.out
            obtain ⟨a1, a2⟩ := List.getElem?_eq_some_iff.1 hy
            obtain ⟨b1, b2⟩ := List.getElem?_eq_some_iff.1 HX.out
            have := h1 (i - 1) i a1 b1 (by omega)
            rwa [a2, b2] at this)
          have hw1 : IntKind.i64.wrap ((i : Int) - 1) = (i : Int) - 1 := IntWalk.i64_in _ (by omega)
          have hw2 : 0 ≤ (i : Int) - 1 := by omega
          have hw3 : ((i : Int) - 1).toNat = i - 1 := by omega
          have hw4 : (i : Int) - 1 < (q : Int) := by omega
          have hw5 : (1 : Int) ≤ (i : Int) := by omega
          have hmm : ((m : Int) != (m : Int)) = false := by simp
          clear hy
          go_wp2_with fail
          go_region_held3 (fun w' => Below w4.heap.size w4 w' ∧ w'.cell? ⟨lb, i, none⟩ = some (.slice vo m vc) ∧ w'.cell? ⟨lb, i - 1, none⟩ = some (.slice v2o v2n v2c))
            (first
              | exact k2_drew hB c1 c2
              | exact k2_call b5 (by assumption) (Nat.le_refl _)
              | exact k2_call b6 (by assumption) (Nat.le_refl _)
              | exact k2_call b7 (by assumption) (Nat.le_refl _)
              | exact k2_call b8 (by assumption) (Nat.le_refl _))
            (first
              | (go_at_call 18; refine (iLength_c _ u _ (iu4.kept (held2_b (p := ⟨lb, i, none⟩) (q := ⟨lb, i - 1, none⟩) (x := .slice vo m vc) (y := .slice v2o v2n v2c) (by assumption)))).mono ?_; rw [HLEN.out]; rintro e1 w5 ⟨rfl, b5⟩)
              | (go_at_call 32; refine (iWordPerm_c (n : Int) _ x _ (iv1.kept (held2_b (p := ⟨lb, i, none⟩) (q := ⟨lb, i - 1, none⟩) (x := .slice vo m vc) (y := .slice v2o v2n v2c) (by assumption)))).mono ?_; rw [HXP.out]; rintro e1 w6 ⟨r6, rfl, o6, b6⟩)
              | (go_at_call 14; refine (ints_same _ _ u _ o6.ints (iu4.kept (held2_b (p := ⟨lb, i, none⟩) (q := ⟨lb, i - 1, none⟩) (x := .slice vo m vc) (y := .slice v2o v2n v2c) (by assumption)))).mono ?_; rintro e1 w7 ⟨rfl, b7⟩)
              | (go_at_call 38; refine (lawLess_c _ _ y x _ (iv2.kept (held2_b (p := ⟨lb, i, none⟩) (q := ⟨lb, i - 1, none⟩) (x := .slice vo m vc) (y := .slice v2o v2n v2c) (by assumption))) (iv1.kept (held2_b (p := ⟨lb, i, none⟩) (q := ⟨lb, i - 1, none⟩) (x := .slice vo m vc) (y := .slice v2o v2n v2c) (by assumption)))).mono ?_; rw [HLT.out]; rintro e1 w8 ⟨rfl, b8⟩))
          all_goals
            have FF := held2_b (p := ⟨lb, i, none⟩) (q := ⟨lb, i - 1, none⟩) (x := .slice vo m vc) (y := .slice v2o v2n v2c) (B := w4.heap.size) (w := w4) (W := w8) (by assumption)
            have CC : w8.cell? ⟨lb, i, none⟩ = some (.slice vo m vc) := (FF.cell (World.block_lt_of_cell? _ _ hv1)).trans hv1
            have iw8 := iw4.kept FF
            have iv8 := iv1.kept FF
            clear c1 hB c2 hw1 hw2 hw3 hw4 hmm hzi hzn
            generalize foundUp L word i = fb at HFU
            cases fb with
            | true =>
              go_wp2_with fail
              go_roundw
              case rel => exact ⟨i + 1, by omega, by go_num, by rw [HFU.out]; rfl, FF⟩
              case measure => simp [intOf]; omega
            | false =>
              go_wp2_with fail
              refine (ints_c _ _ x word _ iv8 iw8).mono ?_
              generalize decide (x = word) = bb at HFU
              rintro e1 w9 ⟨rfl, b9⟩
              have F9 := below_step FF b9 FF.size
              go_wp2_with fail
              go_roundw
              case rel => exact ⟨i + 1, by omega, by go_num, by rw [HFU.out]; rfl, F9⟩
              case measure => simp [intOf]; omega
      · obtain rfl : i = q := by omega
        have HE : Hid (foundUp L word i = true) := Lib.hid (by rw [foundUp, HQ.out, List.take_length]; simpa using HIN.out)
        have F5 := below_step F4 hB F4.size
        rw [HE.out]
        go_wp2_with fail
        go_ret
        exact ⟨rfl, F5⟩

end Go.Proofs.Ytfepepakellbbaa
