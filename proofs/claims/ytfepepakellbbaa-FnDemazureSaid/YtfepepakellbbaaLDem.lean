/-
  The law: products with swaps that make longer.
-/
import Derived.Test.YtfepepakellbbaaLRed
namespace Go.Proofs.Ytfepepakellbbaa
open Go.RowKit
set_option linter.unusedVariables false

/-! Plain. -/
theorem run_append (all : Bool) (u a b : List Int) : runL all u (a ++ b) = runL all (runL all u a) b := by simp [runL, List.foldl_append]
theorem dem_red {n : Nat} : ∀ (m : Nat) {w : List Int}, PermN n w → lenOf w = (m : Int) → ∀ word ∈ redR n m w, runL false (idL n) word = w
  | 0, w, h, hm, word, hw => by
    simp [redR] at hw
    subst hw
    rw [len_zero h (by simpa using hm)]; rfl
  | m + 1, w, h, hm, word, hw => by
    simp only [redR, List.mem_flatMap, List.mem_map, mem_rdesc] at hw
    obtain ⟨k, ⟨hk, hd⟩, word', hw', rfl⟩ := hw
    have hs := swap_perm h (i := k) (j := k + 1) (by omega) hk
    have hl := len_swap_down (l := w) (k := k) (by rw [h.2]; exact hk) hd
    have ih := dem_red m hs (by omega) word' hw'
    rw [run_append, ih]
    have a1 := pv_swap_l h (i := k) (j := k + 1) (by omega) hk (by omega)
    have a2 := pv_swap_r h (i := k) (j := k + 1) (by omega) hk
    have hup : (swapL w k (k + 1)).getD k 0 < (swapL w k (k + 1)).getD (k + 1) 0 := by
      rw [hs.eq (i := k) (by omega), hs.eq (i := k + 1) hk, a1, a2, ← h.eq (i := k) (by omega), ← h.eq hk]; exact hd
    show stepL false (swapL w k (k + 1)) ((k : Int)).toNat = w
    rw [Int.toNat_natCast, stepL_up hup, swapL_swapL (by rw [h.2]; omega) (by rw [h.2]; exact hk) (by omega)]
theorem red_dem {n : Nat} {w word : List Int} (h : PermN n w) (hr : IsRed n w word) : runL false (idL n) word = w := by
  have h0 := lenOf_nonneg w
  obtain ⟨m, hm⟩ : ∃ m : Nat, lenOf w = (m : Int) := ⟨(lenOf w).toNat, by omega⟩
  exact dem_red m h hm word ((mem_redR m h hm word).2 hr)
theorem dem_len {n : Nat} : ∀ (word u : List Int), PermN n u → Letters n word → lenOf (runL false u word) ≤ lenOf u + (word.length : Int) ∧ (lenOf (runL false u word) = lenOf u + (word.length : Int) → runL true u word = runL false u word)
  | [], u, hu, _ => ⟨by simp [runL], fun _ => rfl⟩
  | k :: word, u, hu, h => by
    obtain ⟨hk, hw⟩ := letters_cons.1 h
    obtain ⟨t, rfl⟩ : ∃ t : Nat, k = (t : Int) := ⟨k.toNat, by omega⟩
    have e : ∀ all, runL all u ((t : Int) :: word) = runL all (stepL all u t) word := fun all => by simp [runL]
    rw [e, e, List.length_cons]
    by_cases hup : u.getD t 0 < u.getD (t + 1) 0
    · rw [stepL_up (all := false) hup, stepL_all]
      have hs := swap_perm hu (i := t) (j := t + 1) (by omega) (by omega)
      obtain ⟨h1, h2⟩ := dem_len word _ hs hw
      have hl := len_swap_up u t (by rw [hu.2]; omega) hup
      exact ⟨by omega, fun he => h2 (by omega)⟩
    · rw [stepL_not hup]
      obtain ⟨h1, h2⟩ := dem_len word u hu hw
      exact ⟨by omega, fun he => by omega⟩
theorem play_dem {n : Nat} (h1 : 1 ≤ n) (h7 : n ≤ 7) {word : List Int} (h : Letters n word) (hl : word.length ≤ 60) : playL false (n : Int) word = runL false (idL n) word := by
  rw [playL, if_pos (letters_word h1 h7 h hl), Int.toNat_natCast, playUp_all]
theorem short_iff {n : Nat} (h1 : 1 ≤ n) (h7 : n ≤ 7) {more : List Int} (h : Letters n more) (hl : more.length ≤ 60) :
    (lengthL (playL true (n : Int) more) = (more.length : Int) ↔ lengthL (playL false (n : Int) more) = (more.length : Int)) ∧
      (lengthL (playL true (n : Int) more) = (more.length : Int) → playL false (n : Int) more = playL true (n : Int) more) := by
  have hi := id_perm (n := n) h1 h7
  have p1 := run_perm true more _ hi h
  have p2 := run_perm false more _ hi h
  rw [play_prod h1 h7 h hl, play_dem h1 h7 h hl]
  rw [lengthL, if_pos (show isPermB (prodW n more) = true from p1.1), lengthL, if_pos p2.1]
  have key : lenOf (prodW n more) = (more.length : Int) → runL false (idL n) more = prodW n more := fun e => red_dem p1 ⟨h, rfl, e⟩
  obtain ⟨d1, d2⟩ := dem_len more _ hi h
  rw [len_id, Int.zero_add] at d1 d2
  refine ⟨⟨fun e => by rw [key e]; exact e, fun e => ?_⟩, key⟩
  have := d2 e
  unfold prodW
  rw [this]; exact e

/-- 'append(out, src...)' whose guard says yes. -/
theorem wpList_extendW {ops : Array Oper} {rest : List Oper} {o : Oper} {a : Act} {Q : Exit → Act → World → Prop} (w : World) (hw : Region.wanted o (yielded ops a.tmps) = true) (s x : Operand)
    (ho : o.op = .call { callee := .builtin .append, args := #[s, x], argTypes := #[24, 24] })
    {B : Nat} {v u : Value} {l m : List Int} (hown : OwnI B w v l) (hsrc : IntsV w u m) (hs : a.eval s = v) (hx : a.eval x = u)
    (hlen : l.length + m.length ≤ 1099511627776) (hB : B ≤ w.heap.size)
    (h : ∀ v' w', OwnI B w' v' (l ++ m) → Below B w w' → wpList Try.prog ops Q rest (a.put o.dst v') w') :
    wpList Try.prog ops Q (o :: rest) a w := by
  obtain ⟨i0, hi, hz0, hz1, hz2⟩ := info_parts Try.infoI
  obtain ⟨ao, b, off, c, rfl, h1, h2, h3, h4, h5⟩ := hsrc
  refine BigFrame.wpList_want hw fun K hK => ?_
  by_cases hc : c = 0
  · have hm : m = [] := List.eq_nil_of_length_eq_zero (by omega)
    subst hm
    subst hc
    cases ao with
    | none =>
      have hrun := run_append_owned_none (P := Try.prog) (w := w) B 24 o.type 3 i0 1 Try.underlying24 hi v l.length (l.map (Value.int .i64)) hown.1
      unfold Oper.wp
      simp [execOp, ho, resolve, invoke, builtin, hs, hx, hrun, Result.andThen]
      exact hK _ _ (h v w (by simpa using hown) (Below.refl _ _))
    | some ad =>
      refine wp_append_own w s x 24 ho B 3 i0 (.int .i64 0) 1 8 Try.underlying24 hi hz0 hz1 hz2 rfl (by decide) v l.length (l.map (Value.int .i64)) hs hown.1
        ad 0 0 [] hx rfl (fun j u hj => by simp at hj) (fun u hu => by simp at hu) (by have := hown.2; unfold maxLen; omega) (by have := hown.2; omega) hB ?_
      intro v' w' hown' hgrow hnil
      refine hK _ _ (h v' w' ⟨?_, by simpa using hown.2⟩ ((Below.refl _ _).grown hgrow hB (fun k hk => (hown.block k hk).1)))
      simpa using hown'
  · obtain rfl := h3 (by omega)
    refine wp_append_own w s x 24 ho B 3 i0 (.int .i64 0) 1 8 Try.underlying24 hi hz0 hz1 hz2 rfl (by decide) v l.length (l.map (Value.int .i64)) hs hown.1
      ⟨b, off, none⟩ m.length c (m.map (Value.int .i64)) hx (by simp) ?_ (ints_oneCell _ _) (by unfold maxLen; omega) (by omega) hB ?_
    · intro j u hj
      have hj' : j < m.length := by
        have := (List.getElem?_eq_some_iff.1 hj).1
        simpa using this
      rw [Addr.add_lit, h4 j hj']
      rw [List.getElem?_map, List.getElem?_eq_getElem hj'] at hj
      simp only [Option.map_some, Option.some.injEq] at hj
      rw [← hj, List.getD_eq_getElem?_getD, List.getElem?_eq_getElem hj']; rfl
    · intro v' w' hown' hgrow hnil
      refine hK _ _ (h v' w' ⟨?_, by simpa using hlen⟩ ((Below.refl _ _).grown hgrow hB (fun k hk => (hown.block k hk).1)))
      rw [List.length_append, List.map_append]
      exact hown'

set_option maxHeartbeats 800000 in
theorem reversed_c (v : Value) (l : List Int) (w : World) (hv : IntsV w v l) :
    Calls Try.prog 39 #[v] w (GivesI w l.reverse) := by
  obtain ⟨n, ao, b, off, c, rfl, HL, hnc, hcm, ha, hc, hn⟩ := hv.open
  have hB0 : Below w.heap.size w (w.alloc (.cells #[] 3)) := (Below.refl _ _).alloc (Nat.le_refl _) _
  have hO0 : OwnI w.heap.size (w.alloc (.cells #[] 3)) (.slice (some ⟨w.heap.size, 0, none⟩) 0 0) (l.drop n).reverse := by
    rw [HL.out, List.drop_length]; exact OwnI.lit w
  have HC := Lib.hid hc
  clear hcm hc
  go_enter Try.func39, Try.ntmps39
  go_wp2
  go_loopw [3, 4] (fun ov iv wr => ∃ (j : Nat) (i : Int), j ≤ n ∧ iv = .int .i64 i ∧ i = (j : Int) - 1 ∧ OwnI w.heap.size wr ov (l.drop j).reverse ∧ Below w.heap.size w wr) (fun _ iv _ => (intOf iv + 1).toNat)
  case atStart => exact ⟨n, _, Nat.le_refl _, rfl, rfl, hO0, hB0⟩
  case round =>
    obtain ⟨j, i, hj, rfl, hi, hO, hB⟩ := hrel
    clear hO0 hB0
    have HI := Lib.hid hi
    by_cases hz : 0 < j
    · obtain ⟨t, rfl⟩ : ∃ t, j = t + 1 := ⟨j - 1, by omega⟩
      obtain rfl : i = (t : Int) := by omega
      obtain rfl := ha (by omega)
      obtain ⟨x, hx⟩ : ∃ x, x = l.getD t 0 := ⟨_, rfl⟩
      have hcx : wr.cell? ⟨b, off + t, none⟩ = some (.int .i64 x) := by rw [hx, hB.cell (World.block_lt_of_cell? _ _ (HC.out t (by omega)))]; exact HC.out t (by omega)
      have HD : Hid ((l.drop t).reverse = (l.drop (t + 1)).reverse ++ [x]) := Lib.hid (by
        rw [List.drop_eq_getElem_cons (by rw [← HL.out]; omega), List.reverse_cons, hx, List.getD_eq_getElem?_getD, List.getElem?_eq_getElem (by rw [← HL.out]; omega)]; rfl)
      have hlen : (l.drop (t + 1)).reverse.length + 1 ≤ 1099511627776 := by rw [List.length_reverse, List.length_drop, ← HL.out]; omega
      have ht0 : (0 : Int) ≤ (t : Int) := Int.natCast_nonneg _
      have ht1 : (t : Int) < (n : Int) := by omega
      have hsz := hB.size
      have HLN := Lib.hid hlen
      clear hx hi hlen
      go_wp2_with (at_builtin; refine wpList_push wr rfl _ _ rfl hO rfl rfl HLN.out hsz ?_)
      intro v' w3 hO' hb1 _ _
      have hB' := hB.trans hb1
      rw [← HD.out] at hO'
      clear hO hB hb1
      go_wp2
      go_roundw
      case rel => exact ⟨t, (t : Int) - 1, by omega, by go_num, rfl, hO', hB'⟩
      case measure => simp [intOf]
    · obtain rfl : j = 0 := by omega
      have hi2 : i = -1 := by simpa using hi
      subst hi2
      clear hi
      go_wp2
      go_ret
      exact ⟨_, rfl, hO, hB⟩

theorem lit_ext {w W : World} (h : Below w.heap.size w W) : OwnI W.heap.size (W.alloc (.cells #[] 3)) (.slice (some ⟨W.heap.size, 0, none⟩) 0 0) [] ∧ Below W.heap.size W (W.alloc (.cells #[] 3)) :=
  ⟨OwnI.lit W, (Below.refl _ _).alloc (Nat.le_refl _) _⟩

set_option maxRecDepth 100000 in
set_option maxHeartbeats 3200000 in
theorem demazure_w (ao : Option Addr) (len c : Nat) (w : World) (hb : BytesR w ao len c) (hl : len ≤ 9223372036854775807) :
    Calls Try.prog 9 #[.slice ao len c] w fun e w' => e = .returned (.bool true) ∧ Below w.heap.size w w' := by
  by_cases hbig : 1048576 < len
  · have hd : decide (1048576 < len) = true := decide_eq_true hbig
    go_enter Try.func9, Try.ntmps9
    go_wp2_with fail
    refine (big_c ao len c _ hl).mono ?_
    rw [hd]
    rintro e w1 ⟨rfl, rfl⟩
    go_wp2_with fail
    go_ret
    exact ⟨rfl, Below.refl _ _⟩
  · have hd : decide (1048576 < len) = false := decide_eq_false hbig
    go_enter Try.func9, Try.ntmps9
    go_wp2_with fail
    refine (big_c ao len c _ hl).mono ?_
    rw [hd]
    rintro e w1 ⟨rfl, rfl⟩
    go_wp2_with fail
    refine (drawWord_c ao len c _ hb (by omega)).mono ?_
    rintro e w2 ⟨r1, r2, r3, n, u, word, more, rfl, hn2, hn5, hu, hway, hwl, hlet, hml, iu2, iw2, im2, F2⟩
    obtain ⟨uo, un, uc, rfl⟩ := iu2.shapeL
    obtain rfl : n = un := (iu2.lenEq.trans hu.2).symm
    obtain ⟨wo, wn, wc, rfl⟩ := iw2.shapeL
    obtain ⟨mo, mn, mc, rfl⟩ := im2.shapeL
    have hmn : mn = more.length := im2.lenEq
    have hwL : Letters n word := hway.2
    have hx0 := play_dem (n := n) (by omega) (by omega) hlet (by omega)
    have hxp : PermN n (playL false (n : Int) more) := by rw [hx0]; exact run_perm false more _ (id_perm (by omega) (by omega)) hlet
    obtain ⟨x, hx⟩ : ∃ x, playL false (n : Int) more = x := ⟨_, rfl⟩
    obtain ⟨y, hy⟩ : ∃ y, playL true (n : Int) more = y := ⟨_, rfl⟩
    have hsh := short_iff (n := n) (by omega) (by omega) hlet (by omega : more.length ≤ 60)
    rw [hx, hy, ← hmn] at hsh
    rw [hx] at hxp
    obtain ⟨m, hm⟩ : ∃ m : Nat, lenOf x = (m : Int) := ⟨(lenOf x).toNat, by have := lenOf_nonneg x; omega⟩
    have hm21 : m ≤ 21 := by have := len_le hxp; omega
    have hfew : redN n x ≤ 800 := redN_few hn5 (22 - m) hxp (by omega)
    have HWL : Hid (wordsL x = redL n m x ∧ wordsB' x = true) := Lib.hid ⟨by rw [wordsL, if_pos ⟨hxp.1, by rw [hxp.2]; exact hfew⟩, hxp.2, hm]; rfl, by rw [wordsB', hxp.1, hxp.2]; simpa using hfew⟩
    have hpos := redL_pos m hxp hm
    obtain ⟨l0, hl0⟩ : ∃ l0, (redL n m x)[0]? = some l0 := ⟨_, List.getElem?_eq_getElem hpos⟩
    have hr0 := (mem_redL m hxp hm l0).1 (List.mem_of_getElem? hl0)
    have hl0m : l0.length = m := by have := hr0.len; omega
    have HBOTH : Hid (playL false (n : Int) (more ++ word) = playL false (n : Int) (l0 ++ word)) := Lib.hid (by
      have la : ∀ a b : List Int, Letters n a → Letters n b → Letters n (a ++ b) := fun a b ha hb k hk => by
        rcases List.mem_append.1 hk with h | h
        · exact ha k h
        · exact hb k h
      rw [play_dem (by omega) (by omega) (la _ _ hlet hwL) (by simp; omega), play_dem (by omega) (by omega) (la _ _ hr0.letters hwL) (by simp; omega), run_append, run_append, red_dem hxp hr0, ← hx0, hx])
    have hmlen : more.length ≤ 8 := hml
    have HX := Lib.hid hx
    have HY := Lib.hid hy
    have HL0 := Lib.hid hl0
    have HL0M : Hid (l0.length ≤ 21) := Lib.hid (by omega)
    have HPOS := Lib.hid hpos
    have HWN : Hid (word.length ≤ 10) := Lib.hid hwl
    have HMN := Lib.hid hmn
    obtain ⟨a, ha⟩ : ∃ a, lengthL y = a := ⟨_, rfl⟩
    obtain ⟨b, hb2⟩ : ∃ b, lengthL x = b := ⟨_, rfl⟩
    rw [ha, hb2] at hsh
    have HSH := Lib.hid hsh
    have HA := Lib.hid ha
    have HB2 := Lib.hid hb2
    have hmn8 : mn ≤ 8 := by rw [hmn]; exact hml
    clear hway hwl hlet hml iu2 hm hfew hb hd hu hx0 hxp hpos hl0 hr0 hl0m hx hy hsh ha hb2 hmn hwL hmlen hm21
    go_wp2_with fail
    refine (iDemazure_c (n : Int) _ more _ im2).mono ?_
    rw [HX.out]
    rintro e w3 ⟨rx, rfl, ox, b3⟩
    have F3 := below_step F2 b3 F2.size
    have iw3 := iw2.kept b3
    have im3 := im2.kept b3
    have ix3 := ox.ints
    obtain ⟨xo, xn, xc, rfl⟩ := ix3.shapeL
    clear iw2 im2 F2 b3 ox
    go_wp2_with fail
    refine (iReduced_c _ x _ ix3).mono ?_
    rw [HWL.out.1, HWL.out.2]
    rintro e w4 ⟨rl, rfl, h4, b4⟩
    have F4 := below_step F3 b4 F3.size
    have iw4 := iw3.kept b4
    have im4 := im3.kept b4
    have ix4 := ix3.kept b4
    obtain ⟨q, lo, lb, lc, rfl, HQ, hqc, hla, hlcs, hlq⟩ := h4.rows.open
    have hq0 : 0 < q := by rw [HQ.out]; exact HPOS.out
    obtain rfl := hla hq0
    obtain ⟨v0, hv0, iv0⟩ := hlcs 0 l0 HL0.out
    obtain ⟨v0o, v0n, v0c, rfl⟩ := iv0.shapeL
    have hqi : (0 : Int) < (q : Int) := by omega
    have hqne : ((q : Int) == 0) = false := by simp; omega
    clear h4 hlcs iw3 im3 ix3 F3 b4
    obtain ⟨O5, B5⟩ := lit_ext (Below.refl w4.heap.size w4)
    have im5 := im4.kept B5
    have iw5 := iw4.kept B5
    have hl5 : ([] : List Int).length + more.length ≤ 1099511627776 := by have := HMN.out; simp; omega
    go_wp2_with (at_builtin; refine wpList_extend _ rfl _ _ rfl O5 im5 rfl rfl hl5 B5.size ?_)
    intro v6 w6 O6 b6 _
    have B6 := B5.trans b6
    have iw6 := iw4.kept B6
    have hl6 : (([] : List Int) ++ more).length + word.length ≤ 1099511627776 := by have := HMN.out; have := HWN.out; simp; omega
    have h64 : w4.heap.size ≤ w6.heap.size := B6.size
    clear O5 B5 im5 iw5 hl5 b6
    go_wp2_with (at_builtin; refine wpList_extend _ rfl _ _ rfl O6 iw6 rfl rfl hl6 h64 ?_)
    intro v7 w7 O7 b7 _
    have B7 := B6.trans b7
    have O7' : OwnI w4.heap.size w7 v7 (more ++ word) := by simpa using O7
    have A7 : Below w7.heap.size w7 (w7.alloc (.cells #[] 3)) := (Below.refl _ _).alloc (Nat.le_refl _) _
    have C7 := B7.trans (A7.mono B7.size)
    have c0 := (C7.cell (World.block_lt_of_cell? _ _ hv0)).trans hv0
    have i0 := iv0.kept C7
    have L7 : OwnI w7.heap.size (w7.alloc (.cells #[] 3)) (.slice (some ⟨w7.heap.size, 0, none⟩) 0 0) [] := OwnI.lit w7
    have hl7 : ([] : List Int).length + l0.length ≤ 1099511627776 := by have := HL0M.out; simp; omega
    clear O6 iw6 hl6 h64 B6 b7 O7 hv0 iv0
    go_wp2_with (at_builtin; refine wpList_extend _ rfl _ _ rfl L7 i0 rfl rfl hl7 A7.size ?_)
    intro v8 w8 O8 b8 _
    have D8 := A7.trans b8
    have B8 := B7.trans (D8.mono B7.size)
    have iw8 := iw4.kept B8
    have hl8 : (([] : List Int) ++ l0).length + word.length ≤ 1099511627776 := by have := HL0M.out; have := HWN.out; simp; omega
    have h87 : w7.heap.size ≤ w8.heap.size := D8.size
    clear L7 hl7 i0 c0 C7 A7 b8
    go_wp2_with (at_builtin; refine wpList_extend _ rfl _ _ rfl O8 iw8 rfl rfl hl8 h87 ?_)
    intro v9 w9 O9 b9 _
    have D9 := D8.trans b9
    have B9 := B7.trans (D9.mono B7.size)
    have O9' : OwnI w7.heap.size w9 v9 (l0 ++ word) := by simpa using O9
    have F9 := below_step F4 B9 F4.size
    have iw9 := iw4.kept B9
    have im9 := im4.kept B9
    have ix9 := ix4.kept B9
    have i79 := O7'.ints.kept D9
    have i99 := O9'.ints
    clear O8 iw8 hl8 h87 D8 b9 O9 O9' O7' D9 B9 B8 B7 iw4 im4 ix4 F4
    go_wp2_with fail
    refine (iDemazure_c (n : Int) _ (more ++ word) _ i79).mono ?_
    generalize playL false (n : Int) (more ++ word) = D at HBOTH
    rintro e w10 ⟨r10, rfl, o10, b10⟩
    have F10 := below_step F9 b10 F9.size
    have iw10 := iw9.kept b10
    have im10 := im9.kept b10
    have ix10 := ix9.kept b10
    have i910 := i99.kept b10
    have j10 := o10.ints
    clear b10 iw9 im9 ix9 i99 i79 o10 F9
    go_wp2_with fail
    refine (iDemazure_c (n : Int) _ (l0 ++ word) _ i910).mono ?_
    rw [← HBOTH.out]
    rintro e w11 ⟨r11, rfl, o11, b11⟩
    have F11 := below_step F10 b11 F10.size
    have iw11 := iw10.kept b11
    have im11 := im10.kept b11
    have ix11 := ix10.kept b11
    have j11 := j10.kept b11
    have k11 := o11.ints
    clear b11 iw10 im10 ix10 i910 j10 o11 F10
    go_wp2_with fail
    refine (ints_same _ _ D _ j11 k11).mono ?_
    rintro e w12 ⟨rfl, b12⟩
    have F12 := below_step F11 b12 F11.size
    have iw12 := iw11.kept b12
    have im12 := im11.kept b12
    have ix12 := ix11.kept b12
    clear b12 iw11 im11 ix11 j11 k11 F11
    obtain ⟨R, hR⟩ : ∃ R, playL false (n : Int) (word ++ word.reverse) = R := ⟨_, rfl⟩
    have HDR := Lib.hid hR
    clear hR
    have L12 : OwnI w12.heap.size (w12.alloc (.cells #[] 3)) (.slice (some ⟨w12.heap.size, 0, none⟩) 0 0) [] := OwnI.lit w12
    have A12 : Below w12.heap.size w12 (w12.alloc (.cells #[] 3)) := (Below.refl _ _).alloc (Nat.le_refl _) _
    have iwA12 := iw12.kept A12
    have hl12 : ([] : List Int).length + word.length ≤ 1099511627776 := by have := HWN.out; simp; omega
    go_wp2_with (at_builtin; refine wpList_extendW _ (by rfl) _ _ rfl L12 iwA12 rfl rfl hl12 A12.size ?_)
    intro v13 w13 O13 b13
    have D13 := A12.trans b13
    have iw13 := iw12.kept D13
    have O13' : OwnI w12.heap.size w13 v13 word := by simpa using O13
    have h13 : w12.heap.size ≤ w13.heap.size := D13.size
    clear L12 A12 iwA12 hl12 O13 b13
    go_wp2_with fail
    refine (reversed_c _ word _ iw13).mono ?_
    rintro e w14 ⟨r14, rfl, o14, b14⟩
    have D14 := D13.trans (b14.mono h13)
    have O14 := O13'.kept b14
    have h14 : w12.heap.size ≤ w14.heap.size := D14.size
    have jr14 := o14.ints
    have hl14 : word.length + word.reverse.length ≤ 1099511627776 := by have := HWN.out; rw [List.length_reverse]; omega
    clear O13' h13 b14 iw13 o14 D13
    go_wp2_with (at_builtin; refine wpList_extendW _ (by rfl) _ _ rfl O14 jr14 rfl rfl hl14 h14 ?_)
    intro v15 w15 O15 b15
    have D15 := D14.trans b15
    have F15 := below_step F12 D15 F12.size
    have iw15 := iw12.kept D15
    have im15 := im12.kept D15
    have ix15 := ix12.kept D15
    have jc15 := O15.ints
    clear O14 jr14 hl14 h14 b15 D14 D15 O15 F12 iw12 im12 ix12
    go_wp2_with fail
    refine (iDemazure_c (n : Int) _ (word ++ word.reverse) _ jc15).mono ?_
    rw [HDR.out]
    rintro e w16 ⟨r16, rfl, o16, b16⟩
    have F16 := below_step F15 b16 F15.size
    have iw16 := iw15.kept b16
    have im16 := im15.kept b16
    have ix16 := ix15.kept b16
    have jd16 := o16.ints
    clear b16 iw15 im15 ix15 jc15 o16 F15
    have L16 : OwnI w16.heap.size (w16.alloc (.cells #[] 3)) (.slice (some ⟨w16.heap.size, 0, none⟩) 0 0) [] := OwnI.lit w16
    have A16 : Below w16.heap.size w16 (w16.alloc (.cells #[] 3)) := (Below.refl _ _).alloc (Nat.le_refl _) _
    have iwA16 := iw16.kept A16
    have hl16 : ([] : List Int).length + word.length ≤ 1099511627776 := by have := HWN.out; simp; omega
    go_wp2_with (at_builtin; refine wpList_extendW _ (by rfl) _ _ rfl L16 iwA16 rfl rfl hl16 A16.size ?_)
    intro v17 w17 O17 b17
    have D17 := A16.trans b17
    have iw17 := iw16.kept D17
    have O17' : OwnI w16.heap.size w17 v17 word := by simpa using O17
    have h17 : w16.heap.size ≤ w17.heap.size := D17.size
    clear L16 A16 iwA16 hl16 O17 b17
    go_wp2_with fail
    refine (reversed_c _ word _ iw17).mono ?_
    rintro e w18 ⟨r18, rfl, o18, b18⟩
    have D18 := D17.trans (b18.mono h17)
    have O18 := O17'.kept b18
    have h18 : w16.heap.size ≤ w18.heap.size := D18.size
    have jr18 := o18.ints
    have hl18 : word.length + word.reverse.length ≤ 1099511627776 := by have := HWN.out; rw [List.length_reverse]; omega
    clear O17' h17 b18 iw17 o18 D17
    go_wp2_with (at_builtin; refine wpList_extendW _ (by rfl) _ _ rfl O18 jr18 rfl rfl hl18 h18 ?_)
    intro v19 w19 O19 b19
    have D19 := D18.trans b19
    have F19 := below_step F16 D19 F16.size
    have iw19 := iw16.kept D19
    have im19 := im16.kept D19
    have ix19 := ix16.kept D19
    have jd19 := jd16.kept D19
    have jc19 := O19.ints
    clear O18 jr18 hl18 h18 b19 D18 D19 O19 F16 iw16 im16 ix16 jd16
    go_wp2_with fail
    refine (iDemazure_c (n : Int) _ (word ++ word.reverse) _ jc19).mono ?_
    rw [HDR.out]
    rintro e w20 ⟨r20, rfl, o20, b20⟩
    have F20 := below_step F19 b20 F19.size
    have iw20 := iw19.kept b20
    have im20 := im19.kept b20
    have ix20 := ix19.kept b20
    have jd20 := jd19.kept b20
    have je20 := o20.ints
    clear b20 iw19 im19 ix19 jc19 o20 F19 jd19
    go_wp2_with fail
    refine (ints_same _ _ R _ jd20 je20).mono ?_
    rintro e w21 ⟨rfl, b21⟩
    have F21 := below_step F20 b21 F20.size
    have im21 := im20.kept b21
    have ix21 := ix20.kept b21
    clear b21 iw20 im20 ix20 jd20 je20 F20
    by_cases hs : a = (mn : Int)
    · have hb : b = (mn : Int) := HSH.out.1.1 hs
      have HXY : Hid (x = y) := Lib.hid (HSH.out.2 hs)
      subst hs
      subst hb
      have htt : ((mn : Int) == (mn : Int)) = true := by simp
      go_wp2_with fail
      refine (iWordPerm_c (n : Int) _ more _ im21).mono ?_
      rw [HY.out]
      rintro e w22 ⟨ry, rfl, oy, b22⟩
      have F22 := below_step F21 b22 F21.size
      have im22 := im21.kept b22
      have ix22 := ix21.kept b22
      clear b22 im21 ix21 F21
      go_wp2_with fail
      refine (iLength_c _ y _ oy.ints).mono ?_
      rw [HA.out]
      rintro e w23 ⟨rfl, b23⟩
      have F23 := below_step F22 b23 F22.size
      have im23 := im22.kept b23
      have ix23 := ix22.kept b23
      clear b23 im22 ix22 F22 oy
      go_wp2_with fail
      refine (iLength_c _ x _ ix23).mono ?_
      rw [HB2.out]
      rintro e w24 ⟨rfl, b24⟩
      have F24 := below_step F23 b24 F23.size
      have im24 := im23.kept b24
      have ix24 := ix23.kept b24
      clear b24 im23 ix23 F23
      go_wp2_with fail
      refine (iWordPerm_c (n : Int) _ more _ im24).mono ?_
      rw [HY.out]
      rintro e w25 ⟨rz, rfl, oz, b25⟩
      have F25 := below_step F24 b25 F24.size
      have ix25 := ix24.kept b25
      rw [HXY.out] at ix25
      clear b25 im24 ix24 F24
      go_wp2_with fail
      refine (ints_same _ _ y _ ix25 oz.ints).mono ?_
      rintro e w26 ⟨rfl, b26⟩
      have F26 := below_step F25 b26 F25.size
      clear b26 ix25 oz F25
      go_wp2_with fail
      go_ret
      exact ⟨rfl, F26⟩
    · have hb : ¬ b = (mn : Int) := fun e => hs (HSH.out.1.2 e)
      have ha1 : (a == (mn : Int)) = false := by simpa using hs
      have hb1 : (b == (mn : Int)) = false := by simpa using hb
      clear hs hb
      go_wp2_with fail
      refine (iWordPerm_c (n : Int) _ more _ im21).mono ?_
      rw [HY.out]
      rintro e w22 ⟨ry, rfl, oy, b22⟩
      have F22 := below_step F21 b22 F21.size
      have ix22 := ix21.kept b22
      clear b22 im21 ix21 F21
      go_wp2_with fail
      refine (iLength_c _ y _ oy.ints).mono ?_
      rw [HA.out]
      rintro e w23 ⟨rfl, b23⟩
      have F23 := below_step F22 b23 F22.size
      have ix23 := ix22.kept b23
      clear b23 ix22 F22 oy
      go_wp2_with fail
      refine (iLength_c _ x _ ix23).mono ?_
      rw [HB2.out]
      rintro e w24 ⟨rfl, b24⟩
      have F24 := below_step F23 b24 F23.size
      clear b24 ix23 F23
      go_wp2_with fail
      go_ret
      exact ⟨rfl, F24⟩

end Go.Proofs.Ytfepepakellbbaa
