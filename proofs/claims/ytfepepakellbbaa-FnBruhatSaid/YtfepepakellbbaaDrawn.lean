/-
  Contracts: what the laws draw: reduced words, two permutations.
-/
import Derived.Test.YtfepepakellbbaaFive
import Derived.Test.YtfepepakellbbaaExt
namespace Go.Proofs.Ytfepepakellbbaa
open Go.RowKit
set_option linter.unusedVariables false

/-- A way up to w, letter by letter. -/
def WayTo (n : Nat) (v : List Int) (word : List Int) (w : List Int) : Prop := Up v word w ∧ (∀ k ∈ word, 0 ≤ k ∧ k + 2 ≤ (n : Int))

def sliceLen : Value → Nat
  | .slice _ n _ => n
  | _ => 0
theorem own_shape {B : Nat} {w : World} {v : Value} {l : List Int} (h : OwnI B w v l) : ∃ ao c, v = .slice ao l.length c ∧ l.length ≤ c := by
  rcases h.1.2 with ⟨rfl, h0⟩ | ⟨g, cap, cur, rfl, hb, hg, hnc, _⟩
  · exact ⟨none, 0, by rw [h0], by omega⟩
  · exact ⟨_, cap, rfl, hnc⟩
theorem own_one (w : World) (k : Int) : OwnI w.heap.size (w.alloc (Obj.cells #[.int .i64 k] 3)) (.slice (some ⟨w.heap.size, 0, none⟩) 1 1) [k] :=
  ⟨by simpa using World.ownsRow_lit (base := w.heap.size) (e := 3) (size := 1) w #[.int .i64 k] 1 (Nat.le_refl _) (by decide) rfl, by simp⟩

set_option maxHeartbeats 800000 in
theorem dReduced_c (B g n : Nat) (v : Value) (x : List Int) (w : World) (hc : Cur B w g) (h1 : 1 ≤ n) (h5 : n ≤ 5) (hv : OwnI B w v x) (hx : PermN n x) :
    Calls Try.prog 44 #[.pointer (some ⟨g, 0, none⟩), v] w (GivesDrawn B w g (fun word => WayTo n (idL n) word x ∧ word.length ≤ 10)) := by
  have hsz := hc.size
  have hlt := hc.lt
  have hgw : g < w.heap.size := Nat.lt_of_lt_of_le hlt hsz
  have B1 := (Below.refl w.heap.size w).alloc (Nat.le_refl _) (Obj.cells #[] 3)
  have hc1 := hc.kept (B1.mono hsz)
  have hO1 : OwnI w.heap.size (w.alloc (Obj.cells #[] 3)) (.slice (some ⟨w.heap.size, 0, none⟩) 0 0) [] := OwnI.lit w
  have G1 : Only g (g + 1) w (w.alloc (Obj.cells #[] 3)) := below_only B1
  have HR := Lib.hid (fun y (hy : PermN n y) => red_facts h1 h5 hy)
  have hl10 := (HR.out x hx).hi
  clear hc
  go_enter Try.func44, Try.ntmps44
  go_wp2_with fail
  refine (l1Ints_c _ _ _ (hv.ints.kept B1)).mono ?_
  rintro e w1 ⟨r, rfl, o, b⟩
  have hO2 := hO1.kept b
  have hV2 := o.mono B1.size
  have hc2 := hc1.kept (b.mono hc1.size)
  have G2 := G1.trans (below_only b)
  clear hO1 hc1 G1 b o B1
  go_wp2_with fail
  go_loopw [5, 6] (fun ov vv wr => ∃ (y word : List Int) (m : Nat), Hid (lenOf y = (m : Int)) ∧ PermN n y ∧ Hid (WayTo n y word x) ∧ word.length + m ≤ 10 ∧ OwnI w.heap.size wr vv y ∧ OwnI w.heap.size wr ov word ∧ Cur B wr g ∧ Only g (g + 1) w wr) (fun ov _ _ => 10 - sliceLen ov)
  case atStart =>
    have h0 := (HR.out x hx).lo
    exact ⟨x, [], (lenOf x).toNat, Lib.hid (by omega), hx, Lib.hid ⟨Up.nil x, fun k hk => by simp at hk⟩, by simp; omega, hV2, hO2, hc2, G2⟩
  case round =>
    obtain ⟨y, word, m, HM, hy, HW, hwm, hV, hO, hcr, hG⟩ := hrel
    clear hO2 hV2 hc2 G2
    have HY := Lib.hid (HR.out y hy)
    have hsr := hG.size
    obtain ⟨m', hm'⟩ : ∃ m', m' = lenOf y := ⟨_, rfl⟩
    have HM' := Lib.hid hm'
    have hlc := l1Length_c _ _ wr hV.ints (by rw [hy.2]; omega)
    rw [← hm'] at hlc
    have hmm : m' = (m : Int) := by rw [hm', HM.out]
    subst hmm
    have HLC := Lib.hid hlc
    clear hm' hlc
    by_cases hm0 : m = 0
    · subst hm0
      go_wp2_with fail
      refine HLC.out.mono ?_
      rintro e w2 ⟨rfl, b2⟩
      have hO3 := hO.kept b2
      have hc3 := hcr.kept (b2.mono hcr.size)
      have G3 := hG.trans (below_only b2)
      have HI : Hid (y = idL n) := Lib.hid (HY.out.id (by rw [HM.out]; decide))
      go_wp2_with fail
      go_ret
      exact ⟨_, _, rfl, ⟨HI.out ▸ HW.out, by omega⟩, hO3, hc3, G3⟩
    · have hmp : (0 : Int) < (m : Int) := by omega
      obtain ⟨ds, hds⟩ : ∃ ds, ds = descUp y (n - 1) := ⟨_, rfl⟩
      have hdd : descL y = ds := by unfold descL; rw [if_pos hy.1, hy.2, hds]
      have hdne : ds ≠ [] := by rw [hds]; exact HY.out.some (by rw [HM.out]; exact hmp)
      have hdl : ds.length ≤ 7 := by rw [hds]; have := descUp_len y (n - 1); omega
      have hdp : 0 < ds.length := List.length_pos_iff.2 hdne
      have HDS := Lib.hid hds
      have HDD := Lib.hid hdd
      clear hds hdd hdne
      go_wp2_with fail
      refine HLC.out.mono ?_
      rintro e w2 ⟨rfl, b2⟩
      have hO3 := hO.kept b2
      have hV3 := hV.kept b2
      have hc3 := hcr.kept (b2.mono hcr.size)
      have G3 := hG.trans (below_only b2)
      clear hO hV hcr hG
      go_wp2_with fail
      refine (sDesc_c _ _ _ hV3.ints).mono ?_
      rw [HDD.out]
      rintro e w3 ⟨rd, rfl, od, b3⟩
      have hO4 := hO3.kept b3
      have hV4 := hV3.kept b3
      have hc4 := hc3.kept (b3.mono hc3.size)
      have G4 := G3.trans (below_only b3)
      have hD4 := od.mono G3.size
      clear hO3 hV3 hc3 G3 od
      obtain ⟨dn, dao, db, doff, dc, rfl, HDL, hdc, hdm, hda, hdcell, _⟩ := hD4.ints.open
      have hdn : dn = ds.length := HDL.out
      obtain rfl := hda (by omega)
      go_wp2_with fail
      refine (l1Below_c B g _ _ hc4 (by omega) (by omega)).mono ?_
      rintro e w4 ⟨t, rfl, ht, hc5, o4⟩
      obtain ⟨j, rfl⟩ : ∃ j : Nat, t = (j : Int) := ⟨t.toNat, by omega⟩
      have hO5 := hO4.turned hgw o4
      have hV5 := hV4.turned hgw o4
      have hD5 := hD4.turned hgw o4
      have G5 := G4.trans o4
      have hjd : j < ds.length := by omega
      obtain ⟨k0, hk0⟩ : ∃ k0, k0 = ds.getD j 0 := ⟨_, rfl⟩
      have hkm : k0 ∈ ds := List.mem_of_getElem? (getElem?_of_getD hk0 hjd)
      rw [HDS.out] at hkm
      obtain ⟨s1, s2, s3, s4, s5, s6⟩ := HY.out.step k0 hkm
      obtain ⟨k, rfl⟩ : ∃ k : Nat, k0 = (k : Int) := ⟨k0.toNat, by omega⟩
      rw [Int.toNat_natCast] at s3 s4 s5 s6
      have hkc : w4.cell? ⟨db, doff + j, none⟩ = some (.int .i64 (k : Int)) := by
        obtain ⟨n2, ao2, b2', off2, c2, he, HL2, _, _, ha2, hcell2, _⟩ := hD5.ints.open
        simp only [Value.slice.injEq] at he
        obtain ⟨e1, rfl, e3⟩ := he
        have := ha2 (by omega)
        rw [← e1] at this
        simp only [Option.some.injEq, Addr.mk.injEq, and_true] at this
        obtain ⟨rfl, rfl⟩ := this
        rw [hcell2 j (by omega), hk0]
      have hk2 : k + 2 ≤ n := by omega
      have hylen := hy.2
      have hj0 : (0 : Int) ≤ (j : Int) := Int.natCast_nonneg _
      have hj1 : (j : Int) < (dn : Int) := by omega
      have HS3 : Hid (PermN n (swapL y k (k + 1)) ∧ lenOf (swapL y k (k + 1)) + 1 = lenOf y) := Lib.hid ⟨s3, s4⟩
      have HW' : Hid (WayTo n (swapL y k (k + 1)) ((k : Int) :: word) x) := Lib.hid (by
        refine ⟨Up.cons s6 (by rw [s5]; exact HW.out.1), fun z hz => ?_⟩
        rcases List.mem_cons.1 hz with h | h
        · subst h; omega
        · exact HW.out.2 z h)
      clear hO4 hV4 hD4 G4 hc4 hk0 hkm s1 s2 s3 s4 s5 s6 hdcell hda hD5
      have hw1 : IntKind.i64.wrap ((k : Int) + 1) = (k : Int) + 1 := IntWalk.i64_in _ (by omega)
      have hsw := l1Swap_c _ _ k (k + 1) w4 hV5.ints (by omega) (by omega)
      rw [show ((k + 1 : Nat) : Int) = (k : Int) + 1 by omega] at hsw
      have HSW := Lib.hid hsw
      clear hsw
      go_wp2_with fail
      refine HSW.out.mono ?_
      rintro e w5 ⟨rs, rfl, os, b5⟩
      have hO6 := hO5.kept b5
      have hc6 := hc5.kept (b5.mono hc5.size)
      have G6 := G5.trans (below_only b5)
      have hV6 := os.mono G5.size
      have A6 := (Below.refl w5.heap.size w5).alloc (Nat.le_refl _) (Obj.cells #[.int .i64 (k : Int)] 3)
      have hN6 := own_one w5 (k : Int)
      have hO7 := hO6.kept A6
      have hlenW : ([(k : Int)] : List Int).length + word.length ≤ 1099511627776 := by simp; omega
      have hsz7 := A6.size
      clear hO5 hc5 G5 hV5 os hO6 HSW
      go_wp2_with (at_builtin; refine wpList_extend _ rfl _ _ rfl hN6 hO7.ints rfl rfl hlenW hsz7 ?_)
      intro v8 w8 hO8 hb8 _
      have A8 := A6.trans hb8
      have hV8 := hV6.kept A8
      have hc8 := hc6.kept (A8.mono hc6.size)
      have G8 := G6.trans (below_only A8)
      have hO9 := hO8.mono G6.size
      obtain ⟨ao8, c8, rfl, hc8c⟩ := own_shape hO9
      obtain ⟨ao7, c7, hov, _⟩ := own_shape hO7
      subst hov
      have HM8 : Hid (lenOf (swapL y k (k + 1)) = ((m - 1 : Nat) : Int)) := Lib.hid (by have h1 := HS3.out.2; have h2 := HM.out; omega)
      have hwl : ([(k : Int)] ++ word : List Int).length = word.length + 1 := by simp
      clear hV6 hc6 G6 hO7 hN6 hO8 hb8 A8 A6
      go_wp2
      go_roundw
      case rel => exact ⟨_, _, m - 1, HM8, HS3.out.1, HW', by rw [show ((k : Int) :: word).length = word.length + 1 from rfl]; omega, hV8, hO9, hc8, G8⟩
      case measure => simp [sliceLen] <;> omega

theorem swap_perm {n : Nat} {l : List Int} {i j : Nat} (h : PermN n l) (hi : i < n) (hj : j < n) : PermN n (swapL l i j) := by
  obtain ⟨a1, a2, a3, a4⟩ := isPermB_iff.1 h.1
  have hl := h.2
  have hp : (swapL l i j).Perm l := by
    have e1 : l.getD j 0 = l[j]'(by omega) := by rw [List.getD_eq_getElem?_getD, List.getElem?_eq_getElem (by omega)]; rfl
    have e2 : l.getD i 0 = l[i]'(by omega) := by rw [List.getD_eq_getElem?_getD, List.getElem?_eq_getElem (by omega)]; rfl
    unfold swapL
    rw [e1, e2]
    exact List.set_set_perm (by omega) (by omega)
  refine ⟨isPermB_iff.2 ⟨by rw [swapL_len]; exact a1, by rw [swapL_len]; exact a2, fun x hx => by rw [swapL_len]; exact a3 x (hp.mem_iff.1 hx), hp.nodup_iff.2 a4⟩, by rw [swapL_len]; exact hl⟩
theorem id_perm {n : Nat} (h1 : 1 ≤ n) (h7 : n ≤ 7) : PermN n (idL n) := by
  refine ⟨isPermB_iff.2 ⟨by rw [idL_len]; exact h1, by rw [idL_len]; exact h7, fun x hx => ?_, idL_nodup n⟩, idL_len n⟩
  simp [idL] at hx
  obtain ⟨a, ha, rfl⟩ := hx
  rw [idL_len]; omega
def Letters (n : Nat) (word : List Int) : Prop := ∀ k ∈ word, 0 ≤ k ∧ k + 2 ≤ (n : Int)
theorem play_perm {n : Nat} (h1 : 1 ≤ n) (h7 : n ≤ 7) (all : Bool) {word : List Int} (h : Letters n word) : ∀ j, j ≤ word.length → PermN n (playUp all word n j)
  | 0, _ => id_perm h1 h7
  | j + 1, hj => by
    have ih := play_perm h1 h7 all h j (by omega)
    have hk := h (word.getD j 0) (List.mem_of_getElem? (getElem?_of_getD rfl (by omega)))
    unfold playUp
    split
    · exact swap_perm ih (by omega) (by omega)
    · exact ih
theorem letters_word {n : Nat} (h1 : 1 ≤ n) (h7 : n ≤ 7) {word : List Int} (h : Letters n word) (hl : word.length ≤ 60) : wordB (n : Int) word = true := by
  unfold wordB inWord
  rw [inB_mk (by omega) (by omega), decide_eq_true hl]
  simp only [Bool.true_and, decide_eq_true_eq]
  intro k hk
  have := h k hk
  omega

def GivesTwo (w : World) (e : Ending) (w' : World) : Prop :=
  ∃ r1 r2 n u v, e = .returned (.tuple #[r1, r2]) ∧ 1 ≤ n ∧ n ≤ 5 ∧ PermN n u ∧ PermN n v ∧ IntsV w' r1 u ∧ IntsV w' r2 v ∧ Below w.heap.size w w'

set_option maxHeartbeats 1600000 in
theorem drawTwo_c (ao : Option Addr) (n c : Nat) (w : World) (hb : BytesR w ao n c) (hn : n ≤ 1048576) :
    Calls Try.prog 11 #[.slice ao n c] w (GivesTwo w) := by
  go_enter Try.func11, Try.ntmps11
  go_wp2_with fail
  refine (l1New_c ao n c w hb hn).mono ?_
  rintro e w1 ⟨g, rfl, hc1, b1, hg⟩
  have hs1 := hc1.size
  go_wp2_with fail
  refine (l1Below_c (g + 1) g 5 _ hc1 (by decide) (by decide)).mono ?_
  rintro e w2 ⟨x, rfl, hx, hc2, o2⟩
  have F2 := b1.trans (o2.below hg b1.size)
  obtain ⟨N, hN⟩ : ∃ N : Nat, (1 : Int) + x = (N : Int) := ⟨(1 + x).toNat, by omega⟩
  have hN1 : 1 ≤ N := by omega
  have hN5 : N ≤ 5 := by omega
  have hw1 : IntKind.i64.wrap (1 + x) = (N : Int) := by rw [IntWalk.i64_in _ (by omega)]; exact hN
  have hw2 : wrap64 (1 + x) = (N : Int) := by rw [IntWalk.wrap64_in _ (by omega)]; exact hN
  go_wp2_with fail
  refine (dPerm_c (g + 1) g N _ hc2 hN1 (by omega)).mono ?_
  rintro e w3 ⟨ru, u, rfl, hu, oU, hc3, o3⟩
  have F3 := F2.trans (o3.below hg F2.size)
  have hU3 := oU.mono hc2.size
  clear oU hw1 hw2 hN hx
  go_wp2_with fail
  refine (l1Once_c (g + 1) g 3 _ hc3 (by decide) (by decide)).mono ?_
  rintro e w4 ⟨bb, rfl, hc4, o4⟩
  have F4 := F3.trans (o4.below hg F3.size)
  have hU4 := hU3.turned (Nat.lt_succ_self g) o4
  clear hc1 hc2 hc3 hU3
  cases bb with
  | false =>
    go_wp2_with fail
    refine (dPerm_c (g + 1) g N _ hc4 hN1 (by omega)).mono ?_
    rintro e w5 ⟨rv, v, rfl, hv, oV, hc5, o5⟩
    have F5 := F4.trans (o5.below hg F4.size)
    have hU5 := hU4.turned (Nat.lt_succ_self g) o5
    go_wp2_with fail
    go_ret2
    exact ⟨_, _, N, u, v, rfl, hN1, hN5, hu, hv, hU5.ints, oV.ints, F5⟩
  | true =>
    go_wp2_with fail
    refine (dReduced_c (g + 1) g N _ u _ hc4 hN1 hN5 hU4 hu).mono ?_
    rintro e w5 ⟨rw', word, rfl, ⟨hway, hwl⟩, oW, hc5, o5⟩
    have F5 := F4.trans (o5.below hg F4.size)
    have hU5 := hU4.turned (Nat.lt_succ_self g) o5
    have hW5 := oW.mono hc4.size
    have HWAY := Lib.hid hway.2
    clear oW hc4 hU4 hway
    obtain ⟨wn, wao, wb, woff, wc, rfl, HWL, hwc, hwm, hwa, hwcell, _⟩ := hW5.ints.open
    have hwn : wn ≤ 10 := by rw [HWL.out]; exact hwl
    have B5 := (Below.refl w5.heap.size w5).alloc (Nat.le_refl _) (Obj.cells #[] 3)
    have hO6 : OwnI w5.heap.size (w5.alloc (Obj.cells #[] 3)) (.slice (some ⟨w5.heap.size, 0, none⟩) 0 0) [] := OwnI.lit w5
    have hc6 := hc5.kept (B5.mono hc5.size)
    have G6 : Only g (g + 1) w5 (w5.alloc (Obj.cells #[] 3)) := below_only B5
    have hgw5 : g < w5.heap.size := Nat.lt_of_lt_of_le hc5.lt hc5.size
    have hs5 := hc5.size
    clear hwcell hwm hc5 B5
    go_wp2_with fail
    go_loopw [8, 9] (fun pv iv wr => ∃ (i : Nat) (part : List Int), i ≤ wn ∧ iv = .int .i64 i ∧ part.length ≤ i ∧ Hid (Letters N part) ∧ OwnI w5.heap.size wr pv part ∧ Cur (g + 1) wr g ∧ Only g (g + 1) w5 wr) (fun _ iv _ => wn - (intOf iv).toNat)
    case atStart => exact ⟨0, [], Nat.zero_le _, rfl, Nat.le_refl _, Lib.hid (fun k hk => by simp at hk), hO6, hc6, G6⟩
    case round =>
      obtain ⟨i, part, hi, rfl, hpl, HP, hO, hcr, hG⟩ := hrel
      clear hO6 hc6 G6
      by_cases hin : i < wn
      · obtain rfl := hwa (by omega)
        have hii : (i : Int) < (wn : Int) := by omega
        have hi0 : (0 : Int) ≤ (i : Int) := Int.natCast_nonneg _
        go_wp2_with fail
        refine (l1Once_c (g + 1) g 3 _ hcr (by decide) (by decide)).mono ?_
        rintro e w6 ⟨bb, rfl, hc7, o7⟩
        have hO7 := hO.turned hgw5 o7
        have G7 := hG.trans o7
        clear hO hcr hG
        cases bb with
        | true =>
          go_wp2_with fail
          go_roundw
          case rel => exact ⟨i + 1, part, by omega, by go_num, by omega, HP, hO7, hc7, G7⟩
          case measure => simp [intOf] <;> omega
        | false =>
          have hW7 := hW5.turned (Nat.lt_succ_self g) G7
          obtain ⟨k, hk⟩ : ∃ k, k = word.getD i 0 := ⟨_, rfl⟩
          have hkw : word[i]? = some k := getElem?_of_getD hk (by rw [← HWL.out]; exact hin)
          have hkc : w6.cell? ⟨wb, woff + i, none⟩ = some (.int .i64 k) := by
            obtain ⟨n2, ao2, b2', off2, c2, he, HL2, _, _, ha2, hcell2, _⟩ := hW7.ints.open
            simp only [Value.slice.injEq] at he
            obtain ⟨e1, rfl, e3⟩ := he
            have := ha2 (by omega)
            rw [← e1] at this
            simp only [Option.some.injEq, Addr.mk.injEq, and_true] at this
            obtain ⟨rfl, rfl⟩ := this
            rw [hcell2 i (by omega), hk]
          have HP' : Hid (Letters N (part ++ [k])) := Lib.hid (fun z hz => by
            rcases List.mem_append.1 hz with h | h
            · exact HP.out z h
            · simp at h; subst h; exact HWAY.out z (List.mem_of_getElem? hkw))
          have hlen : part.length + 1 ≤ 1099511627776 := by omega
          have hsz7 := G7.size
          clear hk hkw hW7
          go_wp2_with (at_builtin; refine wpList_push w6 rfl _ _ rfl hO7 rfl rfl hlen hsz7 ?_)
          intro v' w8 hO8 hb8 _ _
          have hc8 := hc7.kept (hb8.mono hs5)
          have G8 := G7.then hb8
          clear hO7 hc7 G7 hlen
          go_wp2
          go_roundw
          case rel => exact ⟨i + 1, _, by omega, by go_num, by simp; omega, HP', hO8, hc8, G8⟩
          case measure => simp [intOf] <;> omega
      · obtain rfl : i = wn := by omega
        have hii : ¬ (i : Int) < (i : Int) := by omega
        go_wp2_with fail
        refine (l1Once_c (g + 1) g 2 _ hcr (by decide) (by decide)).mono ?_
        rintro e w6 ⟨bb, rfl, hc7, o7⟩
        have hO7 := hO.turned hgw5 o7
        have G7 := hG.trans o7
        have hU7 := hU5.turned (Nat.lt_succ_self g) G7
        have F7 := F5.trans (G7.below hg F5.size)
        have hpp := play_perm hN1 (by omega) bb HP.out part.length (Nat.le_refl _)
        have HPP := Lib.hid hpp
        clear hpp
        go_wp2_with fail
        refine (l1Play_c bb N _ part _ hO7.ints (letters_word hN1 (by omega) HP.out (by omega))).mono ?_
        rintro e w9 ⟨rp, rfl, oP, b9⟩
        have hU9 := hU7.kept b9
        have F9 := below_step F7 b9 F7.size
        go_wp2_with fail
        go_ret2
        exact ⟨_, _, N, _, u, rfl, hN1, hN5, HPP.out, hu, oP.ints, hU9.ints, F9⟩

end Go.Proofs.Ytfepepakellbbaa
