/-
  closed: the terms of a map in order.
-/
import Derived.Test.YtoioiippdchgmaaEntr
import Derived.Test.YtoioiippdchgmaaSortT
import Derived.Test.YtoioiippdchgmaaPushR
import Derived.Test.YtoioiippdchgmaaPoly
import Derived.Test.YtoioiippdchgmaaArr
namespace Go.Proofs.Ytoioiippdchgmaa
open Go.RowKit Go.Maps
set_option linter.unusedVariables false

theorem ArrW.ints {w : World} {g : Nat} {e : List Int} (h : ArrW w g e) (h7 : e.length = 7) : IntsV w (.slice (some ⟨g, 0, none⟩) 7 7) e := by
  refine ⟨some ⟨g, 0, none⟩, g, 0, 7, by rw [h7], by omega, by decide, fun _ => rfl, fun j hj => ?_, by omega⟩
  rw [Nat.zero_add]; exact h.cell hj
theorem tLen_all7 : ∀ {L : TermL}, All7 L → tLen L = 8 * L.length
  | [], _ => rfl
  | p :: L, h => by
    have h1 := (h p (List.mem_cons_self ..)).1
    have h2 := tLen_all7 (L := L) (fun q hq => h q (List.mem_cons_of_mem _ hq))
    simp only [tLen, List.length_cons]; omega
theorem key_one : ∀ {G : TermL}, G.Pairwise (fun a b => keyOf b.1 < keyOf a.1) → ∀ a ∈ G, ∀ b ∈ G, keyOf a.1 = keyOf b.1 → a = b
  | [], _, a, ha, _, _, _ => by cases ha
  | x :: G, h, a, ha, b, hb, e => by
    obtain ⟨h1, h2⟩ := List.pairwise_cons.1 h
    rcases List.mem_cons.1 ha with ea | ha'
    · rcases List.mem_cons.1 hb with eb | hb'
      · rw [ea, eb]
      · have := h1 b hb'; rw [ea] at e; omega
    · rcases List.mem_cons.1 hb with eb | hb'
      · have := h1 a ha'; rw [eb] at e; omega
      · exact key_one h2 a ha' b hb' e
theorem sorted_one {G T : TermL} (hG : G.Pairwise (fun a b => keyOf b.1 < keyOf a.1)) (hT : T.Pairwise (fun a b => keyOf b.1 ≤ keyOf a.1)) (hp : T.Perm G) : T = G :=
  hp.eq_of_pairwise (le := fun a b => keyOf b.1 ≤ keyOf a.1) (fun a b ha hb h1 h2 => key_one hG a (hp.mem_iff.1 ha) b hb (by omega)) hT (hG.imp (fun h => Int.le_of_lt h))
theorem Seen.done7 {F : List Int → Int} {left : Lit → Bool} {L : TermL} (h : Seen F left L) (hl : ∀ kl, left kl = false) (e : List Int) (he : E7 e) : val L e = F e := by
  by_cases hm : e ∈ L.map (·.1)
  · obtain ⟨p, hp, rfl⟩ := List.mem_map.1 hm
    rw [val_of_mem h.nodup hp, (h.keys p hp).2.1]
  · rw [val_zero_of_not_mem hm]
    by_cases h0 : F e = 0
    · exact h0.symm
    · exact absurd (h.all e he h0 (hl _)) hm
noncomputable def shutL (G : TermL) : TermL := if polyB G = true then G else []

set_option maxRecDepth 100000 in
set_option maxHeartbeats 1600000 in
theorem closed_c (b n : Nat) (D : DataW Unit) (F : List Int → Int) (G : TermL) (w : World) (hown : OwnE w b n D) (hF : HoldsF D F) (hGC : Clean G) (hG7 : All7 G) (hGv : ∀ e, E7 e → val G e = F e) (hGE : ∀ t ∈ G, t.1.length = 7 ∧ Exps t.1) (hGs : G.Pairwise (fun a b => keyOf b.1 < keyOf a.1)) :
    Calls Try.prog 28 #[.map (some b)] w (GivesTB w (shutL G) (polyB G)) := by
  obtain ⟨L0, hL0, hL7, hLs, hLv⟩ := OwnE.list hown hF
  have hperm : L0.Perm G := hL0.perm hGC (fun e => by
    by_cases he : E7 e
    · rw [hLv e he, hGv e he]
    · rw [hL7.zero e he, hG7.zero e he])
  have hsz : Maps.size D = G.length := by rw [← hLs, hperm.length_eq]
  have hbl := hown.lt
  by_cases hbig : 600 < G.length
  · have hP : polyB G = false := polyB_no (fun h => by have := h.1; omega)
    have hd : (600 : Int) < ((G.length : Nat) : Int) := by omega
    have HR := Lib.hid (show shutL G = [] by unfold shutL; rw [hP]; rfl)
    go_enter Try.func28, Try.ntmps28
    go_wp2_with (at_len; refine wpList_len_own _ rfl _ _ rfl _ _ Try.underlying50 _ b n D rfl hown ?_; rw [hsz])
    go_ret2
    rw [HR.out, hP]
    exact ⟨_, rfl, OwnP.nil _ _, Below.refl _ _⟩
  · have hd : ¬ ((600 : Int) < ((G.length : Nat) : Int)) := by omega
    have HHF := Lib.hid hF
    have HGE := Lib.hid hGE
    have HGS := Lib.hid hGs
    have HGV := Lib.hid hGv
    have HGC := Lib.hid hGC
    have HG7 := Lib.hid hG7
    have HSZ := Lib.hid hsz
    clear hF hGE hGs hGv hGC hG7 hperm hL0 hL7 hLs hLv
    have e1 : (w.alloc (Obj.cells #[] 46)).heap.size = w.heap.size + 1 := by simp
    go_enter Try.func28, Try.ntmps28
    go_wp2_with (first
      | (at_len; refine wpList_len_own _ rfl _ _ rfl _ _ Try.underlying50 _ b n D rfl hown ?_; rw [hsz])
      | (at_range; refine wpList_range_own _ rfl _ 50 rfl 59 3 Try.keyE Try.underlying50 _ b n _ rfl (hown.alloc _) ?_; intro w0 hrg0 hg0 hs0)
      | go_in)
    rw [e1] at hrg0 hs0
    have hO0 : RowX (w.heap.size + 1) w.heap.size w0 (.slice (some ⟨w.heap.size, 0, none⟩) 0 0) [] [] := by
      obtain ⟨rs, hr⟩ := OwnP.lit w
      have h1 := hr.len
      obtain rfl : rs = [] := List.eq_nil_of_length_eq_zero (by simpa using h1)
      have : RowX (w.heap.size + 1) w.heap.size (w.alloc (Obj.cells #[] 46)) (.slice (some ⟨w.heap.size, 0, none⟩) 0 0) [] [] := ⟨hr, by simp [Value.ownBlock], fun j u hu => by simp at hu⟩
      exact this.grown (hg0.but _)
    have hB0 : Below w.heap.size w w0 := ((Below.refl w.heap.size w).alloc (Nat.le_refl _) (Obj.cells #[] 46)).grown hg0 (by simp) (fun j hj => by cases hj)
    go_loopw [4, 6] (fun tv _ wr => ∃ (left : Lit → Bool) (cnt : Nat) (L : TermL), wr.ranges Try.prog 59 (plainElem Try.prog 3) b (w.heap.size + 1) n D left cnt ∧ Seen F left L ∧ L.length + cnt ≤ Maps.size D ∧ (∃ rs, RowX (w.heap.size + 1) w.heap.size wr tv rs L) ∧ Below w.heap.size w wr)
      (fun _ _ wr => wr.rangeLeft b (w.heap.size + 1))
    case atStart => exact ⟨_, _, [], hrg0, Seen.start HHF.out, by simp, ⟨_, hO0⟩, hB0⟩
    case round =>
      obtain ⟨left, cnt, L, hrg, hseen, hcs, ⟨rs, hO⟩, hnx⟩ := hrel
      clear hrg0 hg0 hs0 hO0 hB0
      go_wp2_with (first
        | (at_next; refine wpList_next_ranges _ rfl _ rfl 59 Try.keyE _ arrV (Value.int .i64) Try.invE Try.invI b (w.heap.size + 1) n _ _ _ rfl hrg ?_ ?_)
        | go_in)
      · intro hc0 hl0
        have hperm : L.Perm G := hseen.clean.perm HGC.out (fun e => by
          by_cases he : E7 e
          · rw [hseen.done7 hl0 e he, HGV.out e he]
          · rw [hseen.all7.zero e he, HG7.out.zero e he])
        have hLE : ∀ t ∈ L, t.1.length = 7 ∧ Exps t.1 := fun t ht => HGE.out t (hperm.mem_iff.1 ht)
        have hrow := hO.row
        have hBn := hnx.size
        go_wp2_with fail
        refine (sortTerms_c w.heap.size _ _ rs L _ hrow hBn hLE).mono ?_
        rintro e w5 ⟨rfl, ts', hAt, hps, hpw, b5⟩
        obtain rfl := sorted_one HGS.out hpw (hps.trans hperm)
        go_wp2_with fail
        refine (iPolyOk_c _ _ _ hAt.terms).mono ?_
        rintro e w6 ⟨rfl, b6⟩
        have hat6 : OwnP w.heap.size w6 _ ts' := OwnP.kept (show OwnP w.heap.size w5 _ ts' from hAt) b6
        have hb6 := (hnx.trans b5).trans (b6.mono (Nat.le_trans hBn b5.size))
        cases hP : polyB ts' with
        | false =>
          have HR := Lib.hid (show shutL ts' = [] by unfold shutL; rw [hP]; rfl)
          go_wp2_with fail
          go_ret2
          rw [HR.out]
          refine ⟨.slice none 0 0, ?_, OwnP.nil _ _, hb6⟩
          first | rfl | simp [Array.getD, hP]
        | true =>
          have HR := Lib.hid (show shutL ts' = ts' by unfold shutL; rw [hP]; rfl)
          go_wp2_with fail
          go_ret2
          rw [HR.out]
          refine ⟨_, ?_, hat6, hb6⟩
          first | rfl | simp [Array.getD, hP]
      · intro x c kl y yp w1 cnt1 hkl hlk hRc hat hrg1 hlt hgr hsz1 hen
        obtain ⟨hx7, rfl, hat'⟩ := Try.entryE hkl hRc hat
        obtain ⟨hxc, hc0, hxn, hseen1⟩ := hseen.step HHF.out hx7 hlk hat'
        have HAI := Lib.hid (arr_info hx7)
        have HA1 := Lib.hid (arr_one x)
        have HS7 := Lib.hid (show 7 = (arrC x).toArray.size by simp [arrC, hx7.1])
        have hA := ArrW.made w1 x
        have hAint := hA.ints hx7.1
        have hw1s := hgr.size
        have hrl := hrg.lt
        have hX2 := (hO.grown hgr).kept ((Below.refl _ _).alloc (Nat.le_refl _) (Obj.cells (arrC x).toArray 59))
        have hWs : (w1.alloc (.cells (arrC x).toArray 59)).heap.size = w1.heap.size + 1 := by simp
        have HWB := Lib.hid (show w.heap.size ≤ (w1.alloc (.cells (arrC x).toArray 59)).heap.size by omega)
        have HWR := Lib.hid (show w.heap.size + 1 < (w1.alloc (.cells (arrC x).toArray 59)).heap.size by omega)
        have HTL := Lib.hid (show tLen (L ++ [(x, c)]) ≤ 1099511627776 by
          rw [tLen_all7 (All7.snoc hseen.all7 hx7), List.length_append, List.length_singleton]
          have := HSZ.out
          omega)
        have hrg2 := hrg1.kept (World.grownBy_alloc w1 (.cells (arrC x).toArray 59) none) (by simp) (by simp)
        have hnx2 := (hnx.grown hgr hnx.size (fun j hj => by cases hj; exact Nat.le_succ _)).alloc (by omega) (.cells (arrC x).toArray 59)
        clear hat hat' hRc hkl hsz1 hO hWs
        go_wp2_with (first
          | (at_builtin; refine wpList_pushX w3 rfl _ _ rfl hX2 b3 o3 HWB.out HWR.out rfl rfl rfl HTL.out ?_; intro v4 w4 hX4 hb4 hg4)
          | (refine wpList_store_new rfl 59 _ _ rfl _ (arrC x).toArray rfl rfl HAI.out HS7.out HA1.out ?_)
          | (go_at_call 49; refine (cloneI_c _ _ _ hAint).mono ?_; rintro e1 w3 ⟨r, rfl, o3, b3⟩; obtain ⟨ro, rn, rc, rfl⟩ := o3.ints.shape)
          | go_in)
        have g3 : (w1.alloc (.cells (arrC x).toArray 59)).grownBy w3 none := ⟨b3.os, b3.tape, b3.output, b3.size, fun i hi _ => b3.block i hi⟩
        have hrg4 := (hrg2.kept g3 (by simp) (by simp)).kept hg4 (fun e => by have := (hX2.row.row.block b e.symm).1; omega) (fun e => hX2.vr e.symm)
        go_roundw
        case rel => exact ⟨_, cnt1, L ++ [(x, c)], hrg4, hseen1, by rw [List.length_append, List.length_singleton]; omega, ⟨_, hX4⟩, (below_step hnx2 b3 hnx2.size).trans hb4⟩
        case measure => rw [hrg4.left_eq, hrg.left_eq]; exact hlt

end Go.Proofs.Ytoioiippdchgmaa
