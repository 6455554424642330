/-
  SwapVariables of the program.
-/
import Derived.Test.YtoioiippdchgmaaLinkP
import Derived.Test.YtoioiippdchgmaaVar
import Derived.Test.YtoioiippdchgmaaClosed
namespace Go.Proofs.Ytoioiippdchgmaa
open Go.RowKit Go.Maps
set_option linter.unusedVariables false

noncomputable def swapL (ts : TermL) (i : Int) : TermL := if polyB ts = true ∧ varB i = true then shutL (gathT (swapT i.toNat ts)) else []
theorem swapT_snoc (i : Nat) (L : TermL) (x : List Int) (c : Int) : swapT i (L ++ [(x, c)]) = swapT i L ++ [(swapE i x, c)] := by simp [swapT]
theorem swap_bnd {i : Nat} {L : TermL} (hc : Crow L) (hL : L.length ≤ 600) (e : List Int) : -600000000 ≤ val (swapT i L) e ∧ val (swapT i L) e ≤ 600000000 := by
  have hv := val_bnd (l := swapT i L) (B := 1000000) (by decide) (fun q hq => by
    obtain ⟨t, ht, rfl⟩ := List.mem_map.1 hq
    exact hc t ht) e
  have : (swapT i L).length = L.length := by simp [swapT]
  omega

set_option maxRecDepth 100000 in
set_option maxHeartbeats 3200000 in
theorem iSwap_c (v : Value) (ts : TermL) (i : Int) (w : World) (hv : TermsV w v ts) :
    Calls Try.prog 17 #[v, .int .i64 i] w (GivesT w (swapL ts i)) := by
  cases hP : polyB ts with
  | false =>
    have HR := Lib.hid (show swapL ts i = [] by unfold swapL; rw [if_neg (by rw [hP]; simp)])
    go_enter Try.func17, Try.ntmps17
    go_wp2_with fail
    refine (iPolyOk_c _ _ _ hv).mono ?_
    rw [hP]
    rintro e w1 ⟨rfl, b1⟩
    go_wp2_with fail
    go_ret
    rw [HR.out]
    exact ⟨_, rfl, OwnP.nil _ _, b1⟩
  | true =>
    cases hI : varB i with
    | false =>
      have HR := Lib.hid (show swapL ts i = [] by unfold swapL; rw [if_neg (by rw [hI]; simp)])
      go_enter Try.func17, Try.ntmps17
      go_wp2_with fail
      refine (iPolyOk_c _ _ _ hv).mono ?_
      rw [hP]
      rintro e w1 ⟨rfl, b1⟩
      go_wp2_with fail
      refine (isVar_c _ _).mono ?_
      rw [hI]
      rintro e w2 ⟨rfl, rfl⟩
      go_wp2_with fail
      go_ret
      rw [HR.out]
      exact ⟨_, rfl, OwnP.nil _ _, b1⟩
    | true =>
      obtain ⟨k, rfl, hk⟩ : ∃ k : Nat, i = (k : Int) ∧ k ≤ 5 := by
        have := of_decide_eq_true (show decide (0 ≤ i ∧ i ≤ 5) = true from hI)
        exact ⟨i.toNat, by omega, by omega⟩
      have HR := Lib.hid (show swapL ts (k : Int) = shutL (gathT (swapT k ts)) by unfold swapL; rw [if_pos ⟨hP, hI⟩]; rfl)
      have HG := Lib.hid (polyB_good hP)
      have HGT := Lib.hid (swapT_good (polyB_good hP) hk)
      have HSC := Lib.hid (polyB_clean hP)
      have HSB := Lib.hid (polyB_val hP)
      have HGS := Lib.hid (fun e (he : val ts e ≠ 0) => Classical.byContradiction (fun hn => he (val_bad (polyB_good hP) (e := e) hn)))
      have hmm := @run_makeMap Try.prog
      have HPP := Lib.hid hP
      have HII := Lib.hid hI
      clear hP hI
      go_enter Try.func17, Try.ntmps17
      go_wp2_with fail
      refine (iPolyOk_c _ _ _ hv).mono ?_
      rw [HPP.out]
      rintro e w1 ⟨rfl, b1⟩
      go_wp2_with fail
      refine (isVar_c _ _).mono ?_
      rw [HII.out]
      rintro e w2 ⟨rfl, rfl⟩
      have hv1 := (hv.kept b1).kept ((Below.refl w1.heap.size w1).alloc (Nat.le_refl _) (.map #[] 0))
      have e1 : (w1.alloc (.map #[] 0)).heap.size = w1.heap.size + 1 := by simp
      have hb0 := b1.alloc b1.size (.map #[] 0)
      have hwl := b1.size
      go_wp2_with fail
      refine (openM_c _ _ _ hv1 HPP.out).mono ?_
      rintro e w3 ⟨Df, nf, rfl, hf, hnf, hF, b3⟩
      have hout3 : OwnE w3 w1.heap.size 0 (.map []) := OwnE.below (World.ownsMap_made _ _ _ _) b3 (by simp)
      have hb3 := below_step hb0 b3 hb0.size
      rw [e1] at hf b3 ⊢
      have hbf := hf.lt
      have HHF := Lib.hid hF
      clear hF b3 hv1 hb0
      go_wp2_with (first
        | (at_range; refine wpList_range_own _ rfl _ 50 rfl 59 3 Try.keyE Try.underlying50 _ (w1.heap.size + 1) nf _ rfl hf ?_; intro w0 hrg0 hg0 hs0)
        | go_in)
      go_frame
      have hbw0 := hb3.grown hg0 hb3.size (fun j hj => by cases hj)
      have hout0 := hout3.kept hg0 (by simp)
      go_loopw [7] (fun _ wr => ∃ (left : Lit → Bool) (cnt : Nat) (L : TermL) (D : DataW Unit) (n : Nat), wr.ranges Try.prog 59 (plainElem Try.prog 3) (w1.heap.size + 1) w3.heap.size nf Df left cnt ∧ Seen (val ts) left L ∧ L.length + cnt ≤ nf ∧
          OwnE wr w1.heap.size n D ∧ n ≤ L.length ∧ HoldsF D (val (swapT k L)) ∧ Below w.heap.size w wr)
        (fun _ wr => wr.rangeLeft (w1.heap.size + 1) w3.heap.size)
      case atStart =>
        exact ⟨_, _, [], .map [], 0, hrg0, Seen.start HHF.out, by simpa using hf.size_le, hout0, Nat.zero_le _, HoldsF.empty, hbw0⟩
      case round =>
        obtain ⟨left, cnt, L, D, n, hrg, hseen, hcs, hout, hnl, hD, hnx⟩ := hrel
        clear hrg0 hg0 hs0 hbw0 hout0 hout3 hb3
        obtain ⟨w4, rfl⟩ : ∃ w4, w4 = wr := ⟨_, rfl⟩
        go_wp2_with (first
          | (at_next; refine wpList_next_ranges _ rfl _ rfl 59 Try.keyE _ arrV (Value.int .i64) Try.invE Try.invI (w1.heap.size + 1) w3.heap.size nf _ _ _ rfl hrg ?_ ?_)
          | go_in)
        · intro hc0 hl0
          have hvS : ∀ e, val L e = val ts e := fun e => hseen.done hl0 (fun e he => HG.out.all7.zero e he) e
          have hperm : L.Perm ts := hseen.clean.perm HSC.out hvS
          have hGv : ∀ e, E7 e → val (gathT (swapT k ts)) e = val (swapT k L) e := fun e he => by
            rw [gathT_val HGT.out]
            exact (val_perm (hperm.map _) e).symm
          go_wp2_with fail
          refine (closed_c w1.heap.size n D (val (swapT k L)) (gathT (swapT k ts)) _ hout hD (gathT_clean HGT.out) (gathT_good HGT.out).all7 hGv (gathT_good HGT.out) (gathT_sorted HGT.out)).mono ?_
          rintro e w5 ⟨r, rfl, o5, b5⟩
          go_wp2_with fail
          go_ret
          rw [HR.out]
          exact ⟨_, rfl, o5.mono hnx.size, below_step hnx b5 hnx.size⟩
        · intro x c kl y yp w5 cnt1 hkl hlk hRc hat hrg1 hlt hgr hsz hen
          obtain ⟨hx7, rfl, hat'⟩ := Try.entryE hkl hRc hat
          obtain ⟨hxc, hc0, hxn, hseen1⟩ := hseen.step HHF.out hx7 hlk hat'
          have hgx := HGS.out x (by rw [hxc]; exact hc0)
          have hcb : -1000000 ≤ c ∧ c ≤ 1000000 := by rw [← hxc]; exact HSB.out x
          have HAI := Lib.hid (arr_info hx7)
          have HA1 := Lib.hid (arr_one x)
          have HA7 := Lib.hid (show 7 = (arrC x).toArray.size by simp [arrC, hx7.1])
          have hwl2 := hnx.size
          have hlt4 := hrg.lt
          have hw5s := hgr.size
          have hout1 := (hout.kept hgr (by simp; omega)).alloc (.cells (arrC x).toArray 59)
          have hrg2 := hrg1.kept (World.grownBy_alloc w5 (.cells (arrC x).toArray 59) none) (by simp) (by simp)
          have hnx1 := (hnx.grown hgr hnx.size (fun j hj => by cases hj; omega)).alloc (by omega) (.cells (arrC x).toArray 59)
          have hA := ArrW.made w5 x
          have hsb := swap_bnd (i := k) (hseen.crow HSB.out) (by omega)
          have HVB := Lib.hid hsb
          have c1 := hA.cell (i := k) (by rw [hgx.1]; omega)
          have c2 := hA.cell (i := k + 1) (by rw [hgx.1]; omega)
          have f1 := hA.free k
          have f2 := hA.free (k + 1)
          have hs1 := hA.set (i := k) (by rw [hgx.1]; omega) (x.getD (k + 1) 0)
          have hs2 := hs1.set (i := k + 1) (by rw [List.length_set, hgx.1]; omega) (x.getD k 0)
          have HS2 := Lib.hid hs2
          have hgd : (swapE k x).length = 7 ∧ Exps (swapE k x) := by
            have := swapT_good (i := k) (S := [(x, c)]) (fun t ht => by rw [List.mem_singleton.1 ht]; exact hgx) hk
            exact this _ (List.mem_singleton.2 rfl)
          have hE7 := good_E7 hgd
          obtain ⟨a, ha⟩ : ∃ a, a = x.getD k 0 := ⟨_, rfl⟩
          obtain ⟨b, hb⟩ : ∃ b, b = x.getD (k + 1) 0 := ⟨_, rfl⟩
          have HSE := Lib.hid (show (x.set k b).set (k + 1) a = swapE k x by rw [ha, hb]; rfl)
          rw [← ha] at c1
          rw [← hb] at c2
          rw [← ha, ← hb] at HS2
          have HGX := Lib.hid hgx
          generalize (fun z => left z && !z.sameKey (litE x)) = left1 at hseen1 hrg2
          have i0 : (0 : Int) ≤ (k : Int) := Int.natCast_nonneg _
          have i1 : (k : Int) < 7 := by omega
          have i2 : (0 : Int) ≤ (k : Int) + 1 := by omega
          have i3 : (k : Int) + 1 < 7 := by omega
          have i4 : ((k : Int) + 1).toNat = k + 1 := by omega
          have i5 : IntKind.i64.wrap ((k : Int) + 1) = (k : Int) + 1 := IntWalk.i64_in _ (by omega)
          clear hxc hc0 hat hat' hRc hkl hsz hgx hsb ha hb hout hs1 hs2 hgd
          go_wp2_with (first
            | (refine wpList_store_new rfl 59 _ _ rfl _ (arrC x).toArray rfl rfl HAI.out HA7.out HA1.out ?_)
            | go_in)
          have hne1 : w1.heap.size ≠ w5.heap.size := by omega
          have hne2 : w3.heap.size ≠ w5.heap.size := by omega
          have hne3 : w1.heap.size + 1 ≠ w5.heap.size := by omega
          have hge : w.heap.size ≤ w5.heap.size := by omega
          have hrg10 := ranges_far (ranges_far hrg2 (a := ⟨w5.heap.size, k, none⟩) hne3 hne2 (.int .i64 b)) (a := ⟨w5.heap.size, k + 1, none⟩) hne3 hne2 (.int .i64 a)
          have hout10 := (hout1.kept (grown_setCell _ ⟨w5.heap.size, k, none⟩ (.int .i64 b)) (by simpa using hne1)).kept (grown_setCell _ ⟨w5.heap.size, k + 1, none⟩ (.int .i64 a)) (by simpa using hne1)
          have hnx10 := (hnx1.setCell (p := ⟨w5.heap.size, k, none⟩) hge (.int .i64 b)).setCell (p := ⟨w5.heap.size, k + 1, none⟩) hge (.int .i64 a)
          rw [HSE.out] at HS2
          have hA10 := HS2.out
          generalize hW6 : (w5.alloc (.cells (arrC x).toArray 59)) = W6 at *
          go_region
          all_goals
            have hA11 := hA10.drew
            have hout11 : OwnE _ w1.heap.size n D := hout10.kept (w' := ((W6.setCell ⟨w5.heap.size, k, none⟩ (.int .i64 b)).setCell ⟨w5.heap.size, k + 1, none⟩ (.int .i64 a)).drew) (row := none) ⟨rfl, rfl, rfl, Nat.le_refl _, fun _ _ _ => rfl⟩ (by simp)
            have hrg11 := hrg10.kept (w' := ((W6.setCell ⟨w5.heap.size, k, none⟩ (.int .i64 b)).setCell ⟨w5.heap.size, k + 1, none⟩ (.int .i64 a)).drew) (row := none) ⟨rfl, rfl, rfl, Nat.le_refl _, fun _ _ _ => rfl⟩ (by simp) (by simp)
            have hnx11 := below_drewT hnx10
            have HR2 := Lib.hid hA11.range
            have HIN := Lib.hid (show (Try.prog.info? 59).map (·.size) = some (arrC (swapE k x)).length by simpa using arr_info hE7)
            have hvb := HVB.out (swapE k x)
            have HCB := Lib.hid (show -9223372036854775808 ≤ val (swapT k L) (swapE k x) + c ∧ val (swapT k L) (swapE k x) + c ≤ 9223372036854775807 by omega)
            have hn3 : n < 1099511627776 := by omega
            clear hvb hA hA10 hout10 hrg10 hnx10 hout1 hrg2 hnx1
            generalize ((W6.setCell ⟨w5.heap.size, k, none⟩ (.int .i64 b)).setCell ⟨w5.heap.size, k + 1, none⟩ (.int .i64 a)).drew = W7 at *
            go_wp2_with (first
              | (refine wpList_load_mid rfl 59 _ rfl w5.heap.size 0 rfl (arrC (swapE k x)) _ HR2.out Try.underlying59 rfl HIN.out ?_)
              | (go_at_call 39; refine (add_c w1.heap.size n D (val (swapT k L)) (swapE k x) c _ hout11 hD hE7 hn3 HCB.out).mono ?_; rintro e w8 ⟨rfl, ⟨D', hout3, hD3⟩, hg3⟩)
              | go_in)
            go_roundw
            case rel =>
              refine ⟨left1, cnt1, L ++ [(x, c)], D', n + 1, hrg11.kept hg3 (by simp) (by simp; omega), hseen1, by rw [List.length_append, List.length_singleton]; omega, hout3, by rw [List.length_append, List.length_singleton]; omega, ?_, hnx11.grown hg3 hnx11.size (fun j hj => by cases hj; exact hwl)⟩
              rw [val_snoc, ← swapT_snoc] at hD3
              exact hD3
            case measure => rw [(hrg11.kept hg3 (by simp) (by simp; omega)).left_eq, hrg.left_eq]; exact hlt

end Go.Proofs.Ytoioiippdchgmaa
