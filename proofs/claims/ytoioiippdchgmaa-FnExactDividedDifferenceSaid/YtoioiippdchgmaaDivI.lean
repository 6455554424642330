/-
  divided: the divided difference of a map of terms.
-/
import Derived.Test.YtoioiippdchgmaaLinkP
namespace Go.Proofs.Ytoioiippdchgmaa
open Go.RowKit Go.Maps
set_option linter.unusedVariables false

theorem divE_again (i : Nat) (x : List Int) (s r s' r' : Int) : divE i (divE i x s r) s' r' = divE i x s' r' := by
  unfold divE
  rw [List.set_comm _ _ (show i ≠ i + 1 by omega), List.set_set, List.set_set]
theorem rowDto_snoc (i : Nat) (p : List Int × Int) (j : Nat) : rowDto i p (j + 1) = rowDto i p j ++ [divTE i p.1 (lowOf (p.1.getD i 0) (p.1.getD (i + 1) 0)) (divN (p.1.getD i 0) (p.1.getD (i + 1) 0)) (divC (p.1.getD i 0) (p.1.getD (i + 1) 0) p.2) j] := by
  unfold rowDto
  rw [List.range_succ, List.map_append]; rfl
theorem divT7_snoc (i : Nat) (L : TermL) (p : List Int × Int) : divT7 i (L ++ [p]) = divT7 i L ++ rowD i p := by simp [divT7]
theorem rowD_n {i : Nat} {x : List Int} (h : x.length = 7 ∧ Exps x) (hi : i ≤ 5) : divN (x.getD i 0) (x.getD (i + 1) 0) ≤ 127 := by
  have h1 := exps_at h.2 (i := i) (by rw [h.1]; omega) rfl
  have h2 := exps_at h.2 (i := i + 1) (by rw [h.1]; omega) rfl
  unfold divN; omega
theorem divT7_len {i : Nat} {L : TermL} (h : Good7 L) (hi : i ≤ 5) : (divT7 i L).length ≤ 127 * L.length := by
  induction L with
  | nil => simp [divT7]
  | cons p L ih =>
    have h1 : divT7 i (p :: L) = rowD i p ++ divT7 i L := rfl
    have h2 := ih (fun q hq => h q (List.mem_cons_of_mem _ hq))
    have h3 : (rowD i p).length ≤ 127 := by
      simp only [rowD, rowDto, List.length_map, List.length_range]
      exact rowD_n (h p (List.mem_cons_self ..)) hi
    rw [h1, List.length_append, List.length_cons]; omega
theorem divC_bnd {a b c : Int} (h : -1000000 ≤ c ∧ c ≤ 1000000) : -1000000 ≤ divC a b c ∧ divC a b c ≤ 1000000 := by unfold divC; split <;> omega
theorem dv_bnd {i : Nat} {L : TermL} {p : List Int × Int} {j : Nat} (hg : Good7 L) (hc : Crow L) (hp : -1000000 ≤ p.2 ∧ p.2 ≤ 1000000) (hi : i ≤ 5) (hL : L.length ≤ 600) (hj : j ≤ 127) (e : List Int) :
    (divT7 i L ++ rowDto i p j).length ≤ 80000 ∧ -1000000000000 ≤ val (divT7 i L ++ rowDto i p j) e ∧ val (divT7 i L ++ rowDto i p j) e ≤ 1000000000000 := by
  have h1 := divT7_len hg hi
  have hl : (divT7 i L ++ rowDto i p j).length ≤ 80000 := by
    rw [List.length_append]
    simp only [rowDto, List.length_map, List.length_range]
    omega
  have hv := val_bnd (l := divT7 i L ++ rowDto i p j) (B := 1000000) (by decide) (fun q hq => by
    rcases List.mem_append.1 hq with hq | hq
    · obtain ⟨r, hr, hq⟩ := List.mem_flatMap.1 hq
      obtain ⟨t, ht, rfl⟩ := List.mem_map.1 hq
      exact divC_bnd (hc r hr)
    · obtain ⟨t, ht, rfl⟩ := List.mem_map.1 hq
      exact divC_bnd hp) e
  refine ⟨hl, ?_⟩
  omega

set_option maxRecDepth 100000 in
set_option maxHeartbeats 3200000 in
theorem divided_c (bf nf : Nat) (Df : DataW Unit) (S : TermL) (i : Nat) (w : World) (hf : OwnE w bf nf Df) (hF : HoldsF Df (val S)) (hSg : Good7 S) (hSC : Clean S) (hnf : nf ≤ 600)
    (hSb : ∀ e, -1000000 ≤ val S e ∧ val S e ≤ 1000000) (hi : i ≤ 5) :
    Calls Try.prog 42 #[.map (some bf), .int .i64 (i : Int)] w fun e' w' => ∃ D n, e' = .returned (.map (some w.heap.size)) ∧ OwnE w' w.heap.size n D ∧ n ≤ 1000000 ∧ HoldsF D (val (divT7 i S)) ∧ Below w.heap.size w w' := by
  have hmm := @run_makeMap Try.prog
  have hbf := hf.lt
  have e1 : (w.alloc (.map #[] 0)).heap.size = w.heap.size + 1 := by simp
  have HSB := Lib.hid hSb
  have HHF := Lib.hid hF
  have HGS := Lib.hid (fun e (he : val S e ≠ 0) => Classical.byContradiction (fun hn => he (val_bad hSg (e := e) hn)))
  have HSG := Lib.hid hSg
  have HI5 := Lib.hid hi
  clear hSb hF
  go_enter Try.func42, Try.ntmps42
  go_wp2_with (first
    | (at_range; refine wpList_range_own _ rfl _ 50 rfl 59 3 Try.keyE Try.underlying50 _ bf nf _ rfl (hf.alloc _) ?_; intro w0 hrg0 hg0 hs0)
    | go_in)
  go_frame
  rw [e1] at hrg0 hs0 ⊢
  go_loopw [7] (fun _ wr => ∃ (left : Lit → Bool) (cnt : Nat) (L : TermL) (D : DataW Unit) (n : Nat), wr.ranges Try.prog 59 (plainElem Try.prog 3) bf (w.heap.size + 1) nf Df left cnt ∧ Seen (val S) left L ∧ L.length + cnt ≤ nf ∧
      OwnE wr w.heap.size n D ∧ n ≤ (divT7 i L).length ∧ HoldsF D (val (divT7 i L)) ∧ Below w.heap.size w wr)
    (fun _ wr => wr.rangeLeft bf (w.heap.size + 1))
  case atStart =>
    exact ⟨_, _, [], .map [], 0, hrg0, Seen.start HHF.out, by simpa using hf.size_le, ((World.ownsMap_made _ _ _ _).kept hg0 (by simp)), Nat.zero_le _, HoldsF.empty, ((Below.refl _ _).alloc (Nat.le_refl _) _).grown hg0 (by simp) (fun j hj => by cases hj)⟩
  case round =>
    obtain ⟨left, cnt, L, D, n, hrg, hseen, hcs, hout, hnl, hD, hnx⟩ := hrel
    clear hrg0 hg0 hs0
    have hLg : Good7 L := fun p hp => HGS.out p.1 (by obtain ⟨_, h1, h2, _⟩ := hseen.keys p hp; rw [h1]; exact h2)
    have HLG := Lib.hid hLg
    have HLL := Lib.hid (divT7_len hLg hi)
    clear hLg
    obtain ⟨w4, rfl⟩ : ∃ w4, w4 = wr := ⟨_, rfl⟩
    go_wp2_with (first
      | (at_next; refine wpList_next_ranges _ rfl _ rfl 59 Try.keyE _ arrV (Value.int .i64) Try.invE Try.invI bf (w.heap.size + 1) nf _ _ _ rfl hrg ?_ ?_)
      | go_in)
    · intro hc0 hl0
      have hvS : ∀ e, val L e = val S e := fun e => hseen.done hl0 (fun e he => HSG.out.all7.zero e he) e
      have hperm : L.Perm S := hseen.clean.perm hSC hvS
      go_wp2_with fail
      go_ret
      refine ⟨D, n, rfl, hout, ?_, ?_, hnx⟩
      · have := HLL.out
        omega
      · have : val (divT7 i L) = val (divT7 i S) := funext fun e => val_flatMap_perm hperm _ e
        rw [← this]; exact hD
    · intro x c kl y yp w1 cnt1 hkl hlk hRc hat hrg1 hlt hgr hsz hen
      obtain ⟨hx7, rfl, hat'⟩ := Try.entryE hkl hRc hat
      obtain ⟨hxc, hc0, hxn, hseen1⟩ := hseen.step HHF.out hx7 hlk hat'
      have hgx := HGS.out x (by rw [hxc]; exact hc0)
      have hcb : -1000000 ≤ c ∧ c ≤ 1000000 := by rw [← hxc]; exact HSB.out x
      have HAI := Lib.hid (arr_info hx7)
      have HA1 := Lib.hid (arr_one x)
      have HA7 := Lib.hid (show 7 = (arrC x).toArray.size by simp [arrC, hx7.1])
      have hwl := hnx.size
      have hlt4 := hrg.lt
      have hw1s := hgr.size
      have hout1 := (hout.kept hgr (by simp)).alloc (.cells (arrC x).toArray 59)
      have hrg2 := hrg1.kept (World.grownBy_alloc w1 (.cells (arrC x).toArray 59) none) (by simp) (by simp)
      have hnx1 := (hnx.grown hgr hnx.size (fun j hj => by cases hj; exact Nat.le_succ _)).alloc (by omega) (.cells (arrC x).toArray 59)
      have hA := ArrW.made w1 x
      have e6 : (w1.alloc (.cells (arrC x).toArray 59)).heap.size = w1.heap.size + 1 := by simp
      have hDB := fun j (hj : j ≤ 127) e => dv_bnd (i := i) (p := (x, c)) (j := j) HLG.out (hseen.crow HSB.out) hcb hi (by omega) hj e
      have HDB := Lib.hid hDB
      have HRS := Lib.hid (fun j => rowDto_snoc i (x, c) j)
      have HRD := Lib.hid (show rowD i (x, c) = rowDto i (x, c) (divN (x.getD i 0) (x.getD (i + 1) 0)) from rfl)
      have hn127 := rowD_n hgx hi
      have ba := exps_at hgx.2 (i := i) (by rw [hgx.1]; omega) rfl
      have bb := exps_at hgx.2 (i := i + 1) (by rw [hgx.1]; omega) rfl
      have c1 := hA.cell (i := i) (by rw [hgx.1]; omega)
      have c2 := hA.cell (i := i + 1) (by rw [hgx.1]; omega)
      simp only [divTE] at HRS
      obtain ⟨a, ha⟩ : ∃ a, a = x.getD i 0 := ⟨_, rfl⟩
      obtain ⟨b, hb⟩ : ∃ b, b = x.getD (i + 1) 0 := ⟨_, rfl⟩
      rw [← ha] at ba c1
      rw [← hb] at bb c2
      rw [← ha, ← hb] at HRS HRD hn127
      have HGX := Lib.hid hgx
      generalize (fun z => left z && !z.sameKey (litE x)) = left1 at hseen1 hrg2
      have i0 : (0 : Int) ≤ (i : Int) := Int.natCast_nonneg _
      have i1 : (i : Int) < 7 := by omega
      have i2 : (0 : Int) ≤ (i : Int) + 1 := by omega
      have i3 : (i : Int) + 1 < 7 := by omega
      have i4 : ((i : Int) + 1).toNat = i + 1 := by omega
      have i5 : IntKind.i64.wrap ((i : Int) + 1) = (i : Int) + 1 := IntWalk.i64_in _ (by omega)
      clear hxc hc0 hat hat' hRc hkl hsz hgx hDB ha hb hout
      by_cases hab : a < b
      · obtain ⟨n2, hn2⟩ : ∃ n : Nat, (n : Int) = b - a := ⟨(b - a).toNat, by omega⟩
        have HNN := Lib.hid (show divN a b = n2 by unfold divN; omega)
        have HLO := Lib.hid (show lowOf a b = a by unfold lowOf; rw [if_neg (by omega)])
        have HCO := Lib.hid (show divC a b c = -c by unfold divC; rw [if_pos hab]; omega)
        have w8 : IntKind.i64.wrap (-c) = -c := IntWalk.i64_in _ (by omega)
        have hcb2 : -1000000 ≤ -c ∧ -c ≤ 1000000 := by omega
        have hab2 : a ≤ b := by omega
        have hHI : b = a + (n2 : Int) := by omega
        rw [HNN.out] at HRD hn127
        simp only [HNN.out, HLO.out, HCO.out] at HRS
        have HHI := Lib.hid hHI
        clear hn2 hHI
        go_wp2_with (first
          | (refine wpList_store_new rfl 59 _ _ rfl _ (arrC x).toArray rfl rfl HAI.out HA7.out HA1.out ?_)
          | go_in)
        go_quiet (fail)
        have hA0 : ArrW ((w1.alloc (.cells (arrC x).toArray 59)).drewN nq) w1.heap.size x := hA
        have hout0 : OwnE ((w1.alloc (.cells (arrC x).toArray 59)).drewN nq) w.heap.size n D := hout1.kept (w' := (w1.alloc (.cells (arrC x).toArray 59)).drewN nq) (row := none) ⟨rfl, rfl, rfl, Nat.le_refl _, fun _ _ _ => rfl⟩ (by simp)
        have hrg3 := hrg2.kept (w' := (w1.alloc (.cells (arrC x).toArray 59)).drewN nq) (row := none) ⟨rfl, rfl, rfl, Nat.le_refl _, fun _ _ _ => rfl⟩ (by simp) (by simp)
        have hnx3 := below_drewN hnx1 nq
        have HNX := Lib.hid ((divT7_snoc i L (x, c)).trans (by rw [HRD.out]))
        have HROW0 := Lib.hid (show divT7 i L ++ rowDto i (x, c) 0 = divT7 i L by simp [rowDto])
        generalize (w1.alloc (.cells (arrC x).toArray 59)).drewN nq = W5 at *
        go_wp2_with fail
        go_loopw [10] (fun tv w9 => ∃ (j : Nat) (t : Int) (D2 : DataW Unit) (n3 : Nat) (e' : List Int), j ≤ n2 ∧ tv = .int .i64 t ∧ Hid (t = a + (j : Int)) ∧ w9.ranges Try.prog 59 (plainElem Try.prog 3) bf (w.heap.size + 1) nf Df left1 cnt1 ∧
            OwnE w9 w.heap.size n3 D2 ∧ n3 ≤ (divT7 i L ++ rowDto i (x, c) j).length ∧ HoldsF D2 (val (divT7 i L ++ rowDto i (x, c) j)) ∧ ArrW w9 w1.heap.size e' ∧ e'.length = 7 ∧ Hid (∀ s r, divE i e' s r = divE i x s r) ∧ Below w.heap.size w w9)
          (fun tv _ => (b - intOf tv).toNat)
        case atStart => exact ⟨0, a, D, n, x, Nat.zero_le _, rfl, Lib.hid (by simp), hrg3, hout0, by rw [HROW0.out]; exact hnl, by rw [HROW0.out]; exact hD, hA0, HGX.out.1, Lib.hid (fun s r => rfl), hnx3⟩
        case round =>
          obtain ⟨j, t, D2, n3, e', hj, rfl, HTJ, hrg9, hout9, hn9, hD9, hA9, he7, HE9, hnx9⟩ := hrel
          clear hrg3 hout0 hA0 hnx3 hA c1 c2 hout1 hrg2 hnx1 e6
          obtain ⟨w9, rfl⟩ : ∃ w9, w9 = wr := ⟨_, rfl⟩
          have ht0 : 0 ≤ t := by have := HTJ.out; omega
          by_cases hjn : j < n2
          · have ht1 : t < b := by have := HTJ.out; have := HHI.out; omega
            have v1 : IntKind.i64.wrap (a + b) = a + b := IntWalk.i64_in _ (by omega)
            have v2 : IntKind.i64.wrap (a + b - 1) = a + b - 1 := IntWalk.i64_in _ (by omega)
            have v3 : IntKind.i64.wrap (a + b - 1 - t) = a + b - 1 - t := IntWalk.i64_in _ (by have := HHI.out; omega)
            have hs1 := hA9.set (i := i + 1) (by rw [he7]; omega) t
            have hs2 := hs1.set (i := i) (by rw [List.length_set, he7]; omega) (a + b - 1 - t)
            have hf1 := hA9.free (i + 1)
            have hc1 := hA9.cell (i := i + 1) (by rw [he7]; omega)
            have hf2 := hs1.free i
            have hc2 := hs1.cell (i := i) (by rw [List.length_set, he7]; omega)
            rw [show (e'.set (i + 1) t).set i (a + b - 1 - t) = divE i x t (a + b - 1 - t) from HE9.out t (a + b - 1 - t)] at hs2
            have hgd : (divE i x t (a + b - 1 - t)).length = 7 ∧ Exps (divE i x t (a + b - 1 - t)) :=
              ⟨by rw [divE_len]; exact HGX.out.1, divE_exps HGX.out.2 (by omega) (by have := HTJ.out; have := HHI.out; omega)⟩
            have hE7 := good_E7 hgd
            have hlw := hnx9.size
            have hg1 := hrg9.lt
            have hg0 : w.heap.size ≤ w1.heap.size := by omega
            have hne1 : w.heap.size ≠ w1.heap.size := by omega
            have hne2 : w.heap.size + 1 ≠ w1.heap.size := by omega
            have hne3 : bf ≠ w1.heap.size := by omega
            have hrg10 := ranges_far (ranges_far hrg9 (a := ⟨w1.heap.size, i + 1, none⟩) hne3 hne2 (.int .i64 t)) (a := ⟨w1.heap.size, i, none⟩) hne3 hne2 (.int .i64 (a + b - 1 - t))
            have hout10 := (hout9.kept (grown_setCell w9 ⟨w1.heap.size, i + 1, none⟩ (.int .i64 t)) (by simpa using hne1)).kept (grown_setCell _ ⟨w1.heap.size, i, none⟩ (.int .i64 (a + b - 1 - t))) (by simpa using hne1)
            have hnx10 := (hnx9.setCell (p := ⟨w1.heap.size, i + 1, none⟩) hg0 (.int .i64 t)).setCell (p := ⟨w1.heap.size, i, none⟩) hg0 (.int .i64 (a + b - 1 - t))
            have HR := Lib.hid hs2.range
            have HIN := Lib.hid (show (Try.prog.info? 59).map (·.size) = some (arrC (divE i x t (a + b - 1 - t))).length by simpa using arr_info hE7)
            have hdb := HDB.out j (by omega) (divE i x t (a + b - 1 - t))
            have HCB := Lib.hid (show -9223372036854775808 ≤ val (divT7 i L ++ rowDto i (x, c) j) (divE i x t (a + b - 1 - t)) + -c ∧ val (divT7 i L ++ rowDto i (x, c) j) (divE i x t (a + b - 1 - t)) + -c ≤ 9223372036854775807 by omega)
            have hn3 : n3 < 1099511627776 := by omega
            have HEQ := Lib.hid (show rowDto i (x, c) j ++ [(divE i x t (a + b - 1 - t), -c)] = rowDto i (x, c) (j + 1) by
              rw [HRS.out j]
              have h1 := HTJ.out
              have h2 := HHI.out
              rw [show a + (j : Int) = t by omega, show a + (n2 : Int) - 1 - (j : Int) = a + b - 1 - t by omega])
            clear hdb hs1 hgd
            go_wp2_with (first
              | (refine wpList_load_mid rfl 59 _ rfl w1.heap.size 0 rfl (arrC (divE i x t (a + b - 1 - t))) _ HR.out Try.underlying59 rfl HIN.out ?_)
              | (go_at_call 39; refine (add_c w.heap.size n3 D2 (val (divT7 i L ++ rowDto i (x, c) j)) (divE i x t (a + b - 1 - t)) (-c) _ hout10 hD9 hE7 hn3 HCB.out).mono ?_; rintro e w3 ⟨rfl, ⟨D', hout3, hD3⟩, hg3⟩)
              | go_in)
            go_roundw
            case rel =>
              refine ⟨j + 1, t + 1, D', n3 + 1, divE i x t (a + b - 1 - t), by omega, by go_num, Lib.hid (by have := HTJ.out; omega), hrg10.kept hg3 (by simp; omega) (by simp), hout3, ?_, ?_,
                hs2.grown hg3 (by simp; omega), by rw [divE_len]; exact HGX.out.1, Lib.hid (fun s r => divE_again _ _ _ _ _ _), hnx10.grown hg3 hnx10.size (fun j hj => by cases hj; exact Nat.le_refl _)⟩
              · rw [← HEQ.out, ← List.append_assoc, List.length_append, List.length_singleton]; omega
              · rw [val_snoc, List.append_assoc, HEQ.out] at hD3
                exact hD3
            case measure => simp [intOf]; omega
          · obtain rfl : j = n2 := by omega
            have ht1 : t = b := by have := HTJ.out; have := HHI.out; omega
            subst ht1
            go_wp2_with fail
            go_roundw
            case rel =>
              exact ⟨left1, cnt1, L ++ [(x, c)], D2, n3, hrg9, hseen1, by rw [List.length_append, List.length_singleton]; omega, hout9, by rw [HNX.out]; exact hn9, by rw [HNX.out]; exact hD9, hnx9⟩
            case measure => rw [hrg9.left_eq, hrg.left_eq]; exact hlt
      · obtain ⟨n2, hn2⟩ : ∃ n : Nat, (n : Int) = a - b := ⟨(a - b).toNat, by omega⟩
        have HNN := Lib.hid (show divN a b = n2 by unfold divN; omega)
        have HLO := Lib.hid (show lowOf a b = b by unfold lowOf; split <;> omega)
        have HCO := Lib.hid (show divC a b c = c by unfold divC; rw [if_neg hab])
        have hcb2 : -1000000 ≤ c ∧ c ≤ 1000000 := hcb
        have hab2 : b ≤ a := by omega
        have hHI : a = b + (n2 : Int) := by omega
        rw [HNN.out] at HRD hn127
        simp only [HNN.out, HLO.out, HCO.out] at HRS
        have HHI := Lib.hid hHI
        clear hn2 hHI
        go_wp2_with (first
          | (refine wpList_store_new rfl 59 _ _ rfl _ (arrC x).toArray rfl rfl HAI.out HA7.out HA1.out ?_)
          | go_in)
        go_quiet (fail)
        have hA0 : ArrW ((w1.alloc (.cells (arrC x).toArray 59)).drewN nq) w1.heap.size x := hA
        have hout0 : OwnE ((w1.alloc (.cells (arrC x).toArray 59)).drewN nq) w.heap.size n D := hout1.kept (w' := (w1.alloc (.cells (arrC x).toArray 59)).drewN nq) (row := none) ⟨rfl, rfl, rfl, Nat.le_refl _, fun _ _ _ => rfl⟩ (by simp)
        have hrg3 := hrg2.kept (w' := (w1.alloc (.cells (arrC x).toArray 59)).drewN nq) (row := none) ⟨rfl, rfl, rfl, Nat.le_refl _, fun _ _ _ => rfl⟩ (by simp) (by simp)
        have hnx3 := below_drewN hnx1 nq
        have HNX := Lib.hid ((divT7_snoc i L (x, c)).trans (by rw [HRD.out]))
        have HROW0 := Lib.hid (show divT7 i L ++ rowDto i (x, c) 0 = divT7 i L by simp [rowDto])
        generalize (w1.alloc (.cells (arrC x).toArray 59)).drewN nq = W5 at *
        go_wp2_with fail
        go_loopw [10] (fun tv w9 => ∃ (j : Nat) (t : Int) (D2 : DataW Unit) (n3 : Nat) (e' : List Int), j ≤ n2 ∧ tv = .int .i64 t ∧ Hid (t = b + (j : Int)) ∧ w9.ranges Try.prog 59 (plainElem Try.prog 3) bf (w.heap.size + 1) nf Df left1 cnt1 ∧
            OwnE w9 w.heap.size n3 D2 ∧ n3 ≤ (divT7 i L ++ rowDto i (x, c) j).length ∧ HoldsF D2 (val (divT7 i L ++ rowDto i (x, c) j)) ∧ ArrW w9 w1.heap.size e' ∧ e'.length = 7 ∧ Hid (∀ s r, divE i e' s r = divE i x s r) ∧ Below w.heap.size w w9)
          (fun tv _ => (a - intOf tv).toNat)
        case atStart => exact ⟨0, b, D, n, x, Nat.zero_le _, rfl, Lib.hid (by simp), hrg3, hout0, by rw [HROW0.out]; exact hnl, by rw [HROW0.out]; exact hD, hA0, HGX.out.1, Lib.hid (fun s r => rfl), hnx3⟩
        case round =>
          obtain ⟨j, t, D2, n3, e', hj, rfl, HTJ, hrg9, hout9, hn9, hD9, hA9, he7, HE9, hnx9⟩ := hrel
          clear hrg3 hout0 hA0 hnx3 hA c1 c2 hout1 hrg2 hnx1 e6
          obtain ⟨w9, rfl⟩ : ∃ w9, w9 = wr := ⟨_, rfl⟩
          have ht0 : 0 ≤ t := by have := HTJ.out; omega
          by_cases hjn : j < n2
          · have ht1 : t < a := by have := HTJ.out; have := HHI.out; omega
            have v1 : IntKind.i64.wrap (b + a) = b + a := IntWalk.i64_in _ (by omega)
            have v2 : IntKind.i64.wrap (b + a - 1) = b + a - 1 := IntWalk.i64_in _ (by omega)
            have v3 : IntKind.i64.wrap (b + a - 1 - t) = b + a - 1 - t := IntWalk.i64_in _ (by have := HHI.out; omega)
            have hs1 := hA9.set (i := i + 1) (by rw [he7]; omega) t
            have hs2 := hs1.set (i := i) (by rw [List.length_set, he7]; omega) (b + a - 1 - t)
            have hf1 := hA9.free (i + 1)
            have hc1 := hA9.cell (i := i + 1) (by rw [he7]; omega)
            have hf2 := hs1.free i
            have hc2 := hs1.cell (i := i) (by rw [List.length_set, he7]; omega)
            rw [show (e'.set (i + 1) t).set i (b + a - 1 - t) = divE i x t (b + a - 1 - t) from HE9.out t (b + a - 1 - t)] at hs2
            have hgd : (divE i x t (b + a - 1 - t)).length = 7 ∧ Exps (divE i x t (b + a - 1 - t)) :=
              ⟨by rw [divE_len]; exact HGX.out.1, divE_exps HGX.out.2 (by omega) (by have := HTJ.out; have := HHI.out; omega)⟩
            have hE7 := good_E7 hgd
            have hlw := hnx9.size
            have hg1 := hrg9.lt
            have hg0 : w.heap.size ≤ w1.heap.size := by omega
            have hne1 : w.heap.size ≠ w1.heap.size := by omega
            have hne2 : w.heap.size + 1 ≠ w1.heap.size := by omega
            have hne3 : bf ≠ w1.heap.size := by omega
            have hrg10 := ranges_far (ranges_far hrg9 (a := ⟨w1.heap.size, i + 1, none⟩) hne3 hne2 (.int .i64 t)) (a := ⟨w1.heap.size, i, none⟩) hne3 hne2 (.int .i64 (b + a - 1 - t))
            have hout10 := (hout9.kept (grown_setCell w9 ⟨w1.heap.size, i + 1, none⟩ (.int .i64 t)) (by simpa using hne1)).kept (grown_setCell _ ⟨w1.heap.size, i, none⟩ (.int .i64 (b + a - 1 - t))) (by simpa using hne1)
            have hnx10 := (hnx9.setCell (p := ⟨w1.heap.size, i + 1, none⟩) hg0 (.int .i64 t)).setCell (p := ⟨w1.heap.size, i, none⟩) hg0 (.int .i64 (b + a - 1 - t))
            have HR := Lib.hid hs2.range
            have HIN := Lib.hid (show (Try.prog.info? 59).map (·.size) = some (arrC (divE i x t (b + a - 1 - t))).length by simpa using arr_info hE7)
            have hdb := HDB.out j (by omega) (divE i x t (b + a - 1 - t))
            have HCB := Lib.hid (show -9223372036854775808 ≤ val (divT7 i L ++ rowDto i (x, c) j) (divE i x t (b + a - 1 - t)) + c ∧ val (divT7 i L ++ rowDto i (x, c) j) (divE i x t (b + a - 1 - t)) + c ≤ 9223372036854775807 by omega)
            have hn3 : n3 < 1099511627776 := by omega
            have HEQ := Lib.hid (show rowDto i (x, c) j ++ [(divE i x t (b + a - 1 - t), c)] = rowDto i (x, c) (j + 1) by
              rw [HRS.out j]
              have h1 := HTJ.out
              have h2 := HHI.out
              rw [show b + (j : Int) = t by omega, show b + (n2 : Int) - 1 - (j : Int) = b + a - 1 - t by omega])
            clear hdb hs1 hgd
            go_wp2_with (first
              | (refine wpList_load_mid rfl 59 _ rfl w1.heap.size 0 rfl (arrC (divE i x t (b + a - 1 - t))) _ HR.out Try.underlying59 rfl HIN.out ?_)
              | (go_at_call 39; refine (add_c w.heap.size n3 D2 (val (divT7 i L ++ rowDto i (x, c) j)) (divE i x t (b + a - 1 - t)) (c) _ hout10 hD9 hE7 hn3 HCB.out).mono ?_; rintro e w3 ⟨rfl, ⟨D', hout3, hD3⟩, hg3⟩)
              | go_in)
            go_roundw
            case rel =>
              refine ⟨j + 1, t + 1, D', n3 + 1, divE i x t (b + a - 1 - t), by omega, by go_num, Lib.hid (by have := HTJ.out; omega), hrg10.kept hg3 (by simp; omega) (by simp), hout3, ?_, ?_,
                hs2.grown hg3 (by simp; omega), by rw [divE_len]; exact HGX.out.1, Lib.hid (fun s r => divE_again _ _ _ _ _ _), hnx10.grown hg3 hnx10.size (fun j hj => by cases hj; exact Nat.le_refl _)⟩
              · rw [← HEQ.out, ← List.append_assoc, List.length_append, List.length_singleton]; omega
              · rw [val_snoc, List.append_assoc, HEQ.out] at hD3
                exact hD3
            case measure => simp [intOf]; omega
          · obtain rfl : j = n2 := by omega
            have ht1 : t = a := by have := HTJ.out; have := HHI.out; omega
            subst ht1
            go_wp2_with fail
            go_roundw
            case rel =>
              exact ⟨left1, cnt1, L ++ [(x, c)], D2, n3, hrg9, hseen1, by rw [List.length_append, List.length_singleton]; omega, hout9, by rw [HNX.out]; exact hn9, by rw [HNX.out]; exact hD9, hnx9⟩
            case measure => rw [hrg9.left_eq, hrg.left_eq]; exact hlt

end Go.Proofs.Ytoioiippdchgmaa
