/-
  times: the product of two maps of terms.
-/
import Derived.Test.YtoioiippdchgmaaArr
namespace Go.Proofs.Ytoioiippdchgmaa
open Go.RowKit Go.Maps
set_option linter.unusedVariables false

theorem wpList_store_newG {P : Program} {w : World} {ops : Array Oper} {rest : List Oper} {o : Oper} {a : Act} {Q : Exit → Act → World → Prop} (hg : o.guard = none) (ty : TypeId) (x y : Operand) (ho : o.op = .store ty x y) (g : Nat) (hgw : g = w.heap.size) (c c' : Array Value)
    (hx : a.eval x = .pointer (some ⟨g, 0, none⟩)) (hy : a.eval y = .agg c') (hi : (P.info? ty).map (·.size) = some c'.size) (hs : c.size = c'.size) (h1 : c'.all (·.oneCell') = true)
    (h : wpList P ops Q rest (a.put o.dst undef) (w.alloc (.cells c' ty))) : wpList P ops Q (o :: rest) a (w.alloc (.cells c ty)) := by
  subst hgw
  exact wpList_store_new hg ty x y ho c c' hx hy hi hs h1 h
def Sml (e : List Int) : Prop := ∀ x ∈ e, 0 ≤ x ∧ x ≤ 1000
def rowT (p : List Int × Int) (T : TermL) : TermL := T.map (fun q => (addE p.1 q.1, p.2 * q.2))
def prodT (S T : TermL) : TermL := S.flatMap (fun p => rowT p T)
theorem addE_len {a b : List Int} (ha : a.length = 7) (hb : b.length = 7) : (addE a b).length = 7 := by simp [addE, ha, hb]
theorem sml_at {e : List Int} (h : Sml e) {i : Nat} (hi : i < e.length) : 0 ≤ e.getD i 0 ∧ e.getD i 0 ≤ 1000 := by
  rw [List.getD_eq_getElem?_getD, List.getElem?_eq_getElem hi]; exact h _ (List.getElem_mem hi)
theorem addE_E7 {a b : List Int} (ha : E7 a) (hb : E7 b) (sa : Sml a) (sb : Sml b) : E7 (addE a b) := by
  refine ⟨addE_len ha.1 hb.1, fun x hx => ?_⟩
  obtain ⟨i, hi, rfl⟩ := List.getElem_of_mem hx
  have hi' : i < 7 := by rw [addE_len ha.1 hb.1] at hi; exact hi
  have h1 := sa _ (List.getElem_mem (by rw [ha.1]; exact hi'))
  have h2 := sb _ (List.getElem_mem (by rw [hb.1]; exact hi'))
  simp only [addE, List.getElem_zipWith]
  omega
theorem prodT_len (S T : TermL) : (prodT S T).length = S.length * T.length := by
  induction S with
  | nil => simp [prodT]
  | cons p S ih =>
    have : prodT (p :: S) T = rowT p T ++ prodT S T := rfl
    rw [this, List.length_append, ih, rowT, List.length_map, List.length_cons, Nat.add_mul]; omega
theorem prodT_snoc (S T : TermL) (p : List Int × Int) : prodT (S ++ [p]) T = prodT S T ++ rowT p T := by simp [prodT]
def Crow (l : TermL) : Prop := ∀ p ∈ l, -1000000 ≤ p.2 ∧ p.2 ≤ 1000000
theorem mul_big {k c : Int} (hk : -1000000 ≤ k ∧ k ≤ 1000000) (hc : -1000000 ≤ c ∧ c ≤ 1000000) : -1000000000000 ≤ k * c ∧ k * c ≤ 1000000000000 := by
  have h1 : (k * c).natAbs ≤ 1000000 * 1000000 := by rw [Int.natAbs_mul]; exact Nat.mul_le_mul (by omega) (by omega)
  omega
theorem prod_bnd {S T L2 : TermL} {p : List Int × Int} (hS : Crow S) (hT : Crow T) (hL : Crow L2) (hp : -1000000 ≤ p.2 ∧ p.2 ≤ 1000000) (h1 : S.length ≤ 600) (h2 : T.length ≤ 600) (h3 : L2.length ≤ 600) (e : List Int) :
    -400000000000000000 ≤ val (prodT S T ++ rowT p L2) e ∧ val (prodT S T ++ rowT p L2) e ≤ 400000000000000000 := by
  have hl : (prodT S T ++ rowT p L2).length ≤ 360600 := by
    rw [List.length_append, prodT_len, rowT, List.length_map]
    have := Nat.mul_le_mul h1 h2
    omega
  have hv := val_bnd (l := prodT S T ++ rowT p L2) (B := 1000000000000) (by decide) (fun q hq => by
    rcases List.mem_append.1 hq with hq | hq
    · obtain ⟨a, ha, hq⟩ := List.mem_flatMap.1 hq
      obtain ⟨b, hb, rfl⟩ := List.mem_map.1 hq
      exact mul_big (hS a ha) (hT b hb)
    · obtain ⟨b, hb, rfl⟩ := List.mem_map.1 hq
      exact mul_big hp (hL b hb)) e
  omega
theorem Seen.crow {F : List Int → Int} {left : Lit → Bool} {L : TermL} (h : Seen F left L) (hF : ∀ e, -1000000 ≤ F e ∧ F e ≤ 1000000) : Crow L := fun p hp => by rw [← (h.keys p hp).2.1]; exact hF _

set_option maxRecDepth 100000 in
set_option maxHeartbeats 3200000 in
theorem times_c (bf nf : Nat) (Df : DataW Unit) (S : TermL) (bg ng : Nat) (Dg : DataW Unit) (T : TermL) (w : World) (hf : OwnE w bf nf Df) (hF : HoldsF Df (val S)) (hS7 : All7 S) (hg : OwnE w bg ng Dg) (hG : HoldsF Dg (val T)) (hT7 : All7 T)
    (hnf : nf ≤ 600) (hng : ng ≤ 600) (hSb : ∀ e, -1000000 ≤ val S e ∧ val S e ≤ 1000000) (hTb : ∀ e, -1000000 ≤ val T e ∧ val T e ≤ 1000000) (hSC : Clean S) (hTC : Clean T) (hT6 : T.length ≤ 600) (hTr : Crow T)
    (hSs : ∀ e, val S e ≠ 0 → Sml e) (hTs : ∀ e, val T e ≠ 0 → Sml e) :
    Calls Try.prog 35 #[.map (some bf), .map (some bg)] w fun e' w' => ∃ D n, e' = .returned (.map (some w.heap.size)) ∧ OwnE w' w.heap.size n D ∧ n ≤ 1000000 ∧ HoldsF D (val (prodT S T)) ∧ Below w.heap.size w w' := by
  have hmm := @run_makeMap Try.prog
  have hbf := hf.lt
  have hbg := hg.lt
  have e1 : (w.alloc (.map #[] 0)).heap.size = w.heap.size + 1 := by simp
  have HSB := Lib.hid hSb
  have HTB := Lib.hid hTb
  have HHF := Lib.hid hF
  have HHG := Lib.hid hG
  have HSS := Lib.hid hSs
  have HTS := Lib.hid hTs
  have HTR := Lib.hid hTr
  clear hSb hTb hF hG hSs hTs hTr
  go_enter Try.func35, Try.ntmps35
  go_wp2_with (first
    | (at_range; refine wpList_range_own _ rfl _ 50 rfl 59 3 Try.keyE Try.underlying50 _ bf nf _ rfl (hf.alloc _) ?_; intro w0 hrg0 hg0 hs0)
    | go_in)
  go_frame
  rw [e1] at hrg0 hs0 ⊢
  go_loopw [7] (fun _ wr => ∃ (left : Lit → Bool) (cnt : Nat) (L : TermL) (D : DataW Unit) (n : Nat), wr.ranges Try.prog 59 (plainElem Try.prog 3) bf (w.heap.size + 1) nf Df left cnt ∧ Seen (val S) left L ∧ L.length + cnt ≤ nf ∧
      OwnE wr w.heap.size n D ∧ n ≤ (prodT L T).length ∧ HoldsF D (val (prodT L T)) ∧ Below w.heap.size w wr)
    (fun _ wr => wr.rangeLeft bf (w.heap.size + 1))
  case atStart =>
    exact ⟨_, _, [], .map [], 0, hrg0, Seen.start HHF.out, by simpa using hf.size_le, ((World.ownsMap_made _ _ _ _).kept hg0 (by simp)), Nat.zero_le _, HoldsF.empty, ((Below.refl _ _).alloc (Nat.le_refl _) _).grown hg0 (by simp) (fun j hj => by cases hj)⟩
  case round =>
    obtain ⟨left, cnt, L, D, n, hrg, hseen, hcs, hout, hnl, hD, hnx⟩ := hrel
    clear hrg0 hg0 hs0
    obtain ⟨w4, rfl⟩ : ∃ w4, w4 = wr := ⟨_, rfl⟩
    go_wp2_with (first
      | (at_next; refine wpList_next_ranges _ rfl _ rfl 59 Try.keyE _ arrV (Value.int .i64) Try.invE Try.invI bf (w.heap.size + 1) nf _ _ _ rfl hrg ?_ ?_)
      | go_in)
    · intro hc0 hl0
      have hvS : ∀ e, val L e = val S e := fun e => hseen.done hl0 (fun e he => hS7.zero e he) e
      have hperm : L.Perm S := hseen.clean.perm hSC hvS
      go_wp2_with fail
      go_ret
      refine ⟨D, n, rfl, hout, ?_, ?_, hnx⟩
      · rw [prodT_len] at hnl
        have := Nat.mul_le_mul (show L.length ≤ 600 by omega) hT6
        omega
      · have : val (prodT L T) = val (prodT S T) := funext fun e => val_flatMap_perm hperm _ e
        rw [← this]; exact hD
    · intro a c kl y yp w1 cnt1 hkl hlk hRc hat hrg1 hlt hgr hsz hen
      obtain ⟨ha7, rfl, hat'⟩ := Try.entryE hkl hRc hat
      obtain ⟨hac, hc0, han, hseen1⟩ := hseen.step HHF.out ha7 hlk hat'
      have hsa : Sml a := HSS.out a (by rw [hac]; exact hc0)
      have HAI := Lib.hid (arr_info ha7)
      have HA1 := Lib.hid (arr_one a)
      have HA7 := Lib.hid (show 7 = (arrC a).toArray.size by simp [arrC, ha7.1])
      have hwl := hnx.size
      have hlt4 := hrg.lt
      have hw1s := hgr.size
      have hout1 := (hout.kept hgr (by simp)).alloc (.cells (arrC a).toArray 59)
      have hrg2 := hrg1.kept (World.grownBy_alloc w1 (.cells (arrC a).toArray 59) none) (by simp) (by simp)
      have hnx1 := (hnx.grown hgr hnx.size (fun j hj => by cases hj; exact Nat.le_succ _)).alloc (by omega) (.cells (arrC a).toArray 59)
      have hA := ArrW.made w1 a
      have hg4 := OwnE.below hg hnx1 hbg
      have e6 : (w1.alloc (.cells (arrC a).toArray 59)).heap.size = w1.heap.size + 1 := by simp
      have HAC := Lib.hid (And.intro hac hc0)
      clear hac hc0 hat hat' hRc hkl hsz
      go_wp2_with (first
        | (refine wpList_store_new rfl 59 _ _ rfl _ (arrC a).toArray rfl rfl HAI.out HA7.out HA1.out ?_)
        | (at_range; refine wpList_range_own _ rfl _ 50 rfl 59 3 Try.keyE Try.underlying50 _ bg ng _ rfl hg4 ?_; intro w5 hrg0 hg0 hs0)
        | go_in)
      go_frame
      rw [e6] at hrg0 hs0 ⊢
      generalize (fun z => left z && !z.sameKey (litE a)) = left1 at hseen1 hrg2
      have hA0 := hA.grown hg0 (by simp)
      have hout0 := hout1.kept hg0 (by simp)
      have hrg3 := hrg2.kept hg0 (by simp) (by simp)
      have hnx3 := hnx1.grown hg0 hnx1.size (fun j hj => by cases hj)
      clear hA hout1 hrg2 hnx1 hg4 hg0
      go_loopw [9] (fun _ w6 => ∃ (left2 : Lit → Bool) (cnt2 : Nat) (L2 : TermL) (D2 : DataW Unit) (n2 : Nat), w6.ranges Try.prog 59 (plainElem Try.prog 3) bg (w1.heap.size + 1) ng Dg left2 cnt2 ∧ Seen (val T) left2 L2 ∧ L2.length + cnt2 ≤ ng ∧
          OwnE w6 w.heap.size n2 D2 ∧ n2 ≤ (prodT L T ++ rowT (a, c) L2).length ∧ HoldsF D2 (val (prodT L T ++ rowT (a, c) L2)) ∧ ArrW w6 w1.heap.size a ∧
          w6.ranges Try.prog 59 (plainElem Try.prog 3) bf (w.heap.size + 1) nf Df left1 cnt1 ∧ Below w.heap.size w w6)
        (fun _ w6 => w6.rangeLeft bg (w1.heap.size + 1))
      case atStart =>
        exact ⟨_, _, [], D, n, hrg0, Seen.start HHG.out, by simpa using hg.size_le, hout0, by simpa [rowT] using hnl, by simpa [rowT] using hD, hA0, hrg3, hnx3⟩
      case round =>
        obtain ⟨left2, cnt2, L2, D2, n2, hrgB, hseen2, hcs2, hout2, hnl2, hD2, hA2, hrgA, hnx2⟩ := hrel
        clear hrg0 hs0 hA0 hout0 hrg3 hnx3 hD hout hnx
        obtain ⟨w6, rfl⟩ : ∃ w6, w6 = wr := ⟨_, rfl⟩
        go_wp2_with (first
          | (at_next; refine wpList_next_ranges _ rfl _ rfl 59 Try.keyE _ arrV (Value.int .i64) Try.invE Try.invI bg (w1.heap.size + 1) ng _ _ _ rfl hrgB ?_ ?_)
          | go_in)
        · intro hc0 hl0
          have hvT : ∀ e, val L2 e = val T e := fun e => hseen2.done hl0 (fun e he => hT7.zero e he) e
          have hperm : L2.Perm T := hseen2.clean.perm hTC hvT
          have hll := hperm.length_eq
          go_wp2_with fail
          go_roundw
          case rel =>
            refine ⟨left1, cnt1, L ++ [(a, c)], D2, n2, hrgA, hseen1, by rw [List.length_append, List.length_singleton]; omega, hout2, ?_, ?_, hnx2⟩
            · rw [prodT_snoc]
              simp only [List.length_append, rowT, List.length_map] at hnl2 ⊢
              omega
            · have : val (prodT L T ++ rowT (a, c) L2) = val (prodT (L ++ [(a, c)]) T) := funext fun e => by
                rw [prodT_snoc, val_append, val_append, rowT, rowT, val_perm (hperm.map _)]
              rw [← this]; exact hD2
          case measure => rw [hrgA.left_eq, hrg.left_eq]; exact hlt
        · intro b d kl y yp w7 cnt3 hkl hlk2 hRc hat hrg7 hlt7 hgr7 hsz7 hen7
          obtain ⟨hb7, rfl, hat'⟩ := Try.entryE hkl hRc hat
          obtain ⟨hbd, hd0, hbn, hseen3⟩ := hseen2.step HHG.out hb7 hlk2 hat'
          have hsb : Sml b := HTS.out b (by rw [hbd]; exact hd0)
          generalize (fun z => left2 z && !z.sameKey (litE b)) = left3 at hseen3 hrg7
          have HBI := Lib.hid (arr_info hb7)
          have HB1 := Lib.hid (arr_one b)
          have HB7 := Lib.hid (show 7 = (arrC b).toArray.size by simp [arrC, hb7.1])
          have hw6 := hnx2.size
          have hrl := hrgB.lt
          have hw7 := hgr7.size
          have hmul := mul_big (k := c) (c := d) (by rw [← HAC.out.1]; exact HSB.out a) (by rw [← hbd]; exact HTB.out b)
          have hwm : IntKind.i64.wrap (c * d) = c * d := IntWalk.i64_in _ (by omega)
          have HBD := Lib.hid (And.intro hmul (And.intro hbd hd0))
          have hA7 := (hA2.grown hgr7 (by simp)).alloc (.cells (arrC b).toArray 59)
          have hout7 := (hout2.kept hgr7 (by simp; omega)).alloc (.cells (arrC b).toArray 59)
          have hrgA7 := (hrgA.kept hgr7 (by simp; omega) (by simp; omega)).kept (World.grownBy_alloc w7 (.cells (arrC b).toArray 59) none) (by simp) (by simp)
          have hrgB7 := hrg7.kept (World.grownBy_alloc w7 (.cells (arrC b).toArray 59) none) (by simp) (by simp)
          have hnx7 := (hnx2.grown hgr7 hnx2.size (fun j hj => by cases hj; omega)).alloc (by omega) (.cells (arrC b).toArray 59)
          have hB := ArrW.made w7 b
          have e8 : (w7.alloc (.cells (arrC b).toArray 59)).heap.size = w7.heap.size + 1 := by simp
          have HRA := Lib.hid hA7.range
          have HE8 := Lib.hid e8.symm
          clear hmul hbd hd0 hat hat' hRc hkl hsz7 e8
          go_wp2_with (first
            | (refine wpList_store_new rfl 59 _ _ rfl _ (arrC b).toArray rfl rfl HBI.out HB7.out HB1.out ?_)
            | (refine wpList_load_mid rfl 59 _ rfl w1.heap.size 0 rfl (arrC a) _ HRA.out Try.underlying59 rfl HAI.out ?_)
            | (refine wpList_store_newG rfl 59 _ _ rfl _ HE8.out _ (arrC a).toArray rfl rfl HAI.out HA7.out HA1.out ?_)
            | go_in)
          have hE8 : ArrW ((w7.alloc (.cells (arrC b).toArray 59)).alloc (.cells (arrC a).toArray 59)) (w7.heap.size + 1) a := by rw [HE8.out]; exact ArrW.made _ a
          have hA8 := hA7.alloc (.cells (arrC a).toArray 59)
          have hB8 := hB.alloc (.cells (arrC a).toArray 59)
          have hout8 := hout7.alloc (.cells (arrC a).toArray 59)
          have hrgA8 := hrgA7.kept (World.grownBy_alloc _ (.cells (arrC a).toArray 59) none) (by simp) (by simp)
          have hrgB8 := hrgB7.kept (World.grownBy_alloc _ (.cells (arrC a).toArray 59) none) (by simp) (by simp)
          have hnx8 := hnx7.alloc (by rw [← HE8.out]; omega) (.cells (arrC a).toArray 59)
          have hnew : w7.heap.size + 1 < ((w7.alloc (.cells (arrC b).toArray 59)).alloc (.cells (arrC a).toArray 59)).heap.size := hE8.lt
          clear hA7 hB hout7 hrgA7 hrgB7 hnx7 HRA hA2 hout2 hnx2 hrgA
          generalize ((w7.alloc (.cells (arrC b).toArray 59)).alloc (.cells (arrC a).toArray 59)) = W8 at *
          go_loopw [28] (fun iv w9 => ∃ (i : Nat), i ≤ 7 ∧ iv = .int .i64 i ∧ ArrW w9 (w7.heap.size + 1) (addTo a b i) ∧ W8.grownBy w9 (some (w7.heap.size + 1))) (fun iv _ => 7 - (intOf iv).toNat)
          case atStart => exact ⟨0, by omega, rfl, by rw [addTo_zero]; exact hE8, rfl, rfl, rfl, Nat.le_refl _, fun _ _ _ => rfl⟩
          case round =>
            obtain ⟨i, hi7, rfl, hE9, hg9⟩ := hrel
            obtain ⟨w9, rfl⟩ : ∃ w9, w9 = wr := ⟨_, rfl⟩
            by_cases hi : i < 7
            · have hB9 := hB8.grown hg9 (by simp)
              have hcx := hE9.cell (i := i) (by rw [addTo_len ha7.1 hb7.1]; exact hi)
              have hcy := hB9.cell (i := i) (by rw [hb7.1]; exact hi)
              have hfx := hE9.free i
              have hset := hE9.set (i := i) (by rw [addTo_len ha7.1 hb7.1]; exact hi) (a.getD i 0 + b.getD i 0)
              rw [addTo_step ha7.1 hb7.1 hi] at hset
              rw [addTo_at ha7.1 hb7.1 hi] at hcx
              have h1 := sml_at hsa (i := i) (by rw [ha7.1]; exact hi)
              have h2 := sml_at hsb (i := i) (by rw [hb7.1]; exact hi)
              obtain ⟨x, hx⟩ : ∃ x, x = a.getD i 0 := ⟨_, rfl⟩
              obtain ⟨y, hy⟩ : ∃ y, y = b.getD i 0 := ⟨_, rfl⟩
              rw [← hx] at hcx hset h1
              rw [← hy] at hcy hset h2
              have hxy : IntKind.i64.wrap (x + y) = x + y := IntWalk.i64_in _ (by omega)
              have hg9' := hg9.andThen (grown_setCell w9 ⟨w7.heap.size + 1, i, none⟩ (.int .i64 (x + y))) (fun j hj => .inr hj)
              have hg10 : W8.grownBy (w9.setCell ⟨w7.heap.size + 1, i, none⟩ (.int .i64 (x + y))).drew (some (w7.heap.size + 1)) := ⟨hg9'.os, hg9'.tape, hg9'.output, hg9'.size, hg9'.block⟩
              clear hg9'
              have hi0 : (0 : Int) ≤ (i : Int) := Int.natCast_nonneg _
              have hi1 : (i : Int) < 7 := by omega
              have HG10 := Lib.hid hg10
              have HSET := Lib.hid hset
              have HD2 := Lib.hid hD2
              clear hx hy h1 h2 hE9 hg9 hset hg10 hB9 hE8 hA8 hB8 hout8 hrgA8 hrgB8 hnx8 hen hen7 hgr hgr7 hD2
              go_wp2_with fail
              go_region
              all_goals
                go_wp2_with fail
                go_roundw
                case rel => exact ⟨i + 1, by omega, by go_num, HSET.out.drew, HG10.out⟩
                case measure => simp [intOf]; omega
            · obtain rfl : i = 7 := by omega
              rw [addTo_all ha7.1 hb7.1] at hE9
              have hab7 := addE_E7 ha7 hb7 hsa hsb
              have hR10 := Lib.hid hE9.range
              have HIN := Lib.hid (show (Try.prog.info? 59).map (·.size) = some (arrC (addE a b)).length by simpa using arr_info hab7)
              have hout9 := hout8.kept hg9 (by simp; omega)
              have hL5 : L.length ≤ 600 := by omega
              have hL2 : L2.length ≤ 600 := by omega
              have hlen : (prodT L T ++ rowT (a, c) L2).length ≤ 360600 := by
                rw [List.length_append, prodT_len, rowT, List.length_map]
                have := Nat.mul_le_mul hL5 hT6
                omega
              have hpb := prod_bnd (hseen.crow HSB.out) HTR.out (hseen2.crow HTB.out) (p := (a, c)) (by show -1000000 ≤ c ∧ c ≤ 1000000; rw [← HAC.out.1]; exact HSB.out a) hL5 hT6 hL2 (addE a b)
              have hcb : -9223372036854775808 ≤ val (prodT L T ++ rowT (a, c) L2) (addE a b) + c * d ∧ val (prodT L T ++ rowT (a, c) L2) (addE a b) + c * d ≤ 9223372036854775807 := by
                have := HBD.out.1
                omega
              have HCB := Lib.hid hcb
              clear hpb hcb hE9
              go_wp2_with (first
                | (refine wpList_load_mid rfl 59 _ rfl (w7.heap.size + 1) 0 rfl (arrC (addE a b)) _ hR10.out Try.underlying59 rfl HIN.out ?_)
                | (go_at_call 39; refine (add_c w.heap.size n2 D2 (val (prodT L T ++ rowT (a, c) L2)) (addE a b) (c * d) _ hout9 hD2 hab7 (by omega) HCB.out).mono ?_; rintro e w3 ⟨rfl, ⟨D', hout3, hD3⟩, hg3⟩)
                | go_in)
              go_roundw
              case rel =>
                refine ⟨left3, cnt3, L2 ++ [(b, d)], D', n2 + 1, (hrgB8.kept hg9 (by simp; omega) (by simp; omega)).kept hg3 (by simp; omega) (by simp; omega), hseen3, by rw [List.length_append, List.length_singleton]; omega, hout3, ?_, ?_,
                  (hA8.grown hg9 (by simp; omega)).grown hg3 (by simp; omega), (hrgA8.kept hg9 (by simp; omega) (by simp; omega)).kept hg3 (by simp; omega) (by simp), ?_⟩
                · simp only [List.length_append, rowT, List.length_map, List.length_singleton] at hnl2 ⊢
                  omega
                · rw [val_snoc, List.append_assoc] at hD3
                  have : rowT (a, c) (L2 ++ [(b, d)]) = rowT (a, c) L2 ++ [(addE a b, c * d)] := by simp [rowT]
                  rw [this]; exact hD3
                · have hnx9 := hnx8.grown hg9 hnx8.size (fun j hj => by cases hj; omega)
                  exact hnx9.grown hg3 hnx9.size (fun j hj => by cases hj; exact Nat.le_refl _)
              case measure =>
                rw [((hrgB8.kept hg9 (by simp; omega) (by simp; omega)).kept hg3 (by simp; omega) (by simp; omega)).left_eq, hrgB.left_eq]; exact hlt7

end Go.Proofs.Ytoioiippdchgmaa
