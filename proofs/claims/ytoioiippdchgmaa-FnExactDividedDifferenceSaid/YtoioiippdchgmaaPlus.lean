/-
  plus: one map of terms and k times another one.
-/
import Derived.Test.YtoioiippdchgmaaPolyV
namespace Go.Proofs.Ytoioiippdchgmaa
open Go.RowKit Go.Maps
set_option linter.unusedVariables false

theorem wpList_store_new {P : Program} {w : World} {ops : Array Oper} {rest : List Oper} {o : Oper} {a : Act} {Q : Exit → Act → World → Prop} (hg : o.guard = none) (ty : TypeId) (x y : Operand) (ho : o.op = .store ty x y) (c c' : Array Value)
    (hx : a.eval x = .pointer (some ⟨w.heap.size, 0, none⟩)) (hy : a.eval y = .agg c') (hi : (P.info? ty).map (·.size) = some c'.size) (hs : c.size = c'.size) (h1 : c'.all (·.oneCell') = true)
    (h : wpList P ops Q rest (a.put o.dst undef) (w.alloc (.cells c' ty))) : wpList P ops Q (o :: rest) a (w.alloc (.cells c ty)) :=
  wpList_plain hg fun K hK => by
    unfold Oper.wp execOp
    simp only [ho, hx, hy, Instr.storeAt, Instr.sureAddr, Sem.run_bind, Sem.run_pure, Result.andThen_ok, run_storeVar_new w ty c c' hi hs h1]
    exact hK _ _ h
theorem OwnE.below {w w' : World} {b n B : Nat} {D : DataW Unit} (h : OwnE w b n D) (hb : Below B w w') (hB : b < B) : OwnE w' b n D := by
  obtain ⟨es, clock, h1, r⟩ := h
  have hlt := (Array.getElem?_eq_some_iff.1 h1).1
  exact ⟨es, clock, (hb.block b hB).trans h1, r⟩
theorem Try.invE (key : Value) (kl : Lit) (h : keyOf Try.prog 59 key = some kl) : ∃ x, key = arrV x := by
  obtain ⟨l, _, e⟩ := Try.keyE_inv h
  exact ⟨l, e⟩
theorem Try.invI (v : Value) (y : DataW Unit × List MemPlace) (h : plainElem Try.prog 3 v = some y) : ∃ c, v = .int .i64 c := by
  obtain ⟨c, rfl, _⟩ := plainElem_int_inv Try.underlying3 h
  exact ⟨c, rfl⟩
/-- What a step over such a map hands out. -/
theorem Try.entryE {x : List Int} {c : Int} {kl : Lit} {y : DataW Unit} {yp : List MemPlace} {D : DataW Unit} (hk : keyOf Try.prog 59 (arrV x) = some kl) (hR : plainElem Try.prog 3 (.int .i64 c) = some (y, yp)) (hat : ∀ zd, D.atKey kl zd = y) :
    E7 x ∧ kl = litE x ∧ ∀ zd, D.atKey (litE x) zd = .lit (.int .i64 c) := by
  obtain ⟨l, hl, e⟩ := Try.keyE_inv hk
  obtain rfl := arrV_inj e
  have e2 := Try.keyE_mk hl
  rw [hk] at e2
  obtain rfl := Option.some.inj e2
  obtain ⟨c', e3, e4, _⟩ := plainElem_int_inv Try.underlying3 hR
  cases e3
  cases e4
  exact ⟨hl, rfl, hat⟩
theorem All7.snoc {l : TermL} {x : List Int} {c : Int} (h : All7 l) (hx : E7 x) : All7 (l ++ [(x, c)]) := fun p hp => by
  rcases List.mem_append.1 hp with hp | hp
  · exact h p hp
  · obtain rfl := List.mem_singleton.1 hp
    exact hx
theorem Seen.all7 {F : List Int → Int} {left : Lit → Bool} {L : TermL} (h : Seen F left L) : All7 L := fun p hp => (h.keys p hp).1
theorem Seen.bnd {F : List Int → Int} {left : Lit → Bool} {L : TermL} {B : Int} (h : Seen F left L) (hB : 0 ≤ B) (hF : ∀ e, -B ≤ F e ∧ F e ≤ B) (e : List Int) : -B ≤ val L e ∧ val L e ≤ B := by
  by_cases hm : e ∈ L.map (·.1)
  · obtain ⟨p, hp, rfl⟩ := List.mem_map.1 hm
    rw [val_of_mem h.nodup hp, ← (h.keys p hp).2.1]; exact hF _
  · rw [val_zero_of_not_mem hm]; omega
theorem arr_info {x : List Int} (hx : E7 x) : (Try.prog.info? 59).map (·.size) = some (arrC x).toArray.size := by
  rw [show (arrC x).toArray.size = 7 by simp [arrC, hx.1]]; kernel_rfl
theorem arr_one (x : List Int) : (arrC x).toArray.all (·.oneCell') = true := all_oneCell_toArray (fun v hv => by
  obtain ⟨u, _, rfl⟩ := List.mem_map.1 hv
  rfl)
theorem arr_range (w : World) (x : List Int) : (w.alloc (.cells (arrC x).toArray 59)).rangeAt w.heap.size 0 (arrC x) := by
  have := World.rangeAt_of_block (heap_alloc_last w (.cells (arrC x).toArray 59)) 0 (arrC x).length
  simpa using this

theorem mul_kc {k c : Int} (hk : -1000 ≤ k ∧ k ≤ 1000) (hc : -1000000 ≤ c ∧ c ≤ 1000000) : -1000000000 ≤ k * c ∧ k * c ≤ 1000000000 := by
  have h1 : (k * c).natAbs ≤ 1000 * 1000000 := by rw [Int.natAbs_mul]; exact Nat.mul_le_mul (by omega) (by omega)
  omega

set_option maxRecDepth 100000 in
set_option maxHeartbeats 1600000 in
theorem plus_c (bf nf : Nat) (Df : DataW Unit) (S : TermL) (k : Int) (bg ng : Nat) (Dg : DataW Unit) (T : TermL) (w : World) (hf : OwnE w bf nf Df) (hF : HoldsF Df (val S)) (hS7 : All7 S) (hg : OwnE w bg ng Dg) (hG : HoldsF Dg (val T)) (hT7 : All7 T)
    (hnf : nf ≤ 1000000) (hng : ng ≤ 1000000) (hSb : ∀ e, -1000000 ≤ val S e ∧ val S e ≤ 1000000) (hTb : ∀ e, -1000000 ≤ val T e ∧ val T e ≤ 1000000) (hk : -1000 ≤ k ∧ k ≤ 1000) :
    Calls Try.prog 29 #[.map (some bf), .int .i64 k, .map (some bg)] w fun e' w' => ∃ D n, e' = .returned (.map (some w.heap.size)) ∧ OwnE w' w.heap.size n D ∧ n ≤ 2000000 ∧ HoldsF D (val (S ++ T.map (fun p => (p.1, k * p.2)))) ∧ Below w.heap.size w w' := by
  have hmm := @run_makeMap Try.prog
  have hbf := hf.lt
  have hbg := hg.lt
  have e1 : (w.alloc (.map #[] 0)).heap.size = w.heap.size + 1 := by simp
  have HSB := Lib.hid hSb
  have HTB := Lib.hid hTb
  have HHF := Lib.hid hF
  have HHG := Lib.hid hG
  clear hSb hTb hF hG
  go_enter Try.func29, Try.ntmps29
  go_wp2_with (first
    | (at_range; refine wpList_range_own _ rfl _ 50 rfl 59 3 Try.keyE Try.underlying50 _ bf nf _ rfl (hf.alloc _) ?_; intro w0 hrg0 hg0 hs0)
    | go_in)
  go_frame
  rw [e1] at hrg0 hs0 ⊢
  go_loopw [9] (fun _ wr => ∃ (left : Lit → Bool) (cnt : Nat) (L : TermL) (D : DataW Unit) (n : Nat), wr.ranges Try.prog 59 (plainElem Try.prog 3) bf (w.heap.size + 1) nf Df left cnt ∧ Seen (val S) left L ∧ L.length + cnt ≤ nf ∧
      OwnE wr w.heap.size n D ∧ n ≤ L.length ∧ HoldsF D (val L) ∧ Below w.heap.size w wr)
    (fun _ wr => wr.rangeLeft bf (w.heap.size + 1))
  case atStart =>
    exact ⟨_, _, [], .map [], 0, hrg0, Seen.start HHF.out, by simpa using hf.size_le, ((World.ownsMap_made _ _ _ _).kept hg0 (by simp)), Nat.le_refl _, HoldsF.empty, ((Below.refl _ _).alloc (Nat.le_refl _) _).grown hg0 (by simp) (fun j hj => by cases hj)⟩
  case round =>
    obtain ⟨left, cnt, L, D, n, hrg, hseen, hcs, hout, hnl, hD, hnx⟩ := hrel
    clear hrg0 hg0 hs0
    go_wp2_with (first
      | (at_next; refine wpList_next_ranges _ rfl _ rfl 59 Try.keyE _ arrV (Value.int .i64) Try.invE Try.invI bf (w.heap.size + 1) nf _ _ _ rfl hrg ?_ ?_)
      | go_in)
    · intro hc0 hl0
      have hvS : ∀ e, val L e = val S e := fun e => hseen.done hl0 (fun e he => hS7.zero e he) e
      have hg4 := OwnE.below hg hnx hbg
      have hLb := fun e => hseen.bnd (by decide) HSB.out e
      have HLB := Lib.hid hLb
      have HVS := Lib.hid hvS
      have hw4 := hnx.size
      have hne1 : w.heap.size < wr.heap.size := hout.lt
      clear hvS hLb hl0 hrg hc0
      obtain ⟨w4, rfl⟩ : ∃ w4, w4 = wr := ⟨_, rfl⟩
      go_wp2_with (first
        | (at_range; refine wpList_range_own _ rfl _ 50 rfl 59 3 Try.keyE Try.underlying50 _ bg ng _ rfl hg4 ?_; intro w5 hrg0 hg0 hs0)
        | go_in)
      go_frame
      go_loopw [11] (fun _ w6 => ∃ (left : Lit → Bool) (cnt : Nat) (L2 : TermL) (D2 : DataW Unit) (n2 : Nat), w6.ranges Try.prog 59 (plainElem Try.prog 3) bg w4.heap.size ng Dg left cnt ∧ Seen (val T) left L2 ∧ L2.length + cnt ≤ ng ∧
          OwnE w6 w.heap.size n2 D2 ∧ n2 ≤ n + L2.length ∧ HoldsF D2 (val (L ++ L2.map (fun p => (p.1, k * p.2)))) ∧ Below w.heap.size w w6)
        (fun _ w6 => w6.rangeLeft bg w4.heap.size)
      case atStart =>
        exact ⟨_, _, [], D, n, hrg0, Seen.start HHG.out, by simpa using hg.size_le, hout.kept hg0 (by simp), by simp, by simpa using hD, hnx.grown hg0 hnx.size (fun j hj => by cases hj)⟩
      case round =>
        obtain ⟨left2, cnt2, L2, D2, n2, hrg, hseen2, hcs2, hout2, hnl2, hD2, hnx2⟩ := hrel
        clear hrg0 hg0 hs0
        go_wp2_with (first
          | (at_next; refine wpList_next_ranges _ rfl _ rfl 59 Try.keyE _ arrV (Value.int .i64) Try.invE Try.invI bg w4.heap.size ng _ _ _ rfl hrg ?_ ?_)
          | go_in)
        · intro hc0 hl0
          have hvT : ∀ e, val L2 e = val T e := fun e => hseen2.done hl0 (fun e he => hT7.zero e he) e
          go_wp2_with fail
          go_ret
          refine ⟨D2, n2, rfl, hout2, by omega, ?_, hnx2⟩
          have : val (L ++ L2.map (fun p => (p.1, k * p.2))) = val (S ++ T.map (fun p => (p.1, k * p.2))) := by
            funext e
            rw [val_append, val_append, val_scale, val_scale, HVS.out, hvT]
          rw [← this]
          exact hD2
        · intro x c kl y yp w1 cnt1 hkl hlk hRc hat hrg1 hlt hgr hsz hen
          obtain ⟨hx7, rfl, hat'⟩ := Try.entryE hkl hRc hat
          obtain ⟨hxc, hc0, hxn, hseen1⟩ := hseen2.step HHG.out hx7 hlk hat'
          have HAI := Lib.hid (arr_info hx7)
          have HA1 := Lib.hid (arr_one x)
          have HS7 := Lib.hid (show 7 = (arrC x).toArray.size by simp [arrC, hx7.1])
          have HAR := Lib.hid (arr_range w1 x)
          have hwl := hnx2.size
          have hlt6 := hrg.lt
          have hout1 := (hout2.kept hgr (by simp; omega)).alloc (.cells (arrC x).toArray 59)
          have hrg2 := hrg1.kept (World.grownBy_alloc w1 (.cells (arrC x).toArray 59) none) (by simp) (by simp)
          have hnx1 := (hnx2.grown hgr hnx2.size (fun j hj => by cases hj; exact Nat.le_of_lt hne1)).alloc (by omega) (.cells (arrC x).toArray 59)
          have hkb : -1000000000 ≤ k * c ∧ k * c ≤ 1000000000 := by
            rw [← hxc]; exact mul_kc hk (HTB.out x)
          have hcb : -9223372036854775808 ≤ val (L ++ L2.map (fun p => (p.1, k * p.2))) x + k * c ∧ val (L ++ L2.map (fun p => (p.1, k * p.2))) x + k * c ≤ 9223372036854775807 := by
            rw [val_append, val_scale, val_zero_of_not_mem hxn]
            have := HLB.out x
            omega
          have hwk : IntKind.i64.wrap (k * c) = k * c := IntWalk.i64_in _ (by omega)
          have HH := Lib.hid (And.intro hcb (And.intro hxc hc0))
          clear hcb hxc hc0 hat hat' hRc hkl hsz hkb
          go_wp2_with (first
            | (refine wpList_store_new rfl 59 _ _ rfl _ (arrC x).toArray rfl rfl HAI.out HS7.out HA1.out ?_)
            | (refine wpList_load_mid rfl 59 _ rfl w1.heap.size 0 rfl (arrC x) _ HAR.out Try.underlying59 rfl HAI.out ?_)
            | (go_at_call 39; refine (add_c w.heap.size n2 D2 (val (L ++ L2.map (fun p => (p.1, k * p.2)))) x (k * c) _ hout1 hD2 hx7 (by omega) HH.out.1).mono ?_; rintro e w3 ⟨rfl, ⟨D', hout3, hD3⟩, hg3⟩)
            | go_in)
          go_roundw
          case rel =>
            refine ⟨_, cnt1, L2 ++ [(x, c)], D', n2 + 1, hrg2.kept hg3 (fun e => by have := Option.some.inj e; omega) (fun e => by have := Option.some.inj e; omega), hseen1, by rw [List.length_append, List.length_singleton]; omega, hout3, by rw [List.length_append, List.length_singleton]; omega,
              ?_, hnx1.grown hg3 hnx1.size (fun j hj => by cases hj; exact Nat.le_refl _)⟩
            rw [val_snoc, List.append_assoc] at hD3
            rw [List.map_append]
            exact hD3
          case measure => rw [(hrg2.kept hg3 (fun e => by have := Option.some.inj e; omega) (fun e => by have := Option.some.inj e; omega)).left_eq, hrg.left_eq]; exact hlt
    · intro x c kl y yp w1 cnt1 hkl hlk hRc hat hrg1 hlt hgr hsz hen
      obtain ⟨hx7, rfl, hat'⟩ := Try.entryE hkl hRc hat
      obtain ⟨hxc, hc0, hxn, hseen1⟩ := hseen.step HHF.out hx7 hlk hat'
      have HAI := Lib.hid (arr_info hx7)
      have HA1 := Lib.hid (arr_one x)
      have HS7 := Lib.hid (show 7 = (arrC x).toArray.size by simp [arrC, hx7.1])
      have HAR := Lib.hid (arr_range w1 x)
      have hwl := hnx.size
      have hout1 := (hout.kept hgr (by simp)).alloc (.cells (arrC x).toArray 59)
      have hrg2 := hrg1.kept (World.grownBy_alloc w1 (.cells (arrC x).toArray 59) none) (by simp) (by simp)
      have hnx1 := (hnx.grown hgr hnx.size (fun j hj => by cases hj; exact Nat.le_succ _)).alloc (by omega) (.cells (arrC x).toArray 59)
      have hcb : -9223372036854775808 ≤ val L x + c ∧ val L x + c ≤ 9223372036854775807 := by
        rw [val_zero_of_not_mem hxn, ← hxc]
        have := HSB.out x
        omega
      have HH := Lib.hid (And.intro hcb (And.intro hxc hc0))
      clear hcb hxc hc0 hat hat' hRc hkl hsz
      go_wp2_with (first
        | (refine wpList_store_new rfl 59 _ _ rfl _ (arrC x).toArray rfl rfl HAI.out HS7.out HA1.out ?_)
        | (refine wpList_load_mid rfl 59 _ rfl w1.heap.size 0 rfl (arrC x) _ HAR.out Try.underlying59 rfl HAI.out ?_)
        | (go_at_call 39; refine (add_c w.heap.size n D (val L) x c _ hout1 hD hx7 (by omega) HH.out.1).mono ?_; rintro e w3 ⟨rfl, ⟨D', hout3, hD3⟩, hg3⟩)
        | go_in)
      go_roundw
      case rel =>
        exact ⟨_, cnt1, L ++ [(x, c)], D', n + 1, hrg2.kept hg3 (fun e => by have := Option.some.inj e; omega) (fun e => by have := Option.some.inj e; omega), hseen1, by rw [List.length_append, List.length_singleton]; omega, hout3, by rw [List.length_append, List.length_singleton]; omega,
          by rw [val_snoc] at hD3; exact hD3, hnx1.grown hg3 hnx1.size (fun j hj => by cases hj; exact Nat.le_refl _)⟩
      case measure => rw [(hrg2.kept hg3 (fun e => by have := Option.some.inj e; omega) (fun e => by have := Option.some.inj e; omega)).left_eq, hrg.left_eq]; exact hlt

end Go.Proofs.Ytoioiippdchgmaa
