/-
  FormatInt of the reference: the digits from the last one on, then turned round.
-/
import Derived.Test.YthgigbihpcelpaaDoorFmt
import Derived.Test.YthgigbihpcelpaaDoorOwn
namespace Go.Proofs.YthgigbihpcelpaaDoor
open Go.RowKit
set_option linter.unusedVariables false

theorem Tryd.infoU : (Tryd.prog.info? 5).map (fun i => (i.zero, i.size, i.bytes)) = some (some (.int .u8 0), 1, 1) := by kernel_rfl

/-- What is left to be written: nothing for 0. -/
def restF (r : Nat) : List UInt8 := if r = 0 then [] else fmtNat r
theorem fmtNat_rest {r : Nat} (h : r < 100000000000000000000) : fmtNat r = restF (r / 10) ++ [dig (r % 10)] := by
  by_cases hr : r < 10
  · rw [fmtNat_small hr, restF, if_pos (by omega), Nat.mod_eq_of_lt hr]; rfl
  · rw [fmtNat_big hr h, restF, if_neg (by omega)]

/-- The digits ds are written, the last one first; r is left. -/
def DigUp (m r : Nat) (ds : List UInt8) : Prop := r = m / 10 ^ ds.length ∧ (ds = [] ∨ fmtNat m = restF r ++ ds.reverse)
theorem DigUp.zero (m : Nat) : DigUp m m [] := ⟨by simp, .inl rfl⟩
theorem DigUp.step {m r : Nat} {ds : List UInt8} (h : DigUp m r ds) (hm : m < 100000000000000000000) (hgo : r ≠ 0 ∨ ds = []) :
    DigUp m (r / 10) (ds ++ [dig (r % 10)]) := by
  obtain ⟨h0, h⟩ := h
  refine ⟨by rw [h0, List.length_append, List.length_singleton, Nat.pow_succ, Nat.div_div_eq_div_mul], .inr ?_⟩
  have hr : r < 100000000000000000000 := by rw [h0]; exact Nat.lt_of_le_of_lt (Nat.div_le_self _ _) hm
  rcases h with rfl | h2
  · obtain rfl : r = m := by simpa using h0
    rw [fmtNat_rest hm]; simp
  · rcases hgo with h3 | h3
    · rw [h2, restF, if_neg h3, fmtNat_rest hr]
      simp
    · subst h3
      obtain rfl : r = m := by simpa using h0
      rw [fmtNat_rest hm]; simp
theorem DigUp.done {m : Nat} {ds : List UInt8} (h : DigUp m 0 ds) (hne : ds ≠ []) : fmtNat m = ds.reverse := by
  rcases h.2 with h | h
  · exact absurd h hne
  · simpa [restF] using h
theorem DigUp.short {m r : Nat} {ds : List UInt8} (h : DigUp m r ds) (hm : m < 100000000000000000000) (hgo : r ≠ 0 ∨ ds = []) : ds.length ≤ 19 := by
  rcases hgo with hr | rfl
  · have h1 : 10 ^ ds.length ≤ m := by
      by_cases hc : 10 ^ ds.length ≤ m
      · exact hc
      · exact absurd (by rw [h.1]; exact Nat.div_eq_of_lt (by omega)) hr
    have h2 : 10 ^ ds.length < 10 ^ 20 := Nat.lt_of_le_of_lt h1 hm
    have := (Nat.pow_lt_pow_iff_right (a := 10) (by omega)).1 h2
    omega
  · simp

theorem DigUp.len20 {m r : Nat} {ds : List UInt8} (h : DigUp m r ds) (hm : m < 100000000000000000000) : ds.length ≤ 1000 := by
  rcases h.2 with rfl | h2
  · simp
  · have := congrArg List.length h2
    have h3 := fmtNat_len m
    simp at this
    omega

/-- 1 where nothing is written yet. -/
def lenZ : Value → Nat
  | .slice _ 0 _ => 1
  | _ => 0
theorem lenZ_zero (a : Option Addr) (c : Nat) : lenZ (.slice a 0 c) = 1 := rfl
theorem lenZ_pos {a : Option Addr} {n c : Nat} (h : n ≠ 0) : lenZ (.slice a n c) = 0 := by
  cases n with
  | zero => exact absurd rfl h
  | succ n => rfl
theorem lenZ_le (v : Value) : lenZ v ≤ 1 := by unfold lenZ; split <;> omega

theorem dig_val {d : Int} (h0 : 0 ≤ d) (h : d < 10) : Value.int .u8 (48 + d) = byteV (dig d.toNat) := by
  rw [byteV, dig_nat (by omega)]
  congr 1
  omega

def revU (ds : List UInt8) (j : Nat) : List UInt8 := (ds.reverse).take j
theorem revU_zero (ds : List UInt8) : revU ds 0 = [] := by simp [revU]
theorem revU_len (ds : List UInt8) (j : Nat) : (revU ds j).length ≤ j := by simp [revU]; omega
theorem revU_succ {ds : List UInt8} {j : Nat} {x : UInt8} (hj : j < ds.length) (hx : ds[ds.length - 1 - j]? = some x) : revU ds j ++ [x] = revU ds (j + 1) := by
  rw [revU, revU, List.take_add_one, List.getElem?_reverse hj, hx]; rfl
theorem revU_all (ds : List UInt8) {j : Nat} (h : j = ds.length) : revU ds j = ds.reverse := by
  rw [revU, List.take_of_length_le (by simp; omega)]

set_option maxHeartbeats 1600000 in
theorem sFmt_c (n : Int) (w : World) (h1 : -9223372036854775808 ≤ n) (h2 : n ≤ 9223372036854775807) :
    Calls Tryd.prog 23 #[.int .i64 n] w (GivesS w (strOf (fmtInt n))) := by
  obtain ⟨m, hm⟩ : ∃ m : Nat, m = n.natAbs := ⟨_, rfl⟩
  have hm20 : m < 100000000000000000000 := by omega
  have HM := Lib.hid hm
  go_enter Tryd.func23, Tryd.ntmps23
  go_wp2
  go_loopw [3, 4] (fun v k wr => ∃ (K : Int) (ds : List UInt8), k = .int .i64 K ∧ -9223372036854775808 ≤ K ∧ K ≤ 9223372036854775807 ∧ Hid (n < 0 ↔ K < 0 ∨ (K = 0 ∧ n < 0)) ∧ Hid (DigUp m K.natAbs ds) ∧
      OwnL 5 byteV w.heap.size wr v ds ∧ Below w.heap.size w wr) (fun v k _ => 2 * (intOf k).natAbs + lenZ v)
  case atStart => exact ⟨n, [], rfl, h1, h2, Lib.hid (by omega), Lib.hid (by rw [hm]; exact DigUp.zero _), OwnL.lit _ _ w, (Below.refl _ _).alloc (Nat.le_refl _) _⟩
  case round =>
    obtain ⟨K, ds, rfl, hK1, hK2, hsg, hD, hO, hB⟩ := hrel
    clear hm
    obtain ⟨ao, c, rfl, hdc, hne⟩ := hO.shape
    obtain ⟨d, hd⟩ : ∃ d, d = ds.length := ⟨_, rfl⟩
    rw [← hd] at hO hdc ⊢
    have Hd := Lib.hid hd
    have Hne := Lib.hid hne
    clear hne hd
    have hsz := hB.size
    by_cases hgo : K ≠ 0 ∨ d = 0
    · have hsh : ds.length ≤ 19 := hD.out.short hm20 (by rcases hgo with h | h; exact .inl (by omega); exact .inr (List.eq_nil_of_length_eq_zero (by rw [← Hd.out]; exact h)))
      have hlen : ds.length + 1 ≤ 1099511627776 := by omega
      have Hst := Lib.hid (hD.out.step hm20 (by rcases hgo with h | h; exact .inl (by omega); exact .inr (List.eq_nil_of_length_eq_zero (by rw [← Hd.out]; exact h))))
      have hlz : lenZ (.slice ao d c) ≤ 1 := lenZ_le _
      by_cases hneg : K < 0
      · obtain ⟨q1, q2⟩ := tdiv_facts hneg
        obtain ⟨x, hx⟩ : ∃ x, x = (-K) % 10 := ⟨_, rfl⟩
        obtain ⟨y, hy⟩ : ∃ y, y = (-K) / 10 := ⟨_, rfl⟩
        rw [← hx] at q2
        rw [← hy] at q1
        have HX : Hid (K.natAbs % 10 = x.toNat ∧ K.natAbs / 10 = (-y).natAbs ∧ 0 ≤ x ∧ x < 10 ∧ 0 ≤ y) := Lib.hid (by omega)
        have hx0 : 0 ≤ x := by omega
        have hx1 : x < 10 := by omega
        have hy0 : 0 ≤ y := by omega
        have hy1 : y ≤ 1000000000000000000 := by omega
        have HM2 : Hid (2 * (-y).natAbs < 2 * K.natAbs) := Lib.hid (by omega)
        have hk0 : (K != 0) = true := by simp; omega
        clear hx hy
        by_cases hxz : x = 0
        · subst hxz
          have hdv := dig_val (d := 0) (by omega) (by omega)
          have HV := Lib.hid hdv
          clear hdv
          have q3 : K.tmod 10 = 0 := by rw [q2]; rfl
          clear q2
          go_wp2_with (at_builtin; refine wpList_pushL wr rfl _ _ rfl Tryd.underlying51 Tryd.infoU rfl (by decide) hO HV.out rfl rfl rfl hlen hsz ?_)
          intro v' w1 hO' hb1 _ _
          have hB' := hB.trans hb1
          obtain ⟨ao', c', rfl, _, _⟩ := hO'.shape
          have hz := lenZ_pos (a := ao') (c := c') (n := (ds ++ [dig 0]).length) (by simp)
          clear hO hB hb1
          go_wp2
          go_roundw
          case rel => exact ⟨-y, _, rfl, by omega, by omega, Lib.hid (by have := hsg.out; omega), Lib.hid (by have := Hst.out; rw [HX.out.1, HX.out.2.1] at this; exact this), hO', hB'⟩
          case measure => have := HM2.out; simp [intOf] at *; omega
        · have hdv := dig_val hx0 hx1
          have HV := Lib.hid hdv
          clear hdv
          go_wp2_with (at_builtin; refine wpList_pushL wr rfl _ _ rfl Tryd.underlying51 Tryd.infoU rfl (by decide) hO HV.out rfl rfl rfl hlen hsz ?_)
          intro v' w1 hO' hb1 _ _
          have hB' := hB.trans hb1
          obtain ⟨ao', c', rfl, _, _⟩ := hO'.shape
          have hz := lenZ_pos (a := ao') (c := c') (n := (ds ++ [dig x.toNat]).length) (by simp)
          clear hO hB hb1
          go_wp2
          go_roundw
          case rel => exact ⟨-y, _, rfl, by omega, by omega, Lib.hid (by have := hsg.out; omega), Lib.hid (by have := Hst.out; rw [HX.out.1, HX.out.2.1] at this; exact this), hO', hB'⟩
          case measure => have := HM2.out; simp [intOf] at *; omega
      · have hnn : 0 ≤ K := by omega
        by_cases hK0 : K = 0
        · subst hK0
          have HV : Hid (Value.int .u8 48 = byteV (dig 0)) := rfl
          have hd0 : d = 0 := hgo.resolve_left (by simp)
          subst hd0
          clear hgo
          go_wp2_with (at_builtin; refine wpList_pushL wr rfl _ _ rfl Tryd.underlying51 Tryd.infoU rfl (by decide) hO HV.out rfl rfl rfl hlen hsz ?_)
          intro v' w1 hO' hb1 _ _
          have hB' := hB.trans hb1
          obtain ⟨ao', c', rfl, _, _⟩ := hO'.shape
          have hz := lenZ_pos (a := ao') (c := c') (n := (ds ++ [dig 0]).length) (by simp)
          clear hO hB hb1
          go_wp2
          go_roundw
          case rel => exact ⟨0, _, rfl, by omega, by omega, Lib.hid (by have := hsg.out; omega), Lib.hid Hst.out, hO', hB'⟩
          case measure => rw [lenZ_zero]; simp [intOf] at *; omega
        · have hk0 : (K != 0) = true := by simpa using hK0
          have HM2 : Hid (2 * (K / 10).natAbs < 2 * K.natAbs) := Lib.hid (by omega)
          have HV := Lib.hid (dig_val (d := K % 10) (by omega) (by omega))
          clear hgo
          go_wp2_with (at_builtin; refine wpList_pushL wr rfl _ _ rfl Tryd.underlying51 Tryd.infoU rfl (by decide) hO HV.out rfl rfl rfl hlen hsz ?_)
          intro v' w1 hO' hb1 _ _
          have hB' := hB.trans hb1
          obtain ⟨ao', c', rfl, _, _⟩ := hO'.shape
          have hz := lenZ_pos (a := ao') (c := c') (n := (ds ++ [dig (K % 10).toNat]).length) (by simp)
          clear hO hB hb1
          go_wp2
          go_roundw
          case rel => exact ⟨K / 10, _, rfl, by omega, by omega, Lib.hid (by have := hsg.out; omega), Lib.hid (by have := Hst.out; rw [show K.natAbs % 10 = (K % 10).toNat by omega, show K.natAbs / 10 = (K / 10).natAbs by omega] at this; exact this), hO', hB'⟩
          case measure => have := HM2.out; simp [intOf] at *; omega
    · obtain ⟨wo, rfl⟩ : ∃ wo : World, wo = wr := ⟨_, rfl⟩
      have hK0 : K = 0 := by omega
      subst hK0
      have hd0 : ((d : Int) == 0) = false := by simp; omega
      obtain ⟨g, rfl⟩ := Hne.out (by intro e; apply hgo; right; rw [Hd.out, e]; rfl)
      have hgw := (hO.block g rfl).2
      have HDN := Lib.hid (hD.out.done (by intro e; apply hgo; right; rw [Hd.out, e]; rfl))
      have hdne : Hid (ds ≠ []) := Lib.hid (by intro e; apply hgo; right; rw [Hd.out, e]; rfl)
      have hd19 : d ≤ 1000 := by rw [Hd.out]; exact hD.out.len20 hm20
      have hal := hB.alloc hsz (Obj.cells #[] 5)
      have hDa := hO.below ((Below.refl wo.heap.size wo).alloc (Nat.le_refl _) (Obj.cells #[] 5)) (Nat.le_refl _)
      have hLa := OwnL.lit 5 byteV wo
      clear hO
      by_cases hn : n < 0
      · have HFIN : Hid (strOf ([45] ++ ds.reverse) = strOf (fmtInt n)) := Lib.hid (by rw [fmtInt, if_pos hn, ← HM.out, HDN.out]; rfl)
        have hB0 := hB
        go_wp2_with (at_builtin; refine wpList_pushLG (wo.alloc (.cells #[] 5)) rfl _ _ rfl Tryd.underlying51 Tryd.infoU rfl (by decide) (y := 45) hLa rfl rfl rfl rfl (by simp) (by decide) (by simp) ?_)
        intro v2 w2 hP hb2 _ _
        have hB2 := hal.trans (hb2.mono hsz)
        have hD2 := hDa.apart (B' := wo.heap.size) (fun k h => by cases h; exact hgw) hb2
        have hs2 : wo.heap.size ≤ w2.heap.size := Nat.le_trans (by simp) hb2.size
        clear hal hDa hLa hb2 hB0 hB
        go_wp2
        go_loopw [6, 7] (fun v i wr => ∃ (t : Nat) (I : Int), t ≤ d ∧ i = .int .i64 I ∧ Hid (I = (t : Int) - 1) ∧ OwnL 5 byteV wo.heap.size wr v ([45] ++ revU ds (d - t)) ∧
            OwnL 5 byteV w.heap.size wr (.slice (some ⟨g, 0, none⟩) d c) ds ∧ wo.heap.size ≤ wr.heap.size ∧ Below w.heap.size w wr) (fun _ i _ => (intOf i + 1).toNat)
        case atStart => exact ⟨d, _, Nat.le_refl _, rfl, Lib.hid rfl, by rw [Nat.sub_self, revU_zero]; exact hP, hD2, hs2, hB2⟩
        case round =>
          obtain ⟨t, I, ht, rfl, HI, hO2, hD3, hsz3, hB3⟩ := hrel
          clear hP hD2 hs2 hB2
          have hlen : ([45] ++ revU ds (d - t)).length + 1 ≤ 1099511627776 := by have := revU_len ds (d - t); simp only [List.length_append, List.length_cons, List.length_nil]; omega
          cases t with
          | zero =>
            obtain rfl : I = -1 := by have := HI.out; omega
            obtain ⟨n2, hn2⟩ : ∃ n2, n2 = ([45] ++ revU ds (d - 0)).length := ⟨_, rfl⟩
            obtain ⟨ao2, c2, rfl, _, hg2⟩ := hO2.shape
            obtain ⟨g2, rfl⟩ := hg2 (by simp)
            have hcv := run_convert_bytes_back (P := Tryd.prog) wr 51 9 5 ⟨g2, 0, none⟩ c2 ([45] ++ revU ds (d - 0)) Tryd.underlying51 Tryd.underlying5 Tryd.underlying9 (fun j hj => by
              rw [Addr.add_lit, Nat.zero_add]; exact hO2.cellAt (List.getElem?_eq_getElem hj))
            rw [← hn2] at hcv ⊢
            have HF : Hid ((⟨([45] ++ revU ds (d - 0)).toArray⟩ : ByteArray) = strOf (fmtInt n)) := Lib.hid (by
              rw [Nat.sub_zero, revU_all ds (by rw [← Hd.out])]; exact HFIN.out)
            rw [HF.out] at hcv
            clear hn2 hO2 hD3 hlen HF
            go_wp2
            go_ret
            exact ⟨rfl, hB3⟩
          | succ s =>
            obtain rfl : I = (s : Int) := by have := HI.out; omega
            obtain ⟨x, hx⟩ : ∃ x, ds[s]? = some x := ⟨ds[s]'(by rw [← Hd.out]; omega), List.getElem?_eq_getElem _⟩
            have hcs : wr.cell? ⟨g, s, none⟩ = some (.int .u8 (x.toNat : Int)) := hD3.cellAt hx
            have hlt : (s : Int) < (d : Int) := by omega
            have e : Hid (revU ds (d - (s + 1)) ++ [x] = revU ds (d - s)) := Lib.hid (by
              have := revU_succ (ds := ds) (j := d - (s + 1)) (x := x) (by have := Hd.out; omega) (by rw [← Hd.out, show d - 1 - (d - (s + 1)) = s by omega]; exact hx)
              rw [this]; congr 1; omega)
            clear hx
            go_wp2_with (at_builtin; refine wpList_pushL wr rfl _ _ rfl Tryd.underlying51 Tryd.infoU rfl (by decide) (y := x) hO2 rfl rfl rfl rfl hlen hsz3 ?_)
            intro v' w4 hO' hb1 _ _
            have hB' := hB3.trans (hb1.mono hsz)
            have hD' := hD3.apart (B' := wo.heap.size) (fun k h => by cases h; exact hgw) hb1
            have hs' := Nat.le_trans hsz3 hb1.size
            rw [e.out] at hO'
            clear hO2 hD3 hB3 hb1
            go_wp2
            go_roundw
            case rel => exact ⟨s, _, by omega, rfl, Lib.hid rfl, hO', hD', hs', hB'⟩
            case measure => simp [intOf]
      · have HFIN : Hid (strOf ds.reverse = strOf (fmtInt n)) := Lib.hid (by rw [fmtInt, if_neg hn, ← HM.out, HDN.out])
        have hP := hLa
        have hB2 := hal
        have hD2 := hDa
        have hs2 : wo.heap.size ≤ (wo.alloc (Obj.cells #[] 5)).heap.size := by simp
        clear hal hDa hLa hB
        go_wp2
        go_loopw [6, 7] (fun v i wr => ∃ (t : Nat) (I : Int), t ≤ d ∧ i = .int .i64 I ∧ Hid (I = (t : Int) - 1) ∧ OwnL 5 byteV wo.heap.size wr v (revU ds (d - t)) ∧
            OwnL 5 byteV w.heap.size wr (.slice (some ⟨g, 0, none⟩) d c) ds ∧ wo.heap.size ≤ wr.heap.size ∧ Below w.heap.size w wr) (fun _ i _ => (intOf i + 1).toNat)
        case atStart => exact ⟨d, _, Nat.le_refl _, rfl, Lib.hid rfl, by rw [Nat.sub_self, revU_zero]; exact hP, hD2, hs2, hB2⟩
        case round =>
          obtain ⟨t, I, ht, rfl, HI, hO2, hD3, hsz3, hB3⟩ := hrel
          clear hP hD2 hs2 hB2
          have hlen : (revU ds (d - t)).length + 1 ≤ 1099511627776 := by have := revU_len ds (d - t); omega
          cases t with
          | zero =>
            obtain rfl : I = -1 := by have := HI.out; omega
            obtain ⟨n2, hn2⟩ : ∃ n2, n2 = (revU ds (d - 0)).length := ⟨_, rfl⟩
            obtain ⟨ao2, c2, rfl, _, hg2⟩ := hO2.shape
            obtain ⟨g2, rfl⟩ := hg2 (by rw [Nat.sub_zero, revU_all ds (by rw [← Hd.out])]; simpa using hdne.out)
            have hcv := run_convert_bytes_back (P := Tryd.prog) wr 51 9 5 ⟨g2, 0, none⟩ c2 (revU ds (d - 0)) Tryd.underlying51 Tryd.underlying5 Tryd.underlying9 (fun j hj => by
              rw [Addr.add_lit, Nat.zero_add]; exact hO2.cellAt (List.getElem?_eq_getElem hj))
            rw [← hn2] at hcv ⊢
            have HF : Hid ((⟨(revU ds (d - 0)).toArray⟩ : ByteArray) = strOf (fmtInt n)) := Lib.hid (by
              rw [Nat.sub_zero, revU_all ds (by rw [← Hd.out])]; exact HFIN.out)
            rw [HF.out] at hcv
            clear hn2 hO2 hD3 hlen HF
            go_wp2
            go_ret
            exact ⟨rfl, hB3⟩
          | succ s =>
            obtain rfl : I = (s : Int) := by have := HI.out; omega
            obtain ⟨x, hx⟩ : ∃ x, ds[s]? = some x := ⟨ds[s]'(by rw [← Hd.out]; omega), List.getElem?_eq_getElem _⟩
            have hcs : wr.cell? ⟨g, s, none⟩ = some (.int .u8 (x.toNat : Int)) := hD3.cellAt hx
            have hlt : (s : Int) < (d : Int) := by omega
            have e : Hid (revU ds (d - (s + 1)) ++ [x] = revU ds (d - s)) := Lib.hid (by
              have := revU_succ (ds := ds) (j := d - (s + 1)) (x := x) (by have := Hd.out; omega) (by rw [← Hd.out, show d - 1 - (d - (s + 1)) = s by omega]; exact hx)
              rw [this]; congr 1; omega)
            clear hx
            go_wp2_with (at_builtin; refine wpList_pushL wr rfl _ _ rfl Tryd.underlying51 Tryd.infoU rfl (by decide) (y := x) hO2 rfl rfl rfl rfl hlen hsz3 ?_)
            intro v' w4 hO' hb1 _ _
            have hB' := hB3.trans (hb1.mono hsz)
            have hD' := hD3.apart (B' := wo.heap.size) (fun k h => by cases h; exact hgw) hb1
            have hs' := Nat.le_trans hsz3 hb1.size
            rw [e.out] at hO'
            clear hO2 hD3 hB3 hb1
            go_wp2
            go_roundw
            case rel => exact ⟨s, _, by omega, rfl, Lib.hid rfl, hO', hD', hs', hB'⟩
            case measure => simp [intOf]

end Go.Proofs.YthgigbihpcelpaaDoor
