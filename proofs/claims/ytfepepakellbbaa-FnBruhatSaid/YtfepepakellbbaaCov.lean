/-
  Contracts: CoversOf.
-/
import Derived.Test.YtfepepakellbbaaSortII
import Derived.Test.YtfepepakellbbaaIns
import Derived.Test.YtfepepakellbbaaCnt
namespace Go.Proofs.Ytfepepakellbbaa
open Go.RowKit
set_option linter.unusedVariables false

/-! Plain. -/
def covP (l : List Int) (a b : Nat) : Bool := isPermB l && covB l a b
def covRow (l : List Int) (b a : Nat) : ListsL := (List.range a).filterMap (fun t => if covP l t b = true then some (swapL l t b) else none)
def covUp (l : List Int) (b a : Nat) : ListsL := (List.range b).flatMap (fun t => covRow l t t) ++ covRow l b a
theorem covUp_zero (l : List Int) : covUp l 0 0 = [] := rfl
theorem covUp_next (l : List Int) (b : Nat) : covUp l b b = covUp l (b + 1) 0 := by
  have e : covRow l (b + 1) 0 = [] := rfl
  simp [covUp, List.range_succ, List.flatMap_append, e]
theorem covUp_yes {l : List Int} {b a : Nat} (h : covP l a b = true) : covUp l b (a + 1) = covUp l b a ++ [swapL l a b] := by
  simp [covUp, covRow, List.range_succ, List.filterMap_append, h]
theorem covUp_no {l : List Int} {b a : Nat} (h : covP l a b = false) : covUp l b (a + 1) = covUp l b a := by
  simp [covUp, covRow, List.range_succ, List.filterMap_append, h]
theorem mem_covRow {l : List Int} {b a : Nat} {z : List Int} : z ∈ covRow l b a ↔ ∃ t, t < a ∧ covP l t b = true ∧ z = swapL l t b := by
  simp only [covRow, List.mem_filterMap, List.mem_range]
  constructor
  · rintro ⟨t, ht, h⟩
    split at h
    · rename_i hp; exact ⟨t, ht, hp, (Option.some.inj h).symm⟩
    · simp at h
  · rintro ⟨t, ht, hp, rfl⟩; exact ⟨t, ht, by rw [if_pos hp]⟩
theorem mem_covAll {l : List Int} {z : List Int} : z ∈ covUp l l.length 0 ↔ isPermB l = true ∧ ∃ a b, a < b ∧ b < l.length ∧ covB l a b = true ∧ z = swapL l a b := by
  have e : covRow l l.length 0 = [] := rfl
  simp only [covUp, e, List.append_nil, List.mem_flatMap, List.mem_range, mem_covRow, covP, Bool.and_eq_true]
  constructor
  · rintro ⟨b, hb, a, ha, ⟨hp, hc⟩, rfl⟩; exact ⟨hp, a, b, ha, hb, hc, rfl⟩
  · rintro ⟨hp, a, b, hab, hb, hc, rfl⟩; exact ⟨b, hb, a, hab, ⟨hp, hc⟩, rfl⟩
theorem covUp_no_perm {l : List Int} (h : isPermB l = false) (b a : Nat) : covUp l b a = [] := by
  have e : ∀ b a, covRow l b a = [] := fun b a => by
    rw [List.eq_nil_iff_forall_not_mem]
    intro z hz
    obtain ⟨t, _, hp, _⟩ := mem_covRow.1 hz
    simp [covP, h] at hp
  simp [covUp, e]
theorem covRow_len (l : List Int) (b a : Nat) : (covRow l b a).length ≤ a := by
  unfold covRow
  exact Nat.le_trans (List.length_filterMap_le _ _) (by simp)
theorem covUp_len (l : List Int) : ∀ b a, b ≤ 7 → a ≤ 7 → (covUp l b a).length ≤ b * 7 + a
  | 0, a, _, _ => by simpa [covUp] using covRow_len l 0 a
  | b + 1, a, hb, ha => by
    have ih := covUp_len l b b (by omega) (by omega)
    rw [covUp_next] at ih
    have e : covUp l (b + 1) a = covUp l (b + 1) 0 ++ covRow l (b + 1) a := by
      have e0 : covRow l (b + 1) 0 = [] := rfl
      simp [covUp, e0]
    have := covRow_len l (b + 1) a
    rw [e, List.length_append]
    omega
theorem covUp_each {l : List Int} {b a : Nat} {z : List Int} (h : z ∈ covUp l b a) : z.length = l.length := by
  rcases List.mem_append.1 h with h | h
  · obtain ⟨t, _, h⟩ := List.mem_flatMap.1 h
    obtain ⟨t, _, _, rfl⟩ := mem_covRow.1 h
    exact swapL_len _ _ _
  · obtain ⟨t, _, _, rfl⟩ := mem_covRow.1 h
    exact swapL_len _ _ _
theorem swapL_inj {n : Nat} {l : List Int} (h : PermN n l) {a b c d : Nat} (hab : a < b) (hb : b < n) (hcd : c < d) (hd : d < n) (e : swapL l a b = swapL l c d) : a = c ∧ b = d := by
  have key : ∀ {a b c d : Nat}, a < b → b < n → c < d → d < n → swapL l a b = swapL l c d → a = c ∨ a = d := by
    intro a b c d hab hb hcd hd e
    by_cases h1 : a = c
    · exact .inl h1
    · by_cases h2 : a = d
      · exact .inr h2
      · exfalso
        have e1 := pv_swap_l h (i := a) (j := b) (by omega) hb (by omega)
        have e2 := pv_swap_o h (i := c) (j := d) (t := a) (by omega) hd h1 h2
        rw [e, e2] at e1
        have := h.inj (by omega) hb e1
        omega
  have key2 : ∀ {a b c d : Nat}, a < b → b < n → c < d → d < n → swapL l a b = swapL l c d → b = c ∨ b = d := by
    intro a b c d hab hb hcd hd e
    by_cases h1 : b = c
    · exact .inl h1
    · by_cases h2 : b = d
      · exact .inr h2
      · exfalso
        have e1 := pv_swap_r h (i := a) (j := b) (by omega) hb
        have e2 := pv_swap_o h (i := c) (j := d) (t := b) (by omega) hd h1 h2
        rw [e, e2] at e1
        have := h.inj hb (by omega) e1
        omega
  have k1 := key hab hb hcd hd e
  have k2 := key2 hab hb hcd hd e
  omega
theorem nodup_covAll {l : List Int} : (covUp l l.length 0).Nodup := by
  cases hp : isPermB l with
  | false => rw [covUp_no_perm hp]; exact List.nodup_nil
  | true =>
    have h : PermN l.length l := ⟨hp, rfl⟩
    have e : covRow l l.length 0 = [] := rfl
    rw [covUp, e, List.append_nil, List.nodup_iff_pairwise_ne, List.pairwise_flatMap]
    refine ⟨fun b hb => ?_, ?_⟩
    · have hb := List.mem_range.1 hb
      unfold covRow
      rw [List.pairwise_filterMap]
      have hr := @List.pairwise_lt_range b
      refine List.Pairwise.imp_of_mem (fun {x y} hx hy hxy u hu v hv e2 => ?_) hr
      split at hu
      · split at hv
        · obtain rfl := Option.some.inj hu
          obtain rfl := Option.some.inj hv
          have := swapL_inj h (List.mem_range.1 hx) hb (List.mem_range.1 hy) hb e2
          omega
        · simp at hv
      · simp at hu
    · have hr := @List.pairwise_lt_range l.length
      refine List.Pairwise.imp_of_mem (fun {x y} hx hy hxy u hu v hv e2 => ?_) hr
      obtain ⟨t, ht, _, rfl⟩ := mem_covRow.1 hu
      obtain ⟨s, hs, _, rfl⟩ := mem_covRow.1 hv
      have := swapL_inj h ht (List.mem_range.1 hx) hs (List.mem_range.1 hy) e2
      omega
theorem asc_of_sorted : ∀ {ls : ListsL}, ls.Nodup → ls.Pairwise (fun a b => lexLt b a = false) → Asc ls := fun {ls} hn hs => by
  rw [List.nodup_iff_pairwise_ne] at hn
  exact (hn.and hs).imp fun {a b} h => lexLt_total h.2 h.1.symm
theorem covers_sorted {l : List Int} {ls : ListsL} (hp : ls.Perm (covUp l l.length 0)) (hs : ls.Pairwise (fun a b => lexLt b a = false)) : ls = coversL l := by
  cases h : isPermB l with
  | false =>
    rw [covUp_no_perm h] at hp
    rw [hp.eq_nil, coversL, if_neg (by rw [h]; simp)]
  | true =>
    refine covers_eq h (asc_of_sorted (hp.nodup_iff.2 nodup_covAll) hs) fun z => ?_
    rw [hp.mem_iff, mem_covAll]
    exact ⟨fun h => h.2, fun h2 => ⟨h, h2⟩⟩
theorem lengthL_bd (l : List Int) : -1 ≤ lengthL l ∧ lengthL l ≤ 21 := by
  unfold lengthL
  split
  · rename_i h
    have := lenOf_nonneg l
    have := len_le (n := l.length) ⟨h, rfl⟩
    omega
  · omega

set_option maxHeartbeats 3200000 in
theorem iCovers_c (v : Value) (l : List Int) (w : World) (hv : IntsV w v l) :
    Calls Try.prog 17 #[v] w (GivesII w (coversL l)) := by
  have hv0 := hv
  obtain ⟨n, ao, bb, off, c, rfl, HL, hnc, hcm, ha, hc, hn⟩ := hv.open
  clear hv ha hc hcm hnc
  have hR0 : RowII w.heap.size (w.alloc (.cells #[] 24)).heap.size (w.alloc (.cells #[] 24)) (.slice (some ⟨w.heap.size, 0, none⟩) 0 0) [] (covUp l 0 0) := by
    simpa [covUp_zero] using RowII.lit w
  have hB0 : Below w.heap.size w (w.alloc (.cells #[] 24)) := (Below.refl _ _).alloc (Nat.le_refl _) _
  go_enter Try.func17, Try.ntmps17
  go_wp2
  go_loopw [3, 10] (fun ov iv wr => ∃ (b : Nat) (us : List Value), b ≤ n ∧ iv = .int .i64 b ∧ RowII w.heap.size wr.heap.size wr ov us (covUp l b 0) ∧ Below w.heap.size w wr) (fun _ iv _ => n - (intOf iv).toNat)
  case atStart => exact ⟨0, [], Nat.zero_le _, rfl, hR0, hB0⟩
  case round =>
    obtain ⟨b, us, hb, rfl, hRb, hBb⟩ := hrel
    clear hR0 hB0
    by_cases hlt : b < n
    · have hb0 : (0 : Int) ≤ (b : Int) := Int.natCast_nonneg _
      obtain ⟨wo, rfl⟩ : ∃ wo : World, wo = wr := ⟨_, rfl⟩
      go_wp2
      go_loopw [3, 14] (fun ov iv wr => ∃ (a : Nat) (us : List Value), a ≤ b ∧ iv = .int .i64 a ∧ RowII w.heap.size wr.heap.size wr ov us (covUp l b a) ∧ Below w.heap.size w wr) (fun _ iv _ => b - (intOf iv).toNat)
      case atStart => exact ⟨0, us, Nat.zero_le _, rfl, hRb, hBb⟩
      case round =>
        obtain ⟨a, us', haa, rfl, hRa, hBa⟩ := hrel
        clear hRb hBb
        by_cases hab : a < b
        · have ha0 : (0 : Int) ≤ (a : Int) := Int.natCast_nonneg _
          have hab' : (a : Int) < (b : Int) := by omega
          have HA : Hid (a < l.length) := Lib.hid (by rw [← HL.out]; omega)
          have HB : Hid (b < l.length) := Lib.hid (by rw [← HL.out]; omega)
          have HNE : Hid (a ≠ b) := Lib.hid (by omega)
          go_wp2_with fail
          refine (exchanged_c _ l a b _ (hv0.kept hBa) HA.out HB.out HNE.out).mono ?_
          rintro e w1 ⟨r, rfl, o1, b1⟩
          have B1 := below_step hBa b1 hBa.size
          have R1 := hRa.up b1
          obtain ⟨ro, rn, rc, rfl⟩ := o1.ints.shape'
          cases hp : isPermB l with
          | false =>
            have HU := Lib.hid (covUp_no (l := l) (b := b) (a := a) (by simp [covP, hp]))
            go_wp2_with fail
            refine (iIsPerm_c _ _ _ (hv0.kept B1)).mono ?_
            rw [hp]
            rintro e w2 ⟨rfl, b2⟩
            clear hp
            have B2 := below_step B1 b2 B1.size
            have R2 := R1.up b2
            rw [← HU.out] at R2
            go_wp2_with fail
            go_roundw
            case rel => exact ⟨a + 1, us', by omega, by go_num, R2, B2⟩
            case measure => simp [intOf]; omega
          | true =>
            have HPP := Lib.hid hp
            obtain ⟨x, hx⟩ : ∃ x, lengthL (swapL l a b) = x := ⟨_, rfl⟩
            obtain ⟨y, hy⟩ : ∃ y, lengthL l = y := ⟨_, rfl⟩
            have hxb := lengthL_bd (swapL l a b)
            have hyb := lengthL_bd l
            rw [hx] at hxb
            rw [hy] at hyb
            obtain ⟨hx1, hx2⟩ := hxb
            obtain ⟨hy1, hy2⟩ := hyb
            have HX := Lib.hid hx
            have HY := Lib.hid hy
            clear hx hy
            go_wp2_with fail
            refine (iIsPerm_c _ _ _ (hv0.kept B1)).mono ?_
            rw [hp]
            rintro e w2 ⟨rfl, b2⟩
            clear hp
            have B2 := below_step B1 b2 B1.size
            have R2 := R1.up b2
            go_wp2_with fail
            refine (iLength_c _ _ _ (o1.ints.kept b2)).mono ?_
            rw [HX.out]
            rintro e w3 ⟨rfl, b3⟩
            have B3 := below_step B2 b3 B2.size
            have R3 := R2.up b3
            go_wp2_with fail
            refine (iLength_c _ _ _ (hv0.kept B3)).mono ?_
            rw [HY.out]
            rintro e w4 ⟨rfl, b4⟩
            have B4 := below_step B3 b4 B3.size
            have R4 := R3.up b4
            have O4 := ((o1.kept b2).kept b3).kept b4
            have W2 := below_step b1 b2 b1.size
            have W3 := below_step W2 b3 W2.size
            have BW := below_step W3 b4 W3.size
            have hws := hBa.size
            clear R1 R2 R3 B1 B2 B3 b1 b2 b3 b4 hBa W2 W3 o1
            by_cases hxy : x = y + 1
            · subst hxy
              have HC : Hid (covP l a b = true) := Lib.hid (by simp only [covP, HPP.out, covB, HX.out, HY.out, Bool.true_and, decide_true])
              have HU := Lib.hid (covUp_yes HC.out)
              have hlen : (covUp l b a).length + 1 ≤ 1099511627776 := by
                have h7 := (isPermB_iff.1 HPP.out).2.1
                have := covUp_len l b a (by have := HL.out; omega) (by have := HL.out; omega)
                have := HL.out
                omega
              have hil : iiLen (covUp l b a ++ [swapL l a b]) ≤ 1099511627776 := by
                rw [← HU.out, iiLen_each (n := l.length) (fun z hz => covUp_each hz), HU.out, List.length_append, List.length_singleton]
                have h7 := (isPermB_iff.1 HPP.out).2.1
                have := covUp_len l b a (by have := HL.out; omega) (by have := HL.out; omega)
                have h2 := HL.out
                have h3 : ((covUp l b a).length + 1) * l.length ≤ 100 * 7 := Nat.mul_le_mul (by omega) h7
                exact Nat.le_trans h3 (by decide)
              have HLEN := Lib.hid hlen
              have HIL := Lib.hid hil
              have hye : (y + 1 == y + 1) = true := by simp
              clear hlen hil R4
              go_wp2_with (at_builtin; refine wpList_pushII w4 rfl _ _ rfl hRa BW O4 hws rfl rfl rfl HIL.out HLEN.out ?_)
              intro v5 w5 R5 b5 g5 at5
              rw [← HU.out] at R5
              have B5 := B4.trans b5
              clear hye g5 at5 hRa
              go_wp2
              go_roundw
              case rel => exact ⟨a + 1, _, by omega, by go_num, R5, B5⟩
              case measure => simp [intOf]; omega
            · have hye : (x == y + 1) = false := by simpa using hxy
              have HC : Hid (covP l a b = false) := Lib.hid (by
                have : ¬ lengthL (swapL l a b) = lengthL l + 1 := by rw [HX.out, HY.out]; exact hxy
                simp [covP, HPP.out, covB, this])
              have HU := Lib.hid (covUp_no HC.out)
              rw [← HU.out] at R4
              clear hxy hRa
              go_wp2
              go_roundw
              case rel => exact ⟨a + 1, _, by omega, by go_num, R4, B4⟩
              case measure => simp [intOf]; omega
        · obtain rfl : a = b := by omega
          have HU := Lib.hid (covUp_next l a)
          rw [HU.out] at hRa
          go_wp2
          go_roundw
          case rel => exact ⟨a + 1, _, by omega, by go_num, hRa, hBa⟩
          case measure => simp [intOf]; omega
    · obtain rfl : b = n := by omega
      rw [HL.out] at hRb
      go_wp2_with fail
      refine (sortRows_c _ _ _ _ _ _ hRb hBb.size).mono ?_
      rintro e w1 ⟨rfl, us', ls', hR1, hp, hs, b1⟩
      have HE := Lib.hid (covers_sorted hp hs)
      have B1 := hBb.trans b1
      clear hp hs
      go_wp2
      go_ret
      rw [← HE.out]
      exact ⟨_, rfl, ⟨us', hR1⟩, B1⟩

end Go.Proofs.Ytfepepakellbbaa
