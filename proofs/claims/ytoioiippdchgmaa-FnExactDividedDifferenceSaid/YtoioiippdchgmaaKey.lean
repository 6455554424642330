/-
  Exponents as one number: l2Key, byTerms.
-/
import Derived.Test.YtoioiippdchgmaaGives
import Derived.Deep.QuietTactic
namespace Go.Proofs.Ytoioiippdchgmaa
open Go.RowKit
set_option linter.unusedVariables false

def keyOf : List Int → Int
  | [] => 0
  | e :: es => e + 128 * keyOf es
def Exps (l : List Int) : Prop := ∀ x ∈ l, 0 ≤ x ∧ x ≤ 127
theorem keyOf_bnd : ∀ (l : List Int), Exps l → 0 ≤ keyOf l ∧ keyOf l < ((128 ^ l.length : Nat) : Int)
  | [], _ => ⟨Int.le_refl _, by decide⟩
  | e :: es, h => by
    have ih := keyOf_bnd es (fun x hx => h x (List.mem_cons_of_mem _ hx))
    have h0 := h e (List.mem_cons_self ..)
    simp only [keyOf, List.length_cons, Nat.pow_succ]
    generalize 128 ^ es.length = p at ih ⊢
    omega
theorem keyOf_drop {l : List Int} {i : Nat} {x : Int} (hi : i < l.length) (hx : x = l.getD i 0) : keyOf (l.drop i) = x + 128 * keyOf (l.drop (i + 1)) := by
  rw [List.drop_eq_getElem_cons hi, keyOf, hx, List.getD_eq_getElem?_getD, List.getElem?_eq_getElem hi]; rfl
theorem keyOf_drop_bnd {l : List Int} (h : Exps l) (h7 : l.length ≤ 7) (i : Nat) : 0 ≤ keyOf (l.drop i) ∧ keyOf (l.drop i) < 562949953421312 := by
  have h1 := keyOf_bnd (l.drop i) (fun x hx => h x (List.mem_of_mem_drop hx))
  refine ⟨h1.1, Int.lt_of_lt_of_le h1.2 ?_⟩
  have : 128 ^ (l.drop i).length ≤ 128 ^ 7 := Nat.pow_le_pow_right (by decide) (by rw [List.length_drop]; omega)
  have e : (128 : Nat) ^ 7 = 562949953421312 := by decide
  rw [e] at this
  generalize 128 ^ (l.drop i).length = p at this ⊢
  omega
theorem exps_at {l : List Int} (h : Exps l) {i : Nat} {x : Int} (hi : i < l.length) (hx : x = l.getD i 0) : 0 ≤ x ∧ x ≤ 127 := by
  rw [hx, List.getD_eq_getElem?_getD, List.getElem?_eq_getElem hi]
  exact h _ (List.getElem_mem hi)

set_option maxHeartbeats 800000 in
theorem l2Key_c (v : Value) (l : List Int) (w : World) (hv : IntsV w v l) (h7 : l.length ≤ 7) (hE : Exps l) :
    Calls Try.prog 44 #[v] w fun e w' => e = .returned (.int .i64 (keyOf l)) ∧ w = w' := by
  obtain ⟨n, ao, b, off, c, rfl, HL, hnc, hcm, ha, hc, hn⟩ := hv.open
  have HB := Lib.hid (keyOf_drop_bnd hE h7)
  have HE := Lib.hid hE
  have hn7 : n ≤ 7 := by rw [HL.out]; exact h7
  clear hcm hE h7 hn
  have hw0 : IntKind.i64.wrap ((n : Int) - 1) = (n : Int) - 1 := IntWalk.i64_in _ (by omega)
  go_enter Try.func44, Try.ntmps44
  go_wp2
  clear hw0
  go_loop [3, 4] (fun kv iv => ∃ (i : Nat) (k : Int), i ≤ n ∧ iv = .int .i64 ((i : Int) - 1) ∧ kv = .int .i64 k ∧ Hid (k = keyOf (l.drop i)) ∧ 0 ≤ k ∧ k < 562949953421312) (fun _ iv => (intOf iv + 1).toNat)
  case atStart => exact ⟨n, 0, Nat.le_refl _, by simp, rfl, Lib.hid (by rw [HL.out, List.drop_length]; rfl), by decide, by decide⟩
  case round =>
    obtain ⟨i, k, hi, rfl, rfl, HK, hk0, hk1⟩ := hrel
    by_cases hi0 : 0 < i
    · obtain ⟨j, rfl⟩ : ∃ j, i = j + 1 := ⟨i - 1, by omega⟩
      obtain rfl := ha (by omega)
      have e0 : ((j + 1 : Nat) : Int) - 1 = (j : Int) := by omega
      rw [e0]
      obtain ⟨x, hx⟩ : ∃ x, x = l.getD j 0 := ⟨_, rfl⟩
      have hcx := (hc j (by omega)).trans (by rw [← hx])
      have hxr := exps_at HE.out (by rw [← HL.out]; omega) hx
      have hkd := keyOf_drop (by rw [← HL.out]; omega) hx
      have hb := HB.out j
      rw [← HK.out] at hkd
      have HK' : Hid (k * 128 + x = keyOf (l.drop j)) := Lib.hid (by rw [hkd]; omega)
      have hb2 : 0 ≤ k * 128 + x ∧ k * 128 + x < 562949953421312 := by rw [HK'.out]; exact hb
      have hj0 : (0 : Int) ≤ (j : Int) := Int.natCast_nonneg _
      have hj1 : (j : Int) < (n : Int) := by omega
      clear hc ha hx hkd hb e0
      go_wp2
      go_round
      case rel => exact ⟨j, k * 128 + x, by omega, by go_num, by go_num, HK', hb2.1, hb2.2⟩
      case measure => simp [intOf] <;> omega
    · obtain rfl : i = 0 := by omega
      clear ha hc
      have hneg : ¬ (0 : Int) ≤ ((0 : Nat) : Int) - 1 := by decide
      go_wp2
      go_ret
      exact ⟨ret_int (by rw [HK.out]; rfl), rfl⟩

def byOf (a b : List Int) : Nat → Int
  | 0 => 0
  | i + 1 => if a.getD i 0 = b.getD i 0 then byOf a b i else b.getD i 0 - a.getD i 0
theorem byOf_same {a b : List Int} {i : Nat} {x y : Int} (hx : x = a.getD i 0) (hy : y = b.getD i 0) (h : x = y) : byOf a b (i + 1) = byOf a b i := by
  simp only [byOf]; rw [if_pos (by rw [← hx, ← hy, h])]
theorem byOf_diff {a b : List Int} {i : Nat} {x y : Int} (hx : x = a.getD i 0) (hy : y = b.getD i 0) (h : x ≠ y) : byOf a b (i + 1) = y - x := by
  simp only [byOf]; rw [if_neg (by rw [← hx, ← hy]; exact h), ← hx, ← hy]
theorem keyOf_split : ∀ (l : List Int) (i : Nat), keyOf l = keyOf (l.take i) + ((128 ^ i : Nat) : Int) * keyOf (l.drop i)
  | l, 0 => by simp [keyOf]
  | [], i + 1 => by simp [keyOf]
  | e :: es, i + 1 => by
    have ih := keyOf_split es i
    simp only [List.take_succ_cons, List.drop_succ_cons, keyOf]
    rw [ih, Nat.pow_succ]
    push_cast
    generalize ((128 : Int) ^ i) = p
    generalize keyOf (List.drop i es) = q
    rw [Int.mul_add, ← Int.mul_assoc, Int.mul_comm p 128, Int.add_assoc]
theorem byOf_sign {a b : List Int} (ha : Exps a) (hb : Exps b) (hl : a.length = b.length) : ∀ (i : Nat), i ≤ a.length → a.drop i = b.drop i →
    (byOf a b i < 0 ↔ keyOf b < keyOf a) ∧ (0 < byOf a b i ↔ keyOf a < keyOf b)
  | 0, _, h => by
    have : a = b := by simpa using h
    subst this
    simp [byOf]
  | i + 1, hi, h => by
    have hia : i < a.length := by omega
    have hib : i < b.length := by omega
    obtain ⟨x, hx⟩ : ∃ x, x = a.getD i 0 := ⟨_, rfl⟩
    obtain ⟨y, hy⟩ : ∃ y, y = b.getD i 0 := ⟨_, rfl⟩
    by_cases e : x = y
    · rw [byOf_same hx hy e]
      refine byOf_sign ha hb hl i (by omega) ?_
      rw [List.drop_eq_getElem_cons hia, List.drop_eq_getElem_cons hib, h]
      have e1 : a[i] = x := by rw [hx, List.getD_eq_getElem?_getD, List.getElem?_eq_getElem hia]; rfl
      have e2 : b[i] = y := by rw [hy, List.getD_eq_getElem?_getD, List.getElem?_eq_getElem hib]; rfl
      rw [e1, e2, e]
    · rw [byOf_diff hx hy e]
      have k1 := keyOf_split a i
      have k2 := keyOf_split b i
      rw [keyOf_drop hia hx] at k1
      rw [keyOf_drop hib hy] at k2
      have b1 := keyOf_bnd (a.take i) (fun z hz => ha z (List.mem_of_mem_take hz))
      have b2 := keyOf_bnd (b.take i) (fun z hz => hb z (List.mem_of_mem_take hz))
      rw [List.length_take, Nat.min_eq_left (by omega)] at b1 b2
      rw [h] at k1
      rw [k1, k2]
      generalize keyOf (List.drop (i + 1) b) = q at *
      generalize keyOf (List.take i a) = s at *
      generalize keyOf (List.take i b) = t at *
      generalize (128 ^ i : Nat) = p at *
      clear k1 k2 hx hy h ha hb
      rcases Int.lt_or_gt_of_ne e with hlt | hgt
      · obtain ⟨d, hd⟩ : ∃ d : Nat, y = x + 1 + (d : Int) := ⟨(y - x - 1).toNat, by omega⟩
        subst hd
        have : (p : Int) * (x + 1 + (d : Int) + 128 * q) = (p : Int) * (x + 128 * q) + (p : Int) + (p : Int) * (d : Int) := by
          rw [show x + 1 + (d : Int) + 128 * q = (x + 128 * q) + 1 + (d : Int) by omega, Int.mul_add, Int.mul_add, Int.mul_one]
        rw [this]
        have hpd : 0 ≤ (p : Int) * (d : Int) := Int.mul_nonneg (Int.natCast_nonneg _) (Int.natCast_nonneg _)
        generalize (p : Int) * (d : Int) = r at *
        generalize (p : Int) * (x + 128 * q) = z at *
        omega
      · obtain ⟨d, hd⟩ : ∃ d : Nat, x = y + 1 + (d : Int) := ⟨(x - y - 1).toNat, by omega⟩
        subst hd
        have : (p : Int) * (y + 1 + (d : Int) + 128 * q) = (p : Int) * (y + 128 * q) + (p : Int) + (p : Int) * (d : Int) := by
          rw [show y + 1 + (d : Int) + 128 * q = (y + 128 * q) + 1 + (d : Int) by omega, Int.mul_add, Int.mul_add, Int.mul_one]
        rw [this]
        have hpd : 0 ≤ (p : Int) * (d : Int) := Int.mul_nonneg (Int.natCast_nonneg _) (Int.natCast_nonneg _)
        generalize (p : Int) * (d : Int) = r at *
        generalize (p : Int) * (y + 128 * q) = z at *
        omega

theorem drewN_drewN (w : World) (a b : Nat) : (w.drewN a).drewN b = w.drewN (a + b) := by
  induction b with
  | zero => rfl
  | succ b ih => rw [← Nat.add_assoc]; show ((w.drewN a).drewN b).drew = (w.drewN (a + b)).drew; rw [ih]

set_option maxHeartbeats 800000 in
theorem byTerms_q (v u : Value) (l m : List Int) (w : World) (hv : IntsV w v l) (hu : IntsV w u m) (hl : l.length = 7) (hm : m.length = 7) (hE : Exps l) (hF : Exps m) :
    Calls Try.prog 48 #[v, u] w fun e w' => e = .returned (.int .i64 (byOf l m 7)) ∧ ∃ q, w' = w.drewN q := by
  obtain ⟨n, ao, b, off, c, rfl, HL, hnc, hcm, ha, hc, hn⟩ := hv.open
  obtain ⟨n', bo, d, doff, e, rfl, HM, hnd, hcm', hb, hd, hn'⟩ := hu.open
  obtain rfl : n = 7 := HL.out.trans hl
  obtain rfl : n' = 7 := HM.out.trans hm
  obtain rfl := ha (by omega)
  obtain rfl := hb (by omega)
  have HE := Lib.hid hE
  have HF := Lib.hid hF
  have HC := Lib.hid hc
  have HD := Lib.hid hd
  clear hcm hcm' hE hF hn hn' hc hd
  go_enter Try.func48, Try.ntmps48
  go_wp2
  go_loopw [5] (fun iv wr => ∃ (i : Nat), i ≤ 7 ∧ iv = .int .i64 ((i : Int) - 1) ∧ Hid (byOf l m 7 = byOf l m i) ∧ ∃ q, wr = w.drewN q) (fun iv _ => (intOf iv + 1).toNat)
  case atStart => exact ⟨7, Nat.le_refl _, by go_num, Lib.hid rfl, 0, rfl⟩
  case round =>
    obtain ⟨i, hi, rfl, HK, q, hq⟩ := hrel
    have hB : Below w.heap.size w wr := by rw [hq]; exact below_drewN (Below.refl _ _) q
    have HQ := Lib.hid hq
    clear hq
    by_cases hi0 : 0 < i
    · obtain ⟨j, rfl⟩ : ∃ j, i = j + 1 := ⟨i - 1, by omega⟩
      have e0 : ((j + 1 : Nat) : Int) - 1 = (j : Int) := by omega
      rw [e0]
      obtain ⟨x, hx⟩ : ∃ x, x = l.getD j 0 := ⟨_, rfl⟩
      obtain ⟨y, hy⟩ : ∃ y, y = m.getD j 0 := ⟨_, rfl⟩
      have hcx : wr.cell? ⟨b, off + j, none⟩ = some (.int .i64 x) := by
        rw [hx, hB.cell (p := ⟨b, off + j, none⟩) (World.block_lt_of_cell? _ _ (HC.out j (by omega)))]; exact HC.out j (by omega)
      have hcy : wr.cell? ⟨d, doff + j, none⟩ = some (.int .i64 y) := by
        rw [hy, hB.cell (p := ⟨d, doff + j, none⟩) (World.block_lt_of_cell? _ _ (HD.out j (by omega)))]; exact HD.out j (by omega)
      have hxr := exps_at HE.out (by rw [← HL.out]; omega) hx
      have hyr := exps_at HF.out (by rw [← HM.out]; omega) hy
      have HX := Lib.hid hx
      have HY := Lib.hid hy
      have hj0 : (0 : Int) ≤ (j : Int) := Int.natCast_nonneg _
      have hj1 : (j : Int) < 7 := by omega
      have hw1 : IntKind.i64.wrap (y - x) = y - x := IntWalk.i64_in _ (by omega)
      clear hx hy e0
      by_cases hxy : x = y
      · have HK' : Hid (byOf l m 7 = byOf l m j) := Lib.hid (by rw [HK.out]; exact byOf_same HX.out HY.out hxy)
        have hne : (x != y) = false := by simpa using hxy
        go_wp2_with fail
        go_quiet (fail)
        go_wp2_with fail
        go_roundw
        case rel => exact ⟨j, by omega, by go_num, HK', _, by rw [HQ.out, drewN_drewN]⟩
        case measure => simp [intOf] <;> omega
      · have HK' : Hid (byOf l m 7 = y - x) := Lib.hid (by rw [HK.out]; exact byOf_diff HX.out HY.out hxy)
        have hne : (x != y) = true := by simpa using hxy
        go_wp2_with fail
        go_quiet (fail)
        go_wp2_with fail
        go_quiet (fail)
        go_wp2_with fail
        go_ret
        exact ⟨ret_int HK'.out.symm, _, by rw [HQ.out, drewN_drewN, drewN_drewN]⟩
    · obtain rfl : i = 0 := by omega
      have hneg : ¬ (0 : Int) ≤ ((0 : Nat) : Int) - 1 := by decide
      go_wp2
      go_ret
      exact ⟨ret_int (by rw [HK.out]; rfl), q, HQ.out⟩

theorem byTerms_c (v u : Value) (l m : List Int) (w : World) (hv : IntsV w v l) (hu : IntsV w u m) (hl : l.length = 7) (hm : m.length = 7) (hE : Exps l) (hF : Exps m) :
    Calls Try.prog 48 #[v, u] w (GivesN w (byOf l m 7)) :=
  (byTerms_q v u l m w hv hu hl hm hE hF).mono fun e w' ⟨h1, q, h2⟩ => ⟨h1, by rw [h2]; exact below_drewN (Below.refl _ _) q⟩
theorem byTerms_back (v u : Value) (l m : List Int) (w : World) (n : Nat) (hv : IntsV w v l) (hu : IntsV w u m) (hl : l.length = 7) (hm : m.length = 7) (hE : Exps l) (hF : Exps m) :
    Calls Try.prog 48 #[v, u] (w.drewN n) fun e w'' => e = .returned (.int .i64 (byOf l m 7)) ∧ ∃ k, w'' = w.drewN k :=
  (byTerms_q v u l m (w.drewN n) hv hu hl hm hE hF).mono fun e w' ⟨h1, q, h2⟩ => ⟨h1, n + q, by rw [h2, drewN_drewN]⟩

end Go.Proofs.Ytoioiippdchgmaa
