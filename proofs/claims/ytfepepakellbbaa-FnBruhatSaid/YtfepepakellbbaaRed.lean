/-
  Reduced words of a permutation, from the right and from the left: plain.
-/
import Derived.Test.YtfepepakellbbaaRk
import Derived.Test.YtfepepakellbbaaLex
import Derived.Test.YtfepepakellbbaaLift
import Derived.Test.YtfepepakellbbaaDesc
namespace Go.Proofs.Ytfepepakellbbaa
open Go.RowKit
set_option linter.unusedVariables false

/-- How many numbers of a list are less than x. -/
def ltc (x : Int) (l : List Int) : Nat := l.countP (fun y => decide (y < x))
theorem ltc_cons (x y : Int) (l : List Int) : ltc x (y :: l) = ltc x l + if y < x then 1 else 0 := by
  simp [ltc, List.countP_cons]
theorem ltc_perm {x : Int} {a b : List Int} (h : a.Perm b) : ltc x a = ltc x b := h.countP_eq _
theorem cntUp_cons (x : Int) (l : List Int) (t : Nat) : ∀ j, cntUp (x :: l) (t + 1) (j + 1) = cntUp l t j
  | 0 => by simp [cntUp]
  | j + 1 => by
    have ih := cntUp_cons x l t j
    rw [cntUp, ih, cntUp]
    simp only [List.getD_cons_succ, Nat.add_lt_add_iff_right]
theorem cntUp_head (x : Int) (l : List Int) : ∀ j, j ≤ l.length → cntUp (x :: l) 0 (j + 1) = ltc x (l.take j)
  | 0, _ => by simp [cntUp, ltc]
  | j + 1, hj => by
    have ih := cntUp_head x l j (by omega)
    rw [cntUp, ih, List.take_add_one, List.getElem?_eq_getElem (by omega)]
    simp only [List.getD_cons_succ, List.getD_cons_zero, Option.toList_some, ltc, List.countP_append, List.countP_cons, List.countP_nil, Nat.zero_add]
    rw [List.getD_eq_getElem?_getD, List.getElem?_eq_getElem (by omega)]
    simp
theorem codeOf_cons (x : Int) (l : List Int) : codeOf (x :: l) = (ltc x l : Int) :: codeOf l := by
  unfold codeOf
  rw [List.length_cons, List.range_succ_eq_map, List.map_cons, List.map_map]
  congr 1
  · rw [cntUp_head x l _ (Nat.le_refl _), List.take_length]
  · apply List.map_congr_left
    intro t ht
    simp only [Function.comp_def, Nat.succ_eq_add_one]
    rw [cntUp_cons]
theorem lenOf_nil : lenOf [] = 0 := rfl
theorem lenOf_cons (x : Int) (l : List Int) : lenOf (x :: l) = (ltc x l : Int) + lenOf l := by
  unfold lenOf; rw [codeOf_cons, List.sum_cons]
theorem lenOf_nonneg : ∀ l, 0 ≤ lenOf l
  | [] => by simp [lenOf_nil]
  | x :: l => by rw [lenOf_cons]; have := lenOf_nonneg l; omega
theorem swapL_cons (x : Int) (l : List Int) (i j : Nat) : swapL (x :: l) (i + 1) (j + 1) = x :: swapL l i j := by
  simp [swapL]
theorem swapL_perm {l : List Int} {i j : Nat} (hi : i < l.length) (hj : j < l.length) : (swapL l i j).Perm l := by
  have e1 : l.getD j 0 = l[j]'(by omega) := by rw [List.getD_eq_getElem?_getD, List.getElem?_eq_getElem (by omega)]; rfl
  have e2 : l.getD i 0 = l[i]'(by omega) := by rw [List.getD_eq_getElem?_getD, List.getElem?_eq_getElem (by omega)]; rfl
  unfold swapL
  rw [e1, e2]
  exact List.set_set_perm (by omega) (by omega)
theorem len_swap_up : ∀ (l : List Int) (k : Nat), k + 1 < l.length → l.getD k 0 < l.getD (k + 1) 0 → lenOf (swapL l k (k + 1)) = lenOf l + 1
  | [], k, h, _ => by simp at h
  | [a], k, h, _ => by simp at h
  | a :: b :: r, 0, _, h => by
    have e : swapL (a :: b :: r) 0 (0 + 1) = b :: a :: r := by simp [swapL]
    simp at h
    rw [e, lenOf_cons, lenOf_cons, lenOf_cons, lenOf_cons, ltc_cons, ltc_cons, if_pos h, if_neg (by omega)]
    omega
  | a :: b :: r, k + 1, hk, h => by
    have ih := len_swap_up (b :: r) k (by simpa using hk) (by simpa using h)
    rw [swapL_cons, lenOf_cons, lenOf_cons, ih, ltc_perm (swapL_perm (by simp at hk ⊢; omega) (by simp at hk ⊢; omega))]
    omega
theorem swapL_swapL {l : List Int} {i j : Nat} (hi : i < l.length) (hj : j < l.length) (hne : i ≠ j) : swapL (swapL l i j) i j = l := by
  have e1 : (swapL l i j).getD i 0 = l.getD j 0 := by
    rw [swapL, List.getD_eq_getElem?_getD, List.getElem?_set_ne (Ne.symm hne), List.getElem?_set_self hi]; rfl
  have e2 : (swapL l i j).getD j 0 = l.getD i 0 := by
    rw [swapL, List.getD_eq_getElem?_getD, List.getElem?_set_self (by simpa using hj)]; rfl
  rw [show swapL (swapL l i j) i j = ((swapL l i j).set i ((swapL l i j).getD j 0)).set j ((swapL l i j).getD i 0) from rfl, e1, e2]
  apply List.ext_getElem?
  intro t
  simp only [swapL, List.getElem?_set, List.length_set]
  by_cases h1 : j = t
  · subst h1
    rw [if_pos rfl, if_pos hj]
    exact (getElem?_of_getD rfl hj).symm
  · rw [if_neg h1]
    by_cases h2 : i = t
    · subst h2
      rw [if_pos rfl, if_pos hi]
      exact (getElem?_of_getD rfl hi).symm
    · rw [if_neg h2, if_neg h1, if_neg h2]
theorem len_swap_down {l : List Int} {k : Nat} (hk : k + 1 < l.length) (h : l.getD (k + 1) 0 < l.getD k 0) : lenOf (swapL l k (k + 1)) + 1 = lenOf l := by
  have e1 : (swapL l k (k + 1)).getD k 0 = l.getD (k + 1) 0 := by
    rw [swapL, List.getD_eq_getElem?_getD, List.getElem?_set_ne (by omega), List.getElem?_set_self (by omega)]; rfl
  have e2 : (swapL l k (k + 1)).getD (k + 1) 0 = l.getD k 0 := by
    rw [swapL, List.getD_eq_getElem?_getD, List.getElem?_set_self (by simpa using hk)]; rfl
  have := len_swap_up (swapL l k (k + 1)) k (by rw [swapL_len]; exact hk) (by rw [e1, e2]; exact h)
  rw [swapL_swapL (by omega) hk (by omega)] at this
  omega

/-! Exchange of two values that stand next to one another. -/
def sig (c : Int) (x : Int) : Int := if x = c then c + 1 else if x = c + 1 then c else x
theorem sig_sig (c x : Int) : sig c (sig c x) = x := by unfold sig; split <;> split <;> (try split) <;> omega
theorem lenOf_map {f : Int → Int} : ∀ l : List Int, (∀ x ∈ l, ∀ y ∈ l, (f y < f x ↔ y < x)) → lenOf (l.map f) = lenOf l
  | [], _ => rfl
  | x :: l, h => by
    rw [List.map_cons, lenOf_cons, lenOf_cons, lenOf_map l (fun a ha b hb => h a (by simp [ha]) b (by simp [hb]))]
    congr 2
    unfold ltc
    rw [List.countP_map]
    apply List.countP_congr
    intro y hy
    simp only [Function.comp_def, decide_eq_true_eq]
    exact h x (by simp) y (by simp [hy])
theorem len_sig_up (c : Int) : ∀ (l : List Int) (p q : Nat), l.Nodup → p < q → l[p]? = some c → l[q]? = some (c + 1) → lenOf (l.map (sig c)) = lenOf l + 1
  | [], p, q, _, _, h, _ => by simp at h
  | x :: l, 0, 0, _, h, _, _ => absurd h (Nat.lt_irrefl _)
  | x :: l, p + 1, 0, _, h, _, _ => absurd h (Nat.not_lt_zero _)
  | x :: l, 0, q + 1, hn, _, hp, hq => by
    obtain ⟨hx, hn'⟩ := List.nodup_cons.1 hn
    simp at hp hq
    subst hp
    have hm : x + 1 ∈ l := List.mem_of_getElem? hq
    rw [List.map_cons, lenOf_cons, lenOf_cons]
    have e1 : lenOf (l.map (sig x)) = lenOf l := lenOf_map l fun a ha b hb => by
      have ha' : a ≠ x := fun e => hx (e ▸ ha)
      have hb' : b ≠ x := fun e => hx (e ▸ hb)
      unfold sig
      rw [if_neg ha', if_neg hb']
      split <;> split <;> omega
    have e2 : ltc (sig x x) (l.map (sig x)) = ltc x l + 1 := by
      have e3 : sig x x = x + 1 := by simp [sig]
      rw [e3]
      have key : ∀ m : List Int, x ∉ m → m.Nodup → ltc (x + 1) (m.map (sig x)) = ltc x m + if x + 1 ∈ m then 1 else 0 := by
        intro m
        induction m with
        | nil => intro _ _; simp [ltc]
        | cons y m ih =>
          intro h1 h2
          obtain ⟨h3, h4⟩ := List.nodup_cons.1 h2
          have hy : y ≠ x := fun e => h1 (by simp [e])
          have ih' := ih (fun h => h1 (by simp [h])) h4
          rw [List.map_cons, ltc_cons, ltc_cons, ih']
          by_cases e : y = x + 1
          · subst e
            have e4 : sig x (x + 1) = x := by unfold sig; rw [if_neg (by omega), if_pos rfl]
            rw [e4, if_pos (show x < x + 1 by omega), if_neg (show ¬ x + 1 < x by omega), if_neg h3, if_pos (by simp)]
          · have e4 : sig x y = y := by unfold sig; rw [if_neg hy, if_neg e]
            rw [e4]
            have e5 : (x + 1 ∈ y :: m) = (x + 1 ∈ m) := by simp [List.mem_cons, Ne.symm e]
            simp only [e5]
            by_cases h6 : y < x
            · rw [if_pos (show y < x + 1 by omega), if_pos h6]; omega
            · rw [if_neg (show ¬ y < x + 1 by omega), if_neg h6]; omega
      rw [key l hx hn', if_pos hm]
    rw [e1, e2]
    omega
  | x :: l, p + 1, q + 1, hn, hpq, hp, hq => by
    obtain ⟨hx, hn'⟩ := List.nodup_cons.1 hn
    simp at hp hq
    have h1 : x ≠ c := fun e => hx (e ▸ List.mem_of_getElem? hp)
    have h2 : x ≠ c + 1 := fun e => hx (e ▸ List.mem_of_getElem? hq)
    have ih := len_sig_up c l p q hn' (by omega) hp hq
    have e3 : sig c x = x := by unfold sig; rw [if_neg h1, if_neg h2]
    rw [List.map_cons, lenOf_cons, lenOf_cons, ih, e3]
    have e4 : ltc x (l.map (sig c)) = ltc x l := by
      unfold ltc
      rw [List.countP_map]
      apply List.countP_congr
      intro y hy
      simp only [Function.comp_def, decide_eq_true_eq]
      unfold sig
      split
      · omega
      · split <;> omega
    rw [e4]
    omega

/-! Left steps. -/
/-- The values k and k + 1 are exchanged. -/
def lsw (w : List Int) (k : Nat) : List Int := w.map (sig (k : Int))
theorem lsw_len (w : List Int) (k : Nat) : (lsw w k).length = w.length := by simp [lsw]
theorem lsw_getD {n : Nat} {w : List Int} (h : w.length = n) (k i : Nat) (hi : i < n) : (lsw w k).getD i 0 = sig (k : Int) (w.getD i 0) := by
  rw [lsw, List.getD_eq_getElem?_getD, List.getD_eq_getElem?_getD, List.getElem?_map, List.getElem?_eq_getElem (by omega)]; rfl
theorem sig_lt {n k : Nat} {x : Int} (hk : k + 1 < n) (h : 0 ≤ x ∧ x < (n : Int)) : 0 ≤ sig (k : Int) x ∧ sig (k : Int) x < (n : Int) := by
  unfold sig; split
  · omega
  · split <;> omega
theorem lsw_perm {n : Nat} {w : List Int} (h : PermN n w) {k : Nat} (hk : k + 1 < n) : PermN n (lsw w k) := by
  refine permN_mk h.size.1 h.size.2 (by rw [lsw_len, h.2]) (fun i hi => ?_) (fun i j hi hj e => ?_)
  · rw [lsw_getD h.2 k i hi, h.eq hi]
    exact sig_lt hk ⟨by omega, by have := h.lt hi; omega⟩
  · rw [lsw_getD h.2 k i hi, lsw_getD h.2 k j hj] at e
    have e2 := congrArg (sig (k : Int)) e
    rw [sig_sig, sig_sig, h.eq hi, h.eq hj] at e2
    exact h.inj hi hj (by omega)
theorem lsw_lsw (w : List Int) (k : Nat) : lsw (lsw w k) k = w := by
  rw [lsw, lsw, List.map_map]
  conv => rhs; rw [← List.map_id w]
  apply List.map_congr_left
  intro x _
  simp [sig_sig]
/-- The swap of the places at which k and k + 1 stand. -/
theorem swap_at {n : Nat} {w : List Int} (h : PermN n w) {k : Nat} (hk : k + 1 < n) : swapL w (pv (invOf w) k) (pv (invOf w) (k + 1)) = lsw w k := by
  have hi := inv_perm h
  have h1 := hi.lt (i := k) (by omega)
  have h2 := hi.lt (i := k + 1) hk
  have e1 := pv_inv h (j := k) (by omega)
  have e2 := pv_inv h (j := k + 1) hk
  refine perm_ext (swap_perm h h1 h2) (lsw_perm h hk) fun i hin => ?_
  rw [pv_swap h h1 h2]
  have e3 : pv (lsw w k) i = (sig (k : Int) ((pv w i : Nat) : Int)).toNat := by
    rw [pv, lsw_getD h.2 k i hin, h.eq hin]
  rw [e3, e1, e2]
  by_cases a : i = pv (invOf w) (k + 1)
  · rw [if_pos a]
    have : pv w i = k + 1 := by rw [a, e2]
    rw [this]; unfold sig; rw [if_neg (by omega), if_pos (by omega)]; omega
  · rw [if_neg a]
    by_cases b : i = pv (invOf w) k
    · rw [if_pos b]
      have : pv w i = k := by rw [b, e1]
      rw [this]; unfold sig; rw [if_pos rfl]; omega
    · rw [if_neg b]
      have n1 : pv w i ≠ k := fun e => b (h.inj hin h1 (e.trans e1.symm))
      have n2 : pv w i ≠ k + 1 := fun e => a (h.inj hin h2 (e.trans e2.symm))
      unfold sig; rw [if_neg (by omega), if_neg (by omega)]; omega
theorem perm_nodup {n : Nat} {w : List Int} (h : PermN n w) : w.Nodup := (isPermB_iff.1 h.1).2.2.2
theorem len_lsw_up {n : Nat} {w : List Int} (h : PermN n w) {k : Nat} (hk : k + 1 < n) (hlt : pv (invOf w) k < pv (invOf w) (k + 1)) : lenOf (lsw w k) = lenOf w + 1 := by
  have hi := inv_perm h
  have h1 := hi.lt (i := k) (by omega)
  have h2 := hi.lt (i := k + 1) hk
  have g1 := (h.get h1).1
  have g2 := (h.get h2).1
  rw [pv_inv h (by omega)] at g1
  rw [pv_inv h hk] at g2
  exact len_sig_up (k : Int) w _ _ (perm_nodup h) hlt g1 (by rw [g2]; congr 1)
theorem inv_lsw {n : Nat} {w : List Int} (h : PermN n w) {k : Nat} (hk : k + 1 < n) : pv (invOf (lsw w k)) k = pv (invOf w) (k + 1) ∧ pv (invOf (lsw w k)) (k + 1) = pv (invOf w) k := by
  have hi := inv_perm h
  have hl := lsw_perm h hk
  have h1 := hi.lt (i := k) (by omega)
  have h2 := hi.lt (i := k + 1) hk
  have e1 := pv_inv h (j := k) (by omega)
  have e2 := pv_inv h (j := k + 1) hk
  have a1 : pv (lsw w k) (pv (invOf w) (k + 1)) = k := by
    rw [pv, lsw_getD h.2 k _ h2, h.eq h2, e2]; unfold sig; rw [if_neg (by omega), if_pos (by omega)]; omega
  have a2 : pv (lsw w k) (pv (invOf w) k) = k + 1 := by
    rw [pv, lsw_getD h.2 k _ h1, h.eq h1, e1]; unfold sig; rw [if_pos rfl]; omega
  have b1 := inv_pv hl h2
  have b2 := inv_pv hl h1
  rw [a1] at b1
  rw [a2] at b2
  exact ⟨b1, b2⟩
theorem len_lsw_down {n : Nat} {w : List Int} (h : PermN n w) {k : Nat} (hk : k + 1 < n) (hlt : pv (invOf w) (k + 1) < pv (invOf w) k) : lenOf (lsw w k) + 1 = lenOf w := by
  obtain ⟨e1, e2⟩ := inv_lsw h hk
  have := len_lsw_up (lsw_perm h hk) hk (by rw [e1, e2]; exact hlt)
  rw [lsw_lsw] at this
  omega

/-! Nothing goes down: the identity. -/
theorem id_of_up {n : Nat} {w : List Int} (h : PermN n w) (hu : ∀ k, k + 1 < n → w.getD k 0 < w.getD (k + 1) 0) : w = idL n := by
  have hup : ∀ k, k + 1 < n → pv w k < pv w (k + 1) := fun k hk => by
    have := hu k hk
    rw [h.eq (by omega), h.eq hk] at this; omega
  have lo : ∀ i, i < n → i ≤ pv w i := by
    intro i
    induction i with
    | zero => intro _; omega
    | succ i ih => intro hi; have := ih (by omega); have := hup i hi; omega
  have hi : ∀ d i, i + d + 1 = n → pv w i ≤ i := by
    intro d
    induction d with
    | zero => intro i hi; have := h.lt (i := i) (by omega); omega
    | succ d ih => intro i hi; have := ih (i + 1) (by omega); have := hup i (by omega); omega
  refine perm_ext h (id_perm h.size.1 h.size.2) fun i hin => ?_
  have a := lo i hin
  have b := hi (n - 1 - i) i (by omega)
  have e : pv (idL n) i = i := by simp [pv, idL, List.getD_eq_getElem?_getD, hin]
  rw [e]; omega
theorem len_id {n : Nat} : lenOf (idL n) = 0 := by
  have key : ∀ (m a : Nat), lenOf ((List.range' a m).map (fun t : Nat => (t : Int))) = 0 := by
    intro m
    induction m with
    | zero => intro a; rfl
    | succ m ih =>
      intro a
      rw [List.range'_succ, List.map_cons, lenOf_cons, ih]
      have : ltc (a : Int) ((List.range' (a + 1) m).map (fun t : Nat => (t : Int))) = 0 := by
        unfold ltc
        rw [List.countP_eq_zero]
        intro y hy
        simp only [List.mem_map, List.mem_range'_1] at hy
        obtain ⟨t, ht, rfl⟩ := hy
        simp; omega
      rw [this]; rfl
  have := key n 0
  rwa [← List.range_eq_range'] at this
theorem len_zero {n : Nat} {w : List Int} (h : PermN n w) (h0 : lenOf w = 0) : w = idL n := by
  refine id_of_up h fun k hk => ?_
  by_cases hc : w.getD k 0 < w.getD (k + 1) 0
  · exact hc
  · exfalso
    have hne : w.getD k 0 ≠ w.getD (k + 1) 0 := fun e => by
      rw [h.eq (by omega), h.eq hk] at e
      have := h.inj (by omega) hk (by omega : pv w k = pv w (k + 1))
      omega
    have := len_swap_down (l := w) (k := k) (by rw [h.2]; exact hk) (by omega)
    have := lenOf_nonneg (swapL w k (k + 1))
    omega
theorem up_of_not_down {n : Nat} {w : List Int} (h : PermN n w) {k : Nat} (hk : k + 1 < n) (hc : ¬ w.getD (k + 1) 0 < w.getD k 0) : w.getD k 0 < w.getD (k + 1) 0 := by
  have hne : w.getD k 0 ≠ w.getD (k + 1) 0 := fun e => by
    rw [h.eq (by omega), h.eq hk] at e
    have := h.inj (by omega) hk (by omega : pv w k = pv w (k + 1))
    omega
  omega
theorem len_swap_cases {n : Nat} {w : List Int} (h : PermN n w) {k : Nat} (hk : k + 1 < n) :
    (w.getD (k + 1) 0 < w.getD k 0 ∧ lenOf (swapL w k (k + 1)) + 1 = lenOf w) ∨ (w.getD k 0 < w.getD (k + 1) 0 ∧ lenOf (swapL w k (k + 1)) = lenOf w + 1) := by
  by_cases hc : w.getD (k + 1) 0 < w.getD k 0
  · exact .inl ⟨hc, len_swap_down (by rw [h.2]; exact hk) hc⟩
  · have := up_of_not_down h hk hc
    exact .inr ⟨this, len_swap_up w k (by rw [h.2]; exact hk) this⟩
theorem len_lsw_cases {n : Nat} {w : List Int} (h : PermN n w) {k : Nat} (hk : k + 1 < n) :
    (pv (invOf w) (k + 1) < pv (invOf w) k ∧ lenOf (lsw w k) + 1 = lenOf w) ∨ (pv (invOf w) k < pv (invOf w) (k + 1) ∧ lenOf (lsw w k) = lenOf w + 1) := by
  by_cases hc : pv (invOf w) (k + 1) < pv (invOf w) k
  · exact .inl ⟨hc, len_lsw_down h hk hc⟩
  · have hne : pv (invOf w) k ≠ pv (invOf w) (k + 1) := fun e => by have := (inv_perm h).inj (by omega) hk e; omega
    exact .inr ⟨by omega, len_lsw_up h hk (by omega)⟩

/-! Words. -/
def prodW (n : Nat) (word : List Int) : List Int := runL true (idL n) word
theorem run_snoc (u word : List Int) (k : Nat) : runL true u (word ++ [(k : Int)]) = swapL (runL true u word) k (k + 1) := by
  simp [runL, List.foldl_append, stepL_all]
theorem prod_perm {n : Nat} (h1 : 1 ≤ n) (h7 : n ≤ 7) {word : List Int} (h : Letters n word) : PermN n (prodW n word) := run_perm true word _ (id_perm h1 h7) h
theorem swapL_map {f : Int → Int} {u : List Int} {i j : Nat} (hi : i < u.length) (hj : j < u.length) : swapL (u.map f) i j = (swapL u i j).map f := by
  unfold swapL
  rw [List.map_set, List.map_set, map_getD f u j hj, map_getD f u i hi]
theorem run_map (f : Int → Int) : ∀ (word : List Int) (u : List Int), Letters u.length word → runL true (u.map f) word = (runL true u word).map f
  | [], u, _ => rfl
  | k :: word, u, h => by
    have hk := h k (by simp)
    have e : ∀ v : List Int, runL true v (k :: word) = runL true (swapL v k.toNat (k.toNat + 1)) word := fun v => by simp [runL, stepL_all]
    rw [e, e, swapL_map (by omega) (by omega), run_map f word _ (fun a ha => by rw [swapL_len]; exact h a (by simp [ha]))]
theorem lsw_id {n k : Nat} (hk : k + 1 < n) : swapL (idL n) k (k + 1) = lsw (idL n) k := by
  apply List.ext_getElem?
  intro i
  by_cases hi : i < n
  · have e0 : ∀ t, t < n → (idL n).getD t 0 = (t : Int) := fun t ht => by simp [idL, List.getD_eq_getElem?_getD, ht]
    rw [lsw, List.getElem?_map, swapL, List.getElem?_set, List.getElem?_set, e0 k (by omega), e0 (k + 1) hk]
    have e1 : (idL n)[i]? = some (i : Int) := by simp [idL, hi]
    rw [e1]
    simp only [List.length_set, idL_len, Option.map_some, sig]
    by_cases a : k + 1 = i
    · subst a
      rw [if_pos rfl, if_pos hi, if_neg (by omega), if_pos (by omega)]
    · rw [if_neg a]
      by_cases b : k = i
      · subst b; rw [if_pos rfl, if_pos hi, if_pos rfl]; rfl
      · rw [if_neg b, if_neg (by omega), if_neg (by omega)]
  · rw [List.getElem?_eq_none (by rw [swapL_len, idL_len]; omega), List.getElem?_eq_none (by rw [lsw_len, idL_len]; omega)]
theorem prod_cons {n k : Nat} {word : List Int} (hk : k + 1 < n) (h : Letters n word) : prodW n ((k : Int) :: word) = lsw (prodW n word) k := by
  have e : runL true (idL n) ((k : Int) :: word) = runL true (swapL (idL n) k (k + 1)) word := by simp [runL, stepL_all]
  rw [prodW, e, lsw_id hk, lsw, run_map _ _ _ (by rw [idL_len]; exact h)]; rfl
theorem prod_snoc {n k : Nat} (word : List Int) : prodW n (word ++ [(k : Int)]) = swapL (prodW n word) k (k + 1) := run_snoc _ _ _
theorem letters_snoc {n : Nat} {word : List Int} {k : Int} : Letters n (word ++ [k]) ↔ Letters n word ∧ 0 ≤ k ∧ k + 2 ≤ (n : Int) := by
  unfold Letters
  simp only [List.mem_append, List.mem_singleton]
  exact ⟨fun h => ⟨fun x hx => h x (.inl hx), h k (.inr rfl)⟩, fun ⟨h1, h2⟩ x hx => hx.elim (h1 x) (fun e => e ▸ h2)⟩
theorem letters_cons {n : Nat} {word : List Int} {k : Int} : Letters n (k :: word) ↔ (0 ≤ k ∧ k + 2 ≤ (n : Int)) ∧ Letters n word := by
  unfold Letters
  simp only [List.mem_cons]
  exact ⟨fun h => ⟨h k (.inl rfl), fun x hx => h x (.inr hx)⟩, fun ⟨h1, h2⟩ x hx => hx.elim (fun e => e ▸ h1) (h2 x)⟩
theorem len_prod {n : Nat} (h1 : 1 ≤ n) (h7 : n ≤ 7) : ∀ (word : List Int), Letters n word → lenOf (prodW n word) ≤ (word.length : Int)
  | [], _ => by rw [show prodW n [] = idL n from rfl, len_id]; simp
  | k :: word, h => by
    obtain ⟨hk, hw⟩ := letters_cons.1 h
    have ih := len_prod h1 h7 word hw
    obtain ⟨t, rfl⟩ : ∃ t : Nat, k = (t : Int) := ⟨k.toNat, by omega⟩
    rw [prod_cons (by omega) hw, List.length_cons]
    rcases len_lsw_cases (prod_perm h1 h7 hw) (k := t) (by omega) with ⟨_, h⟩ | ⟨_, h⟩ <;> omega

/-- The word is a reduced word of w. -/
structure IsRed (n : Nat) (w word : List Int) : Prop where
  letters : Letters n word
  prod : prodW n word = w
  len : lenOf w = (word.length : Int)

/-- The descents, by places and by values. -/
def rdesc (n : Nat) (w : List Int) : List Nat := (List.range (n - 1)).filter (fun k => decide (w.getD (k + 1) 0 < w.getD k 0))
def ldesc (n : Nat) (w : List Int) : List Nat := (List.range (n - 1)).filter (fun k => decide (pv (invOf w) (k + 1) < pv (invOf w) k))
theorem mem_rdesc {n k : Nat} {w : List Int} : k ∈ rdesc n w ↔ k + 1 < n ∧ w.getD (k + 1) 0 < w.getD k 0 := by
  simp only [rdesc, List.mem_filter, List.mem_range, decide_eq_true_eq]
  exact ⟨fun h => ⟨by omega, h.2⟩, fun h => ⟨by omega, h.2⟩⟩
theorem mem_ldesc {n k : Nat} {w : List Int} : k ∈ ldesc n w ↔ k + 1 < n ∧ pv (invOf w) (k + 1) < pv (invOf w) k := by
  simp only [ldesc, List.mem_filter, List.mem_range, decide_eq_true_eq]
  exact ⟨fun h => ⟨by omega, h.2⟩, fun h => ⟨by omega, h.2⟩⟩
def redR (n : Nat) : Nat → List Int → List (List Int)
  | 0, _ => [[]]
  | m + 1, w => (rdesc n w).flatMap fun k => (redR n m (swapL w k (k + 1))).map (· ++ [(k : Int)])
def redL (n : Nat) : Nat → List Int → List (List Int)
  | 0, _ => [[]]
  | m + 1, w => (ldesc n w).flatMap fun k => (redL n m (lsw w k)).map ((k : Int) :: ·)
theorem red_nil {n : Nat} {w : List Int} (h : PermN n w) (h0 : lenOf w = 0) (word : List Int) : IsRed n w word ↔ word = [] := by
  constructor
  · intro hr
    have := hr.len
    exact List.eq_nil_of_length_eq_zero (by omega)
  · rintro rfl
    exact ⟨fun k hk => by simp at hk, by rw [len_zero h h0]; rfl, by simpa using h0⟩
theorem mem_redR {n : Nat} : ∀ (m : Nat) {w : List Int}, PermN n w → lenOf w = (m : Int) → ∀ word, word ∈ redR n m w ↔ IsRed n w word
  | 0, w, h, h0, word => by rw [red_nil h (by simpa using h0)]; simp [redR]
  | m + 1, w, h, hm, word => by
    simp only [redR, List.mem_flatMap, List.mem_map, mem_rdesc]
    constructor
    · rintro ⟨k, ⟨hk, hd⟩, word, hw, rfl⟩
      have hs := swap_perm h (i := k) (j := k + 1) (by omega) hk
      have hl := len_swap_down (l := w) (k := k) (by rw [h.2]; exact hk) hd
      have ih := (mem_redR m hs (by omega) word).1 hw
      refine ⟨letters_snoc.2 ⟨ih.letters, by omega, by omega⟩, ?_, by have := ih.len; simp; omega⟩
      rw [prod_snoc, ih.prod, swapL_swapL (by rw [h.2]; omega) (by rw [h.2]; exact hk) (by omega)]
    · intro hr
      obtain ⟨hl, hp, hn⟩ := hr
      rcases List.eq_nil_or_concat word with rfl | ⟨pre, k, rfl⟩
      · simp at hn; omega
      · rw [List.concat_eq_append] at hl hp hn ⊢
        obtain ⟨hl1, hk⟩ := letters_snoc.1 hl
        obtain ⟨t, rfl⟩ : ∃ t : Nat, k = (t : Int) := ⟨k.toNat, by omega⟩
        have hpp := prod_perm h.size.1 h.size.2 hl1
        have hlp := len_prod h.size.1 h.size.2 pre hl1
        rw [prod_snoc] at hp
        have hb : prodW n pre = swapL w t (t + 1) := by rw [← hp, swapL_swapL (by rw [hpp.2]; omega) (by rw [hpp.2]; omega) (by omega)]
        simp at hn
        rcases len_swap_cases h (k := t) (by omega) with ⟨h1, h2⟩ | ⟨h1, h2⟩
        · refine ⟨t, ⟨by omega, h1⟩, pre, (mem_redR m (swap_perm h (by omega) (by omega)) (by omega) pre).2 ⟨hl1, hb, by omega⟩, rfl⟩
        · rw [hb] at hlp; omega
theorem mem_redL {n : Nat} : ∀ (m : Nat) {w : List Int}, PermN n w → lenOf w = (m : Int) → ∀ word, word ∈ redL n m w ↔ IsRed n w word
  | 0, w, h, h0, word => by rw [red_nil h (by simpa using h0)]; simp [redL]
  | m + 1, w, h, hm, word => by
    simp only [redL, List.mem_flatMap, List.mem_map, mem_ldesc]
    constructor
    · rintro ⟨k, ⟨hk, hd⟩, word, hw, rfl⟩
      have hs := lsw_perm h hk
      have hl := len_lsw_down h hk hd
      have ih := (mem_redL m hs (by omega) word).1 hw
      refine ⟨letters_cons.2 ⟨by omega, ih.letters⟩, ?_, by have := ih.len; simp; omega⟩
      rw [prod_cons hk ih.letters, ih.prod, lsw_lsw]
    · intro hr
      obtain ⟨hl, hp, hn⟩ := hr
      cases word with
      | nil => simp at hn; omega
      | cons k word =>
        obtain ⟨hk, hl1⟩ := letters_cons.1 hl
        obtain ⟨t, rfl⟩ : ∃ t : Nat, k = (t : Int) := ⟨k.toNat, by omega⟩
        have hpp := prod_perm h.size.1 h.size.2 hl1
        have hlp := len_prod h.size.1 h.size.2 word hl1
        rw [prod_cons (by omega) hl1] at hp
        have hb : prodW n word = lsw w t := by rw [← hp, lsw_lsw]
        simp at hn
        rcases len_lsw_cases h (k := t) (by omega) with ⟨h1, h2⟩ | ⟨h1, h2⟩
        · refine ⟨t, ⟨by omega, h1⟩, word, (mem_redL m (lsw_perm h (by omega)) (by omega) word).2 ⟨hl1, hb, by omega⟩, rfl⟩
        · rw [hb] at hlp; omega
theorem asc_redL (n : Nat) : ∀ (m : Nat) (w : List Int), Asc (redL n m w)
  | 0, w => by simp [redL, Asc]
  | m + 1, w => by
    unfold Asc redL
    rw [List.pairwise_flatMap]
    refine ⟨fun k hk => ?_, ?_⟩
    · refine List.Pairwise.map _ (R := fun a b => lexLt a b = true) (fun a b h => ?_) (asc_redL n m _)
      simpa [lexLt, cmpL] using h
    · have : (ldesc n w).Pairwise (· < ·) := List.Pairwise.filter _ List.pairwise_lt_range
      refine this.imp fun {a b} hab x hx y hy => ?_
      obtain ⟨x', _, rfl⟩ := List.mem_map.1 hx
      obtain ⟨y', _, rfl⟩ := List.mem_map.1 hy
      have : (a : Int) < (b : Int) := by omega
      simp [lexLt, cmpL, this]
theorem nodup_of_asc {l : List (List Int)} (h : Asc l) : l.Nodup := by
  rw [List.nodup_iff_pairwise_ne]
  refine h.imp fun {a b} hab e => ?_
  rw [e, lexLt_irrefl] at hab; simp at hab
theorem nodup_redR (n : Nat) : ∀ (m : Nat) (w : List Int), (redR n m w).Nodup
  | 0, w => by simp [redR]
  | m + 1, w => by
    rw [List.nodup_iff_pairwise_ne]
    unfold redR
    rw [List.pairwise_flatMap]
    refine ⟨fun k hk => ?_, ?_⟩
    · refine List.Pairwise.map _ (R := fun a b => a ≠ b) (fun a b h e => h (List.append_cancel_right e)) ?_
      exact List.nodup_iff_pairwise_ne.1 (nodup_redR n m _)
    · have : (rdesc n w).Pairwise (· < ·) := List.Pairwise.filter _ List.pairwise_lt_range
      refine this.imp fun {a b} hab x hx y hy e => ?_
      obtain ⟨x', _, rfl⟩ := List.mem_map.1 hx
      obtain ⟨y', _, rfl⟩ := List.mem_map.1 hy
      have := (List.append_inj' e rfl).2
      simp at this
      omega
theorem redR_perm {n m : Nat} {w : List Int} (h : PermN n w) (hm : lenOf w = (m : Int)) : (redR n m w).Perm (redL n m w) :=
  (List.perm_ext_iff_of_nodup (nodup_redR n m w) (nodup_of_asc (asc_redL n m w))).2 fun word => (mem_redR m h hm word).trans (mem_redL m h hm word).symm
/-- How many reduced words there are. -/
def redN (n : Nat) (w : List Int) : Nat := (redL n (lenOf w).toNat w).length
theorem redL_pos {n : Nat} : ∀ (m : Nat) {w : List Int}, PermN n w → lenOf w = (m : Int) → 0 < (redL n m w).length
  | 0, _, _, _ => by simp [redL]
  | m + 1, w, h, hm => by
    have : ∃ k, k + 1 < n ∧ pv (invOf w) (k + 1) < pv (invOf w) k := by
      by_cases hx : ∃ k, k + 1 < n ∧ pv (invOf w) (k + 1) < pv (invOf w) k
      · exact hx
      · exfalso
        have hi := inv_perm h
        have e := id_of_up hi (fun k hk => by
          rw [hi.eq (by omega), hi.eq hk]
          have hne : pv (invOf w) k ≠ pv (invOf w) (k + 1) := fun e => by have := hi.inj (by omega) hk e; omega
          have : ¬ pv (invOf w) (k + 1) < pv (invOf w) k := fun h => hx ⟨k, hk, h⟩
          omega)
        have e2 : w = idL n := by
          refine perm_ext h (id_perm h.size.1 h.size.2) fun i hin => ?_
          have a := inv_pv h hin
          have b := h.lt hin
          have e3 : ∀ t, t < n → pv (idL n) t = t := fun t ht => by simp [pv, idL, List.getD_eq_getElem?_getD, ht]
          rw [e, e3 _ b] at a
          rw [e3 i hin, a]
        rw [e2, len_id] at hm
        omega
    obtain ⟨k, hk, hd⟩ := this
    have ih := redL_pos m (lsw_perm h hk) (by have := len_lsw_down h hk hd; omega)
    obtain ⟨x, hx⟩ := List.exists_mem_of_length_pos ih
    exact List.length_pos_of_mem (List.mem_flatMap.2 ⟨k, mem_ldesc.2 ⟨hk, hd⟩, List.mem_map.2 ⟨x, hx, rfl⟩⟩)

end Go.Proofs.Ytfepepakellbbaa
