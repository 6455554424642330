/-
  The order of permutations by ranks: inverses, the longest permutation, covers. Plain.
-/
import Derived.Test.YtfepepakellbbaaLift
import Derived.Test.YtfepepakellbbaaCov
import Derived.Test.YtfepepakellbbaaFive
namespace Go.Proofs.Ytfepepakellbbaa
open Go.RowKit
set_option linter.unusedVariables false

theorem bru_refl {n : Nat} {u : List Int} (hu : PermN n u) : belowB u u = true := (below_iff hu hu).2 fun _ _ _ _ => Nat.le_refl _
theorem bru_anti {n : Nat} {u v : List Int} (hu : PermN n u) (hv : PermN n v) (h1 : belowB u v = true) (h2 : belowB v u = true) : u = v := by
  have a := (below_iff hu hv).1 h1
  have b := (below_iff hv hu).1 h2
  refine perm_ext hu hv fun i hi => ?_
  have key : ∀ {u v : List Int}, PermN n u → PermN n v → (∀ r c, r ≤ n → c ≤ n → rankUp v r (c : Int) = rankUp u r (c : Int)) → ¬ pv u i < pv v i := by
    intro u v hu hv he hlt
    have h3 := he (i + 1) (pv v i) (by omega) (by have := hv.lt hi; omega)
    have h4 := he i (pv v i) (by omega) (by have := hv.lt hi; omega)
    rw [rk_succ hu hi, rk_succ hv hi, if_neg (Nat.lt_irrefl _), if_pos hlt] at h3
    omega
  have e : ∀ r c, r ≤ n → c ≤ n → rankUp v r (c : Int) = rankUp u r (c : Int) := fun r c hr hc => Nat.le_antisymm (a r c hr hc) (b r c hr hc)
  have k1 := key hu hv e
  have k2 := key hv hu (fun r c hr hc => (e r c hr hc).symm)
  omega
theorem bru_trans {n : Nat} {u v w : List Int} (hu : PermN n u) (hv : PermN n v) (hw : PermN n w) (h1 : belowB u v = true) (h2 : belowB v w = true) : belowB u w = true := by
  have a := (below_iff hu hv).1 h1
  have b := (below_iff hv hw).1 h2
  exact (below_iff hu hw).2 fun r c hr hc => Nat.le_trans (b r c hr hc) (a r c hr hc)
theorem rank_inv {n : Nat} {u : List Int} (h : PermN n u) : ∀ r c, r ≤ n → c ≤ n → rankUp (invOf u) r (c : Int) = rankUp u c (r : Int)
  | 0, c, _, hc => by rw [rankUp_zero]; exact (rk_left h c hc).symm
  | r + 1, c, hr, hc => by
    have ih := rank_inv h r c (by omega) hc
    have hi := inv_perm h
    have hj := hi.lt (i := r) (by omega)
    have e := rk_col h (i := pv (invOf u) r) hj c hc
    rw [pv_inv h (by omega)] at e
    rw [rk_succ hi (by omega), ih]
    exact e.symm
theorem bru_inv {n : Nat} {u v : List Int} (hu : PermN n u) (hv : PermN n v) : belowB (invOf u) (invOf v) = belowB u v := by
  rw [Bool.eq_iff_iff, below_iff (inv_perm hu) (inv_perm hv), below_iff hu hv]
  constructor
  · intro h r c hr hc
    have := h c r hc hr
    rwa [rank_inv hv c r hc hr, rank_inv hu c r hc hr] at this
  · intro h r c hr hc
    rw [rank_inv hv r c hr hc, rank_inv hu r c hr hc]
    exact h c r hc hr
theorem top_perm {n : Nat} (h1 : 1 ≤ n) (h7 : n ≤ 7) : PermN n (idL n).reverse := by
  have h := id_perm (n := n) h1 h7
  obtain ⟨a1, a2, a3, a4⟩ := isPermB_iff.1 h.1
  refine ⟨isPermB_iff.2 ⟨by rw [List.length_reverse]; exact a1, by rw [List.length_reverse]; exact a2, fun x hx => ?_, (List.reverse_perm _).nodup_iff.2 a4⟩, by rw [List.length_reverse]; exact h.2⟩
  rw [List.length_reverse]
  exact a3 x (List.mem_reverse.1 hx)
theorem pv_top {n i : Nat} (hi : i < n) : pv (idL n).reverse i = n - 1 - i := by
  have hlt2 : n - 1 - i < n := by omega
  rw [pv, List.getD_eq_getElem?_getD, List.getElem?_reverse (by rw [idL_len]; exact hi), idL_len, idL, List.getElem?_map, List.getElem?_range hlt2]
  simp
theorem pv_then {n : Nat} {u v : List Int} (hv : PermN n v) {i : Nat} (hi : i < n) : pv (thenL u v) i = pv u (pv v i) := by
  rw [pv, thenL, map_getD _ _ _ (by rw [hv.2]; exact hi)]
  rfl
theorem rank_top {n : Nat} {v : List Int} (h : PermN n v) : ∀ r c, r ≤ n → c ≤ n → rankUp (thenL (idL n).reverse v) r (c : Int) + rankUp v r ((n - c : Nat) : Int) = r
  | 0, c, _, hc => by rw [rankUp_zero, rankUp_zero]
  | r + 1, c, hr, hc => by
    have ih := rank_top h r c (by omega) hc
    have ht := then_perm (top_perm h.size.1 h.size.2) h
    rw [rk_succ ht (by omega), rk_succ h (by omega), pv_then h (by omega), pv_top (h.lt (by omega))]
    have := h.lt (i := r) (by omega)
    by_cases h1 : pv v r < n - c
    · rw [if_pos h1, if_neg (by omega)]; omega
    · rw [if_neg h1, if_pos (by omega)]; omega
theorem bru_top {n : Nat} {u v : List Int} (hu : PermN n u) (hv : PermN n v) : belowB (thenL (idL n).reverse v) (thenL (idL n).reverse u) = belowB u v := by
  have ht := top_perm hu.size.1 hu.size.2
  rw [Bool.eq_iff_iff, below_iff (then_perm ht hv) (then_perm ht hu), below_iff hu hv]
  constructor
  · intro h r c hr hc
    have := h r (n - c) hr (by omega)
    have e1 := rank_top hu r (n - c) hr (by omega)
    have e2 := rank_top hv r (n - c) hr (by omega)
    rw [show n - (n - c) = c by omega] at e1 e2
    omega
  · intro h r c hr hc
    have := h r (n - c) hr (by omega)
    have e1 := rank_top hu r c hr hc
    have e2 := rank_top hv r c hr hc
    omega
theorem rank_swap {n : Nat} {u : List Int} (h : PermN n u) {a b : Nat} (hab : a < b) (hb : b < n) (hlt : pv u a < pv u b) (c : Nat) : ∀ r, r ≤ n →
    rankUp (swapL u a b) r (c : Int) + (if a < r ∧ r ≤ b ∧ pv u a < c ∧ c ≤ pv u b then 1 else 0) = rankUp u r (c : Int)
  | 0, _ => by rw [rankUp_zero, rankUp_zero, if_neg (by omega)]
  | r + 1, hr => by
    have ih := rank_swap h hab hb hlt c r (by omega)
    have hs := swap_perm h (i := a) (j := b) (by omega) hb
    rw [rk_succ hs (by omega), rk_succ h (by omega), pv_swap h (by omega) hb]
    by_cases e1 : r = b
    · subst e1
      rw [if_pos rfl]
      split at ih <;> split <;> split <;> split <;> omega
    · rw [if_neg e1]
      by_cases e2 : r = a
      · subst e2
        rw [if_pos rfl]
        split at ih <;> split <;> split <;> split <;> omega
      · rw [if_neg e2]
        split at ih <;> split <;> split <;> omega
theorem bru_swap {n : Nat} {u : List Int} (h : PermN n u) {a b : Nat} (hab : a < b) (hb : b < n) (hlt : pv u a < pv u b) : belowB u (swapL u a b) = true :=
  (below_iff h (swap_perm h (by omega) hb)).2 fun r c hr hc => by have := rank_swap h hab hb hlt c r hr; omega

/-- The covers of permutations of at most five numbers, one by one. -/
def covOkB (n : Nat) (u : List Int) : Bool := (List.range n).all fun b => (List.range b).all fun a =>
  decide (covB u a b = (decide (u.getD a 0 < u.getD b 0) && (List.range b).all fun k => !(decide (a < k) && decide (u.getD a 0 < u.getD k 0) && decide (u.getD k 0 < u.getD b 0))))
theorem cov1 : (permsOf 1).all (covOkB 1) = true := by kernel_rfl
theorem cov2 : (permsOf 2).all (covOkB 2) = true := by kernel_rfl
theorem cov3 : (permsOf 3).all (covOkB 3) = true := by kernel_rfl
theorem cov4 : (permsOf 4).all (covOkB 4) = true := by kernel_rfl
theorem cov5 : (permsOf 5).all (covOkB 5) = true := by kernel_rfl
theorem cov_iff {n : Nat} (h5 : n ≤ 5) {u : List Int} (h : PermN n u) {a b : Nat} (hab : a < b) (hb : b < n) : covB u a b = true ↔ pv u a < pv u b ∧ ∀ k, a < k → k < b → ¬ (pv u a < pv u k ∧ pv u k < pv u b) := by
  have hm := mem_perms h
  have h1 := h.size.1
  have hk : covOkB n u = true := by
    match n, h1, h5 with
    | 1, _, _ => exact List.all_eq_true.1 cov1 u hm
    | 2, _, _ => exact List.all_eq_true.1 cov2 u hm
    | 3, _, _ => exact List.all_eq_true.1 cov3 u hm
    | 4, _, _ => exact List.all_eq_true.1 cov4 u hm
    | 5, _, _ => exact List.all_eq_true.1 cov5 u hm
  simp only [covOkB, List.all_eq_true, List.mem_range, decide_eq_true_eq] at hk
  rw [hk b hb a hab]
  simp only [Bool.and_eq_true, decide_eq_true_eq, List.all_eq_true, List.mem_range, Bool.not_eq_true', Bool.and_eq_false_iff, decide_eq_false_iff_not]
  rw [h.eq (by omega), h.eq hb]
  constructor
  · rintro ⟨e1, e2⟩
    refine ⟨by omega, fun k hk1 hk2 hc => ?_⟩
    have := e2 k hk2
    rw [h.eq (by omega)] at this
    omega
  · rintro ⟨e1, e2⟩
    refine ⟨by omega, fun k hk2 => ?_⟩
    rw [h.eq (by omega)]
    by_cases hk1 : a < k
    · have := e2 k hk1 hk2; omega
    · omega
theorem cover_facts {n : Nat} (h5 : n ≤ 5) {u z : List Int} (h : PermN n u) (hz : z ∈ coversL u) : PermN n z ∧ lengthL z = lengthL u + 1 ∧ belowB u z = true := by
  obtain ⟨a, b, hab, hb, hc, rfl⟩ := (mem_covers h.1 z).1 hz
  rw [h.2] at hb
  refine ⟨swap_perm h (by omega) hb, by simpa [covB] using hc, bru_swap h hab hb ((cov_iff h5 h hab hb).1 hc).1⟩
theorem first_of (P : Nat → Prop) : ∀ n, (∃ i, i < n ∧ P i) → ∃ i, i < n ∧ P i ∧ ∀ t, t < i → ¬ P t
  | 0, ⟨i, hi, _⟩ => absurd hi (Nat.not_lt_zero _)
  | n + 1, ⟨i, hi, hp⟩ => by
    by_cases h : ∃ i, i < n ∧ P i
    · obtain ⟨j, h1, h2, h3⟩ := first_of P n h
      exact ⟨j, by omega, h2, h3⟩
    · have : i = n := by
        by_cases e : i < n
        · exact absurd ⟨i, e, hp⟩ h
        · omega
      subst this
      exact ⟨i, by omega, hp, fun t ht ht2 => h ⟨t, ht, ht2⟩⟩
theorem rank_agree {n : Nat} {u v : List Int} (hu : PermN n u) (hv : PermN n v) {i : Nat} (hi : i ≤ n) (he : ∀ t, t < i → pv u t = pv v t) (c : Nat) : ∀ r, r ≤ i → rankUp u r (c : Int) = rankUp v r (c : Int)
  | 0, _ => by rw [rankUp_zero, rankUp_zero]
  | r + 1, hr => by rw [rk_succ hu (by omega), rk_succ hv (by omega), rank_agree hu hv hi he c r (by omega), he r (by omega)]
theorem bru_cover {n : Nat} (h5 : n ≤ 5) {u v : List Int} (hu : PermN n u) (hv : PermN n v) (hle : belowB u v = true) (hne : u ≠ v) : ∃ z ∈ coversL u, belowB z v = true := by
  have hL := (below_iff hu hv).1 hle
  obtain ⟨i, hi, hd, hag⟩ : ∃ i, i < n ∧ pv u i ≠ pv v i ∧ ∀ t, t < i → ¬ pv u t ≠ pv v t := first_of _ n (by
    by_cases h : ∃ i, i < n ∧ pv u i ≠ pv v i
    · exact h
    · exact absurd (perm_ext hu hv fun i hi => by
        by_cases e : pv u i = pv v i
        · exact e
        · exact absurd ⟨i, hi, e⟩ h) hne)
  have hag' : ∀ t, t < i → pv u t = pv v t := fun t ht => by have := hag t ht; omega
  have hri := fun c => rank_agree hu hv (Nat.le_of_lt hi) hag' c i (Nat.le_refl _)
  have hlt : pv u i < pv v i := by
    by_cases h : pv u i < pv v i
    · exact h
    · exfalso
      have h1 := hL (i + 1) (pv v i + 1) (by omega) (by have := hv.lt hi; omega)
      have h2 := hri (pv v i + 1)
      rw [rk_succ hu hi, rk_succ hv hi, if_pos (Nat.lt_succ_self _), if_neg (by omega)] at h1
      omega
  obtain ⟨j, hj, ⟨hij, hj1, hj2⟩, hmin⟩ : ∃ j, j < n ∧ (i < j ∧ pv u i < pv u j ∧ pv u j ≤ pv v i) ∧ ∀ t, t < j → ¬ (i < t ∧ pv u i < pv u t ∧ pv u t ≤ pv v i) := first_of _ n (by
    obtain ⟨p, hp, e⟩ := hu.surj (hv.lt hi)
    refine ⟨p, hp, ?_, by omega, by omega⟩
    by_cases h : i < p
    · exact h
    · exfalso
      by_cases e2 : p = i
      · subst e2; omega
      · have := hag' p (by omega)
        have := hv.inj hp hi (by omega)
        omega)
  have hcov : covB u i j = true := (cov_iff h5 hu hij hj).2 ⟨hj1, fun k hk1 hk2 hc => hmin k hk2 ⟨hk1, hc.1, by omega⟩⟩
  have hz := swap_perm hu (i := i) (j := j) (by omega) hj
  refine ⟨swapL u i j, (mem_covers hu.1 _).2 ⟨i, j, hij, by rw [hu.2]; exact hj, hcov, rfl⟩, (below_iff hz hv).2 fun r c hr hc => ?_⟩
  have hs := rank_swap hu hij hj hj1 c r hr
  by_cases hin : i < r ∧ r ≤ j ∧ pv u i < c ∧ c ≤ pv u j
  · rw [if_pos hin] at hs
    obtain ⟨k1, k2, k3, k4⟩ := hin
    have hcs : pv v i + 1 ≤ n := hv.lt hi
    have hU : ∀ r, i ≤ r → r ≤ j → rankUp u r ((pv v i + 1 : Nat) : Int) + rankUp u i (c : Int) = rankUp u r (c : Int) + rankUp u i ((pv v i + 1 : Nat) : Int) := by
      intro r
      induction r with
      | zero => intro h1 h2; rw [show i = 0 by omega]; omega
      | succ r ih =>
        intro h1 h2
        by_cases e : i = r + 1
        · rw [e]; omega
        · have ih' := ih (by omega) (by omega)
          rw [rk_succ hu (by omega), rk_succ hu (by omega)]
          by_cases e2 : r = i
          · subst e2
            rw [if_pos (by omega), if_pos k3]; omega
          · have := hmin r (by omega)
            by_cases h3 : pv u r < c
            · rw [if_pos (by omega), if_pos h3]; omega
            · rw [if_neg (by omega), if_neg h3]; omega
    have hV : ∀ r, i < r → r ≤ n → rankUp v r (c : Int) + rankUp v i ((pv v i + 1 : Nat) : Int) + 1 ≤ rankUp v r ((pv v i + 1 : Nat) : Int) + rankUp v i (c : Int) := by
      intro r
      induction r with
      | zero => intro h1 _; omega
      | succ r ih =>
        intro h1 h2
        rw [rk_succ hv (by omega), rk_succ hv (by omega)]
        by_cases e2 : r = i
        · subst e2
          rw [if_neg (by omega), if_pos (Nat.lt_succ_self _)]; omega
        · have ih' := ih (by omega) (by omega)
          by_cases h3 : pv v r < c
          · rw [if_pos h3, if_pos (by omega)]; omega
          · rw [if_neg h3]; omega
    have a1 := hU r (by omega) k2
    have a2 := hV r k1 hr
    have a3 := hL r (pv v i + 1) hr hcs
    have a4 := hri c
    have a5 := hri (pv v i + 1)
    omega
  · rw [if_neg hin] at hs
    have := hL r c hr hc
    omega
def foundC (f0 : Bool) (ls : ListsL) (v : List Int) (i : Nat) : Bool := f0 || (ls.take i).any fun z => belowB z v
theorem foundC_succ {f0 : Bool} {ls : ListsL} {v z : List Int} {i : Nat} (h : ls[i]? = some z) : foundC f0 ls v (i + 1) = (foundC f0 ls v i || belowB z v) := by
  unfold foundC
  rw [List.take_add_one, h]
  simp [List.any_append, Bool.or_assoc]
theorem foundC_all {n : Nat} (h5 : n ≤ 5) {u v : List Int} (hu : PermN n u) (hv : PermN n v) {i : Nat} (hi : i = (coversL u).length) : foundC (decide (u = v)) (coversL u) v i = belowB u v := by
  rw [foundC, List.take_of_length_le (by omega), Bool.eq_iff_iff]
  simp only [Bool.or_eq_true, decide_eq_true_eq, List.any_eq_true]
  constructor
  · rintro (rfl | ⟨z, hz, hb⟩)
    · exact bru_refl hu
    · obtain ⟨hp, _, hl⟩ := cover_facts h5 hu hz
      exact bru_trans hu hp hv hl hb
  · intro h
    by_cases e : u = v
    · exact .inl e
    · exact .inr (bru_cover h5 hu hv h e)

end Go.Proofs.Ytfepepakellbbaa
