/-
  Swaps of neighbours and the order of permutations: plain.
-/
import Derived.Test.YtfepepakellbbaaRk
namespace Go.Proofs.Ytfepepakellbbaa
open Go.RowKit
set_option linter.unusedVariables false

/-- u is below v, by ranks. -/
def Le (n : Nat) (u v : List Int) : Prop := ∀ r c, r ≤ n → c ≤ n → rankUp v r (c : Int) ≤ rankUp u r (c : Int)
theorem Le.refl (n : Nat) (u : List Int) : Le n u u := fun _ _ _ _ => Nat.le_refl _
theorem Le.trans {n : Nat} {u v w : List Int} (h1 : Le n u v) (h2 : Le n v w) : Le n u w := fun r c hr hc => Nat.le_trans (h2 r c hr hc) (h1 r c hr hc)
theorem Le.below {n : Nat} {u v : List Int} (hu : PermN n u) (hv : PermN n v) (h : Le n u v) : belowB u v = true := (below_iff hu hv).2 h

theorem pv_swap {n : Nat} {u : List Int} (h : PermN n u) {i j : Nat} (hi : i < n) (hj : j < n) (t : Nat) : pv (swapL u i j) t = if t = j then pv u i else if t = i then pv u j else pv u t := by
  have hl := h.2
  unfold pv swapL
  rw [List.getD_eq_getElem?_getD, List.getElem?_set]
  by_cases h1 : j = t
  · subst h1
    rw [if_pos rfl, if_pos (by simp; omega), if_pos rfl]; rfl
  · rw [if_neg h1, if_neg (fun e => h1 e.symm), List.getElem?_set]
    by_cases h2 : i = t
    · subst h2
      rw [if_pos rfl, if_pos (by omega), if_pos rfl]; rfl
    · rw [if_neg h2, if_neg (fun e => h2 e.symm), ← List.getD_eq_getElem?_getD]

theorem pv_swap_r {n : Nat} {u : List Int} (h : PermN n u) {i j : Nat} (hi : i < n) (hj : j < n) : pv (swapL u i j) j = pv u i := by rw [pv_swap h hi hj, if_pos rfl]
theorem pv_swap_l {n : Nat} {u : List Int} (h : PermN n u) {i j : Nat} (hi : i < n) (hj : j < n) (hne : i ≠ j) : pv (swapL u i j) i = pv u j := by rw [pv_swap h hi hj, if_neg hne, if_pos rfl]
theorem pv_swap_o {n : Nat} {u : List Int} (h : PermN n u) {i j t : Nat} (hi : i < n) (hj : j < n) (h1 : t ≠ i) (h2 : t ≠ j) : pv (swapL u i j) t = pv u t := by rw [pv_swap h hi hj, if_neg h2, if_neg h1]

theorem swap_low {n : Nat} {u : List Int} (h : PermN n u) {k : Nat} (hk : k + 1 < n) (c : Nat) : ∀ r, r ≤ k → rankUp (swapL u k (k + 1)) r (c : Int) = rankUp u r (c : Int)
  | 0, _ => by rw [rankUp_zero, rankUp_zero]
  | r + 1, hr => by
    have hs := swap_perm h (i := k) (j := k + 1) (by omega) hk
    rw [rk_succ hs (by omega), rk_succ h (by omega), swap_low h hk c r (by omega), pv_swap_o h (by omega) hk (by omega) (by omega)]
theorem swap_mid {n : Nat} {u : List Int} (h : PermN n u) {k : Nat} (hk : k + 1 < n) (c : Nat) : rankUp (swapL u k (k + 1)) (k + 1) (c : Int) = rankUp u k (c : Int) + if pv u (k + 1) < c then 1 else 0 := by
  have hs := swap_perm h (i := k) (j := k + 1) (by omega) hk
  rw [rk_succ hs (by omega), swap_low h hk c k (Nat.le_refl _), pv_swap_l h (by omega) hk (by omega)]
theorem swap_high {n : Nat} {u : List Int} (h : PermN n u) {k : Nat} (hk : k + 1 < n) (c : Nat) : ∀ d, k + 2 + d ≤ n → rankUp (swapL u k (k + 1)) (k + 2 + d) (c : Int) = rankUp u (k + 2 + d) (c : Int)
  | 0, hd => by
    have hs := swap_perm h (i := k) (j := k + 1) (by omega) hk
    show rankUp (swapL u k (k + 1)) (k + 1 + 1) (c : Int) = rankUp u (k + 1 + 1) (c : Int)
    rw [rk_succ hs (by omega), swap_mid h hk, pv_swap_r h (by omega) hk, rk_succ h (by omega), rk_succ h (by omega)]
    omega
  | d + 1, hd => by
    have hs := swap_perm h (i := k) (j := k + 1) (by omega) hk
    show rankUp (swapL u k (k + 1)) (k + 2 + d + 1) (c : Int) = rankUp u (k + 2 + d + 1) (c : Int)
    rw [rk_succ hs (by omega), rk_succ h (by omega), swap_high h hk c d (by omega), pv_swap_o h (by omega) hk (by omega) (by omega)]
theorem swap_off {n : Nat} {u : List Int} (h : PermN n u) {k : Nat} (hk : k + 1 < n) (c r : Nat) (hr : r ≤ n) (hne : r ≠ k + 1) : rankUp (swapL u k (k + 1)) r (c : Int) = rankUp u r (c : Int) := by
  by_cases h1 : r ≤ k
  · exact swap_low h hk c r h1
  · obtain ⟨d, rfl⟩ : ∃ d, r = k + 2 + d := ⟨r - (k + 2), by omega⟩
    exact swap_high h hk c d hr

/-- One letter: the swap, where it makes longer (or always). -/
def stepL (all : Bool) (u : List Int) (k : Nat) : List Int := if all = true ∨ u.getD k 0 < u.getD (k + 1) 0 then swapL u k (k + 1) else u
theorem stepL_all (u : List Int) (k : Nat) : stepL true u k = swapL u k (k + 1) := by simp [stepL]
theorem stepL_up {all : Bool} {u : List Int} {k : Nat} (h : u.getD k 0 < u.getD (k + 1) 0) : stepL all u k = swapL u k (k + 1) := by unfold stepL; rw [if_pos (.inr h)]
theorem stepL_not {u : List Int} {k : Nat} (h : ¬ u.getD k 0 < u.getD (k + 1) 0) : stepL false u k = u := by unfold stepL; rw [if_neg (fun h' => h'.elim (fun h' => by cases h') h)]
theorem step_perm {n : Nat} {u : List Int} (h : PermN n u) {k : Nat} (hk : k + 1 < n) (all : Bool) : PermN n (stepL all u k) := by
  unfold stepL; split
  · exact swap_perm h (by omega) hk
  · exact h
theorem step_mid {n : Nat} {u : List Int} (h : PermN n u) {k : Nat} (hk : k + 1 < n) (c : Nat) :
    rankUp (stepL false u k) (k + 1) (c : Int) = if rankUp u (k + 2) (c : Int) = rankUp u k (c : Int) + 2 then rankUp u k (c : Int) + 1 else rankUp u k (c : Int) := by
  have e1 := rk_succ h (r := k) (by omega) c
  have e2 := rk_succ h (r := k + 1) (by omega) c
  by_cases hup : u.getD k 0 < u.getD (k + 1) 0
  · rw [stepL_up hup, swap_mid h hk]
    rw [h.eq (by omega), h.eq hk] at hup
    show _ = if rankUp u (k + 1 + 1) (c : Int) = _ then _ else _
    rw [e2, e1]
    by_cases a : pv u k < c
    · by_cases b : pv u (k + 1) < c
      · rw [if_pos a, if_pos b, if_pos (by omega)]
      · rw [if_pos a, if_neg b, if_neg (by omega)]; rfl
    · rw [if_neg a, if_neg (show ¬ pv u (k + 1) < c by omega), if_neg (by omega)]; rfl
  · rw [stepL_not hup]
    rw [h.eq (by omega), h.eq hk] at hup
    show _ = if rankUp u (k + 1 + 1) (c : Int) = _ then _ else _
    rw [e2, e1]
    by_cases a : pv u k < c
    · rw [if_pos a, if_pos (show pv u (k + 1) < c by have := h.inj (i := k) (j := k + 1) (by omega) hk; omega), if_pos (by omega)]
    · by_cases b : pv u (k + 1) < c
      · rw [if_neg a, if_pos b, if_neg (by omega)]; rfl
      · rw [if_neg a, if_neg b, if_neg (by omega)]; rfl
theorem step_off {n : Nat} {u : List Int} (h : PermN n u) {k : Nat} (hk : k + 1 < n) (all : Bool) (c r : Nat) (hr : r ≤ n) (hne : r ≠ k + 1) : rankUp (stepL all u k) r (c : Int) = rankUp u r (c : Int) := by
  unfold stepL; split
  · exact swap_off h hk c r hr hne
  · rfl
theorem le_step_mono {n : Nat} {u v : List Int} (hu : PermN n u) (hv : PermN n v) {k : Nat} (hk : k + 1 < n) (h : Le n u v) : Le n (stepL false u k) (stepL false v k) := by
  intro r c hr hc
  by_cases e : r = k + 1
  · subst e
    rw [step_mid hu hk, step_mid hv hk]
    have h0 := h k c (by omega) hc
    have h2 := h (k + 2) c (by omega) hc
    have u1 := rk_step hu (r := k) (by omega) c
    have u2 : rankUp u (k + 1) (c : Int) ≤ rankUp u (k + 2) (c : Int) ∧ rankUp u (k + 2) (c : Int) ≤ rankUp u (k + 1) (c : Int) + 1 := rk_step hu (r := k + 1) (by omega) c
    split <;> split <;> omega
  · rw [step_off hu hk _ _ _ hr e, step_off hv hk _ _ _ hr e]; exact h r c hr hc
theorem le_step {n : Nat} {u : List Int} (hu : PermN n u) {k : Nat} (hk : k + 1 < n) : Le n u (stepL false u k) := by
  intro r c hr hc
  by_cases e : r = k + 1
  · subst e
    rw [step_mid hu hk]
    have u1 := rk_step hu (r := k) (by omega) c
    have u2 : rankUp u (k + 1) (c : Int) ≤ rankUp u (k + 2) (c : Int) ∧ rankUp u (k + 2) (c : Int) ≤ rankUp u (k + 1) (c : Int) + 1 := rk_step hu (r := k + 1) (by omega) c
    split <;> omega
  · rw [step_off hu hk _ _ _ hr e]; exact Nat.le_refl _
theorem le_swap_step {n : Nat} {u : List Int} (hu : PermN n u) {k : Nat} (hk : k + 1 < n) : Le n (swapL u k (k + 1)) (stepL false u k) := by
  intro r c hr hc
  by_cases e : r = k + 1
  · subst e
    rw [step_mid hu hk, swap_mid hu hk]
    have e1 := rk_succ hu (r := k) (by omega) c
    have e2 := rk_succ hu (r := k + 1) (by omega) c
    have e3 : rankUp u (k + 2) (c : Int) = rankUp u (k + 1) (c : Int) + if pv u (k + 1) < c then 1 else 0 := e2
    rw [e3, e1]
    split <;> split <;> split <;> omega
  · rw [step_off hu hk _ _ _ hr e, swap_off hu hk _ _ hr e]; exact Nat.le_refl _

/-- A word, letter for letter. -/
def runL (all : Bool) (u : List Int) (word : List Int) : List Int := word.foldl (fun v k => stepL all v k.toNat) u
theorem playUp_run (all : Bool) (word : List Int) (n : Nat) : ∀ j, j ≤ word.length → playUp all word n j = runL all (idL n) (word.take j)
  | 0, _ => by simp [playUp, runL]
  | j + 1, hj => by
    have ih := playUp_run all word n j (by omega)
    have e : word.take (j + 1) = word.take j ++ [word.getD j 0] := by
      rw [List.take_add_one, List.getD_eq_getElem?_getD, List.getElem?_eq_getElem (by omega)]; rfl
    rw [e]
    unfold runL at ih ⊢
    rw [List.foldl_append, ← ih]
    simp only [playUp, List.foldl_cons, List.foldl_nil, stepL]
theorem playUp_all (all : Bool) (word : List Int) (n : Nat) : playUp all word n word.length = runL all (idL n) word := by
  rw [playUp_run all word n _ (Nat.le_refl _), List.take_length]
theorem run_up {all : Bool} {v w word : List Int} (h : Up v word w) : runL all v word = w := by
  induction h with
  | nil w => rfl
  | cons hlt _ ih =>
    simp only [runL, List.foldl_cons, Int.toNat_natCast] at ih ⊢
    rw [stepL_up hlt]; exact ih
theorem run_perm {n : Nat} (all : Bool) : ∀ (word u : List Int), PermN n u → Letters n word → PermN n (runL all u word)
  | [], u, hu, _ => hu
  | k :: word, u, hu, hl => by
    have := hl k (by simp)
    exact run_perm all word _ (step_perm hu (by omega) all) (fun x hx => hl x (by simp [hx]))
/-- Parts of a word that goes up lead below what the word leads to. -/
theorem run_part {n : Nat} {v w word : List Int} (h : Up v word w) : ∀ (part a b : List Int), PermN n v → PermN n a → PermN n b → Letters n word → List.Sublist part word → Le n a b → Le n b v →
    Le n (runL true a part) (runL false b part) ∧ Le n (runL false b part) w := by
  induction h with
  | nil w =>
    intro part a b hv ha hb _ hs hab hbv
    have : part = [] := List.eq_nil_of_sublist_nil hs
    subst this
    exact ⟨hab, hbv⟩
  | @cons v w word k hlt hup ih =>
    intro part a b hv ha hb hl hs hab hbv
    have hk := hl (k : Int) (by simp)
    have hk' : k + 1 < n := by omega
    have hl' : Letters n word := fun x hx => hl x (by simp [hx])
    have hv' := swap_perm hv (i := k) (j := k + 1) (by omega) hk'
    have hvv : Le n v (swapL v k (k + 1)) := by have := le_step hv hk'; rwa [stepL_up hlt] at this
    cases hs with
    | cons _ hs => exact ih part a b hv' ha hb hl' hs hab (hbv.trans hvv)
    | cons_cons _ hs =>
      rename_i part'
      have h1 : Le n (stepL true a k) (stepL false b k) := by
        rw [stepL_all]; exact (le_swap_step ha hk').trans (le_step_mono ha hb hk' hab)
      have h2 : Le n (stepL false b k) (swapL v k (k + 1)) := by
        have := le_step_mono hb hv hk' hbv; rwa [stepL_up hlt] at this
      have := ih part' (stepL true a k) (stepL false b k) hv' (step_perm ha hk' _) (step_perm hb hk' _) hl' hs h1 h2
      simpa [runL] using this

end Go.Proofs.Ytfepepakellbbaa
