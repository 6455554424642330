/-
  Lists in lexicographic order; insertion; the covers of a permutation: plain.
-/
import Derived.Test.YtfepepakellbbaaSwap
import Derived.Test.YtfepepakellbbaaLen
namespace Go.Proofs.Ytfepepakellbbaa
open Go.RowKit
set_option linter.unusedVariables false

/-- Lists compared: the first place at which they differ, then the length. -/
def cmpL : List Int → List Int → Int
  | [], [] => 0
  | [], _ :: _ => -1
  | _ :: _, [] => 1
  | x :: a, y :: b => if x < y then -1 else if y < x then 1 else cmpL a b
def lexLt (a b : List Int) : Bool := decide (cmpL a b < 0)
theorem cmpL_self : ∀ a, cmpL a a = 0
  | [] => rfl
  | x :: a => by simp [cmpL, cmpL_self a]
theorem cmpL_neg : ∀ a b, cmpL b a = - cmpL a b
  | [], [] => rfl
  | [], _ :: _ => rfl
  | _ :: _, [] => rfl
  | x :: a, y :: b => by
    simp only [cmpL]
    have ih := cmpL_neg a b
    by_cases h1 : x < y
    · rw [if_neg (by omega), if_pos h1, if_pos h1]; rfl
    · by_cases h2 : y < x
      · rw [if_pos h2, if_neg h1, if_pos h2]
      · rw [if_neg h2, if_neg h1, if_neg h1, if_neg h2]; exact ih
theorem cmpL_eq : ∀ {a b : List Int}, cmpL a b = 0 → a = b
  | [], [], _ => rfl
  | [], _ :: _, h => by simp [cmpL] at h
  | _ :: _, [], h => by simp [cmpL] at h
  | x :: a, y :: b, h => by
    simp only [cmpL] at h
    by_cases h1 : x < y
    · rw [if_pos h1] at h; omega
    · by_cases h2 : y < x
      · rw [if_neg h1, if_pos h2] at h; omega
      · rw [if_neg h1, if_neg h2] at h
        rw [cmpL_eq h, show x = y by omega]
theorem cmpL_trans : ∀ {a b c : List Int}, cmpL a b ≤ 0 → cmpL b c ≤ 0 → cmpL a c ≤ 0 ∧ (cmpL a c = 0 → cmpL a b = 0)
  | [], [], [], _, _ => by simp [cmpL]
  | [], [], _ :: _, _, _ => by simp [cmpL]
  | [], _ :: _, [], _, h => by simp [cmpL] at h
  | [], _ :: _, _ :: _, _, _ => by simp [cmpL]
  | _ :: _, [], _, h, _ => by simp [cmpL] at h
  | _ :: _, _ :: _, [], _, h => by simp [cmpL] at h
  | x :: a, y :: b, z :: c, h1, h2 => by
    simp only [cmpL] at h1 h2 ⊢
    by_cases a1 : x < y
    · by_cases b1 : y < z
      · rw [if_pos (show x < z by omega), if_pos a1]; omega
      · by_cases b2 : z < y
        · rw [if_neg b1, if_pos b2] at h2; omega
        · rw [if_pos (show x < z by omega), if_pos a1]; omega
    · by_cases a2 : y < x
      · rw [if_neg a1, if_pos a2] at h1; omega
      · rw [if_neg a1, if_neg a2] at h1
        rw [if_neg a1, if_neg a2]
        by_cases b1 : y < z
        · rw [if_pos (show x < z by omega)]; omega
        · by_cases b2 : z < y
          · rw [if_neg b1, if_pos b2] at h2; omega
          · rw [if_neg b1, if_neg b2] at h2
            rw [if_neg (show ¬ x < z by omega), if_neg (show ¬ z < x by omega)]
            exact cmpL_trans h1 h2
theorem lexLt_irrefl (a : List Int) : lexLt a a = false := by simp [lexLt, cmpL_self]
theorem lexLt_asymm {a b : List Int} (h : lexLt a b = true) : lexLt b a = false := by
  simp only [lexLt, decide_eq_true_eq, decide_eq_false_iff_not] at h ⊢
  have := cmpL_neg a b; omega
theorem lexLt_trans {a b c : List Int} (h1 : lexLt a b = true) (h2 : lexLt b c = true) : lexLt a c = true := by
  simp only [lexLt, decide_eq_true_eq] at h1 h2 ⊢
  have := cmpL_trans (a := a) (b := b) (c := c) (by omega) (by omega)
  omega
theorem lexLt_ntrans {a b c : List Int} (h1 : lexLt a b = false) (h2 : lexLt b c = false) : lexLt a c = false := by
  simp only [lexLt, decide_eq_false_iff_not] at h1 h2 ⊢
  have n1 := cmpL_neg a b
  have n2 := cmpL_neg b c
  have n3 := cmpL_neg a c
  have := cmpL_trans (a := c) (b := b) (c := a) (by omega) (by omega)
  omega
theorem lexLt_total {a b : List Int} (h1 : lexLt a b = false) (hne : a ≠ b) : lexLt b a = true := by
  simp only [lexLt, decide_eq_false_iff_not, decide_eq_true_eq] at h1 ⊢
  have := cmpL_neg a b
  have : cmpL a b ≠ 0 := fun e => hne (cmpL_eq e)
  omega

/-- Ascending, no two alike. -/
def Asc (l : List (List Int)) : Prop := l.Pairwise (fun a b => lexLt a b = true)
theorem asc_unique : ∀ {l m : List (List Int)}, Asc l → Asc m → (∀ x, x ∈ l ↔ x ∈ m) → l = m
  | [], [], _, _, _ => rfl
  | [], y :: m, _, _, h => by have := (h y).2 (by simp); simp at this
  | x :: l, [], _, _, h => by have := (h x).1 (by simp); simp at this
  | x :: l, y :: m, hl, hm, h => by
    obtain ⟨hl1, hl2⟩ := List.pairwise_cons.1 hl
    obtain ⟨hm1, hm2⟩ := List.pairwise_cons.1 hm
    have hxy : x = y := by
      rcases List.mem_cons.1 ((h x).1 (by simp)) with e | e
      · exact e
      · rcases List.mem_cons.1 ((h y).2 (by simp)) with e2 | e2
        · exact e2.symm
        · have a := hm1 x e; have b := hl1 y e2
          rw [lexLt_asymm a] at b; simp at b
    subst hxy
    congr 1
    refine asc_unique hl2 hm2 fun z => ⟨fun hz => ?_, fun hz => ?_⟩
    · rcases List.mem_cons.1 ((h z).1 (by simp [hz])) with e | e
      · subst e; have := hl1 z hz; rw [lexLt_irrefl] at this; simp at this
      · exact e
    · rcases List.mem_cons.1 ((h z).2 (by simp [hz])) with e | e
      · subst e; have := hm1 z hz; rw [lexLt_irrefl] at this; simp at this
      · exact e

/-- A list is put into an ascending list, unless it is there. -/
def insL (x : List Int) : List (List Int) → List (List Int)
  | [] => [x]
  | y :: l => if lexLt y x = true then y :: insL x l else if y = x then y :: l else x :: y :: l
theorem mem_insL (x z : List Int) : ∀ l, z ∈ insL x l ↔ z = x ∨ z ∈ l
  | [] => by simp [insL]
  | y :: l => by
    simp only [insL]
    split
    · simp only [List.mem_cons, mem_insL x z l]
      exact ⟨fun h => by rcases h with h | h | h <;> simp [h], fun h => by rcases h with h | h | h <;> simp [h]⟩
    · split
      · rename_i e; subst e; simp
      · simp
theorem asc_insL (x : List Int) : ∀ l, Asc l → Asc (insL x l)
  | [], _ => by simp [insL, Asc]
  | y :: l, h => by
    obtain ⟨h1, h2⟩ := List.pairwise_cons.1 h
    simp only [insL]
    split
    · rename_i hlt
      refine List.pairwise_cons.2 ⟨fun z hz => ?_, asc_insL x l h2⟩
      rcases (mem_insL x z l).1 hz with e | e
      · subst e; exact hlt
      · exact h1 z e
    · rename_i hlt
      split
      · exact h
      · rename_i hne
        have hxy := lexLt_total (by simpa using hlt) hne
        refine List.pairwise_cons.2 ⟨fun z hz => ?_, h⟩
        rcases List.mem_cons.1 hz with e | e
        · subst e; exact hxy
        · exact lexLt_trans hxy (h1 z e)
/-- What the loop of l1Insert finds. -/
theorem insL_at (x : List Int) : ∀ (l : List (List Int)) (k : Nat), k ≤ l.length → (∀ t y, t < k → l[t]? = some y → lexLt y x = true) → (∀ y, l[k]? = some y → lexLt y x = false) →
    insL x l = if l[k]? = some x then l else l.take k ++ x :: l.drop k
  | [], 0, _, _, _ => by simp [insL]
  | y :: l, 0, _, _, h2 => by
    have := h2 y rfl
    simp only [insL, this, Bool.false_eq_true, if_false, List.getElem?_cons_zero, Option.some.injEq, List.take_zero, List.drop_zero, List.nil_append]
  | y :: l, k + 1, hk, h1, h2 => by
    have hy := h1 0 y (by omega) rfl
    have ih := insL_at x l k (by simpa using hk) (fun t z ht hz => h1 (t + 1) z (by omega) (by simpa using hz)) (fun z hz => h2 z (by simpa using hz))
    simp only [insL, hy, if_true, ih, List.getElem?_cons_succ, List.take_succ_cons, List.drop_succ_cons, List.cons_append]
    split <;> rfl
  | [], k + 1, hk, _, _ => by simp at hk

/-- The swaps of two places, one longer. -/
def covB (l : List Int) (a b : Nat) : Bool := decide (lengthL (swapL l a b) = lengthL l + 1)
def covList (l : List Int) : List (List Int) :=
  (List.range l.length).flatMap fun a => (List.range l.length).filterMap fun b => if a < b ∧ covB l a b = true then some (swapL l a b) else none
def coversL (l : List Int) : List (List Int) := if isPermB l = true then (covList l).foldr insL [] else []
theorem mem_foldr_insL (z : List Int) : ∀ l : List (List Int), z ∈ l.foldr insL [] ↔ z ∈ l
  | [] => by simp
  | x :: l => by simp only [List.foldr_cons, mem_insL, mem_foldr_insL z l, List.mem_cons]
theorem asc_foldr_insL : ∀ l : List (List Int), Asc (l.foldr insL [])
  | [] => List.Pairwise.nil
  | x :: l => asc_insL x _ (asc_foldr_insL l)
theorem mem_covers {l : List Int} (hp : isPermB l = true) (z : List Int) : z ∈ coversL l ↔ ∃ a b, a < b ∧ b < l.length ∧ covB l a b = true ∧ z = swapL l a b := by
  unfold coversL
  rw [if_pos hp, mem_foldr_insL, covList]
  simp only [List.mem_flatMap, List.mem_range, List.mem_filterMap]
  constructor
  · rintro ⟨a, ha, b, hb, h⟩
    split at h
    · rename_i hab
      exact ⟨a, b, hab.1, hb, hab.2, (Option.some.inj h).symm⟩
    · simp at h
  · rintro ⟨a, b, hab, hb, hc, rfl⟩
    exact ⟨a, by omega, b, hb, by rw [if_pos ⟨hab, hc⟩]⟩
theorem asc_covers (l : List Int) : Asc (coversL l) := by
  unfold coversL; split
  · exact asc_foldr_insL _
  · exact List.Pairwise.nil
theorem covers_eq {l : List Int} (hp : isPermB l = true) {m : List (List Int)} (ha : Asc m) (hm : ∀ z, z ∈ m ↔ ∃ a b, a < b ∧ b < l.length ∧ covB l a b = true ∧ z = swapL l a b) : m = coversL l :=
  asc_unique ha (asc_covers l) fun z => (hm z).trans (mem_covers hp z).symm

end Go.Proofs.Ytfepepakellbbaa
