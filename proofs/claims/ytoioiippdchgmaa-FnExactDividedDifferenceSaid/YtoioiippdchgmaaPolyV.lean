/-
  Lists of terms (exponents, coefficient) as functions of the exponents. Plain Lean.
-/
import Derived.Test.YtoioiippdchgmaaMapE
import Derived.Test.YtoioiippdchgmaaTerm
namespace Go.Proofs.Ytoioiippdchgmaa
open Go.RowKit Go.Maps
set_option linter.unusedVariables false

def val : TermL → List Int → Int
  | [], _ => 0
  | p :: l, e => (if p.1 = e then p.2 else 0) + val l e
theorem val_append (l l' : TermL) (e : List Int) : val (l ++ l') e = val l e + val l' e := by
  induction l with
  | nil => simp [val]
  | cons p l ih => simp only [List.cons_append, val, ih]; omega
theorem val_perm {l l' : TermL} (h : l.Perm l') (e : List Int) : val l e = val l' e := by
  induction h with
  | nil => rfl
  | cons p _ ih => simp only [val, ih]
  | swap p q l => simp only [val]; omega
  | trans _ _ h1 h2 => exact h1.trans h2
theorem val_snoc (l : TermL) (x : List Int) (c : Int) : addF (val l) x c = val (l ++ [(x, c)]) := by
  funext e
  rw [addF, val_append]
  simp only [val]
  by_cases h : e = x
  · subst h; simp
  · have h' : ¬ x = e := fun h2 => h h2.symm
    simp [h, h']
theorem val_zero_of_not_mem {l : TermL} {e : List Int} (h : e ∉ l.map (·.1)) : val l e = 0 := by
  induction l with
  | nil => rfl
  | cons p l ih =>
    simp only [List.map_cons, List.mem_cons, not_or] at h
    rw [val, ih h.2, if_neg (fun h' => h.1 h'.symm)]; rfl
theorem val_of_mem {l : TermL} (hn : (l.map (·.1)).Nodup) {p : List Int × Int} (h : p ∈ l) : val l p.1 = p.2 := by
  induction l with
  | nil => cases h
  | cons q l ih =>
    simp only [List.map_cons, List.nodup_cons] at hn
    rcases List.mem_cons.1 h with rfl | h'
    · rw [val, if_pos rfl, val_zero_of_not_mem hn.1, Int.add_zero]
    · have : q.1 ≠ p.1 := fun e => hn.1 (e ▸ List.mem_map.2 ⟨p, h', rfl⟩)
      rw [val, if_neg this, ih hn.2 h', Int.zero_add]
theorem val_scale (k : Int) (l : TermL) (e : List Int) : val (l.map (fun p => (p.1, k * p.2))) e = k * val l e := by
  induction l with
  | nil => simp [val]
  | cons p l ih =>
    simp only [List.map_cons, val, ih, Int.mul_add]
    by_cases h : p.1 = e <;> simp [h]
theorem val_bnd {l : TermL} {B : Int} (hB : 0 ≤ B) (h : ∀ p ∈ l, -B ≤ p.2 ∧ p.2 ≤ B) (e : List Int) : -((l.length : Int) * B) ≤ val l e ∧ val l e ≤ (l.length : Int) * B := by
  induction l with
  | nil => simp [val]
  | cons p l ih =>
    have h1 := ih (fun q hq => h q (List.mem_cons_of_mem _ hq))
    have h2 := h p (List.mem_cons_self ..)
    have h3 : ((p :: l).length : Int) * B = (l.length : Int) * B + B := by rw [List.length_cons]; push_cast; rw [Int.add_mul, Int.one_mul]
    rw [h3, val]
    generalize (l.length : Int) * B = m at h1 ⊢
    split <;> omega
theorem val_flatMap_perm {α : Type} {l l' : List α} (h : l.Perm l') (f : α → TermL) (e : List Int) : val (l.flatMap f) e = val (l'.flatMap f) e := val_perm (h.flatMap_right f) e

/-- No exponents twice, no nought. -/
structure Clean (l : TermL) : Prop where
  nodup : (l.map (·.1)).Nodup
  nonzero : ∀ p ∈ l, p.2 ≠ 0
theorem nodup_of_keys {l : TermL} (h : (l.map (·.1)).Nodup) : l.Nodup := by
  induction l with
  | nil => exact List.nodup_nil
  | cons p l ih =>
    simp only [List.map_cons, List.nodup_cons] at h
    exact List.nodup_cons.2 ⟨fun hp => h.1 (List.mem_map.2 ⟨p, hp, rfl⟩), ih h.2⟩
theorem Clean.mem {l l' : TermL} (h : Clean l) (h' : Clean l') (hv : ∀ e, val l e = val l' e) {p : List Int × Int} (hp : p ∈ l) : p ∈ l' := by
  have h1 := val_of_mem h.nodup hp
  rw [hv] at h1
  have h2 : p.1 ∈ l'.map (·.1) := by
    by_cases hm : p.1 ∈ l'.map (·.1)
    · exact hm
    · exact absurd (val_zero_of_not_mem hm) (by rw [h1]; exact h.nonzero p hp)
  obtain ⟨q, hq, hqp⟩ := List.mem_map.1 h2
  have h3 := val_of_mem h'.nodup hq
  rw [hqp, h1] at h3
  rw [show p = q from Prod.ext hqp.symm h3]
  exact hq
theorem Clean.perm {l l' : TermL} (h : Clean l) (h' : Clean l') (hv : ∀ e, val l e = val l' e) : l.Perm l' :=
  (List.perm_ext_iff_of_nodup (nodup_of_keys h.nodup) (nodup_of_keys h'.nodup)).2 (fun p => ⟨fun hp => h.mem h' hv hp, fun hp => h'.mem h (fun e => (hv e).symm) hp⟩)

/-- The entries that a walk over a map has met. -/
structure Seen (F : List Int → Int) (left : Lit → Bool) (L : TermL) : Prop where
  keys : ∀ p ∈ L, E7 p.1 ∧ F p.1 = p.2 ∧ p.2 ≠ 0 ∧ left (litE p.1) = false
  nodup : (L.map (·.1)).Nodup
  all : ∀ e, E7 e → F e ≠ 0 → left (litE e) = false → e ∈ L.map (·.1)
theorem Seen.start {D : DataW Unit} {F : List Int → Int} (h : HoldsF D F) : Seen F (Maps.has D) [] :=
  ⟨fun p hp => (by cases hp), List.nodup_nil, fun e he hne hl => by rw [h.has e he, decide_eq_true hne] at hl; cases hl⟩
theorem Seen.step {D : DataW Unit} {F : List Int → Int} {left : Lit → Bool} {L : TermL} (h : Seen F left L) (hD : HoldsF D F) {x : List Int} {c : Int} (hx : E7 x) (hl : left (litE x) = true) (hat : ∀ zd, D.atKey (litE x) zd = .lit (.int .i64 c)) :
    F x = c ∧ c ≠ 0 ∧ x ∉ L.map (·.1) ∧ Seen F (fun z => left z && !z.sameKey (litE x)) (L ++ [(x, c)]) := by
  have h1 : F x = c := by have := hD.at_ x hx; rw [hat] at this; cases this; rfl
  have h2 : c ≠ 0 := by
    have := hD.has x hx
    rw [has_true_of_atKey hat] at this
    rw [← h1]
    exact of_decide_eq_true this.symm
  have h3 : x ∉ L.map (·.1) := fun hm => by
    obtain ⟨p, hp, rfl⟩ := List.mem_map.1 hm
    have := (h.keys p hp).2.2.2
    rw [hl] at this; cases this
  refine ⟨h1, h2, h3, fun p hp => ?_, ?_, fun e he hne hle => ?_⟩
  · rcases List.mem_append.1 hp with hp | hp
    · obtain ⟨a, b, c', d⟩ := h.keys p hp
      exact ⟨a, b, c', by rw [d]; rfl⟩
    · obtain rfl := List.mem_singleton.1 hp
      exact ⟨hx, h1, h2, by rw [WideAt.sameKey_self (litE_key _)]; simp⟩
  · rw [List.map_append]
    refine List.nodup_append.2 ⟨h.nodup, by simp, fun a ha b hb e => ?_⟩
    simp at hb
    exact h3 (hb ▸ e ▸ ha)
  · by_cases hex : e = x
    · subst hex; simp
    · have : left (litE e) = false := by
        have h4 := sameKey_ne (litE_ne he hx hex)
        simpa [h4] using hle
      rw [List.map_append]
      exact List.mem_append_left _ (h.all e he hne this)
theorem Seen.clean {F : List Int → Int} {left : Lit → Bool} {L : TermL} (h : Seen F left L) : Clean L := ⟨h.nodup, fun p hp => (h.keys p hp).2.2.1⟩
/-- At the end the entries are the function. -/
theorem Seen.done {F : List Int → Int} {left : Lit → Bool} {L : TermL} (h : Seen F left L) (hl : ∀ kl, left kl = false) (hz : ∀ e, ¬ E7 e → F e = 0) (e : List Int) : val L e = F e := by
  by_cases hm : e ∈ L.map (·.1)
  · obtain ⟨p, hp, rfl⟩ := List.mem_map.1 hm
    rw [val_of_mem h.nodup hp, (h.keys p hp).2.1]
  · rw [val_zero_of_not_mem hm]
    by_cases he : E7 e
    · by_cases h0 : F e = 0
      · exact h0.symm
      · exact absurd (h.all e he h0 (hl _)) hm
    · exact (hz e he).symm
def All7 (l : TermL) : Prop := ∀ p ∈ l, E7 p.1
theorem All7.zero {l : TermL} (h : All7 l) (e : List Int) (he : ¬ E7 e) : val l e = 0 := val_zero_of_not_mem (fun hm => by
  obtain ⟨p, hp, rfl⟩ := List.mem_map.1 hm
  exact he (h p hp))

end Go.Proofs.Ytoioiippdchgmaa
