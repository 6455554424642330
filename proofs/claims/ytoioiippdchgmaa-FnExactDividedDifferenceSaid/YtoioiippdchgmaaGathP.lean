/-
  Gathering: sorted, then equal neighbours added, then noughts left out. Plain Lean.
-/
import Derived.Test.YtoioiippdchgmaaMonQ
import Derived.Test.YtoioiippdchgmaaMerge
namespace Go.Proofs.Ytoioiippdchgmaa
set_option linter.unusedVariables false

def leK (p q : Int × Int) : Prop := q.1 ≤ p.1
theorem leK_order : Order leK := ⟨fun x y z h1 h2 => by unfold leK at *; omega, fun x y h => by unfold leK at *; omega⟩

structure SumSt (out sum : MonL) (k : Nat) : Prop where
  sorted : sum.Pairwise (fun a b => b.1 < a.1)
  val : ∀ x, valM sum x = valM (out.take k) x
  front : ∀ p ∈ sum, ∀ (t : Nat) (y : Int × Int), k ≤ t → out[t]? = some y → y.1 ≤ p.1
  len : sum.length ≤ k
theorem SumSt.start (out : MonL) : SumSt out [] 0 := ⟨List.Pairwise.nil, fun x => by simp, fun p hp => (by cases hp), Nat.le_refl _⟩
theorem SumSt.same {out s0 : MonL} {x c d : Int} {k : Nat} (h : SumSt out (s0 ++ [(x, c)]) k) (hk : out[k]? = some (x, d)) : SumSt out (s0 ++ [(x, c + d)]) (k + 1) := by
  obtain ⟨h1, h2, h3⟩ := List.pairwise_append.1 h.sorted
  refine ⟨List.pairwise_append.2 ⟨h1, List.pairwise_singleton _ _, fun a ha b hb => ?_⟩, fun y => ?_, fun p hp t y ht hy => ?_, ?_⟩
  · rw [List.mem_singleton.1 hb]; exact h3 a ha (x, c) (List.mem_singleton.2 rfl)
  · have := h.val y
    rw [valM_append] at this
    rw [List.take_add_one, hk, valM_append, valM_append, ← this]
    simp only [Option.toList_some, valM]
    split <;> omega
  · rcases List.mem_append.1 hp with hp | hp
    · exact h.front p (List.mem_append_left _ hp) t y (by omega) hy
    · rw [List.mem_singleton.1 hp]
      exact h.front (x, c) (List.mem_append_right _ (List.mem_singleton.2 rfl)) t y (by omega) hy
  · have := h.len
    rw [List.length_append, List.length_singleton] at this ⊢
    omega
theorem SumSt.new {out sum : MonL} {y : Int × Int} {k : Nat} (h : SumSt out sum k) (hs : out.Pairwise leK) (hk : out[k]? = some y) (hne : ∀ s0 z, sum = s0 ++ [z] → z.1 ≠ y.1) : SumSt out (sum ++ [y]) (k + 1) := by
  refine ⟨List.pairwise_append.2 ⟨h.sorted, List.pairwise_singleton _ _, fun a ha b hb => ?_⟩, fun x => ?_, fun p hp t z ht hz => ?_, ?_⟩
  · rw [List.mem_singleton.1 hb]
    have h1 := h.front a ha k y (Nat.le_refl _) hk
    rcases List.eq_nil_or_concat sum with rfl | ⟨s0, z, rfl⟩
    · cases ha
    · rw [List.concat_eq_append] at ha h hne
      have h2 := hne s0 z rfl
      have h3 := h.front z (List.mem_append_right _ (List.mem_singleton.2 rfl)) k y (Nat.le_refl _) hk
      rcases List.mem_append.1 ha with ha | ha
      · have := (List.pairwise_append.1 h.sorted).2.2 a ha z (List.mem_singleton.2 rfl)
        omega
      · rw [List.mem_singleton.1 ha] at h1 ⊢
        omega
  · rw [List.take_add_one, hk, valM_append, valM_append, h.val]; rfl
  · rcases List.mem_append.1 hp with hp | hp
    · exact h.front p hp t z (by omega) hz
    · rw [List.mem_singleton.1 hp]
      obtain ⟨h1, rfl⟩ := List.getElem?_eq_some_iff.1 hk
      obtain ⟨h2, rfl⟩ := List.getElem?_eq_some_iff.1 hz
      exact List.pairwise_iff_getElem.1 hs k t h1 h2 (by omega)
  · have := h.len
    rw [List.length_append, List.length_singleton]
    omega
theorem valM_bnd {l : MonL} {B : Int} (hB : 0 ≤ B) (h : ∀ p ∈ l, -B ≤ p.2 ∧ p.2 ≤ B) (k : Int) : -((l.length : Int) * B) ≤ valM l k ∧ valM l k ≤ (l.length : Int) * B := by
  induction l with
  | nil => simp [valM]
  | cons p l ih =>
    have h1 := ih (fun q hq => h q (List.mem_cons_of_mem _ hq))
    have h2 := h p (List.mem_cons_self ..)
    have h3 : ((p :: l).length : Int) * B = (l.length : Int) * B + B := by rw [List.length_cons]; push_cast; rw [Int.add_mul, Int.one_mul]
    rw [h3, valM]
    generalize (l.length : Int) * B = m at h1 ⊢
    split <;> omega
/-- In a list of descending keys what is held under a key is its value. -/
theorem valM_mem : ∀ {l : MonL}, l.Pairwise (fun a b => b.1 < a.1) → ∀ {p : Int × Int}, p ∈ l → valM l p.1 = p.2
  | [], _, p, hp => by cases hp
  | q :: l, h, p, hp => by
    obtain ⟨h1, h2⟩ := List.pairwise_cons.1 h
    rcases List.mem_cons.1 hp with rfl | hp
    · rw [valM, if_pos rfl, valM_zero (fun r hr => by have := h1 r hr; omega)]; omega
    · have := h1 p hp
      rw [valM, if_neg (by omega), valM_mem h2 hp]; omega
def CoefM (l : MonL) : Prop := ∀ p ∈ l, -1000000000000 ≤ p.2 ∧ p.2 ≤ 1000000000000
theorem SumSt.bnd {out sum : MonL} {k : Nat} (h : SumSt out sum k) (hC : CoefM out) (hN : out.length ≤ 400000) {p : Int × Int} (hp : p ∈ sum) : -400000000000000000 ≤ p.2 ∧ p.2 ≤ 400000000000000000 := by
  have h1 := valM_mem h.sorted hp
  rw [h.val] at h1
  have h2 := valM_bnd (l := out.take k) (B := 1000000000000) (by decide) (fun q hq => hC q (List.mem_of_mem_take hq)) p.1
  rw [h1] at h2
  have h3 : (out.take k).length ≤ 400000 := by rw [List.length_take]; omega
  omega
def noZero (l : MonL) : MonL := l.filter (fun p => p.2 != 0)
theorem valM_noZero (l : MonL) (x : Int) : valM (noZero l) x = valM l x := by
  induction l with
  | nil => rfl
  | cons p l ih =>
    by_cases h : p.2 = 0
    · have : noZero (p :: l) = noZero l := by simp [noZero, h]
      rw [this, ih, valM, h]; split <;> omega
    · have : noZero (p :: l) = p :: noZero l := by simp [noZero, h]
      rw [this, valM, valM, ih]
theorem SumSt.done {out sum l : MonL} {k : Nat} (h : SumSt out sum k) (hk : out.length ≤ k) (hp : out.Perm l) : noZero sum = gatM l := by
  refine gatM_one ⟨h.sorted.filter _, fun p hp => ?_⟩ (fun x => ?_)
  · have := (List.mem_filter.1 hp).2
    simpa using this
  · rw [valM_noZero, h.val, List.take_of_length_le hk, valM_perm hp]
theorem noZero_yes {l : MonL} {j : Nat} {p : Int × Int} (h : l[j]? = some p) (hc : p.2 ≠ 0) : noZero (l.take (j + 1)) = noZero (l.take j) ++ [p] := by
  rw [List.take_add_one, h, noZero, List.filter_append]; simp [noZero, hc]
theorem noZero_no {l : MonL} {j : Nat} {p : Int × Int} (h : l[j]? = some p) (hc : p.2 = 0) : noZero (l.take (j + 1)) = noZero (l.take j) := by
  rw [List.take_add_one, h, noZero, List.filter_append]; simp [noZero, hc]
theorem noZero_len (l : MonL) (j : Nat) : (noZero (l.take j)).length ≤ l.length := by
  have h1 := List.length_filter_le (fun p : Int × Int => p.2 != 0) (l.take j)
  rw [List.length_take] at h1
  unfold noZero; omega

end Go.Proofs.Ytoioiippdchgmaa
