/-
  Terms as numbers (key, coefficient), gathered in order. Plain Lean.
-/
import Derived.Test.YtoioiippdchgmaaDig
namespace Go.Proofs.Ytoioiippdchgmaa
set_option linter.unusedVariables false

abbrev MonL := List (Int × Int)
def valM : MonL → Int → Int
  | [], _ => 0
  | p :: l, k => (if p.1 = k then p.2 else 0) + valM l k
theorem valM_append (a b : MonL) (k : Int) : valM (a ++ b) k = valM a k + valM b k := by
  induction a with
  | nil => simp [valM]
  | cons p a ih => simp only [List.cons_append, valM, ih]; omega
theorem valM_perm {a b : MonL} (h : a.Perm b) (k : Int) : valM a k = valM b k := by
  induction h with
  | nil => rfl
  | cons p _ ih => simp only [valM, ih]
  | swap p q l => simp only [valM]; omega
  | trans _ _ h1 h2 => exact h1.trans h2
theorem valM_zero {l : MonL} {k : Int} (h : ∀ p ∈ l, p.1 ≠ k) : valM l k = 0 := by
  induction l with
  | nil => rfl
  | cons p l ih => rw [valM, if_neg (h p (List.mem_cons_self ..)), ih (fun q hq => h q (List.mem_cons_of_mem _ hq))]; rfl

/-- Keys descending, no nought. -/
structure Desc (l : MonL) : Prop where
  sorted : l.Pairwise (fun a b => b.1 < a.1)
  nonzero : ∀ p ∈ l, p.2 ≠ 0
theorem Desc.tail {p : Int × Int} {l : MonL} (h : Desc (p :: l)) : Desc l := ⟨(List.pairwise_cons.1 h.sorted).2, fun q hq => h.nonzero q (List.mem_cons_of_mem _ hq)⟩
theorem Desc.lt {p : Int × Int} {l : MonL} (h : Desc (p :: l)) {k : Int} (hk : p.1 ≤ k) : ∀ q ∈ l, q.1 ≠ k := fun q hq => by have := (List.pairwise_cons.1 h.sorted).1 q hq; omega
theorem Desc.head {p : Int × Int} {l : MonL} (h : Desc (p :: l)) : valM (p :: l) p.1 = p.2 := by
  rw [valM, if_pos rfl, valM_zero (h.lt (Int.le_refl _))]; omega
theorem Desc.above {p : Int × Int} {l : MonL} (h : Desc (p :: l)) {k : Int} (hk : p.1 < k) : valM (p :: l) k = 0 :=
  valM_zero (fun q hq => by
    rcases List.mem_cons.1 hq with rfl | hq
    · omega
    · exact h.lt (by omega) q hq)
theorem Desc.one : ∀ {a b : MonL}, Desc a → Desc b → (∀ k, valM a k = valM b k) → a = b
  | [], [], _, _, _ => rfl
  | [], p :: b, _, hb, h => absurd ((hb.head.symm.trans (h p.1).symm).trans rfl) (hb.nonzero p (List.mem_cons_self ..))
  | p :: a, [], ha, _, h => absurd ((ha.head.symm.trans (h p.1)).trans rfl) (ha.nonzero p (List.mem_cons_self ..))
  | p :: a, q :: b, ha, hb, h => by
    have h1 := h p.1
    have h2 := h q.1
    rw [ha.head] at h1
    rw [hb.head] at h2
    have hk : p.1 = q.1 := by
      rcases Int.lt_trichotomy p.1 q.1 with h3 | h3 | h3
      · rw [ha.above h3] at h2; exact absurd h2.symm (hb.nonzero q (List.mem_cons_self ..))
      · exact h3
      · rw [hb.above h3] at h1; exact absurd h1 (ha.nonzero p (List.mem_cons_self ..))
    have hc : p.2 = q.2 := by rw [h1, hk, hb.head]
    have hpq : p = q := Prod.ext hk hc
    subst hpq
    rw [Desc.one ha.tail hb.tail (fun k => by have := h k; simp only [valM] at this; omega)]

def insM (k c : Int) : MonL → MonL
  | [] => if c = 0 then [] else [(k, c)]
  | p :: l => if k < p.1 then p :: insM k c l else if k = p.1 then (if c + p.2 = 0 then l else (k, c + p.2) :: l) else if c = 0 then p :: l else (k, c) :: p :: l
def gatM : MonL → MonL
  | [] => []
  | p :: l => insM p.1 p.2 (gatM l)
theorem insM_key (k c : Int) : ∀ (l : MonL) (p : Int × Int), p ∈ insM k c l → p.1 = k ∨ ∃ q ∈ l, q.1 = p.1
  | [], p, h => by
    unfold insM at h
    split at h
    · cases h
    · rw [List.mem_singleton.1 h]; exact .inl rfl
  | q :: l, p, h => by
    unfold insM at h
    split at h
    · rcases List.mem_cons.1 h with rfl | h
      · exact .inr ⟨p, List.mem_cons_self .., rfl⟩
      · rcases insM_key k c l p h with h1 | ⟨r, hr, h1⟩
        · exact .inl h1
        · exact .inr ⟨r, List.mem_cons_of_mem _ hr, h1⟩
    · split at h
      · split at h
        · exact .inr ⟨p, List.mem_cons_of_mem _ h, rfl⟩
        · rcases List.mem_cons.1 h with rfl | h
          · exact .inl rfl
          · exact .inr ⟨p, List.mem_cons_of_mem _ h, rfl⟩
      · split at h
        · exact .inr ⟨p, h, rfl⟩
        · rcases List.mem_cons.1 h with rfl | h
          · exact .inl rfl
          · exact .inr ⟨p, h, rfl⟩
theorem insM_val (k c : Int) : ∀ (l : MonL) (x : Int), valM (insM k c l) x = (if k = x then c else 0) + valM l x
  | [], x => by
    unfold insM
    split
    · rename_i h; subst h; simp [valM]
    · simp [valM]
  | q :: l, x => by
    unfold insM
    split
    · rw [valM, insM_val k c l x, valM]; omega
    · split
      · rename_i h1 h2
        split
        · rename_i h3
          rw [valM, ← h2]
          by_cases e : k = x
          · rw [if_pos e, if_pos e]; omega
          · rw [if_neg e, if_neg e]; omega
        · rw [valM, valM, ← h2]
          by_cases e : k = x
          · simp only [if_pos e]; omega
          · simp only [if_neg e]; omega
      · split
        · rename_i h3; subst h3; simp
        · rw [valM]
theorem insM_desc (k c : Int) : ∀ {l : MonL}, Desc l → Desc (insM k c l)
  | [], h => by
    unfold insM
    split
    · exact h
    · rename_i hc
      exact ⟨List.pairwise_singleton _ _, fun p hp => by rw [List.mem_singleton.1 hp]; exact hc⟩
  | q :: l, h => by
    have ht := List.pairwise_cons.1 h.sorted
    have hl := h.tail
    unfold insM
    split
    · rename_i h1
      have ih := insM_desc k c hl
      refine ⟨List.pairwise_cons.2 ⟨fun r hr => ?_, ih.sorted⟩, fun r hr => ?_⟩
      · rcases insM_key k c l r hr with h2 | ⟨s, hs, h2⟩
        · omega
        · have := ht.1 s hs; omega
      · rcases List.mem_cons.1 hr with rfl | hr
        · exact h.nonzero r (List.mem_cons_self ..)
        · exact ih.nonzero r hr
    · split
      · rename_i h1 h2
        split
        · exact hl
        · rename_i h3
          refine ⟨List.pairwise_cons.2 ⟨fun r hr => ?_, hl.sorted⟩, fun r hr => ?_⟩
          · have := ht.1 r hr; show r.1 < k; omega
          · rcases List.mem_cons.1 hr with rfl | hr
            · exact h3
            · exact hl.nonzero r hr
      · split
        · exact h
        · rename_i h1 h2 h3
          refine ⟨List.pairwise_cons.2 ⟨fun r hr => ?_, h.sorted⟩, fun r hr => ?_⟩
          · show r.1 < k
            rcases List.mem_cons.1 hr with rfl | hr
            · omega
            · have := ht.1 r hr; omega
          · rcases List.mem_cons.1 hr with rfl | hr
            · exact h3
            · exact h.nonzero r hr
theorem gatM_desc : ∀ (l : MonL), Desc (gatM l)
  | [] => ⟨List.Pairwise.nil, fun p hp => by cases hp⟩
  | p :: l => insM_desc _ _ (gatM_desc l)
theorem gatM_val : ∀ (l : MonL) (k : Int), valM (gatM l) k = valM l k
  | [], _ => rfl
  | p :: l, k => by rw [gatM, insM_val, gatM_val l, valM]
theorem gatM_key : ∀ (l : MonL) (p : Int × Int), p ∈ gatM l → ∃ q ∈ l, q.1 = p.1
  | [], p, h => by cases h
  | x :: l, p, h => by
    rcases insM_key _ _ _ p h with h1 | ⟨r, hr, h1⟩
    · exact ⟨x, List.mem_cons_self .., h1.symm⟩
    · obtain ⟨q, hq, h2⟩ := gatM_key l r hr
      exact ⟨q, List.mem_cons_of_mem _ hq, h2.trans h1⟩
/-- What the sorting and adding gives is that list. -/
theorem gatM_one {l out : MonL} (h : Desc out) (hv : ∀ k, valM out k = valM l k) : out = gatM l := Desc.one h (gatM_desc l) (fun k => by rw [hv, gatM_val])

end Go.Proofs.Ytoioiippdchgmaa
