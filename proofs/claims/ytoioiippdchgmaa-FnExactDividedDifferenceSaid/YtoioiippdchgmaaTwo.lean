/-
  What the call owns, for elements of two cells.
-/
import Derived.Test.YtoioiippdchgmaaPush
import Derived.Deep.AppendLies
namespace Go.Proofs.Ytoioiippdchgmaa
open Go.RowKit
set_option linter.unusedVariables false

def two {α : Type} (f0 f1 : α → Value) (l : List α) : List Value := l.flatMap (fun x => [f0 x, f1 x])
theorem two_len {α : Type} (f0 f1 : α → Value) (l : List α) : (two f0 f1 l).length = l.length * 2 := by
  induction l with
  | nil => rfl
  | cons x l ih => simp only [two, List.flatMap_cons, List.length_append, List.length_cons, List.length_nil] at ih ⊢; omega
theorem two_get {α : Type} (f0 f1 : α → Value) : ∀ (l : List α) (j : Nat) (x : α), l[j]? = some x → (two f0 f1 l)[j * 2]? = some (f0 x) ∧ (two f0 f1 l)[j * 2 + 1]? = some (f1 x)
  | [], j, x, h => by simp at h
  | y :: l, 0, x, h => by simp at h; subst h; exact ⟨rfl, rfl⟩
  | y :: l, j + 1, x, h => by
    have := two_get f0 f1 l j x (by simpa using h)
    have e : two f0 f1 (y :: l) = f0 y :: f1 y :: two f0 f1 l := rfl
    rw [e, show (j + 1) * 2 = j * 2 + 1 + 1 by omega, show j * 2 + 1 + 1 + 1 = j * 2 + 1 + 1 + 1 from rfl]
    simpa using this
theorem two_set0 {α : Type} (f0 f1 : α → Value) : ∀ (l : List α) (j : Nat) (x x' : α), l[j]? = some x → f1 x' = f1 x → (two f0 f1 l).set (j * 2) (f0 x') = two f0 f1 (l.set j x')
  | [], j, x, x', h, _ => by simp at h
  | y :: l, 0, x, x', h, h1 => by
    simp at h; subst h
    show f0 x' :: f1 y :: two f0 f1 l = f0 x' :: f1 x' :: two f0 f1 l
    rw [h1]
  | y :: l, j + 1, x, x', h, h1 => by
    have := two_set0 f0 f1 l j x x' (by simpa using h) h1
    rw [show (j + 1) * 2 = j * 2 + 1 + 1 by omega]
    show f0 y :: f1 y :: (two f0 f1 l).set (j * 2) (f0 x') = f0 y :: f1 y :: two f0 f1 (l.set j x')
    rw [this]
theorem two_set1 {α : Type} (f0 f1 : α → Value) : ∀ (l : List α) (j : Nat) (x x' : α), l[j]? = some x → f0 x' = f0 x → (two f0 f1 l).set (j * 2 + 1) (f1 x') = two f0 f1 (l.set j x')
  | [], j, x, x', h, _ => by simp at h
  | y :: l, 0, x, x', h, h1 => by
    simp at h; subst h
    show f0 y :: f1 x' :: two f0 f1 l = f0 x' :: f1 x' :: two f0 f1 l
    rw [h1]
  | y :: l, j + 1, x, x', h, h1 => by
    have := two_set1 f0 f1 l j x x' (by simpa using h) h1
    rw [show (j + 1) * 2 + 1 = j * 2 + 1 + 1 + 1 by omega]
    show f0 y :: f1 y :: (two f0 f1 l).set (j * 2 + 1) (f1 x') = f0 y :: f1 y :: two f0 f1 (l.set j x')
    rw [this]

/-- The slice value v is one of the call's own (block B or later) and holds the list l, each element two cells. -/
def OwnT {α : Type} (e : TypeId) (f0 f1 : α → Value) (B : Nat) (w : World) (v : Value) (l : List α) : Prop :=
  w.ownsRow B e 2 v l.length (two f0 f1 l) ∧ l.length ≤ 1099511627776

section
variable {α : Type} {e : TypeId} {f0 f1 : α → Value} {B : Nat} {w w' : World} {v : Value} {l : List α}

theorem OwnT.mono {B' : Nat} (h : OwnT e f0 f1 B w v l) (hB : B' ≤ B) : OwnT e f0 f1 B' w v l := by
  obtain ⟨⟨h1, h2⟩, hl⟩ := h
  refine ⟨⟨h1, ?_⟩, hl⟩
  rcases h2 with h2 | ⟨g, cap, cur, hv, hg, r⟩
  · exact .inl h2
  · exact .inr ⟨g, cap, cur, hv, Nat.le_trans hB hg, r⟩
theorem OwnT.block (h : OwnT e f0 f1 B w v l) : ∀ k, v.ownBlock = some k → B ≤ k ∧ k < w.heap.size := h.1.lt
theorem OwnT.below {B' : Nat} (h : OwnT e f0 f1 B w v l) (hb : Below B' w w') (hB : w.heap.size ≤ B') : OwnT e f0 f1 B w' v l := by
  obtain ⟨⟨h1, h2⟩, hl⟩ := h
  refine ⟨⟨h1, ?_⟩, hl⟩
  rcases h2 with h2 | ⟨g, cap, cur, hv, hg, hh, r⟩
  · exact .inl h2
  · refine .inr ⟨g, cap, cur, hv, hg, ?_, r⟩
    rw [hb.block g (Nat.lt_of_lt_of_le (Array.getElem?_eq_some_iff.1 hh).1 hB)]
    exact hh
theorem OwnT.kept (h : OwnT e f0 f1 B w v l) (hb : Below w.heap.size w w') : OwnT e f0 f1 B w' v l := h.below hb (Nat.le_refl _)
theorem OwnT.only {lo hi : Nat} (h : OwnT e f0 f1 B w v l) (hb : Only lo hi w w') (hd : ∀ k, v.ownBlock = some k → k < lo ∨ hi ≤ k) : OwnT e f0 f1 B w' v l := by
  obtain ⟨⟨h1, h2⟩, hl⟩ := h
  refine ⟨⟨h1, ?_⟩, hl⟩
  rcases h2 with h2 | ⟨g, cap, cur, rfl, hg, hh, r⟩
  · exact .inl h2
  · refine .inr ⟨g, cap, cur, rfl, hg, ?_, r⟩
    rw [hb.block g (Array.getElem?_eq_some_iff.1 hh).1 (hd g rfl)]
    exact hh
theorem OwnT.nil (e : TypeId) (f0 f1 : α → Value) (B : Nat) (w : World) : OwnT e f0 f1 B w (.slice none 0 0) [] := ⟨World.ownsRow_nil _ _ _ _, Nat.zero_le _⟩
theorem OwnT.lit (e : TypeId) (f0 f1 : α → Value) (w : World) : OwnT e f0 f1 w.heap.size (w.alloc (.cells #[] e)) (.slice (some ⟨w.heap.size, 0, none⟩) 0 0) [] :=
  ⟨by simpa [two] using World.ownsRow_lit (base := w.heap.size) (e := e) (size := 2) w #[] 0 (Nat.le_refl _) (Nat.zero_le _) rfl, Nat.zero_le _⟩
theorem OwnT.shape (h : OwnT e f0 f1 B w v l) : ∃ ao c, v = .slice ao l.length c ∧ l.length ≤ c ∧ c ≤ maxLen ∧ (l ≠ [] → ∃ g, ao = some ⟨g, 0, none⟩) := by
  rcases h.1.2 with ⟨rfl, h0⟩ | ⟨g, cap, cur, rfl, hb, hg, hnc, hcm, _⟩
  · exact ⟨none, 0, by rw [h0], by omega, Nat.zero_le _, fun hne => absurd (List.eq_nil_of_length_eq_zero h0) hne⟩
  · exact ⟨_, cap, rfl, hnc, hcm, fun _ => ⟨g, rfl⟩⟩
theorem OwnT.eqLen {a : Option Addr} {n cap : Nat} (h : OwnT e f0 f1 B w (.slice a n cap) l) : n = l.length := by
  rcases h.1.2 with ⟨h, h0⟩ | ⟨g', cap', cur, h, _⟩
  · simp at h; omega
  · simp at h; omega
theorem OwnT.cell0 {g n cap : Nat} (h : OwnT e f0 f1 B w (.slice (some ⟨g, 0, none⟩) n cap) l) {j : Nat} {x : α} (hj : l[j]? = some x) : w.cell? ⟨g, j * 2, none⟩ = some (f0 x) := by
  have := World.ownsRow.cells h.1 (g := g) rfl (j * 2) (f0 x) (two_get f0 f1 l j x hj).1
  rw [Addr.add_lit, Nat.zero_add] at this
  exact this
theorem OwnT.cell1 {g n cap : Nat} (h : OwnT e f0 f1 B w (.slice (some ⟨g, 0, none⟩) n cap) l) {j : Nat} {x : α} (hj : l[j]? = some x) : w.cell? ⟨g, j * 2 + 1, none⟩ = some (f1 x) := by
  have := World.ownsRow.cells h.1 (g := g) rfl (j * 2 + 1) (f1 x) (two_get f0 f1 l j x hj).2
  rw [Addr.add_lit, Nat.zero_add] at this
  exact this
theorem OwnT.free {g n cap : Nat} (h : OwnT e f0 f1 B w (.slice (some ⟨g, 0, none⟩) n cap) l) (j : Nat) : w.frozen? ⟨g, j, none⟩ = false := by
  have e' := h.eqLen
  subst e'
  exact h.1.frozenAt j
theorem OwnT.store0 {g n cap : Nat} (h : OwnT e f0 f1 B w (.slice (some ⟨g, 0, none⟩) n cap) l) {j : Nat} {x : α} (hj : l[j]? = some x) (x' : α) (h1 : f1 x' = f1 x) :
    OwnT e f0 f1 B (w.setCell ⟨g, j * 2, none⟩ (f0 x')) (.slice (some ⟨g, 0, none⟩) n cap) (l.set j x') := by
  have e' := h.eqLen
  subst e'
  have := (h.1.stored (j * 2) (f0 x')).1
  rw [two_set0 f0 f1 l j x x' hj h1] at this
  refine ⟨?_, by simpa using h.2⟩
  rw [List.length_set]
  exact this
theorem OwnT.store1 {g n cap : Nat} (h : OwnT e f0 f1 B w (.slice (some ⟨g, 0, none⟩) n cap) l) {j : Nat} {x : α} (hj : l[j]? = some x) (x' : α) (h1 : f0 x' = f0 x) :
    OwnT e f0 f1 B (w.setCell ⟨g, j * 2 + 1, none⟩ (f1 x')) (.slice (some ⟨g, 0, none⟩) n cap) (l.set j x') := by
  have e' := h.eqLen
  subst e'
  have := (h.1.stored (j * 2 + 1) (f1 x')).1
  rw [two_set1 f0 f1 l j x x' hj h1] at this
  refine ⟨?_, by simpa using h.2⟩
  rw [List.length_set]
  exact this

/-- 'out = append(out, y)', y two cells. -/
theorem wpList_push2 {P : Program} {ops : Array Oper} {rest : List Oper} {o : Oper} {a : Act} {Q : Exit → Act → World → Prop} (w : World) (hgd : o.guard = none) (s x : Operand) {T : TypeId}
    (ho : o.op = .call { callee := .builtin .append, args := #[s, x], argTypes := #[T, T] }) {z : Value} {nb : Nat} (ht : P.underlying T = some (.slice e))
    (hinfo : (P.info? e).map (fun i => (i.zero, i.size, i.bytes)) = some (some z, 2, nb)) (hz1 : z.cells.size = 2) (hnb : nb ≤ 32)
    {B : Nat} {v : Value} {l : List α} {y : α} {val0 val1 : Value} (hown : OwnT e f0 f1 B w v l) (hval0 : val0 = f0 y) (hval1 : val1 = f1 y) (hone : (f0 y).oneCell' = true ∧ (f1 y).oneCell' = true) (hs : a.eval s = v)
    {g : Nat} (hx : a.eval x = .slice (some ⟨g, 0, none⟩) 1 1) (hg0 : g = w.heap.size)
    (hlen : l.length + 1 ≤ 1099511627776) (hB : B ≤ w.heap.size)
    (h : ∀ v' w', OwnT e f0 f1 B w' v' (l ++ [y]) → Below B w w' → w.grownBy w' v.ownBlock → (∀ k, v'.ownBlock = some k → v.ownBlock = some k ∨ w.heap.size ≤ k) → wpList P ops Q rest (a.put o.dst v') w') :
    wpList P ops Q (o :: rest) a (w.alloc (.cells #[val0, val1] e)) := by
  subst hval0 hval1
  subst hg0
  obtain ⟨i0, hi, hz0, hz, hz2⟩ := info_parts hinfo
  refine wpList_append_lies _ hgd s x T ho B e i0 z 2 nb ht hi hz0 hz hz2 hz1 (by decide) v l.length (two f0 f1 l) hs (hown.1.alloc _)
    ⟨w.heap.size, 0, none⟩ 1 1 [f0 y, f1 y] hx rfl ?_ ?_ (by decide) ?_ ?_ ?_ (w.heap.size + 1) (by simp) ?_
  · intro j u hj
    match j, hj with
    | 0, hj => simp at hj; subst hj; simp [Addr.add]
    | 1, hj => simp at hj; subst hj; simp [Addr.add]
  · intro u hu; simp at hu; rcases hu with rfl | rfl; exact hone.1; exact hone.2
  · unfold maxLen; omega
  · have : (l.length + 1) * nb ≤ (l.length + 1) * 32 := Nat.mul_le_mul_left _ hnb
    omega
  · simp; omega
  · intro g cap w' hown' hgrow hat hlt
    have hb : ∀ k, v.ownBlock = some k → B ≤ k := fun k hk => (hown.block k hk).1
    have hg : w.grownBy w' v.ownBlock := grownBy_trans (World.grownBy_alloc w _ _) hgrow
    refine h _ w' ⟨?_, by simpa using hlen⟩ ((Below.refl _ _).grown hg hB (fun k hk => hb k hk)) hg ?_
    · rw [List.length_append]
      have e : two f0 f1 (l ++ [y]) = two f0 f1 l ++ [f0 y, f1 y] := by simp [two]
      rw [e]
      exact hown'
    · intro k hk
      simp [Value.ownBlock] at hk
      subst hk
      rcases hat with h | h
      · exact .inl h
      · exact .inr (by omega)
end

end Go.Proofs.Ytoioiippdchgmaa
