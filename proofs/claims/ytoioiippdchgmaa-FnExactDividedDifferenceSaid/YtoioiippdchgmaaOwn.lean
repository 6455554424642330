/-
  What the call owns, for any element type of one cell: bytes, strings, rows.
-/
import Derived.Test.YtoioiippdchgmaaPush
namespace Go.Proofs.Ytoioiippdchgmaa
open Go.RowKit
set_option linter.unusedVariables false

/-- The slice value v is one of the call's own (block B or later) and holds the list l, each element as f says. -/
def OwnL {α : Type} (e : TypeId) (f : α → Value) (B : Nat) (w : World) (v : Value) (l : List α) : Prop :=
  w.ownsRow B e 1 v l.length (l.map f) ∧ l.length ≤ 1099511627776

section
variable {α : Type} {e : TypeId} {f : α → Value} {B : Nat} {w w' : World} {v : Value} {l : List α}

theorem OwnL.mono {B' : Nat} (h : OwnL e f B w v l) (hB : B' ≤ B) : OwnL e f B' w v l := by
  obtain ⟨⟨h1, h2⟩, hl⟩ := h
  refine ⟨⟨h1, ?_⟩, hl⟩
  rcases h2 with h2 | ⟨g, cap, cur, hv, hg, r⟩
  · exact .inl h2
  · exact .inr ⟨g, cap, cur, hv, Nat.le_trans hB hg, r⟩
theorem OwnL.block (h : OwnL e f B w v l) : ∀ k, v.ownBlock = some k → B ≤ k ∧ k < w.heap.size := h.1.lt
theorem OwnL.below {B' : Nat} (h : OwnL e f B w v l) (hb : Below B' w w') (hB : w.heap.size ≤ B') : OwnL e f B w' v l := by
  obtain ⟨⟨h1, h2⟩, hl⟩ := h
  refine ⟨⟨h1, ?_⟩, hl⟩
  rcases h2 with h2 | ⟨g, cap, cur, hv, hg, hh, r⟩
  · exact .inl h2
  · refine .inr ⟨g, cap, cur, hv, hg, ?_, r⟩
    rw [hb.block g (Nat.lt_of_lt_of_le (Array.getElem?_eq_some_iff.1 hh).1 hB)]
    exact hh
theorem OwnL.kept (h : OwnL e f B w v l) (hb : Below w.heap.size w w') : OwnL e f B w' v l := h.below hb (Nat.le_refl _)
theorem OwnL.apart {B' : Nat} (h : OwnL e f B w v l) (hk : ∀ k, v.ownBlock = some k → k < B') (hb : Below B' w w') : OwnL e f B w' v l := by
  obtain ⟨⟨h1, h2⟩, hl⟩ := h
  refine ⟨⟨h1, ?_⟩, hl⟩
  rcases h2 with h2 | ⟨g, cap, cur, rfl, hg, hh, r⟩
  · exact .inl h2
  · refine .inr ⟨g, cap, cur, rfl, hg, ?_, r⟩
    rw [hb.block g (hk g rfl)]
    exact hh
theorem OwnL.drew (h : OwnL e f B w v l) : OwnL e f B w.drew v l := h
theorem OwnL.grown {row : Option Nat} (h : OwnL e f B w v l) (hg : w.grownBy w' row) (hne : v.ownBlock = none ∨ v.ownBlock ≠ row) : OwnL e f B w' v l := ⟨h.1.kept hg hne, h.2⟩
theorem OwnL.nil (e : TypeId) (f : α → Value) (B : Nat) (w : World) : OwnL e f B w (.slice none 0 0) [] := ⟨World.ownsRow_nil _ _ _ _, Nat.zero_le _⟩
theorem OwnL.lit (e : TypeId) (f : α → Value) (w : World) : OwnL e f w.heap.size (w.alloc (.cells #[] e)) (.slice (some ⟨w.heap.size, 0, none⟩) 0 0) [] :=
  ⟨by simpa using World.ownsRow_lit (base := w.heap.size) (e := e) (size := 1) w #[] 0 (Nat.le_refl _) (Nat.zero_le _) rfl, Nat.zero_le _⟩
theorem OwnL.shape (h : OwnL e f B w v l) : ∃ ao c, v = .slice ao l.length c ∧ l.length ≤ c ∧ (l ≠ [] → ∃ g, ao = some ⟨g, 0, none⟩) := by
  rcases h.1.2 with ⟨rfl, h0⟩ | ⟨g, cap, cur, rfl, hb, hg, hnc, _⟩
  · exact ⟨none, 0, by rw [h0], by omega, fun hne => absurd (List.eq_nil_of_length_eq_zero h0) hne⟩
  · exact ⟨_, cap, rfl, hnc, fun _ => ⟨g, rfl⟩⟩
theorem OwnL.eqLen {a : Option Addr} {n cap : Nat} (h : OwnL e f B w (.slice a n cap) l) : n = l.length := by
  rcases h.1.2 with ⟨h, h0⟩ | ⟨g', cap', cur, h, _⟩
  · simp at h; omega
  · simp at h; omega
theorem OwnL.cellAt {g n cap : Nat} (h : OwnL e f B w (.slice (some ⟨g, 0, none⟩) n cap) l) {j : Nat} {x : α} (hj : l[j]? = some x) : w.cell? ⟨g, j, none⟩ = some (f x) := by
  have := World.ownsRow.cells h.1 (g := g) rfl j (f x) (by rw [List.getElem?_map, hj]; rfl)
  rw [Addr.add_lit, Nat.zero_add] at this
  exact this
theorem OwnL.free {g n cap : Nat} (h : OwnL e f B w (.slice (some ⟨g, 0, none⟩) n cap) l) (j : Nat) : w.frozen? ⟨g, j, none⟩ = false := by
  have e' := h.eqLen
  subst e'
  exact h.1.frozenAt j
theorem OwnL.store {g n cap : Nat} (h : OwnL e f B w (.slice (some ⟨g, 0, none⟩) n cap) l) (j : Nat) (x : α) :
    OwnL e f B (w.setCell ⟨g, j, none⟩ (f x)) (.slice (some ⟨g, 0, none⟩) n cap) (l.set j x) ∧ w.grownBy (w.setCell ⟨g, j, none⟩ (f x)) (some g) := by
  have e' := h.eqLen
  subst e'
  have := h.1.stored j (f x)
  refine ⟨⟨?_, by simpa using h.2⟩, this.2⟩
  rw [List.length_set, List.map_set]
  exact this.1

/-- 'out = append(out, y)'. -/
theorem wpList_pushL {P : Program} {ops : Array Oper} {rest : List Oper} {o : Oper} {a : Act} {Q : Exit → Act → World → Prop} (w : World) (hgd : o.guard = none) (s x : Operand) {T : TypeId}
    (ho : o.op = .call { callee := .builtin .append, args := #[s, x], argTypes := #[T, T] }) {z : Value} {nb : Nat} (ht : P.underlying T = some (.slice e))
    (hinfo : (P.info? e).map (fun i => (i.zero, i.size, i.bytes)) = some (some z, 1, nb)) (hz1 : z.cells.size = 1) (hnb : nb ≤ 24)
    {B : Nat} {v : Value} {l : List α} {y : α} {val : Value} (hown : OwnL e f B w v l) (hval : val = f y) (hone : (f y).oneCell' = true) (hs : a.eval s = v) (hx : a.eval x = .slice (some ⟨w.heap.size, 0, none⟩) 1 1)
    (hlen : l.length + 1 ≤ 1099511627776) (hB : B ≤ w.heap.size)
    (h : ∀ v' w', OwnL e f B w' v' (l ++ [y]) → Below B w w' → w.grownBy w' v.ownBlock → v'.ownBlock ≠ none → wpList P ops Q rest (a.put o.dst v') w') :
    wpList P ops Q (o :: rest) a (w.alloc (.cells #[val] e)) := by
  subst hval
  obtain ⟨i0, hi, hz0, hz, hz2⟩ := info_parts hinfo
  refine wpList_append_own _ hgd s x T ho B e i0 z 1 nb ht hi hz0 hz hz2 hz1 (by decide) v l.length (l.map f) hs (hown.1.alloc _)
    ⟨w.heap.size, 0, none⟩ 1 1 [f y] hx rfl ?_ ?_ ?_ ?_ ?_ ?_
  · intro j u hj
    match j, hj with
    | 0, hj => simp at hj; subst hj; simp [Addr.add]
  · intro u hu; simp at hu; subst hu; exact hone
  · unfold maxLen; omega
  · have : (l.length + 1) * nb ≤ (l.length + 1) * 24 := Nat.mul_le_mul_left _ hnb
    omega
  · simp; omega
  · intro v' w' hown' hgrow hnil
    have hb : ∀ k, v.ownBlock = some k → B ≤ k := fun k hk => (hown.block k hk).1
    have hg : w.grownBy w' v.ownBlock := grownBy_trans (World.grownBy_alloc w _ _) hgrow
    refine h v' w' ⟨?_, by simpa using hlen⟩ ((Below.refl _ _).grown hg hB (fun k hk => hb k hk)) hg ?_
    · rw [List.length_append, List.map_append]
      exact hown'
    · intro e
      have hv : v' = .slice none 0 0 := by
        rcases hown'.2 with ⟨h1, h2⟩ | ⟨g, cap, cur, h1, _⟩
        · exact h1
        · rw [h1] at e; simp [Value.ownBlock] at e
      have := hnil.1 hv
      omega
/-- The same, the new block's number told apart. -/
theorem wpList_pushLG {P : Program} {ops : Array Oper} {rest : List Oper} {o : Oper} {a : Act} {Q : Exit → Act → World → Prop} (w : World) (hgd : o.guard = none) (s x : Operand) {T : TypeId}
    (ho : o.op = .call { callee := .builtin .append, args := #[s, x], argTypes := #[T, T] }) {z : Value} {nb : Nat} (ht : P.underlying T = some (.slice e))
    (hinfo : (P.info? e).map (fun i => (i.zero, i.size, i.bytes)) = some (some z, 1, nb)) (hz1 : z.cells.size = 1) (hnb : nb ≤ 24)
    {B : Nat} {v : Value} {l : List α} {y : α} {val : Value} (hown : OwnL e f B w v l) (hval : val = f y) (hone : (f y).oneCell' = true) (hs : a.eval s = v) {g : Nat} (hx : a.eval x = .slice (some ⟨g, 0, none⟩) 1 1) (hg0 : g = w.heap.size)
    (hlen : l.length + 1 ≤ 1099511627776) (hB : B ≤ w.heap.size)
    (h : ∀ v' w', OwnL e f B w' v' (l ++ [y]) → Below B w w' → w.grownBy w' v.ownBlock → v'.ownBlock ≠ none → wpList P ops Q rest (a.put o.dst v') w') :
    wpList P ops Q (o :: rest) a (w.alloc (.cells #[val] e)) := by
  subst hval
  subst hg0
  obtain ⟨i0, hi, hz0, hz, hz2⟩ := info_parts hinfo
  refine wpList_append_own _ hgd s x T ho B e i0 z 1 nb ht hi hz0 hz hz2 hz1 (by decide) v l.length (l.map f) hs (hown.1.alloc _)
    ⟨w.heap.size, 0, none⟩ 1 1 [f y] hx rfl ?_ ?_ ?_ ?_ ?_ ?_
  · intro j u hj
    match j, hj with
    | 0, hj => simp at hj; subst hj; simp [Addr.add]
  · intro u hu; simp at hu; subst hu; exact hone
  · unfold maxLen; omega
  · have : (l.length + 1) * nb ≤ (l.length + 1) * 24 := Nat.mul_le_mul_left _ hnb
    omega
  · simp; omega
  · intro v' w' hown' hgrow hnil
    have hb : ∀ k, v.ownBlock = some k → B ≤ k := fun k hk => (hown.block k hk).1
    have hg : w.grownBy w' v.ownBlock := grownBy_trans (World.grownBy_alloc w _ _) hgrow
    refine h v' w' ⟨?_, by simpa using hlen⟩ ((Below.refl _ _).grown hg hB (fun k hk => hb k hk)) hg ?_
    · rw [List.length_append, List.map_append]
      exact hown'
    · intro e
      have hv : v' = .slice none 0 0 := by
        rcases hown'.2 with ⟨h1, h2⟩ | ⟨g, cap, cur, h1, _⟩
        · exact h1
        · rw [h1] at e; simp [Value.ownBlock] at e
      have := hnil.1 hv
      omega
end

/-- A byte as a value. -/
def byteV (b : UInt8) : Value := .int .u8 (b.toNat : Int)

end Go.Proofs.Ytoioiippdchgmaa
