/-
  Rows whose elements are lists of ints in blocks of their own.
-/
import Derived.Test.YtoioiippdchgmaaTwo
import Derived.Test.YtoioiippdchgmaaOwn
import Derived.Test.YtoioiippdchgmaaGives
namespace Go.Proofs.Ytoioiippdchgmaa
open Go.RowKit
set_option linter.unusedVariables false

/-- The two lie in different blocks. -/
def Apart (u v : Value) : Prop := ∀ k, u.ownBlock = some k → v.ownBlock ≠ some k
theorem Apart.symm {u v : Value} (h : Apart u v) : Apart v u := fun k hv hu => h k hu hv
theorem Apart.fresh {u v : Value} {n : Nat} (h1 : ∀ k, u.ownBlock = some k → k < n) (h2 : ∀ k, v.ownBlock = some k → n ≤ k) : Apart u v := fun k hu hv => by
  have := h1 k hu; have := h2 k hv; omega

theorem OwnI.only {B lo hi : Nat} {w w' : World} {v : Value} {l : List Int} (h : OwnI B w v l) (hb : Only lo hi w w') (hd : ∀ k, v.ownBlock = some k → k < lo ∨ hi ≤ k) : OwnI B w' v l := by
  obtain ⟨⟨h1, h2⟩, hl⟩ := h
  refine ⟨⟨h1, ?_⟩, hl⟩
  rcases h2 with h2 | ⟨g, cap, cur, rfl, hg, hh, r⟩
  · exact .inl h2
  · refine .inr ⟨g, cap, cur, rfl, hg, ?_, r⟩
    rw [hb.block g (Array.getElem?_eq_some_iff.1 hh).1 (hd g rfl)]
    exact hh
theorem OwnL.only {α : Type} {e : TypeId} {f : α → Value} {B lo hi : Nat} {w w' : World} {v : Value} {l : List α} (h : OwnL e f B w v l) (hb : Only lo hi w w') (hd : ∀ k, v.ownBlock = some k → k < lo ∨ hi ≤ k) : OwnL e f B w' v l := by
  obtain ⟨⟨h1, h2⟩, hl⟩ := h
  refine ⟨⟨h1, ?_⟩, hl⟩
  rcases h2 with h2 | ⟨g, cap, cur, rfl, hg, hh, r⟩
  · exact .inl h2
  · refine .inr ⟨g, cap, cur, rfl, hg, ?_, r⟩
    rw [hb.block g (Array.getElem?_eq_some_iff.1 hh).1 (hd g rfl)]
    exact hh
/-- The list lies in no block, or in just one: the range of blocks is that narrow. -/
theorem OwnI.tight {B : Nat} {w : World} {v : Value} {l : List Int} (h : OwnI B w v l) : ∃ lo hi, AtI lo hi w v l ∧ B ≤ lo ∧ (hi = 0 ∨ lo < hi) ∧ ∀ k, lo ≤ k → k < hi → v.ownBlock = some k := by
  obtain ⟨⟨h1, h2⟩, hl⟩ := h
  rcases h2 with ⟨rfl, h0⟩ | ⟨g, cap, cur, rfl, hg, hh, r⟩
  · exact ⟨B, 0, ⟨⟨⟨h1, .inl ⟨rfl, h0⟩⟩, hl⟩, (fun k hk => by simp [Value.ownBlock] at hk), Nat.zero_le _⟩, Nat.le_refl _, .inl rfl, fun k h1 h2 => by omega⟩
  · refine ⟨g, g + 1, ⟨⟨⟨h1, .inr ⟨g, cap, cur, rfl, Nat.le_refl _, hh, r⟩⟩, hl⟩, (fun k hk => ?_), (Array.getElem?_eq_some_iff.1 hh).1⟩, hg, .inr (Nat.lt_succ_self _), fun k h1 h2 => ?_⟩
    · simp [Value.ownBlock] at hk; omega
    · simp [Value.ownBlock]; omega

structure Parts (B : Nat) (w : World) (us : List Value) (ls : List (List Int)) : Prop where
  len : us.length = ls.length
  own : ∀ (j : Nat) u l, us[j]? = some u → ls[j]? = some l → OwnI B w u l
  apart : ∀ (i j : Nat) u u', i ≠ j → us[i]? = some u → us[j]? = some u' → Apart u u'

section
variable {B : Nat} {w w' : World} {us : List Value} {ls : List (List Int)}
theorem Parts.nil (B : Nat) (w : World) : Parts B w [] [] := ⟨rfl, fun j u l h => by simp at h, fun i j u u' _ h => by simp at h⟩
theorem Parts.get (h : Parts B w us ls) {j : Nat} {l : List Int} (hl : ls[j]? = some l) : ∃ u, us[j]? = some u ∧ OwnI B w u l := by
  have hj := (List.getElem?_eq_some_iff.1 hl).1
  have hu := List.getElem?_eq_getElem (l := us) (i := j) (by rw [h.len]; exact hj)
  exact ⟨_, hu, h.own j _ l hu hl⟩
theorem Parts.block (h : Parts B w us ls) {j : Nat} {u : Value} (hu : us[j]? = some u) : ∀ k, u.ownBlock = some k → B ≤ k ∧ k < w.heap.size := by
  have hj := (List.getElem?_eq_some_iff.1 hu).1
  have hl := List.getElem?_eq_getElem (l := ls) (i := j) (by rw [← h.len]; exact hj)
  exact (h.own j u _ hu hl).block
theorem Parts.mono {B' : Nat} (h : Parts B w us ls) (hB : B' ≤ B) : Parts B' w us ls := ⟨h.len, fun j u l hu hl => (h.own j u l hu hl).mono hB, h.apart⟩
theorem Parts.kept (h : Parts B w us ls) (hb : Below w.heap.size w w') : Parts B w' us ls := ⟨h.len, fun j u l hu hl => (h.own j u l hu hl).kept hb, h.apart⟩
theorem Parts.only {lo hi : Nat} (h : Parts B w us ls) (hb : Only lo hi w w') (hd : ∀ (j : Nat) u, us[j]? = some u → ∀ k, u.ownBlock = some k → k < lo ∨ hi ≤ k) : Parts B w' us ls :=
  ⟨h.len, fun j u l hu hl => (h.own j u l hu hl).only hb (hd j u hu), h.apart⟩
theorem Parts.grown {row : Option Nat} (h : Parts B w us ls) (hg : w.grownBy w' row) (hd : ∀ (j : Nat) u, us[j]? = some u → ∀ k, u.ownBlock = some k → row ≠ some k) : Parts B w' us ls := by
  refine ⟨h.len, fun j u l hu hl => (h.own j u l hu hl).grown hg ?_, h.apart⟩
  cases hv : u.ownBlock with
  | none => exact .inl rfl
  | some k => exact .inr fun e => hd j u hu k hv e.symm
theorem Parts.push (h : Parts B w us ls) {u : Value} {l : List Int} (hu : OwnI B w u l) (ha : ∀ (j : Nat) u', us[j]? = some u' → Apart u' u) : Parts B w (us ++ [u]) (ls ++ [l]) := by
  have key : ∀ (j : Nat) (x : Value), (us ++ [u])[j]? = some x → us[j]? = some x ∨ (j = us.length ∧ x = u) := by
    intro j x hx
    by_cases hj : j < us.length
    · rw [List.getElem?_append_left hj] at hx; exact .inl hx
    · rw [List.getElem?_append_right (by omega)] at hx
      obtain ⟨h1, h2⟩ := List.getElem?_eq_some_iff.1 hx
      simp at h1 h2
      exact .inr ⟨by omega, h2.symm⟩
  refine ⟨by simp [h.len], fun j x y hx hy => ?_, fun i j x x' hij hx hx' => ?_⟩
  · rcases key j x hx with h1 | ⟨rfl, rfl⟩
    · rw [List.getElem?_append_left (by rw [← h.len]; exact (List.getElem?_eq_some_iff.1 h1).1)] at hy
      exact h.own j x y h1 hy
    · rw [List.getElem?_append_right (by rw [h.len]; exact Nat.le_refl _)] at hy
      simp [h.len] at hy
      exact hy ▸ hu
  · rcases key i x hx with h1 | ⟨rfl, rfl⟩ <;> rcases key j x' hx' with h2 | ⟨h3, rfl⟩
    · exact h.apart i j x x' hij h1 h2
    · exact ha i x h1
    · exact (ha j x' h2).symm
    · omega
/-- One of the lists is written anew. -/
theorem Parts.set {lo hi i : Nat} {u : Value} {l : List Int} (h : Parts B w us ls) (hu : us[i]? = some u) (hb : Only lo hi w w') (hn : ∀ k, lo ≤ k → k < hi → u.ownBlock = some k) (ho : OwnI B w' u l) : Parts B w' us (ls.set i l) := by
  refine ⟨by simp [h.len], fun j x y hx hy => ?_, h.apart⟩
  by_cases e : i = j
  · subst e
    rw [hu] at hx
    obtain rfl := Option.some.inj hx
    rw [List.getElem?_set_self (by rw [← h.len]; exact (List.getElem?_eq_some_iff.1 hu).1)] at hy
    exact Option.some.inj hy ▸ ho
  · rw [List.getElem?_set_ne e] at hy
    refine (h.own j x y hx hy).only hb fun k hk => ?_
    have := h.apart i j u x e hu hx
    by_cases h1 : lo ≤ k ∧ k < hi
    · exact absurd hk (this k (hn k h1.1 h1.2))
    · omega
end

end Go.Proofs.Ytoioiippdchgmaa
