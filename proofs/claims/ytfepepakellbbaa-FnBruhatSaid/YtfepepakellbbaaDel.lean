/-
  Contract: slices.Delete at []int, one element of a slice of the call's own.
-/
import Derived.Test.YtfepepakellbbaaSwap
import Derived.Deep.RegionLaw
import Derived.Laws.IdiomCopy
import Derived.Lib.SliceRun
namespace Go.Proofs.Ytfepepakellbbaa
open Go.RowKit
set_option linter.unusedVariables false

theorem OwnI.part {B g n cap : Nat} {w : World} {l : List Int} (h : OwnI B w (.slice (some ⟨g, 0, none⟩) n cap) l) (k : Nat) (hk : k ≤ l.length) : OwnI B w (.slice (some ⟨g, 0, none⟩) k cap) (l.take k) := by
  obtain ⟨⟨h1, h2⟩, hl⟩ := h
  have e : (l.take k).length = k := by rw [List.length_take]; omega
  refine ⟨⟨by simp, ?_⟩, by omega⟩
  rcases h2 with ⟨h2, _⟩ | ⟨g', cap', cur, hv, hg, hh, hnc, hcm, hcs, htk⟩
  · simp at h2
  · simp only [Value.slice.injEq, Option.some.injEq, Addr.mk.injEq, and_true] at hv
    obtain ⟨rfl, hn, rfl⟩ := hv
    refine .inr ⟨g, cap, cur, by rw [e], hg, hh, by omega, hcm, hcs, ?_⟩
    rw [e, List.map_take, ← htk, List.take_take]
    congr 1
    omega

theorem OwnI.beyond {B g n cap : Nat} {w : World} {l : List Int} (h : OwnI B w (.slice (some ⟨g, 0, none⟩) n cap) l) (j : Nat) (hj : l.length ≤ j) (u : Value) :
    OwnI B (w.setCell ⟨g, j, none⟩ u) (.slice (some ⟨g, 0, none⟩) n cap) l := by
  have e := h.eqLen
  subst e
  obtain ⟨h1, hl⟩ := h
  have h2 := (h1.stored j u).1
  refine ⟨?_, hl⟩
  have e2 : (l.map (Value.int .i64)).set j u = l.map (Value.int .i64) := by
    rw [List.set_eq_of_length_le]; simpa using hj
  rw [e2] at h2
  exact h2

theorem OwnI.cellSome {B g n cap : Nat} {w : World} {l : List Int} (h : OwnI B w (.slice (some ⟨g, 0, none⟩) n cap) l) (j : Nat) (hj : j < cap) : ∃ u, w.cell? ⟨g, j, none⟩ = some u := by
  rcases h.1.2 with ⟨h2, _⟩ | ⟨g', cap', cur, hv, hg, hh, hnc, hcm, hcs, htk⟩
  · simp at h2
  · simp only [Value.slice.injEq, Option.some.injEq, Addr.mk.injEq, and_true] at hv
    obtain ⟨rfl, hn, rfl⟩ := hv
    rw [cell_of_row w g j cur 3 (0, 0) hh]
    exact ⟨_, Array.getElem?_eq_getElem (by omega)⟩

theorem OwnI.setCells {B g n cap : Nat} : ∀ (ms : List Int) (x : Nat) (w : World) (l : List Int), OwnI B w (.slice (some ⟨g, 0, none⟩) n cap) l → x + ms.length ≤ l.length →
    OwnI B (w.setCells g x (ms.map (Value.int .i64))) (.slice (some ⟨g, 0, none⟩) n cap) (l.take x ++ ms ++ l.drop (x + ms.length))
  | [], x, w, l, h, _ => by simpa [World.setCells] using h
  | m :: ms, x, w, l, h, hl => by
    have h1 := (h.store x m).1
    have h2 := OwnI.setCells ms (x + 1) _ _ h1 (by simp at hl ⊢; omega)
    simp only [List.map_cons, World.setCells]
    have e : (l.set x m).take (x + 1) ++ ms ++ (l.set x m).drop (x + 1 + ms.length) = l.take x ++ m :: ms ++ l.drop (x + (m :: ms).length) := by
      simp at hl
      rw [List.drop_set_of_lt (by omega), List.take_add_one, List.getElem?_set_self (by omega), List.take_set_of_le (by omega)]
      simp [Nat.add_comm, Nat.add_left_comm]
    rw [e] at h2
    exact h2

theorem Only.setCells {lo hi g : Nat} (hg : lo ≤ g ∧ g < hi) : ∀ (vs : List Value) (x : Nat) (w : World), Only lo hi w (w.setCells g x vs)
  | [], x, w => Only.refl _ _ _
  | v :: vs, x, w => (Only.setCell (p := ⟨g, x, none⟩) v hg).trans (Only.setCells hg vs (x + 1) _)

def DeletedI (lo hi : Nat) (w : World) (l : List Int) (e : Ending) (w' : World) : Prop :=
  ∃ r, e = .returned r ∧ AtI lo hi w' r l ∧ Only lo hi w w'

end Go.Proofs.Ytfepepakellbbaa
