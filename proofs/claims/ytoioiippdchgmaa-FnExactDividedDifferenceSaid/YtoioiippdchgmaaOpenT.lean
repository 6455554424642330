/-
  A slice of terms among the arguments, opened.
-/
import Derived.Test.YtoioiippdchgmaaSzT
import Derived.ProofKit
import Derived.Deep.Slices
import Derived.Deep.Fields
namespace Go.Proofs.Ytoioiippdchgmaa
open Go.ChangeShapes Go.WideShapes Go.RowKit Go.Deep
set_option linter.unusedVariables false

theorem isRow_of_trod {H : Type} {enc : TypeId × Value → H} {w : World} {base : Nat} {held : Bool} {fuel : Nat} {v : Value} {x : DataW H × List MemPlace}
    (h : DataW.trod enc Try.prog w base (fun _ => true) held fuel 37 [v] = some x) : ∃ a n c zs, v = .slice a n c ∧ IsRow .i64 w a n c zs := by
  rcases open_ints Try.underlying37 Try.underlying3 (by kernel_rfl) h with ⟨hcs, _⟩ | ⟨x, l, c, zs, hcs, _, hl, hm, hz, _, hcell, hwz⟩
  · exact ⟨none, 0, 0, [], by simpa using hcs, .inl ⟨rfl, rfl, rfl, rfl⟩⟩
  · exact ⟨some x, l, c, zs, by simpa using hcs, .inr ⟨_, rfl, hl, hm, by simpa using hz, hcell, hwz⟩⟩

set_option maxRecDepth 100000 in
theorem termsR_of_trod {H : Type} {enc : TypeId × Value → H} {w : World} {base : Nat} {held : Bool} {fuel : Nat} {v : Value} {x : DataW H × List MemPlace}
    (h : DataW.trod enc Try.prog w base (fun _ => true) held fuel 22 [v] = some x) : ∃ a n c ts, v = .slice a n c ∧ TermsR w a n c ts := by
  rcases open_slice Try.underlying22 h with ⟨hcs, _⟩ | ⟨a, len, cap, m, fu, D, Pl, hcs, hb, hl, hm, hmm, hx, hi⟩
  · exact ⟨none, 0, 0, [], by simpa using hcs, rfl, Nat.le_refl _, Nat.zero_le _, 0, 0, fun h => absurd h (Nat.lt_irrefl _), fun j e k h => by simp at h⟩
  · rw [if_pos rfl] at hmm
    have hC : Try.prog.cellsOf 39 = 2 := by kernel_rfl
    have hC0 : Try.prog.cellsOf 37 = 1 := by kernel_rfl
    have hC1 : Try.prog.cellsOf 3 = 1 := by kernel_rfl
    have hel : ∀ i, i < len → ∃ y : List Int × Int, ∃ a' n' c' z, w.cell? (a.add (i * 2)) = some (.slice a' n' c') ∧ w.cell? (a.add (i * 2 + 1)) = some (.int .i64 y.2) ∧
        IsRow .i64 w a' n' c' z ∧ y.1 = z.take n' ∧ (Lit.int .i64 y.2).wf = true := by
      intro i hil
      obtain ⟨cs', hc, ht'⟩ := hi i (by omega)
      rw [hC] at hc
      obtain ⟨ys, n', hn', hy, hlen, hyl, hf⟩ := DataW.trod_struct Try.underlying39 ht'
      obtain ⟨_, hcl, hat⟩ := World.cells?_some hc
      match cs', hcl with
      | [u0, u1], _ =>
        have g0 : DataW.trod enc Try.prog w base (fun _ => true) held n' 37 [u0] = ys[0]? := by
          have : DataW.trod enc Try.prog w base (fun _ => true) held n' 37 (List.take (Try.prog.cellsOf 37) (List.drop 0 [u0, u1])) = ys[0]? := hf 0 _ rfl
          rw [hC0] at this
          exact this
        have g1 : DataW.trod enc Try.prog w base (fun _ => true) held n' 3 [u1] = ys[1]? := by
          have : DataW.trod enc Try.prog w base (fun _ => true) held n' 3 (List.take (Try.prog.cellsOf 3) (List.drop 1 [u0, u1])) = ys[1]? := hf 1 _ rfl
          rw [hC1] at this
          exact this
        have y0 : ys[0]? = some (ys[0]'(by rw [hyl]; decide)) := List.getElem?_eq_getElem _
        have y1 : ys[1]? = some (ys[1]'(by rw [hyl]; decide)) := List.getElem?_eq_getElem _
        obtain ⟨a', n', c', z, rfl, hz⟩ := isRow_of_trod (g0.trans y0)
        obtain ⟨k, hk, _, hw⟩ := DataW.trod_int Try.underlying3 (g1.trans y1)
        simp at hk
        subst hk
        have a0 := hat 0 (by decide)
        have a1 := hat 1 (by decide)
        rw [add_add] at a0 a1
        exact ⟨(z.take n', k), a', n', c', z, a0, a1, hz, rfl, hw⟩
    obtain ⟨f, hf⟩ := choose_lt hel
    obtain ⟨ab, ao, sp⟩ := a
    refine ⟨some ⟨ab, ao, sp⟩, len, cap, (List.range len).map f, by simpa using hcs, by simp, hl, hm, ?_⟩
    by_cases h0 : 0 < len
    · have hsp : sp = none := by
        obtain ⟨a', n', c', z, q, _⟩ := hf 0 h0
        simpa [Addr.add] using World.cell?_spot q
      subst hsp
      refine ⟨ab, ao, fun _ => rfl, fun j e k hj => ?_⟩
      have hjl : j < len := by have := (List.getElem?_eq_some_iff.1 hj).1; simpa using this
      rw [List.getElem?_map, List.getElem?_range hjl] at hj
      simp at hj
      obtain ⟨a', n', c', z, q1, q2, q3, q4, q5⟩ := hf j hjl
      rw [hj] at q2 q4 q5
      rw [Addr.add_lit] at q1 q2
      exact ⟨a', n', c', z, q1, q2, q3, q4, q5⟩
    · refine ⟨0, 0, fun h => absurd h h0, fun j e k hj => ?_⟩
      have hjl : j < len := by have := (List.getElem?_eq_some_iff.1 hj).1; simpa using this
      omega

end Go.Proofs.Ytoioiippdchgmaa
