/-
  'append(out, src...)'; l1Ints, slices.Clone.
-/
import Derived.Test.YtoioiippdchgmaaGives
import Derived.Laws.AppendOwnNone
import Derived.Lib.SliceRun
namespace Go.Proofs.Ytoioiippdchgmaa
open Go.RowKit
set_option linter.unusedVariables false

/-- 'out = append(out, src...)': out is the call's own; src is any slice of ints. -/
theorem wpList_extend {ops : Array Oper} {rest : List Oper} {o : Oper} {a : Act} {Q : Exit → Act → World → Prop} (w : World) (hgd : o.guard = none) (s x : Operand)
    (ho : o.op = .call { callee := .builtin .append, args := #[s, x], argTypes := #[37, 37] })
    {B : Nat} {v u : Value} {l m : List Int} (hown : OwnI B w v l) (hsrc : IntsV w u m) (hs : a.eval s = v) (hx : a.eval x = u)
    (hlen : l.length + m.length ≤ 1099511627776) (hB : B ≤ w.heap.size)
    (h : ∀ v' w', OwnI B w' v' (l ++ m) → Below B w w' → (v' = .slice none 0 0 → v = .slice none 0 0 ∧ m = []) → wpList Try.prog ops Q rest (a.put o.dst v') w') :
    wpList Try.prog ops Q (o :: rest) a w := by
  obtain ⟨i0, hi, hz0, hz1, hz2⟩ := info_parts Try.infoI
  obtain ⟨ao, b, off, c, rfl, h1, h2, h3, h4, h5⟩ := hsrc
  by_cases hc : c = 0
  · have hm : m = [] := List.eq_nil_of_length_eq_zero (by omega)
    subst hm
    subst hc
    cases ao with
    | none =>
      refine wpList_append_own_none hgd s x 37 ho B 3 i0 1 Try.underlying37 hi v l.length (l.map (Value.int .i64)) hs hown.1 hx ?_
      exact h v w (by simpa using hown) (Below.refl _ _) (fun e => ⟨e, rfl⟩)
    | some ad =>
      refine wpList_append_own _ hgd s x 37 ho B 3 i0 (.int .i64 0) 1 8 Try.underlying37 hi hz0 hz1 hz2 rfl (by decide) v l.length (l.map (Value.int .i64)) hs hown.1
        ad 0 0 [] hx rfl (fun j u hj => by simp at hj) (fun u hu => by simp at hu) (by have := hown.2; unfold maxLen; omega) (by have := hown.2; omega) hB ?_
      intro v' w' hown' hgrow hnil
      refine h v' w' ⟨?_, by simpa using hown.2⟩ ((Below.refl _ _).grown hgrow hB (fun k hk => (hown.block k hk).1)) (fun e => ⟨(hnil.1 e).1, rfl⟩)
      simpa using hown'
  · obtain rfl := h3 (by omega)
    refine wpList_append_own _ hgd s x 37 ho B 3 i0 (.int .i64 0) 1 8 Try.underlying37 hi hz0 hz1 hz2 rfl (by decide) v l.length (l.map (Value.int .i64)) hs hown.1
      ⟨b, off, none⟩ m.length c (m.map (Value.int .i64)) hx (by simp) ?_ (ints_oneCell _ _) (by unfold maxLen; omega) (by omega) hB ?_
    · intro j u hj
      have hj' : j < m.length := by
        have := (List.getElem?_eq_some_iff.1 hj).1
        simpa using this
      rw [Addr.add_lit, h4 j hj']
      rw [List.getElem?_map, List.getElem?_eq_getElem hj'] at hj
      simp only [Option.map_some, Option.some.injEq] at hj
      rw [← hj, List.getD_eq_getElem?_getD, List.getElem?_eq_getElem hj']; rfl
    · intro v' w' hown' hgrow hnil
      refine h v' w' ⟨?_, by simpa using hlen⟩ ((Below.refl _ _).grown hgrow hB (fun k hk => (hown.block k hk).1)) (fun e => ⟨(hnil.1 e).1, List.eq_nil_of_length_eq_zero (hnil.1 e).2⟩)
      rw [List.length_append, List.map_append]
      exact hown'

/-- What Clone gives, told so that nil and not nil are known. -/
def GivesClone (w : World) (v : Value) (l : List Int) (e : Ending) (w' : World) : Prop :=
  ∃ r, e = .returned r ∧ OwnI w.heap.size w' r l ∧ Below w.heap.size w w' ∧ (r = .slice none 0 0 → l = [])

theorem cloneI_all (v : Value) (l : List Int) (w : World) (hv : IntsV w v l) :
    Calls Try.prog 49 #[v] w (GivesClone w v l) := by
  have hv0 := hv
  obtain ⟨ao, b, off, c, rfl, h1, h2, h3, h4, h5⟩ := hv0
  cases ao with
  | none =>
    have hc : c = 0 := by
      by_cases h : c = 0
      · exact h
      · exact absurd (h3 (by omega)) (by simp)
    subst hc
    have hl : l = [] := List.eq_nil_of_length_eq_zero (by omega)
    subst hl
    have hn := fun wx => Lib.run_eql_slice_nil (P := Try.prog) wx 37 3 none 0 0 0 0 Try.underlying37
    clear h3 h4
    go_enter Try.func49, Try.ntmps49
    go_wp2
    go_ret
    exact ⟨_, rfl, OwnI.nil _ _, Below.refl _ _, fun _ => rfl⟩
  | some ad =>
    have hB := (Below.refl w.heap.size w).alloc (Nat.le_refl _) (Obj.cells #[] 3)
    have hO := OwnI.lit w
    have hv1 := hv.kept hB
    have hlen : ([] : List Int).length + l.length ≤ 1099511627776 := by simpa using h5
    have hn := fun wx => Lib.run_eql_slice_nil (P := Try.prog) wx 37 3 (some ad) l.length c 0 0 Try.underlying37
    clear h3 h4
    go_enter Try.func49, Try.ntmps49
    go_wp2_with (at_builtin; refine wpList_extend (w.alloc (.cells #[] 3)) rfl _ _ rfl hO hv1 rfl rfl hlen hB.size ?_)
    intro v' w1 hO' hb1 hnil
    have hB' := hB.trans hb1
    have HN := Lib.hid hnil
    clear hO hv1 hB hb1 hnil
    go_wp2
    go_ret
    exact ⟨_, rfl, hO', hB', fun e => (HN.out e).elim⟩

theorem cloneI_c (v : Value) (l : List Int) (w : World) (hv : IntsV w v l) :
    Calls Try.prog 49 #[v] w (GivesI w l) :=
  (cloneI_all v l w hv).mono fun e w' ⟨r, h1, h2, h3, _⟩ => ⟨r, h1, h2, h3⟩

end Go.Proofs.Ytoioiippdchgmaa
