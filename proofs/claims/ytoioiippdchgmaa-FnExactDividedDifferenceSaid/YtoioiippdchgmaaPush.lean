/-
  append and make of a slice of ints, as laws of the walk in this seat's words.
-/
import Derived.Test.YtoioiippdchgmaaMem
namespace Go.Proofs.Ytoioiippdchgmaa
open Go.RowKit
set_option linter.unusedVariables false

/-- 'out = append(out, y)': out is the call's own. -/
theorem wpList_push {ops : Array Oper} {rest : List Oper} {o : Oper} {a : Act} {Q : Exit → Act → World → Prop} (w : World) (hgd : o.guard = none) (s x : Operand)
    (ho : o.op = .call { callee := .builtin .append, args := #[s, x], argTypes := #[37, 37] })
    {B : Nat} {v : Value} {l : List Int} {y : Int} (hown : OwnI B w v l) (hs : a.eval s = v) (hx : a.eval x = .slice (some ⟨w.heap.size, 0, none⟩) 1 1)
    (hlen : l.length + 1 ≤ 1099511627776) (hB : B ≤ w.heap.size)
    (h : ∀ v' w', OwnI B w' v' (l ++ [y]) → Below B w w' → w.grownBy w' v.ownBlock → v'.ownBlock ≠ none → wpList Try.prog ops Q rest (a.put o.dst v') w') :
    wpList Try.prog ops Q (o :: rest) a (w.alloc (.cells #[.int .i64 y] 3)) := by
  obtain ⟨i0, hi, hz0, hz1, hz2⟩ := info_parts Try.infoI
  refine wpList_append_own _ hgd s x 37 ho B 3 i0 (.int .i64 0) 1 8 Try.underlying37 hi hz0 hz1 hz2 rfl (by decide) v l.length (l.map (Value.int .i64)) hs (hown.1.alloc _)
    ⟨w.heap.size, 0, none⟩ 1 1 [.int .i64 y] hx rfl ?_ ?_ ?_ ?_ ?_ ?_
  · intro j u hj
    match j, hj with
    | 0, hj => simp at hj; subst hj; simp [Addr.add]
  · intro u hu; simp at hu; subst hu; rfl
  · unfold maxLen; omega
  · omega
  · simp; omega
  · intro v' w' hown' hgrow hnil
    have hb : ∀ k, v.ownBlock = some k → B ≤ k := fun k hk => (hown.block k hk).1
    have hg : w.grownBy w' v.ownBlock := grownBy_trans (World.grownBy_alloc w _ _) hgrow
    refine h v' w' ⟨?_, by simpa using hlen⟩ ((Below.refl _ _).grown hg hB (fun k hk => hb k hk)) hg ?_
    · rw [List.length_append, List.map_append]
      exact hown'
    · intro e
      have hv : v' = .slice none 0 0 := by
        rcases hown'.2 with ⟨h1, h2⟩ | ⟨g, cap, cur, h1, _⟩
        · exact h1
        · rw [h1] at e; simp [Value.ownBlock] at e
      have := hnil.1 hv
      omega

theorem OwnI.lit (w : World) : OwnI w.heap.size (w.alloc (.cells #[] 3)) (.slice (some ⟨w.heap.size, 0, none⟩) 0 0) [] :=
  ⟨by simpa using World.ownsRow_lit (base := w.heap.size) (e := 3) (size := 1) w #[] 0 (Nat.le_refl _) (Nat.zero_le _) rfl, Nat.zero_le _⟩

/-- 'make([]int, n)': n zeros. -/
theorem wpList_zeros {ops : Array Oper} {rest : List Oper} {o : Oper} {a : Act} {Q : Exit → Act → World → Prop} (w : World) (hgd : o.guard = none) (s x : Operand)
    (ho : o.op = Op.makeSlice 37 s x) (n : Nat) (hs : a.eval s = .int .i64 (n : Int)) (hx : a.eval x = .int .i64 (n : Int)) (hn : n ≤ 1099511627776)
    (h : ∀ w', OwnI w.heap.size w' (.slice (some ⟨w.heap.size, 0, none⟩) n n) (List.replicate n 0) → Below w.heap.size w w' → wpList Try.prog ops Q rest (a.put o.dst (.slice (some ⟨w.heap.size, 0, none⟩) n n)) w') :
    wpList Try.prog ops Q (o :: rest) a w := by
  obtain ⟨i0, hi, hz0, hz1, hz2⟩ := info_parts Try.infoI
  refine wpList_make_full _ hgd s x 37 ho w.heap.size 3 i0 (.int .i64 0) 1 Try.underlying37 hi hz0 hz1 .i64 .i64 _ _ n hs hx rfl rfl ?_ ?_ (Nat.le_refl _) ?_
  · rw [hz2]; omega
  · unfold maxLen; omega
  · intro w1 hown hgrow
    refine h w1 ⟨?_, by simpa using hn⟩ ((Below.refl w.heap.size w).grown hgrow (Nat.le_refl _) (fun k h => by cases h))
    rw [List.map_replicate, List.length_replicate]
    have e := toList_madeCells_one (.int .i64 0) n
    simp only [Value.cells, Nat.mul_one] at hown
    rw [← e]; exact hown

end Go.Proofs.Ytoioiippdchgmaa
