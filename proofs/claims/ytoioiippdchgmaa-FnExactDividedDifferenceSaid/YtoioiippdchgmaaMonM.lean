/-
  Rows of terms as numbers: appending, making, copying.
-/
import Derived.Test.YtoioiippdchgmaaTwo
import Derived.Test.YtoioiippdchgmaaMonQ
import Derived.Test.YtoioiippdchgmaaTerm
import Derived.Deep.RegionHeld3
import Derived.Laws.AppendOwnNone
namespace Go.Proofs.Ytoioiippdchgmaa
open Go.RowKit
set_option linter.unusedVariables false

theorem Try.infoM : (Try.prog.info? 66).map (fun i => (i.zero, i.size, i.bytes)) = some (some (.agg #[.int .i64 0, .int .i64 0]), 2, 16) := by kernel_rfl
def mf0 (x : Int × Int) : Value := .int .i64 x.1
def mf1 (x : Int × Int) : Value := .int .i64 x.2
abbrev OwnM (B : Nat) (w : World) (v : Value) (l : MonL) : Prop := OwnT 66 mf0 mf1 B w v l
def GivesM (w : World) (l : MonL) (e : Ending) (w' : World) : Prop := ∃ r, e = .returned r ∧ OwnM w.heap.size w' r l ∧ Below w.heap.size w w'
theorem OwnM.lit (w : World) : OwnM w.heap.size (w.alloc (.cells #[] 66)) (.slice (some ⟨w.heap.size, 0, none⟩) 0 0) [] := OwnT.lit _ _ _ _

theorem wpList_pushM {ops : Array Oper} {rest : List Oper} {o : Oper} {a : Act} {Q : Exit → Act → World → Prop} (w : World) (hgd : o.guard = none) (s x : Operand)
    (ho : o.op = .call { callee := .builtin .append, args := #[s, x], argTypes := #[43, 43] })
    {B : Nat} {v : Value} {l : MonL} {k c : Int} (hown : OwnM B w v l) (hs : a.eval s = v)
    {g : Nat} (hx : a.eval x = .slice (some ⟨g, 0, none⟩) 1 1) (hg0 : g = w.heap.size) (hlen : l.length + 1 ≤ 1099511627776) (hB : B ≤ w.heap.size)
    (h : ∀ v' w', OwnM B w' v' (l ++ [(k, c)]) → Below B w w' → wpList Try.prog ops Q rest (a.put o.dst v') w') :
    wpList Try.prog ops Q (o :: rest) a (w.alloc (.cells #[.int .i64 k, .int .i64 c] 66)) :=
  wpList_push2 w hgd s x ho Try.underlying43 Try.infoM rfl (by decide) (y := (k, c)) hown rfl rfl ⟨rfl, rfl⟩ hs hx hg0 hlen hB (fun v' w' h1 h2 _ _ => h v' w' h1 h2)

/-- In a region that draws its order: a term is appended. -/
theorem step_pushM {ops : Array Oper} {o : Oper} {a : Act} {w0 W : World} {K : Act → World → Prop} {Q : Exit → Act → World → Prop} {E : Prop}
    (hw : Region.wanted o (yielded ops a.tmps) = true) (s x : Operand)
    (ho : o.op = .call { callee := .builtin .append, args := #[s, x], argTypes := #[43, 43] })
    {B : Nat} {v : Value} {l : MonL} {k c : Int} (hown : OwnM B w0 v l) (hb : Below w0.heap.size w0 W) (hB : B ≤ w0.heap.size)
    (hs : a.eval s = v) (hx : a.eval x = .slice (some ⟨W.heap.size, 0, none⟩) 1 1) (hlen : l.length + 1 ≤ 1099511627776)
    (h : ∀ v' w', OwnM B w' v' (l ++ [(k, c)]) → Below B (W.alloc (.cells #[.int .i64 k, .int .i64 c] 66)) w' →
      (∀ (p : Addr) (z : Value), v.ownBlock ≠ some p.block → (W.alloc (.cells #[.int .i64 k, .int .i64 c] 66)).cell? p = some z → w'.cell? p = some z) → K (a.put o.dst v') w') :
    if Region.wanted o (yielded ops a.tmps) = true then Oper.wp Try.prog o a (W.alloc (.cells #[.int .i64 k, .int .i64 c] 66)) K Q else E := by
  have hR := hown.kept hb
  obtain ⟨i0, hi, hz0, hz, hz2⟩ := info_parts Try.infoM
  have hsz : (Value.agg #[.int .i64 0, .int .i64 0]).cells.size = 2 := rfl
  have hBW : B ≤ W.heap.size := Nat.le_trans hB hb.size
  rw [if_pos hw]
  refine wp_append_lies _ s x 43 ho B 66 i0 (.agg #[.int .i64 0, .int .i64 0]) 2 16 Try.underlying43 hi hz0 hz hz2 hsz (by decide) v l.length (two mf0 mf1 l) hs (hR.1.alloc _)
    ⟨W.heap.size, 0, none⟩ 1 1 [.int .i64 k, .int .i64 c] hx rfl ?_ ?_ (by decide) ?_ ?_ ?_ (W.heap.size + 1) (by simp) ?_
  · intro j u hj
    match j, hj with
    | 0, hj => simp at hj; subst hj; simp [Addr.add]
    | 1, hj => simp at hj; subst hj; simp [Addr.add]
  · intro u hu; simp at hu; rcases hu with rfl | rfl <;> rfl
  · unfold maxLen; omega
  · omega
  · simp; omega
  · intro g cap w' hown' hgrow hat hlt
    have hbb : Below B (W.alloc (.cells #[.int .i64 k, .int .i64 c] 66)) w' := (Below.refl _ _).grown hgrow (by simp; omega) (fun k hk => (hR.block k hk).1)
    have hrow : OwnM B w' (.slice (some ⟨g, 0, none⟩) (l.length + 1) cap) (l ++ [(k, c)]) := by
      refine ⟨?_, by simpa using hlen⟩
      rw [List.length_append]
      have e2 : two mf0 mf1 (l ++ [(k, c)]) = two mf0 mf1 l ++ [.int .i64 k, .int .i64 c] := by simp [two, mf0, mf1]
      rw [e2]
      exact hown'
    refine h _ w' hrow hbb (fun p z hp hz => ?_)
    rw [World.cell?_of_block (hgrow.block p.block (World.block_lt_of_cell? _ _ hz) (fun e => hp e.symm))]; exact hz

/-- 'make([]l2Mon, 0, n)'. -/
theorem wpList_makeM {ops : Array Oper} {rest : List Oper} {o : Oper} {a : Act} {Q : Exit → Act → World → Prop} (w : World) (hgd : o.guard = none) (s x : Operand)
    (ho : o.op = Op.makeSlice 43 s x) (n : Nat) (hs : a.eval s = .int .i64 0) {m : Int} (hx : a.eval x = .int .i64 m) (hm : m = (n : Int)) (hn : n ≤ 1099511627776)
    (h : ∀ w', OwnM w.heap.size w' (.slice (some ⟨w.heap.size, 0, none⟩) 0 n) [] → Below w.heap.size w w' → wpList Try.prog ops Q rest (a.put o.dst (.slice (some ⟨w.heap.size, 0, none⟩) 0 n)) w') :
    wpList Try.prog ops Q (o :: rest) a w := by
  obtain ⟨i0, hi, hz0, hz1, hz2⟩ := info_parts Try.infoM
  refine wpList_make_own w hgd s x 43 ho w.heap.size 66 i0 (.agg #[.int .i64 0, .int .i64 0]) 2 Try.underlying43 hi hz0 hz1 .i64 .i64 m n hs hx hm ?_ ?_ (Nat.le_refl _) ?_
  · rw [hz2]; omega
  · unfold maxLen; omega
  · intro w1 hown hgrow
    exact h w1 ⟨by simpa [two] using hown, Nat.zero_le _⟩ ((Below.refl w.heap.size w).grown hgrow (Nat.le_refl _) (fun k h => by cases h))

/-- 'append(out, src...)'. -/
theorem wpList_apM {ops : Array Oper} {rest : List Oper} {o : Oper} {a : Act} {Q : Exit → Act → World → Prop} (w : World) (hgd : o.guard = none) (s x : Operand)
    (ho : o.op = .call { callee := .builtin .append, args := #[s, x], argTypes := #[43, 43] })
    {B B' : Nat} {v u : Value} {l m : MonL} (hown : OwnM B w v l) (hsrc : OwnM B' w u m) (hs : a.eval s = v) (hx : a.eval x = u)
    (hlen : l.length + m.length ≤ 1099511627776) (hB : B ≤ w.heap.size)
    (h : ∀ v' w', OwnM B w' v' (l ++ m) → Below B w w' → wpList Try.prog ops Q rest (a.put o.dst v') w') :
    wpList Try.prog ops Q (o :: rest) a w := by
  obtain ⟨i0, hi, hz0, hz1, hz2⟩ := info_parts Try.infoM
  by_cases hm : m = []
  · subst hm
    obtain ⟨ao, c, hu, hcc, _⟩ := hsrc.shape
    cases ao with
    | none =>
      have hc0 : c = 0 := by
        rcases hsrc.1.2 with ⟨h2, _⟩ | ⟨g, cap, cur, h2, _⟩
        · rw [hu] at h2; simp at h2; exact h2
        · rw [hu] at h2; simp at h2
      subst hc0
      refine wpList_append_own_none hgd s x 43 ho B 66 i0 2 Try.underlying43 hi v l.length (two mf0 mf1 l) hs hown.1 (by rw [hx, hu]; rfl) ?_
      exact h v w (by simpa using hown) (Below.refl _ _)
    | some ad =>
      refine wpList_append_own _ hgd s x 43 ho B 66 i0 (.agg #[.int .i64 0, .int .i64 0]) 2 16 Try.underlying43 hi hz0 hz1 hz2 rfl (by decide) v l.length (two mf0 mf1 l) hs hown.1
        ad 0 c [] (by rw [hx, hu]; rfl) rfl (fun j u hj => by simp at hj) (fun u hu => by simp at hu) (by have := hown.2; unfold maxLen; omega) (by have := hown.2; omega) hB ?_
      intro v' w' hown' hgrow hnil
      refine h v' w' ⟨?_, by simpa using hown.2⟩ ((Below.refl _ _).grown hgrow hB (fun k hk => (hown.block k hk).1))
      simpa using hown'
  · obtain ⟨ao, c, hu, hcc, hcm, hne⟩ := hsrc.shape
    obtain ⟨g, rfl⟩ := hne hm
    refine wpList_append_own _ hgd s x 43 ho B 66 i0 (.agg #[.int .i64 0, .int .i64 0]) 2 16 Try.underlying43 hi hz0 hz1 hz2 rfl (by decide) v l.length (two mf0 mf1 l) hs hown.1
      ⟨g, 0, none⟩ m.length c (two mf0 mf1 m) (by rw [hx, hu]) (two_len _ _ _) ?_ (fun z hz => ?_) (by unfold maxLen; omega) (by omega) hB ?_
    · intro j u' hj
      have h3 := hsrc
      rw [hu] at h3
      exact World.ownsRow.cells h3.1 (g := g) rfl j u' hj
    · obtain ⟨y, hy, hz⟩ := List.mem_flatMap.1 hz
      simp at hz
      rcases hz with rfl | rfl <;> rfl
    · intro v' w' hown' hgrow hnil
      refine h v' w' ⟨?_, by simpa using hlen⟩ ((Below.refl _ _).grown hgrow hB (fun k hk => (hown.block k hk).1))
      rw [List.length_append]
      have e2 : two mf0 mf1 (l ++ m) = two mf0 mf1 l ++ two mf0 mf1 m := by simp [two]
      rw [e2]
      exact hown'

end Go.Proofs.Ytoioiippdchgmaa
