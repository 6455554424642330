/-
  'out = append(out, x)' for rows of lists of ints.
-/
import Derived.Test.YtfepepakellbbaaLists
import Derived.Test.YtfepepakellbbaaExt
import Derived.Deep.RegionHeld3
import Derived.Deep.AppendLies
namespace Go.Proofs.Ytfepepakellbbaa
open Go.RowKit
set_option linter.unusedVariables false

/-- The list's block is none of the row's. -/
def Free (nv rv : Value) (us : List Value) : Prop := ∀ k, nv.ownBlock = some k → rv.ownBlock ≠ some k ∧ ∀ (j : Nat) u, us[j]? = some u → u.ownBlock ≠ some k
theorem iiLen_each {n : Nat} : ∀ {ls : ListsL}, (∀ z ∈ ls, z.length = n) → iiLen ls = ls.length * n
  | [], _ => by simp [iiLen]
  | x :: ls, h => by
    have ih := iiLen_each (ls := ls) (fun z hz => h z (by simp [hz]))
    simp only [iiLen, ih, List.length_cons, Nat.succ_mul]
    have := h x (by simp)
    omega
theorem iiLen_snoc (ls : ListsL) (e : List Int) : iiLen (ls ++ [e]) = iiLen ls + e.length := by rw [iiLen_append]; simp [iiLen]

section
variable {lo hi : Nat} {W w' : World} {v : Value} {us : List Value} {ls : ListsL}
theorem RowII.up (h : RowII lo hi W v us ls) (hb : Below W.heap.size W w') : RowII lo w'.heap.size w' v us ls := (h.kept hb).raise (Nat.le_refl _) (Nat.le_trans h.size hb.size) (Nat.le_refl _)
theorem RowII.grown {nv : Value} (h : RowII lo hi W v us ls) (hg : W.grownBy w' nv.ownBlock) (hf : Free nv v us) : RowII lo w'.heap.size w' v us ls := by
  refine ⟨h.row.grown hg ?_, h.parts.grown hg (fun j x hx q hq e => (hf q e).2 j x hx hq), h.clear, fun k hk => Nat.lt_of_lt_of_le (h.vhi k hk) (Nat.le_trans h.size hg.size), fun j u hu k hk => Nat.lt_of_lt_of_le (h.uhi j u hu k hk) (Nat.le_trans h.size hg.size), Nat.le_refl _, h.bound⟩
  cases hv : v.ownBlock with
  | none => exact .inl rfl
  | some k => exact .inr fun e => (hf k e.symm).1 hv
theorem RowII.lit (w : World) : RowII w.heap.size (w.heap.size + 1) (w.alloc (.cells #[] 24)) (.slice (some ⟨w.heap.size, 0, none⟩) 0 0) [] [] :=
  ⟨OwnL.lit _ _ _, Parts.nil _ _, fun j u h => by simp at h, fun k hk => by simp [Value.ownBlock] at hk; omega, fun j u h => by simp at h, by simp, Nat.zero_le _⟩
/-- A row that grew by a list, which lies behind the row's blocks. -/
theorem RowII.pushed {u v' : Value} {e : List Int} (h : RowII lo hi W v us ls) (ho : OwnI hi W u e) (hlo : lo ≤ hi) (hg : W.grownBy w' v.ownBlock)
    (hrow : OwnL 24 id lo w' v' (us ++ [u])) (hat : ∀ k, v'.ownBlock = some k → v.ownBlock = some k ∨ W.heap.size ≤ k)
    (hl : iiLen (ls ++ [e]) ≤ 1099511627776) : RowII lo w'.heap.size w' v' (us ++ [u]) (ls ++ [e]) := by
  have key : ∀ (j : Nat) (x : Value), (us ++ [u])[j]? = some x → us[j]? = some x ∨ x = u := by
    intro j x hx
    by_cases hj : j < us.length
    · rw [List.getElem?_append_left hj] at hx; exact .inl hx
    · rw [List.getElem?_append_right (by omega)] at hx
      obtain ⟨h1, h2⟩ := List.getElem?_eq_some_iff.1 hx
      simp at h1 h2
      exact .inr h2.symm
  have hu : ∀ q, u.ownBlock = some q → hi ≤ q ∧ q < W.heap.size := ho.block
  have hold : ∀ (j : Nat) x, us[j]? = some x → ∀ q, x.ownBlock = some q → q < hi := h.uhi
  have hne : ∀ q, u.ownBlock = some q → v.ownBlock ≠ some q := fun q hq e => by have := hu q hq; have := h.vhi q e; omega
  refine ⟨hrow, ?_, ?_, fun q hq => (hrow.block q hq).2, ?_, Nat.le_refl _, hl⟩
  · refine (h.parts.grown hg (fun j x hx q hq e => h.clear j x hx q hq e)).push ((ho.grown hg ?_).mono hlo) (fun j x hx q hq e => ?_)
    · cases hq : u.ownBlock with
      | none => exact .inl rfl
      | some q => exact .inr fun e => hne q hq e.symm
    · have := hold j x hx q hq; have := hu q e; omega
  · intro j x hx q hq e
    rcases key j x hx with h1 | rfl
    · rcases hat q e with h2 | h2
      · exact h.clear j x h1 q hq h2
      · have := hold j x h1 q hq; have := h.size; omega
    · rcases hat q e with h2 | h2
      · exact hne q hq h2
      · have := hu q hq; omega
  · intro j x hx q hq
    rcases key j x hx with h1 | rfl
    · have := hold j x h1 q hq; have := h.size; have := hg.size; omega
    · have := hu q hq; have := hg.size; omega
end

/-- In a region that draws its order: a list is appended that lies behind the row. -/
theorem step_pushII {ops : Array Oper} {o : Oper} {a : Act} {w0 W : World} {K : Act → World → Prop} {Q : Exit → Act → World → Prop} {E : Prop}
    (hw : Region.wanted o (yielded ops a.tmps) = true) (s x : Operand)
    (ho : o.op = .call { callee := .builtin .append, args := #[s, x], argTypes := #[31, 31] })
    {B hi : Nat} {v : Value} {us : List Value} {ls : ListsL} {uo : Option Addr} {un uc : Nat} {e : List Int} (hown : RowII B hi w0 v us ls) (hb : Below w0.heap.size w0 W) (hu : OwnI w0.heap.size W (.slice uo un uc) e) (hB : B ≤ w0.heap.size)
    (hs : a.eval s = v) (hx : a.eval x = .slice (some ⟨W.heap.size, 0, none⟩) 1 1) (hlen : iiLen (ls ++ [e]) ≤ 1099511627776) (hl1 : ls.length + 1 ≤ 1099511627776)
    (h : ∀ v' w', RowII B w'.heap.size w' v' (us ++ [.slice uo un uc]) (ls ++ [e]) → Below B (W.alloc (.cells #[.slice uo un uc] 24)) w' → W.grownBy w' v.ownBlock → (∀ k, v'.ownBlock = some k → v.ownBlock = some k ∨ W.heap.size ≤ k) →
      (∀ (p : Addr) (z : Value), v.ownBlock ≠ some p.block → (W.alloc (.cells #[.slice uo un uc] 24)).cell? p = some z → w'.cell? p = some z) → K (a.put o.dst v') w') :
    if Region.wanted o (yielded ops a.tmps) = true then Oper.wp Try.prog o a (W.alloc (.cells #[.slice uo un uc] 24)) K Q else E := by
  have hR := (hown.kept hb).raise (Nat.le_refl B) (hown.size) hb.size
  have hlu := hown.len
  obtain ⟨i0, hi, hz0, hz, hz2⟩ := info_parts Try.infoII
  have hsz : (Value.slice none 0 0).cells.size = 1 := rfl
  have hBW : B ≤ W.heap.size := Nat.le_trans hB hb.size
  rw [if_pos hw]
  refine wp_append_lies _ s x 31 ho B 24 i0 (.slice none 0 0) 1 24 Try.underlying31 hi hz0 hz hz2 hsz (by decide) v us.length (us.map id) hs (hR.row.1.alloc _)
    ⟨W.heap.size, 0, none⟩ 1 1 [.slice uo un uc] hx rfl ?_ ?_ (by decide) ?_ ?_ ?_ (W.heap.size + 1) (by simp) ?_
  · intro j u hj
    match j, hj with
    | 0, hj => simp at hj; subst hj; simp [Addr.add]
  · intro u hu; simp at hu; subst hu; rfl
  · unfold maxLen; omega
  · omega
  · simp; omega
  · intro g cap w' hown' hgrow hat hlt
    have hg : W.grownBy w' v.ownBlock := grownBy_trans (World.grownBy_alloc W _ _) hgrow
    have hbb : Below B (W.alloc (.cells #[.slice uo un uc] 24)) w' := (Below.refl _ _).grown hgrow (by simp; omega) (fun k hk => (hR.row.block k hk).1)
    have hrow : OwnL 24 id B w' (.slice (some ⟨g, 0, none⟩) (us.length + 1) cap) (us ++ [.slice uo un uc]) := by
      refine ⟨?_, by simp; omega⟩
      rw [List.length_append]
      have e2 : (us ++ [Value.slice uo un uc]).map id = us.map id ++ [.slice uo un uc] := by simp
      rw [e2]
      exact hown'
    have hat' : ∀ k, (Value.slice (some ⟨g, 0, none⟩) (us.length + 1) cap).ownBlock = some k → v.ownBlock = some k ∨ W.heap.size ≤ k := fun q hq => by
      simp [Value.ownBlock] at hq
      subst hq
      rcases hat with h | h
      · exact .inl h
      · exact .inr (by omega)
    refine h _ w' (hR.pushed hu hB hg hrow hat' hlen) hbb hg hat' (fun p z hp hz => ?_)
    rw [World.cell?_of_block (hgrow.block p.block (World.block_lt_of_cell? _ _ hz) (fun e => hp e.symm))]; exact hz

theorem wpList_pushII {ops : Array Oper} {rest : List Oper} {o : Oper} {a : Act} {Q : Exit → Act → World → Prop} {w0 : World} (w : World) (hgd : o.guard = none) (s x : Operand)
    (ho : o.op = .call { callee := .builtin .append, args := #[s, x], argTypes := #[31, 31] })
    {B hi : Nat} {v : Value} {us : List Value} {ls : ListsL} {uo : Option Addr} {un uc : Nat} {e : List Int} (hown : RowII B hi w0 v us ls) (hb : Below w0.heap.size w0 w) (hu : OwnI w0.heap.size w (.slice uo un uc) e) (hB : B ≤ w0.heap.size)
    (hs : a.eval s = v) {g : Nat} (hx : a.eval x = .slice (some ⟨g, 0, none⟩) 1 1) (hg0 : g = w.heap.size) (hlen : iiLen (ls ++ [e]) ≤ 1099511627776) (hl1 : ls.length + 1 ≤ 1099511627776)
    (h : ∀ v' w', RowII B w'.heap.size w' v' (us ++ [.slice uo un uc]) (ls ++ [e]) → Below B w w' → w.grownBy w' v.ownBlock → (∀ k, v'.ownBlock = some k → v.ownBlock = some k ∨ w.heap.size ≤ k) → wpList Try.prog ops Q rest (a.put o.dst v') w') :
    wpList Try.prog ops Q (o :: rest) a (w.alloc (.cells #[.slice uo un uc] 24)) := by
  subst hg0
  have hR := (hown.kept hb).raise (Nat.le_refl B) (hown.size) hb.size
  have hlu := hown.len
  obtain ⟨i0, hi, hz0, hz, hz2⟩ := info_parts Try.infoII
  have hsz : (Value.slice none 0 0).cells.size = 1 := rfl
  have hBW : B ≤ w.heap.size := Nat.le_trans hB hb.size
  refine wpList_append_lies _ hgd s x 31 ho B 24 i0 (.slice none 0 0) 1 24 Try.underlying31 hi hz0 hz hz2 hsz (by decide) v us.length (us.map id) hs (hR.row.1.alloc _)
    ⟨w.heap.size, 0, none⟩ 1 1 [.slice uo un uc] hx rfl ?_ ?_ (by decide) ?_ ?_ ?_ (w.heap.size + 1) (by simp) ?_
  · intro j u hj
    match j, hj with
    | 0, hj => simp at hj; subst hj; simp [Addr.add]
  · intro u hu; simp at hu; subst hu; rfl
  · unfold maxLen; omega
  · omega
  · simp; omega
  · intro g cap w' hown' hgrow hat hlt
    have hg : w.grownBy w' v.ownBlock := grownBy_trans (World.grownBy_alloc w _ _) hgrow
    have hbb : Below B w w' := (Below.refl _ _).grown hg hBW (fun k hk => (hR.row.block k hk).1)
    have hrow : OwnL 24 id B w' (.slice (some ⟨g, 0, none⟩) (us.length + 1) cap) (us ++ [.slice uo un uc]) := by
      refine ⟨?_, by simp; omega⟩
      rw [List.length_append]
      have e2 : (us ++ [Value.slice uo un uc]).map id = us.map id ++ [.slice uo un uc] := by simp
      rw [e2]
      exact hown'
    have hat' : ∀ k, (Value.slice (some ⟨g, 0, none⟩) (us.length + 1) cap).ownBlock = some k → v.ownBlock = some k ∨ w.heap.size ≤ k := fun q hq => by
      simp [Value.ownBlock] at hq
      subst hq
      rcases hat with h | h
      · exact .inl h
      · exact .inr (by omega)
    exact h _ w' (hR.pushed hu hB hg hrow hat' hlen) hbb hg hat'

/-- 'out = append(out, y)' of ints; where the new list lies. -/
theorem wpList_pushAt {ops : Array Oper} {rest : List Oper} {o : Oper} {a : Act} {Q : Exit → Act → World → Prop} (w : World) (hgd : o.guard = none) (s x : Operand)
    (ho : o.op = .call { callee := .builtin .append, args := #[s, x], argTypes := #[24, 24] })
    {B : Nat} {v : Value} {l : List Int} {y : Int} (hown : OwnI B w v l) (hs : a.eval s = v) (hx : a.eval x = .slice (some ⟨w.heap.size, 0, none⟩) 1 1)
    (hlen : l.length + 1 ≤ 1099511627776) (hB : B ≤ w.heap.size)
    (h : ∀ v' w', OwnI B w' v' (l ++ [y]) → Below B w w' → w.grownBy w' v.ownBlock → (∀ k, v'.ownBlock = some k → v.ownBlock = some k ∨ w.heap.size ≤ k) → wpList Try.prog ops Q rest (a.put o.dst v') w') :
    wpList Try.prog ops Q (o :: rest) a (w.alloc (.cells #[.int .i64 y] 3)) := by
  obtain ⟨i0, hi, hz0, hz1, hz2⟩ := info_parts Try.infoI
  refine wpList_append_lies _ hgd s x 24 ho B 3 i0 (.int .i64 0) 1 8 Try.underlying24 hi hz0 hz1 hz2 rfl (by decide) v l.length (l.map (Value.int .i64)) hs (hown.1.alloc _)
    ⟨w.heap.size, 0, none⟩ 1 1 [.int .i64 y] hx rfl ?_ ?_ (by decide) ?_ ?_ ?_ (w.heap.size + 1) (by simp) ?_
  · intro j u hj
    match j, hj with
    | 0, hj => simp at hj; subst hj; simp [Addr.add]
  · intro u hu; simp at hu; subst hu; rfl
  · unfold maxLen; omega
  · omega
  · simp; omega
  · intro g cap w' hown' hgrow hat hlt
    have hg : w.grownBy w' v.ownBlock := grownBy_trans (World.grownBy_alloc w _ _) hgrow
    refine h _ w' ⟨?_, by simpa using hlen⟩ ((Below.refl _ _).grown hg hB (fun k hk => (hown.block k hk).1)) hg (fun q hq => ?_)
    · rw [List.length_append, List.map_append]
      exact hown'
    · simp [Value.ownBlock] at hq
      subst hq
      rcases hat with h | h
      · exact .inl h
      · exact .inr (by omega)

theorem k2_alloc {B : Nat} {w W : World} {p q : Addr} {x y : Value} (o : Obj) (h : Below B w W ∧ W.cell? p = some x ∧ W.cell? q = some y) (hB : B ≤ w.heap.size) : Below B w (W.alloc o) ∧ (W.alloc o).cell? p = some x ∧ (W.alloc o).cell? q = some y := by
  have hb := (Below.refl W.heap.size W).alloc (Nat.le_refl _) o
  exact ⟨h.1.alloc (Nat.le_trans hB h.1.size) o, (hb.cell (World.block_lt_of_cell? _ _ h.2.1)).trans h.2.1, (hb.cell (World.block_lt_of_cell? _ _ h.2.2)).trans h.2.2⟩
theorem k2_push {B : Nat} {w W W' : World} {p q : Addr} {x y v : Value} (hb : Below B W W') (hk : ∀ (p : Addr) (z : Value), v.ownBlock ≠ some p.block → W.cell? p = some z → W'.cell? p = some z)
    (h : Below B w W ∧ W.cell? p = some x ∧ W.cell? q = some y) (hp : v.ownBlock ≠ some p.block) (hq : v.ownBlock ≠ some q.block) : Below B w W' ∧ W'.cell? p = some x ∧ W'.cell? q = some y :=
  ⟨h.1.trans hb, hk p x hp h.2.1, hk q y hq h.2.2⟩
theorem held2_b {B : Nat} {w W : World} {p q : Addr} {x y : Value} (h : Below B w W ∧ W.cell? p = some x ∧ W.cell? q = some y) : Below B w W := h.1
theorem k2_drew {B : Nat} {w W : World} {p q : Addr} {x y : Value} (h : Below B w W) (hc : W.cell? p = some x) (hd : W.cell? q = some y) : Below B w W.drew ∧ W.drew.cell? p = some x ∧ W.drew.cell? q = some y := ⟨⟨h.os, h.tape, h.output, h.size, h.block⟩, hc, hd⟩
theorem k2_call {B : Nat} {w W W' : World} {p q : Addr} {x y : Value} (hb : Below W.heap.size W W') (h : Below B w W ∧ W.cell? p = some x ∧ W.cell? q = some y) (hB : B ≤ w.heap.size) : Below B w W' ∧ W'.cell? p = some x ∧ W'.cell? q = some y :=
  ⟨below_step h.1 hb (Nat.le_trans hB h.1.size), (hb.cell (World.block_lt_of_cell? _ _ h.2.1)).trans h.2.1, (hb.cell (World.block_lt_of_cell? _ _ h.2.2)).trans h.2.2⟩

end Go.Proofs.Ytfepepakellbbaa
