/-
  'out = append(out, Term{..})' for rows of terms.
-/
import Derived.Test.YtoioiippdchgmaaTerm
import Derived.Test.YtoioiippdchgmaaExt
import Derived.Deep.RegionHeld3
namespace Go.Proofs.Ytoioiippdchgmaa
open Go.RowKit
set_option linter.unusedVariables false

section
variable {lo hi : Nat} {W w' : World} {v : Value} {rs : List (Value × Int)} {ts : TermL}
/-- A row that grew by a term, whose list lies behind the row's blocks. -/
theorem RowT.pushed {u v' : Value} {e : List Int} {k : Int} (h : RowT lo hi W v rs ts) (ho : OwnI hi W u e) (hlo : lo ≤ hi) (hg : W.grownBy w' v.ownBlock)
    (hrow : OwnT 46 tf0 tf1 lo w' v' (rs ++ [(u, k)])) (hat : ∀ k, v'.ownBlock = some k → v.ownBlock = some k ∨ W.heap.size ≤ k)
    (hl : tLen (ts ++ [(e, k)]) ≤ 1099511627776) : RowT lo w'.heap.size w' v' (rs ++ [(u, k)]) (ts ++ [(e, k)]) := by
  have hm : (rs ++ [(u, k)]).map Prod.fst = rs.map Prod.fst ++ [u] := by simp
  have key : ∀ (j : Nat) (x : Value), (rs.map Prod.fst ++ [u])[j]? = some x → (rs.map Prod.fst)[j]? = some x ∨ x = u := by
    intro j x hx
    by_cases hj : j < (rs.map Prod.fst).length
    · rw [List.getElem?_append_left hj] at hx; exact .inl hx
    · rw [List.getElem?_append_right (by omega)] at hx
      obtain ⟨h1, h2⟩ := List.getElem?_eq_some_iff.1 hx
      simp at h1 h2
      exact .inr h2.symm
  have hu : ∀ q, u.ownBlock = some q → hi ≤ q ∧ q < W.heap.size := ho.block
  have hold : ∀ (j : Nat) x, (rs.map Prod.fst)[j]? = some x → ∀ q, x.ownBlock = some q → q < hi := h.uhi
  have hne : ∀ q, u.ownBlock = some q → v.ownBlock ≠ some q := fun q hq e => by have := hu q hq; have := h.vhi q e; omega
  refine ⟨hrow, ?_, ?_, ?_, fun q hq => (hrow.block q hq).2, ?_, Nat.le_refl _, hl⟩
  · rw [hm, List.map_append]
    refine (h.parts.grown hg (fun j x hx q hq e => h.clear j x hx q hq e)).push ((ho.grown hg ?_).mono hlo) (fun j x hx q hq e => ?_)
    · cases hq : u.ownBlock with
      | none => exact .inl rfl
      | some q => exact .inr fun e => hne q hq e.symm
    · have := hold j x hx q hq; have := hu q e; omega
  · rw [List.map_append, List.map_append, h.coefs]; rfl
  · rw [hm]
    intro j x hx q hq e
    rcases key j x hx with h1 | rfl
    · rcases hat q e with h2 | h2
      · exact h.clear j x h1 q hq h2
      · have := hold j x h1 q hq; have := h.size; omega
    · rcases hat q e with h2 | h2
      · exact hne q hq h2
      · have := hu q hq; omega
  · rw [hm]
    intro j x hx q hq
    rcases key j x hx with h1 | rfl
    · have := hold j x h1 q hq; have := h.size; have := hg.size; omega
    · have := hu q hq; have := hg.size; omega
end

theorem OwnP.lit (w : World) : OwnP w.heap.size (w.alloc (.cells #[] 46)) (.slice (some ⟨w.heap.size, 0, none⟩) 0 0) [] :=
  ⟨[], OwnT.lit _ _ _ _, Parts.nil _ _, rfl, fun j u h => by simp at h, fun k hk => by simp [Value.ownBlock] at hk; simp; omega, fun j u h => by simp at h, Nat.le_refl _, Nat.zero_le _⟩
theorem OwnP.litAt {B : Nat} (w : World) (hB : B ≤ w.heap.size) : OwnP B (w.alloc (.cells #[] 46)) (.slice (some ⟨w.heap.size, 0, none⟩) 0 0) [] := (OwnP.lit w).mono hB

/-- In a region that draws its order: a term is appended, its list lying behind the row. -/
theorem step_pushT {ops : Array Oper} {o : Oper} {a : Act} {w0 W : World} {K : Act → World → Prop} {Q : Exit → Act → World → Prop} {E : Prop}
    (hw : Region.wanted o (yielded ops a.tmps) = true) (s x : Operand)
    (ho : o.op = .call { callee := .builtin .append, args := #[s, x], argTypes := #[24, 24] })
    {B : Nat} {v : Value} {ts : TermL} {uo : Option Addr} {un uc : Nat} {e : List Int} {k : Int} (hown : OwnP B w0 v ts) (hb : Below w0.heap.size w0 W) (hu : OwnI w0.heap.size W (.slice uo un uc) e) (hB : B ≤ w0.heap.size)
    (hs : a.eval s = v) (hx : a.eval x = .slice (some ⟨W.heap.size, 0, none⟩) 1 1) (hlen : tLen (ts ++ [(e, k)]) ≤ 1099511627776)
    (h : ∀ v' w', OwnP B w' v' (ts ++ [(e, k)]) → Below B (W.alloc (.cells #[.slice uo un uc, .int .i64 k] 46)) w' →
      (∀ (p : Addr) (z : Value), v.ownBlock ≠ some p.block → (W.alloc (.cells #[.slice uo un uc, .int .i64 k] 46)).cell? p = some z → w'.cell? p = some z) → K (a.put o.dst v') w') :
    if Region.wanted o (yielded ops a.tmps) = true then Oper.wp Try.prog o a (W.alloc (.cells #[.slice uo un uc, .int .i64 k] 46)) K Q else E := by
  obtain ⟨rs, hR⟩ := hown
  have hR := hR.kept hb
  obtain ⟨i0, hi, hz0, hz, hz2⟩ := info_parts Try.infoT
  have hsz : (Value.agg #[.slice none 0 0, .int .i64 0]).cells.size = 2 := rfl
  have hBW : B ≤ W.heap.size := Nat.le_trans hB hb.size
  have hl1 : rs.length + 1 ≤ 1099511627776 := by
    have h1 := tLen_ge (ts ++ [(e, k)])
    rw [List.length_append] at h1
    have h2 := hR.len
    simp only [List.length_cons, List.length_nil] at h1
    omega
  rw [if_pos hw]
  refine wp_append_lies _ s x 24 ho B 46 i0 (.agg #[.slice none 0 0, .int .i64 0]) 2 32 Try.underlying24 hi hz0 hz hz2 hsz (by decide) v rs.length (two tf0 tf1 rs) hs (hR.row.1.alloc _)
    ⟨W.heap.size, 0, none⟩ 1 1 [.slice uo un uc, .int .i64 k] hx rfl ?_ ?_ (by decide) ?_ ?_ ?_ (W.heap.size + 1) (by simp) ?_
  · intro j u hj
    match j, hj with
    | 0, hj => simp at hj; subst hj; simp [Addr.add]
    | 1, hj => simp at hj; subst hj; simp [Addr.add]
  · intro u hu; simp at hu; rcases hu with rfl | rfl <;> rfl
  · unfold maxLen; omega
  · omega
  · simp; omega
  · intro g cap w' hown' hgrow hat hlt
    have hg : W.grownBy w' v.ownBlock := grownBy_trans (World.grownBy_alloc W _ _) hgrow
    have hbb : Below B (W.alloc (.cells #[.slice uo un uc, .int .i64 k] 46)) w' := (Below.refl _ _).grown hgrow (by simp; omega) (fun k hk => (hR.row.block k hk).1)
    have hrow : OwnT 46 tf0 tf1 B w' (.slice (some ⟨g, 0, none⟩) (rs.length + 1) cap) (rs ++ [(.slice uo un uc, k)]) := by
      refine ⟨?_, by simpa using hl1⟩
      rw [List.length_append]
      have e2 : two tf0 tf1 (rs ++ [(.slice uo un uc, k)]) = two tf0 tf1 rs ++ [.slice uo un uc, .int .i64 k] := by simp [two, tf0, tf1]
      rw [e2]
      exact hown'
    refine h _ w' ⟨_, hR.pushed hu hB hg hrow (fun q hq => ?_) hlen⟩ hbb (fun p z hp hz => ?_)
    rotate_left
    · rw [World.cell?_of_block (hgrow.block p.block (World.block_lt_of_cell? _ _ hz) (fun e => hp e.symm))]; exact hz
    simp [Value.ownBlock] at hq
    subst hq
    rcases hat with h | h
    · exact .inl h
    · exact .inr (by omega)

theorem wpList_pushT {ops : Array Oper} {rest : List Oper} {o : Oper} {a : Act} {Q : Exit → Act → World → Prop} {w0 : World} (w : World) (hgd : o.guard = none) (s x : Operand)
    (ho : o.op = .call { callee := .builtin .append, args := #[s, x], argTypes := #[24, 24] })
    {B : Nat} {v : Value} {ts : TermL} {uo : Option Addr} {un uc : Nat} {e : List Int} {k : Int} (hown : OwnP B w0 v ts) (hb : Below w0.heap.size w0 w) (hu : OwnI w0.heap.size w (.slice uo un uc) e) (hB : B ≤ w0.heap.size)
    (hs : a.eval s = v) {g : Nat} (hx : a.eval x = .slice (some ⟨g, 0, none⟩) 1 1) (hg0 : g = w.heap.size) (hlen : tLen (ts ++ [(e, k)]) ≤ 1099511627776)
    (h : ∀ v' w', OwnP B w' v' (ts ++ [(e, k)]) → Below B w w' → w.grownBy w' v.ownBlock → wpList Try.prog ops Q rest (a.put o.dst v') w') :
    wpList Try.prog ops Q (o :: rest) a (w.alloc (.cells #[.slice uo un uc, .int .i64 k] 46)) := by
  obtain ⟨rs, hR⟩ := hown
  have hR := hR.kept hb
  have hl1 : rs.length + 1 ≤ 1099511627776 := by
    have h1 := tLen_ge (ts ++ [(e, k)])
    rw [List.length_append] at h1
    have h2 := hR.len
    simp only [List.length_cons, List.length_nil] at h1
    omega
  refine wpList_push2 w hgd s x ho Try.underlying24 Try.infoT rfl (by decide) (y := (.slice uo un uc, k)) hR.row rfl rfl ⟨rfl, rfl⟩ hs hx hg0 hl1 (Nat.le_trans hB hb.size) ?_
  intro v' w' hO' hb' hg hat
  exact h v' w' ⟨_, hR.pushed hu hB hg hO' hat hlen⟩ hb' hg

theorem keep2_alloc {B : Nat} {w W : World} {p q : Addr} {x y : Value} (o : Obj) (h : Below B w W ∧ W.cell? p = some x ∧ W.cell? q = some y) (hB : B ≤ w.heap.size) : Below B w (W.alloc o) ∧ (W.alloc o).cell? p = some x ∧ (W.alloc o).cell? q = some y := by
  have hb := (Below.refl W.heap.size W).alloc (Nat.le_refl _) o
  exact ⟨h.1.alloc (Nat.le_trans hB h.1.size) o, (hb.cell (World.block_lt_of_cell? _ _ h.2.1)).trans h.2.1, (hb.cell (World.block_lt_of_cell? _ _ h.2.2)).trans h.2.2⟩
theorem keep2_push {B : Nat} {w W W' : World} {p q : Addr} {x y v : Value} (hb : Below B W W') (hk : ∀ (p : Addr) (z : Value), v.ownBlock ≠ some p.block → W.cell? p = some z → W'.cell? p = some z)
    (h : Below B w W ∧ W.cell? p = some x ∧ W.cell? q = some y) (hp : v.ownBlock ≠ some p.block) (hq : v.ownBlock ≠ some q.block) : Below B w W' ∧ W'.cell? p = some x ∧ W'.cell? q = some y :=
  ⟨h.1.trans hb, hk p x hp h.2.1, hk q y hq h.2.2⟩
theorem held2_below {B : Nat} {w W : World} {p q : Addr} {x y : Value} (h : Below B w W ∧ W.cell? p = some x ∧ W.cell? q = some y) : Below B w W := h.1
theorem OwnP.ne {B : Nat} {w : World} {v : Value} {ts : TermL} (h : OwnP B w v ts) (k : Nat) (hk : k < B ∨ w.heap.size ≤ k) : v.ownBlock ≠ some k := fun e => by
  obtain ⟨rs, h⟩ := h
  have := h.row.block k e
  omega
theorem keep2_drew {B : Nat} {w W : World} {p q : Addr} {x y : Value} (h : Below B w W) (hc : W.cell? p = some x) (hd : W.cell? q = some y) : Below B w W.drew ∧ W.drew.cell? p = some x ∧ W.drew.cell? q = some y := ⟨⟨h.os, h.tape, h.output, h.size, h.block⟩, hc, hd⟩
theorem keep2_here {B : Nat} {w W : World} {p q : Addr} {x y : Value} (h : Below B w W) (hc : W.cell? p = some x) (hd : W.cell? q = some y) : Below B w W ∧ W.cell? p = some x ∧ W.cell? q = some y := ⟨h, hc, hd⟩
theorem keep2_call {B : Nat} {w W W' : World} {p q : Addr} {x y : Value} (hb : Below W.heap.size W W') (h : Below B w W ∧ W.cell? p = some x ∧ W.cell? q = some y) (hB : B ≤ w.heap.size) : Below B w W' ∧ W'.cell? p = some x ∧ W'.cell? q = some y :=
  ⟨below_step h.1 hb (Nat.le_trans hB h.1.size), (hb.cell (World.block_lt_of_cell? _ _ h.2.1)).trans h.2.1, (hb.cell (World.block_lt_of_cell? _ _ h.2.2)).trans h.2.2⟩

end Go.Proofs.Ytoioiippdchgmaa
