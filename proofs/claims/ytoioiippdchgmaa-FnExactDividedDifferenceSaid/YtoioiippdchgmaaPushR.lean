/-
  Appending a term, with what is known of the blocks.
-/
import Derived.Test.YtoioiippdchgmaaPushT
namespace Go.Proofs.Ytoioiippdchgmaa
open Go.RowKit
set_option linter.unusedVariables false

/-- A row of terms no block of which is r. -/
structure RowX (r B : Nat) (w : World) (v : Value) (rs : List (Value × Int)) (ts : TermL) : Prop where
  row : RowT B w.heap.size w v rs ts
  vr : v.ownBlock ≠ some r
  ur : ∀ (j : Nat) u, (rs.map Prod.fst)[j]? = some u → u.ownBlock ≠ some r

theorem RowX.grown {r B : Nat} {w w' : World} {v : Value} {rs : List (Value × Int)} {ts : TermL} (h : RowX r B w v rs ts) (hg : w.grownBy w' (some r)) : RowX r B w' v rs ts := by
  have hs := hg.size
  refine ⟨⟨⟨h.row.row.1.kept hg (.inr h.vr), h.row.row.2⟩, ⟨h.row.parts.len, fun j u l hu hl => (h.row.parts.own j u l hu hl).grown hg (.inr (h.ur j u hu)), h.row.parts.apart⟩, h.row.coefs, h.row.clear,
    fun k hk => Nat.lt_of_lt_of_le (h.row.vhi k hk) hs, fun j u hu k hk => Nat.lt_of_lt_of_le (h.row.uhi j u hu k hk) hs, Nat.le_refl _, h.row.bound⟩, h.vr, h.ur⟩
theorem RowX.kept {r B : Nat} {w w' : World} {v : Value} {rs : List (Value × Int)} {ts : TermL} (h : RowX r B w v rs ts) (hb : Below w.heap.size w w') : RowX r B w' v rs ts :=
  ⟨(h.row.kept hb).raise (Nat.le_refl _) hb.size (Nat.le_refl _), h.vr, h.ur⟩

theorem wpList_pushX {ops : Array Oper} {rest : List Oper} {o : Oper} {a : Act} {Q : Exit → Act → World → Prop} {w0 : World} (w : World) (hgd : o.guard = none) (s x : Operand)
    (ho : o.op = .call { callee := .builtin .append, args := #[s, x], argTypes := #[24, 24] })
    {r B : Nat} {v : Value} {rs : List (Value × Int)} {ts : TermL} {uo : Option Addr} {un uc : Nat} {e : List Int} {k : Int} (hX : RowX r B w0 v rs ts) (hb : Below w0.heap.size w0 w) (hu : OwnI w0.heap.size w (.slice uo un uc) e) (hB : B ≤ w0.heap.size) (hr : r < w0.heap.size)
    (hs : a.eval s = v) {g : Nat} (hx : a.eval x = .slice (some ⟨g, 0, none⟩) 1 1) (hg0 : g = w.heap.size) (hlen : tLen (ts ++ [(e, k)]) ≤ 1099511627776)
    (h : ∀ v' w', RowX r B w' v' (rs ++ [(.slice uo un uc, k)]) (ts ++ [(e, k)]) → Below B w w' → w.grownBy w' v.ownBlock → wpList Try.prog ops Q rest (a.put o.dst v') w') :
    wpList Try.prog ops Q (o :: rest) a (w.alloc (.cells #[.slice uo un uc, .int .i64 k] 46)) := by
  have hR := hX.row.kept hb
  have hl1 : rs.length + 1 ≤ 1099511627776 := by
    have h1 := tLen_ge (ts ++ [(e, k)])
    rw [List.length_append] at h1
    have h2 := hR.len
    simp only [List.length_cons, List.length_nil] at h1
    omega
  refine wpList_push2 w hgd s x ho Try.underlying24 Try.infoT rfl (by decide) (y := (.slice uo un uc, k)) hR.row rfl rfl ⟨rfl, rfl⟩ hs hx hg0 hl1 (Nat.le_trans hB hb.size) ?_
  intro v' w' hO' hb' hg hat
  refine h v' w' ⟨hR.pushed hu hB hg hO' hat hlen, ?_, ?_⟩ hb' hg
  · intro e
    rcases hat r e with h1 | h1
    · exact hX.vr h1
    · have h2 := hb.size
      omega
  · intro j u hu' e
    rw [List.map_append, List.map_singleton] at hu'
    rcases Nat.lt_or_ge j (rs.map Prod.fst).length with hj | hj
    · rw [List.getElem?_append_left hj] at hu'
      exact hX.ur j u hu' e
    · rw [List.getElem?_append_right hj] at hu'
      have hj0 : j - (rs.map Prod.fst).length = 0 := by
        rcases Nat.eq_zero_or_pos (j - (rs.map Prod.fst).length) with h | h
        · exact h
        · rw [List.getElem?_eq_none (by rw [List.length_singleton]; exact h)] at hu'; cases hu'
      rw [hj0] at hu'
      simp at hu'
      subst hu'
      have := (hu.block r e).1
      omega

end Go.Proofs.Ytoioiippdchgmaa
