/-
  Contracts: l1Insert.
-/
import Derived.Test.YtfepepakellbbaaLexC
import Derived.Deep.AppendLies
import Derived.Deep.DrawnRows
namespace Go.Proofs.Ytfepepakellbbaa
open Go.RowKit
set_option linter.unusedVariables false
attribute [local go_sem ↓] Go.wp_at_zero Go.wp_at_succ

/-- append(s, x...) of rows, at a step of a region that draws its order. -/
theorem step_ap {ops : Array Oper} {o : Oper} {a : Act} {W : World} {K : Act → World → Prop} {Q : Exit → Act → World → Prop} {E : Prop}
    (hw : Region.wanted o (yielded ops a.tmps) = true) (s x : Operand)
    (ho : o.op = .call { callee := .builtin .append, args := #[s, x], argTypes := #[31, 31] })
    {B : Nat} {v : Value} {us zs : List Value} {g off m c : Nat} (hown : OwnL 24 id B W v us) (hs : a.eval s = v) (hx : a.eval x = .slice (some ⟨g, off, none⟩) m c)
    (hm : zs.length = m) (hc : ∀ (j : Nat) z, zs[j]? = some z → W.cell? ⟨g, off + j, none⟩ = some z) (h1 : ∀ z ∈ zs, z.oneCell' = true) (hlen : us.length + m ≤ 1099511627776) (hB : B ≤ W.heap.size)
    (h : ∀ v' w', OwnL 24 id B w' v' (us ++ zs) → Below B W w' → W.grownBy w' v.ownBlock → K (a.put o.dst v') w') :
    if Region.wanted o (yielded ops a.tmps) = true then Oper.wp Try.prog o a W K Q else E := by
  obtain ⟨i0, hi, hz0, hz1, hz2⟩ := info_parts Try.infoII
  rw [if_pos hw]
  subst hm
  refine wp_append_own W s x 31 ho B 24 i0 (.slice none 0 0) 1 24 Try.underlying31 hi hz0 hz1 hz2 rfl (by decide) v us.length (us.map id) hs hown.1
    ⟨g, off, none⟩ zs.length c zs hx (by simp) ?_ h1 (by unfold maxLen; omega) (by omega) hB ?_
  · intro j u hj
    rw [Addr.add_lit]; exact hc j u hj
  · intro v' w' hown' hgrow hnil
    have hb : ∀ k, v.ownBlock = some k → B ≤ k := fun k hk => (hown.block k hk).1
    refine h v' w' ⟨?_, by simpa using hlen⟩ ((Below.refl _ _).grown hgrow hB (fun k hk => hb k hk)) hgrow
    rw [List.map_id] at hown'
    rw [List.length_append, List.map_id]
    exact hown'

theorem keepB_alloc {B : Nat} {w W : World} (o : Obj) (h : Below B w W) (hB : B ≤ w.heap.size) : Below B w (W.alloc o) := h.alloc (Nat.le_trans hB h.size) o
theorem own_lit0 {w W : World} (h : Below w.heap.size w W) : OwnL 24 id w.heap.size (W.alloc (.cells #[] 24)) (.slice (some ⟨W.heap.size, 0, none⟩) 0 0) ([] : List Value) := (OwnL.lit _ _ W).mono h.size
theorem own_lit1 {w W : World} (o : Obj) (h : Below w.heap.size w W) : OwnL 24 id w.heap.size ((W.alloc (.cells #[] 24)).alloc o) (.slice (some ⟨W.heap.size, 0, none⟩) 0 0) ([] : List Value) :=
  (own_lit0 h).kept ((Below.refl _ _).alloc (Nat.le_refl _) _)
theorem own_lit2 {w W : World} (o : Obj) (h : Below w.heap.size w W) : OwnL 24 id w.heap.size ((W.alloc o).alloc (.cells #[] 24)) (.slice (some ⟨W.heap.size + 1, 0, none⟩) 0 0) ([] : List Value) := by
  have := own_lit0 (w := w) (W := W.alloc o) (keepB_alloc o h (Nat.le_refl _))
  simpa using this
theorem one_at {P : Addr → Option Value} {g : Nat} {xv : Value} (h : P ⟨g, 0, none⟩ = some xv) : ∀ (j : Nat) z, [xv][j]? = some z → P ⟨g, 0 + j, none⟩ = some z := fun j z hj => by
  match j, hj with
  | 0, hj => simp at hj; subst hj; exact h
theorem one_mem {xv : Value} (h : xv.oneCell' = true) : ∀ z ∈ [xv], z.oneCell' = true := fun z hz => by simp at hz; subst hz; exact h
theorem take_at {w W : World} {us : List Value} {g k : Nat} (hu : ∀ (j : Nat) z, us[j]? = some z → w.cell? ⟨g, j, none⟩ = some z) (h : Below w.heap.size w W) : ∀ (j : Nat) z, (us.take k)[j]? = some z → W.cell? ⟨g, 0 + j, none⟩ = some z := fun j z hj => by
  have hj' : us[j]? = some z := by
    rw [List.getElem?_take] at hj; split at hj
    · exact hj
    · simp at hj
  rw [Nat.zero_add, h.cell (World.block_lt_of_cell? _ _ (hu j z hj'))]; exact hu j z hj'
theorem drop_at {w W : World} {us : List Value} {g k : Nat} (hu : ∀ (j : Nat) z, us[j]? = some z → w.cell? ⟨g, j, none⟩ = some z) (h : Below w.heap.size w W) : ∀ (j : Nat) z, (us.drop k)[j]? = some z → W.cell? ⟨g, k + j, none⟩ = some z := fun j z hj => by
  have hj' : us[k + j]? = some z := by rwa [List.getElem?_drop] at hj
  rw [h.cell (World.block_lt_of_cell? _ _ (hu _ z hj'))]; exact hu _ z hj'
theorem far_c {X w1 : World} {p : Option Nat} {q : Nat} {xv : Value} (h : X.grownBy w1 p) (hc : X.cell? ⟨q, 0, none⟩ = some xv) (hne : some q ≠ p) : w1.cell? ⟨q, 0, none⟩ = some xv := by
  rw [World.grownBy.cell_far h ⟨q, 0, none⟩ (World.block_lt_of_cell? _ _ hc) hne]; exact hc

theorem drop_none {us : List Value} {k : Nat} {W : World} {g off : Nat} (h : (us.drop k).length = 0) : ∀ (j : Nat) z, (us.drop k)[j]? = some z → W.cell? ⟨g, off + j, none⟩ = some z := fun j z hj => by
  rw [List.eq_nil_of_length_eq_zero h] at hj; simp at hj

def GivesIns (w : World) (v xv : Value) (us : List Value) (ls : ListsL) (x : List Int) (e : Ending) (w' : World) : Prop :=
  ∃ r k, e = .returned r ∧ k ≤ ls.length ∧ (insL x ls = if ls[k]? = some x then ls else ls.take k ++ x :: ls.drop k) ∧ Below w.heap.size w w' ∧
    ((ls[k]? = some x ∧ r = v) ∨ (ls[k]? ≠ some x ∧ OwnL 24 id w.heap.size w' r (us.take k ++ xv :: us.drop k)))

end Go.Proofs.Ytfepepakellbbaa
