/-
  Contracts: ConstantPoly.
-/
import Derived.Test.YtoioiippdchgmaaTerm
import Derived.Test.YtoioiippdchgmaaPerm
namespace Go.Proofs.Ytoioiippdchgmaa
open Go.RowKit
set_option linter.unusedVariables false

/-- A row of one term. -/
theorem OwnP.one {B : Nat} {w : World} {ao : Option Addr} {n cap : Nat} {e : List Int} (c : Int) (h : OwnI B w (.slice ao n cap) e) (hB : B ≤ w.heap.size) (hl : e.length < 1099511627776) :
    OwnP B (w.alloc (.cells #[.slice ao n cap, .int .i64 c] 46)) (.slice (some ⟨w.heap.size, 0, none⟩) 1 1) [(e, c)] := by
  have hb := (Below.refl w.heap.size w).alloc (Nat.le_refl _) (Obj.cells #[.slice ao n cap, .int .i64 c] 46)
  have hlt : ∀ k, (Value.slice ao n cap).ownBlock = some k → B ≤ k ∧ k < w.heap.size := h.block
  refine ⟨[(.slice ao n cap, c)], ⟨?_, by simp⟩, ?_, rfl, ?_, ?_, ?_, Nat.le_refl _, ?_⟩
  · have := World.ownsRow_lit (base := B) (e := 46) (size := 2) w #[.slice ao n cap, .int .i64 c] 1 hB (by decide) rfl
    simpa [two, tf0, tf1] using this
  · exact (Parts.nil _ _).push (h.kept hb) (fun j u hu => by simp at hu)
  · intro j u hu k hk e'
    match j, hu with
    | 0, hu =>
      simp at hu; subst hu
      have := (hlt k hk).2
      simp [Value.ownBlock] at e'
      omega
  · intro k hk
    simp [Value.ownBlock] at hk
    simp; omega
  · intro j u hu k hk
    match j, hu with
    | 0, hu =>
      simp at hu; subst hu
      have := (hlt k hk).2
      simp; omega
  · simp only [tLen]; omega

def constL (k : Int) : TermL := if k = 0 ∨ inB k (-1000000) 1000000 = false then [] else [(List.replicate 7 0, k)]
theorem constL_no {k : Int} (h : k = 0 ∨ inB k (-1000000) 1000000 = false) : constL k = [] := if_pos h
theorem constL_yes {k : Int} (h : k ≠ 0) (h2 : inB k (-1000000) 1000000 = true) : constL k = [(List.replicate 7 0, k)] := if_neg (by simp [h, h2])

end Go.Proofs.Ytoioiippdchgmaa
