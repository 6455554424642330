/-
  'out = append(out, Term{..})' for rows of terms.
-/
import Derived.Test.YtfepepakellbbaaTerm
import Derived.Test.YtfepepakellbbaaExt
import Derived.Deep.RegionHeld3
namespace Go.Proofs.Ytfepepakellbbaa
open Go.RowKit
set_option linter.unusedVariables false

section
variable {lo hi : Nat} {W w' : World} {v : Value} {rs : List (Value × Int)} {ts : TermL}
end

theorem keep2_alloc {B : Nat} {w W : World} {p q : Addr} {x y : Value} (o : Obj) (h : Below B w W ∧ W.cell? p = some x ∧ W.cell? q = some y) (hB : B ≤ w.heap.size) : Below B w (W.alloc o) ∧ (W.alloc o).cell? p = some x ∧ (W.alloc o).cell? q = some y := by
  have hb := (Below.refl W.heap.size W).alloc (Nat.le_refl _) o
  exact ⟨h.1.alloc (Nat.le_trans hB h.1.size) o, (hb.cell (World.block_lt_of_cell? _ _ h.2.1)).trans h.2.1, (hb.cell (World.block_lt_of_cell? _ _ h.2.2)).trans h.2.2⟩
theorem keep2_push {B : Nat} {w W W' : World} {p q : Addr} {x y v : Value} (hb : Below B W W') (hk : ∀ (p : Addr) (z : Value), v.ownBlock ≠ some p.block → W.cell? p = some z → W'.cell? p = some z)
    (h : Below B w W ∧ W.cell? p = some x ∧ W.cell? q = some y) (hp : v.ownBlock ≠ some p.block) (hq : v.ownBlock ≠ some q.block) : Below B w W' ∧ W'.cell? p = some x ∧ W'.cell? q = some y :=
  ⟨h.1.trans hb, hk p x hp h.2.1, hk q y hq h.2.2⟩
theorem held2_below {B : Nat} {w W : World} {p q : Addr} {x y : Value} (h : Below B w W ∧ W.cell? p = some x ∧ W.cell? q = some y) : Below B w W := h.1
theorem keep2_drew {B : Nat} {w W : World} {p q : Addr} {x y : Value} (h : Below B w W) (hc : W.cell? p = some x) (hd : W.cell? q = some y) : Below B w W.drew ∧ W.drew.cell? p = some x ∧ W.drew.cell? q = some y := ⟨⟨h.os, h.tape, h.output, h.size, h.block⟩, hc, hd⟩
theorem keep2_here {B : Nat} {w W : World} {p q : Addr} {x y : Value} (h : Below B w W) (hc : W.cell? p = some x) (hd : W.cell? q = some y) : Below B w W ∧ W.cell? p = some x ∧ W.cell? q = some y := ⟨h, hc, hd⟩
theorem keep2_call {B : Nat} {w W W' : World} {p q : Addr} {x y : Value} (hb : Below W.heap.size W W') (h : Below B w W ∧ W.cell? p = some x ∧ W.cell? q = some y) (hB : B ≤ w.heap.size) : Below B w W' ∧ W'.cell? p = some x ∧ W'.cell? q = some y :=
  ⟨below_step h.1 hb (Nat.le_trans hB h.1.size), (hb.cell (World.block_lt_of_cell? _ _ h.2.1)).trans h.2.1, (hb.cell (World.block_lt_of_cell? _ _ h.2.2)).trans h.2.2⟩

end Go.Proofs.Ytfepepakellbbaa
