/-
  Small facts for the walks over rows of terms as numbers.
-/
import Derived.Test.YtoioiippdchgmaaMonM
namespace Go.Proofs.Ytoioiippdchgmaa
open Go.RowKit
set_option linter.unusedVariables false

section
variable {B : Nat} {w W W' : World} {p q r s : Addr} {x y z u v : Value}
theorem k4_drew (h : Below B w W) (c1 : W.cell? p = some x) (c2 : W.cell? q = some y) (c3 : W.cell? r = some z) (c4 : W.cell? s = some u) :
    Below B w W.drew ∧ W.drew.cell? p = some x ∧ W.drew.cell? q = some y ∧ W.drew.cell? r = some z ∧ W.drew.cell? s = some u := ⟨below_drewT h, c1, c2, c3, c4⟩
theorem k4_alloc (o : Obj) (h : Below B w W ∧ W.cell? p = some x ∧ W.cell? q = some y ∧ W.cell? r = some z ∧ W.cell? s = some u) (hB : B ≤ w.heap.size) :
    Below B w (W.alloc o) ∧ (W.alloc o).cell? p = some x ∧ (W.alloc o).cell? q = some y ∧ (W.alloc o).cell? r = some z ∧ (W.alloc o).cell? s = some u := by
  have hb := (Below.refl W.heap.size W).alloc (Nat.le_refl _) o
  have key : ∀ (a : Addr) (t : Value), W.cell? a = some t → (W.alloc o).cell? a = some t := fun a t ht => (hb.cell (World.block_lt_of_cell? _ _ ht)).trans ht
  exact ⟨h.1.alloc (Nat.le_trans hB h.1.size) o, key _ _ h.2.1, key _ _ h.2.2.1, key _ _ h.2.2.2.1, key _ _ h.2.2.2.2⟩
theorem k4_push (hb : Below B W W') (hk : ∀ (a : Addr) (t : Value), v.ownBlock ≠ some a.block → W.cell? a = some t → W'.cell? a = some t)
    (h : Below B w W ∧ W.cell? p = some x ∧ W.cell? q = some y ∧ W.cell? r = some z ∧ W.cell? s = some u) (hp : v.ownBlock ≠ some p.block) (hq : v.ownBlock ≠ some q.block) (hr : v.ownBlock ≠ some r.block) (hs : v.ownBlock ≠ some s.block) :
    Below B w W' ∧ W'.cell? p = some x ∧ W'.cell? q = some y ∧ W'.cell? r = some z ∧ W'.cell? s = some u :=
  ⟨h.1.trans hb, hk _ _ hp h.2.1, hk _ _ hq h.2.2.1, hk _ _ hr h.2.2.2.1, hk _ _ hs h.2.2.2.2⟩
theorem kb2_drew (h : Below B w W) (c1 : W.cell? p = some x) (c2 : W.cell? q = some y) : Below B w W.drew ∧ W.drew.cell? p = some x ∧ W.drew.cell? q = some y := ⟨below_drewT h, c1, c2⟩
theorem kb2_alloc (o : Obj) (h : Below B w W ∧ W.cell? p = some x ∧ W.cell? q = some y) (hB : B ≤ w.heap.size) : Below B w (W.alloc o) ∧ (W.alloc o).cell? p = some x ∧ (W.alloc o).cell? q = some y := by
  have hb := (Below.refl W.heap.size W).alloc (Nat.le_refl _) o
  have key : ∀ (a : Addr) (t : Value), W.cell? a = some t → (W.alloc o).cell? a = some t := fun a t ht => (hb.cell (World.block_lt_of_cell? _ _ ht)).trans ht
  exact ⟨h.1.alloc (Nat.le_trans hB h.1.size) o, key _ _ h.2.1, key _ _ h.2.2⟩
theorem kb2_push (hb : Below B W W') (hk : ∀ (a : Addr) (t : Value), v.ownBlock ≠ some a.block → W.cell? a = some t → W'.cell? a = some t)
    (h : Below B w W ∧ W.cell? p = some x ∧ W.cell? q = some y) (hp : v.ownBlock ≠ some p.block) (hq : v.ownBlock ≠ some q.block) : Below B w W' ∧ W'.cell? p = some x ∧ W'.cell? q = some y :=
  ⟨h.1.trans hb, hk _ _ hp h.2.1, hk _ _ hq h.2.2⟩
theorem kb2_below (h : Below B w W ∧ W.cell? p = some x ∧ W.cell? q = some y) : Below B w W := h.1
theorem k4_below (h : Below B w W ∧ W.cell? p = some x ∧ W.cell? q = some y ∧ W.cell? r = some z ∧ W.cell? s = some u) : Below B w W := h.1
end
theorem OwnM.ne {B : Nat} {w : World} {v : Value} {l : MonL} (h : OwnM B w v l) (k : Nat) (hk : k < B) : v.ownBlock ≠ some k := fun e => by
  have := h.block k e
  omega

end Go.Proofs.Ytoioiippdchgmaa
