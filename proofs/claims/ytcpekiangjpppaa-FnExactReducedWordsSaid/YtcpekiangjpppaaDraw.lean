/-
  Contracts: the cursor of a draw, and what is drawn with it.
-/
import Derived.Test.YtcpekiangjpppaaDec
import Derived.Test.YtcpekiangjpppaaParts
namespace Go.Proofs.Ytcpekiangjpppaa
open Go.RowKit
set_option linter.unusedVariables false

/-- A cursor lies in the block g, below B. -/
def Cur (B : Nat) (w : World) (g : Nat) : Prop :=
  g < B ∧ B ≤ w.heap.size ∧ ∃ (ao : Option Addr) (n c b off : Nat) (i h : Int), w.cell? ⟨g, 0, none⟩ = some (.slice ao n c) ∧ n ≤ 1048576 ∧ (0 < n → ao = some ⟨b, off, none⟩ ∧ b ≠ g ∧ b < B) ∧
    (∀ j, j < n → ∃ x : Nat, x < 256 ∧ w.cell? ⟨b, off + j, none⟩ = some (.int .u8 x)) ∧ w.cell? ⟨g, 1, none⟩ = some (.int .i64 i) ∧ 0 ≤ i ∧ i ≤ n ∧ w.cell? ⟨g, 2, none⟩ = some (.int .i64 h) ∧
    ∀ j, w.frozen? ⟨g, j, none⟩ = false
theorem Cur.kept {B : Nat} {w w' : World} {g : Nat} (h : Cur B w g) (hb : Below B w w') : Cur B w' g := by
  obtain ⟨hg, hB, ao, n, c, b, off, i, hh, h1, h2, h3, h4, h5, h6, h7, h8, h9⟩ := h
  refine ⟨hg, Nat.le_trans hB hb.size, ao, n, c, b, off, i, hh, (hb.cell hg).trans h1, h2, h3, fun j hj => ?_, (hb.cell (p := ⟨g, 1, none⟩) hg).trans h5, h6, h7, (hb.cell (p := ⟨g, 2, none⟩) hg).trans h8, fun j => (hb.frozen (p := ⟨g, j, none⟩) hg).trans (h9 j)⟩
  obtain ⟨x, hx, hc⟩ := h4 j hj
  exact ⟨x, hx, (hb.cell (p := ⟨b, off + j, none⟩) (h3 (by omega)).2.2).trans hc⟩
theorem Cur.size {B : Nat} {w : World} {g : Nat} (h : Cur B w g) : B ≤ w.heap.size := h.2.1
theorem Cur.lt {B : Nat} {w : World} {g : Nat} (h : Cur B w g) : g < B := h.1
theorem below_only {lo hi : Nat} {w w' : World} (h : Below w.heap.size w w') : Only lo hi w w' := ⟨h.os, h.tape, h.output, h.size, fun k hk _ => h.block k hk⟩
/-- A list of the call's own is as it was while the cursor turns. -/
theorem OwnI.turned {B g : Nat} {w w' : World} {v : Value} {l : List Int} (h : OwnI B w v l) (hg : g < B) (ho : Only g (g + 1) w w') : OwnI B w' v l := h.only ho (fun k hk => by have := (h.block k hk).1; omega)
theorem IntsV.turned {g : Nat} {w w' : World} {v : Value} {l : List Int} {B : Nat} (h : OwnI B w v l) (hg : g < B) (ho : Only g (g + 1) w w') : IntsV w' v l := (h.turned hg ho).ints

theorem Only.then {lo hi : Nat} {w w2 w3 : World} (h : Only lo hi w w2) (hb : Below w.heap.size w2 w3) : Only lo hi w w3 :=
  ⟨hb.os.trans h.os, hb.tape.trans h.tape, hb.output.trans h.output, Nat.le_trans h.size hb.size, fun k hk hne => (hb.block k hk).trans (h.block k hk hne)⟩
def GivesCur (B : Nat) (w : World) (g : Nat) (P : Int → Prop) (e : Ending) (w' : World) : Prop := ∃ x, e = .returned (.int .i64 x) ∧ P x ∧ Cur B w' g ∧ Only g (g + 1) w w'

theorem and255 (x : Int) : 0 ≤ bits .and .i64 x 255 ∧ bits .and .i64 x 255 < 256 := by
  have h : bits .and .i64 x 255 = IntKind.i64.wrap ((BitVec.ofInt 64 x &&& BitVec.ofInt 64 255).toNat : Int) := rfl
  have h2 : (BitVec.ofInt 64 x &&& BitVec.ofInt 64 255).toNat ≤ 255 := by
    rw [BitVec.toNat_and]
    exact Nat.and_le_right
  rw [h, IntWalk.i64_in _ (by omega)]
  omega
theorem only_drewN {lo hi : Nat} {a w : World} (h : Only lo hi a w) (n : Nat) : Only lo hi a (w.drewN n) := ⟨h.os, h.tape, h.output, h.size, h.block⟩

theorem tmod_range {x n : Int} (h : 0 ≤ x) (hn : 0 < n) : 0 ≤ x.tmod n ∧ x.tmod n < n := ⟨Int.tmod_nonneg n h, Int.tmod_lt_of_pos x hn⟩

theorem erase_perm : ∀ (l : List Int) (i : Nat) (h : i < l.length), (l[i] :: l.eraseIdx i).Perm l
  | [], i, h => absurd h (Nat.not_lt_zero _)
  | x :: l, 0, h => List.Perm.refl _
  | x :: l, i + 1, h => by
    have ih := erase_perm l i (by simpa using h)
    have hi : i < l.length := by simpa using h
    show (l[i]'hi :: x :: l.eraseIdx i).Perm (x :: l)
    exact (List.Perm.swap x _ _).trans (ih.cons x)
theorem out_perm {c : List Int} : ∀ k, k ≤ c.length → CodeTo c k → (outUp c k ++ restUp c k).Perm (idL c.length)
  | 0, _, _ => by rw [outUp_zero, restUp_zero]; exact List.Perm.refl _
  | k + 1, hk, h => by
    have hck : CodeTo c k := fun t ht => h t (by omega)
    have ih := out_perm k (by omega) hck
    have hl := restUp_len k (by omega) hck
    have hb := h k (Nat.lt_succ_self _)
    have hi : (c.getD k 0).toNat < (restUp c k).length := by omega
    rw [outUp_step rfl, restUp_step rfl, List.append_assoc]
    refine (List.Perm.append_left _ ?_).trans ih
    have e : (restUp c k).getD (c.getD k 0).toNat 0 = (restUp c k)[(c.getD k 0).toNat] := by rw [List.getD_eq_getElem?_getD, List.getElem?_eq_getElem hi]; rfl
    rw [e]
    exact erase_perm _ _ hi
theorem isPerm_out {c : List Int} (h : CodeTo c c.length) (h1 : 1 ≤ c.length) (h7 : c.length ≤ 7) : isPermB (outUp c c.length) = true := by
  have hp := out_perm c.length (Nat.le_refl _) h
  have hr : restUp c c.length = [] := List.eq_nil_of_length_eq_zero (by rw [restUp_len _ (Nat.le_refl _) h]; omega)
  rw [hr, List.append_nil] at hp
  have hlen := outUp_len c c.length
  refine isPermB_iff.2 ⟨by omega, by omega, fun x hx => ?_, hp.nodup_iff.2 (idL_nodup _)⟩
  have := hp.mem_iff.1 hx
  rw [hlen]
  simp [idL] at this
  obtain ⟨a, ha, rfl⟩ := this
  omega

/-- A permutation of n numbers is drawn. -/
def GivesDrawn (B : Nat) (w : World) (g : Nat) (P : List Int → Prop) (e : Ending) (w' : World) : Prop := ∃ r l, e = .returned r ∧ P l ∧ OwnI w.heap.size w' r l ∧ Cur B w' g ∧ Only g (g + 1) w w'
def PermN (n : Nat) (l : List Int) : Prop := isPermB l = true ∧ l.length = n

/-- A slice of bytes that came in. -/
def BytesR (w : World) (ao : Option Addr) (n c : Nat) : Prop :=
  ∃ b off, (0 < n → ao = some ⟨b, off, none⟩) ∧ ∀ j, j < n → ∃ x : Nat, x < 256 ∧ w.cell? ⟨b, off + j, none⟩ = some (.int .u8 x)

theorem cur_new {ao : Option Addr} {n c : Nat} {w : World} (hb : BytesR w ao n c) (hn : n ≤ 1048576) (h : Int) {t : TypeId} : Cur (w.heap.size + 1) (w.alloc (Obj.cells #[.slice ao n c, .int .i64 0, .int .i64 h] t)) w.heap.size := by
  obtain ⟨b, off, ha, hc⟩ := hb
  have hbl : 0 < n → b < w.heap.size := fun h0 => by
    obtain ⟨x, _, hx⟩ := hc 0 h0
    exact World.block_lt_of_cell? _ _ hx
  refine ⟨Nat.lt_succ_self _, by simp, ao, n, c, b, off, 0, h, by simp, hn, fun h0 => ⟨ha h0, by have := hbl h0; omega, by have := hbl h0; omega⟩, fun j hj => ?_, by simp, by decide, by omega, by simp, fun j => by simp⟩
  obtain ⟨x, hx, hcx⟩ := hc j hj
  exact ⟨x, hx, by rw [World.cell?_alloc_past _ _ _ (World.block_lt_of_cell? _ _ hcx)]; exact hcx⟩

end Go.Proofs.Ytcpekiangjpppaa
