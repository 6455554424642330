/-
  What a slice of ints reads as, and what the call itself owns: the two words that all contracts of this seat use.
-/
import Derived.Test.YtoioiippdchgmaaProg
import Derived.WalkKit
import Derived.WalkSpells
import Derived.WalkLawsBesides
import Derived.Deep.QuietTactic
import Derived.BigQuiet
import Derived.Lib.Hide
import Derived.KernelRfl
import Derived.OpenShut
namespace Go.Proofs.Ytoioiippdchgmaa
open Go.RowKit
set_option linter.unusedVariables false

theorem Try.infoI : (Try.prog.info? 3).map (fun i => (i.zero, i.size, i.bytes)) = some (some (.int .i64 0), 1, 8) := by kernel_rfl

/-- The slice value v reads in w as the list l. -/
def IntsV (w : World) (v : Value) (l : List Int) : Prop :=
  ∃ (ao : Option Addr) (b off c : Nat), v = .slice ao l.length c ∧ l.length ≤ c ∧ c ≤ maxLen ∧ (0 < c → ao = some ⟨b, off, none⟩) ∧
    (∀ j, j < l.length → w.cell? ⟨b, off + j, none⟩ = some (.int .i64 (l.getD j 0))) ∧ l.length ≤ 1099511627776

/-- The slice value v is one of the call's own (block B or later) and holds the list l. -/
def OwnI (B : Nat) (w : World) (v : Value) (l : List Int) : Prop :=
  w.ownsRow B 3 1 v l.length (l.map (Value.int .i64)) ∧ l.length ≤ 1099511627776

/-- Each number fits into 64 bits. -/
def I64L (l : List Int) : Prop := ∀ x ∈ l, -9223372036854775808 ≤ x ∧ x ≤ 9223372036854775807

theorem IntsV.open {w : World} {v : Value} {l : List Int} (h : IntsV w v l) : ∃ (n : Nat) (ao : Option Addr) (b off c : Nat), v = .slice ao n c ∧ Hid (n = l.length) ∧ n ≤ c ∧ c ≤ maxLen ∧
    (0 < c → ao = some ⟨b, off, none⟩) ∧ (∀ j, j < n → w.cell? ⟨b, off + j, none⟩ = some (.int .i64 (l.getD j 0))) ∧ n ≤ 1099511627776 := by
  obtain ⟨ao, b, off, c, h0, h1, h2, h3, h4, h5⟩ := h
  exact ⟨l.length, ao, b, off, c, h0, Lib.hid rfl, h1, h2, h3, h4, h5⟩

theorem IntsV.below {B : Nat} {w w' : World} {v : Value} {l : List Int} (h : IntsV w v l) (hb : Below B w w') (hB : w.heap.size ≤ B) : IntsV w' v l := by
  obtain ⟨ao, b, off, c, rfl, h1, h2, h3, h4, h5⟩ := h
  refine ⟨ao, b, off, c, rfl, h1, h2, h3, fun j hj => ?_, h5⟩
  have hlt := World.block_lt_of_cell? _ _ (h4 j hj)
  rw [hb.cell (p := ⟨b, off + j, none⟩) (Nat.lt_of_lt_of_le hlt hB)]
  exact h4 j hj

/-- As it read at the call's beginning it reads still. -/
theorem IntsV.kept {w w' : World} {v : Value} {l : List Int} (h : IntsV w v l) (hb : Below w.heap.size w w') : IntsV w' v l := h.below hb (Nat.le_refl _)

theorem IntsV.drew {w : World} {v : Value} {l : List Int} (h : IntsV w v l) : IntsV w.drew v l := h

theorem OwnI.ints {B : Nat} {w : World} {v : Value} {l : List Int} (h : OwnI B w v l) : IntsV w v l := by
  obtain ⟨h, hl⟩ := h
  rcases h.2 with ⟨rfl, h0⟩ | ⟨g, cap, cur, rfl, hb, hg, hnc, hcm, hcs, htake⟩
  · refine ⟨none, 0, 0, 0, by rw [h0], by omega, Nat.zero_le _, fun h => absurd h (Nat.lt_irrefl 0), fun j hj => by omega, hl⟩
  · refine ⟨some ⟨g, 0, none⟩, g, 0, cap, rfl, hnc, hcm, fun _ => rfl, fun j hj => ?_, hl⟩
    have hc := World.ownsRow.cells h (g := g) rfl j (.int .i64 (l.getD j 0)) (by
      rw [List.getElem?_map, List.getD_eq_getElem?_getD, List.getElem?_eq_getElem hj]; rfl)
    have ha : (⟨g, 0, none⟩ : Addr).add j = ⟨g, 0 + j, none⟩ := by rw [Addr.add_lit]
    rw [← ha]; exact hc

theorem OwnI.len {B : Nat} {w : World} {v : Value} {l : List Int} (h : OwnI B w v l) : l.length ≤ 1099511627776 := h.2

theorem OwnI.mono {B B' : Nat} {w : World} {v : Value} {l : List Int} (h : OwnI B w v l) (hB : B' ≤ B) : OwnI B' w v l := by
  obtain ⟨⟨h1, h2⟩, hl⟩ := h
  refine ⟨⟨h1, ?_⟩, hl⟩
  rcases h2 with h2 | ⟨g, cap, cur, hv, hg, r⟩
  · exact .inl h2
  · exact .inr ⟨g, cap, cur, hv, Nat.le_trans hB hg, r⟩

theorem OwnI.block {B : Nat} {w : World} {v : Value} {l : List Int} (h : OwnI B w v l) : ∀ k, v.ownBlock = some k → B ≤ k ∧ k < w.heap.size := h.1.lt

theorem OwnI.below {B B' : Nat} {w w' : World} {v : Value} {l : List Int} (h : OwnI B w v l) (hb : Below B' w w') (hB : w.heap.size ≤ B') : OwnI B w' v l := by
  refine ⟨?_, h.2⟩
  obtain ⟨⟨h1, h2⟩, hl⟩ := h
  refine ⟨h1, ?_⟩
  rcases h2 with h2 | ⟨g, cap, cur, hv, hg, hh, r⟩
  · exact .inl h2
  · refine .inr ⟨g, cap, cur, hv, hg, ?_, r⟩
    rw [hb.block g (Nat.lt_of_lt_of_le (Array.getElem?_eq_some_iff.1 hh).1 hB)]
    exact hh

theorem OwnI.kept {B : Nat} {w w' : World} {v : Value} {l : List Int} (h : OwnI B w v l) (hb : Below w.heap.size w w') : OwnI B w' v l := h.below hb (Nat.le_refl _)

theorem OwnI.drew {B : Nat} {w : World} {v : Value} {l : List Int} (h : OwnI B w v l) : OwnI B w.drew v l := h

theorem OwnI.grown {B : Nat} {w w' : World} {v : Value} {l : List Int} {row : Option Nat} (h : OwnI B w v l) (hg : w.grownBy w' row) (hne : v.ownBlock = none ∨ v.ownBlock ≠ row) : OwnI B w' v l :=
  ⟨h.1.kept hg hne, h.2⟩

theorem OwnI.nil (B : Nat) (w : World) : OwnI B w (.slice none 0 0) [] := ⟨World.ownsRow_nil _ _ _ _, Nat.zero_le _⟩

theorem below_drewN {B : Nat} {a w : World} (h : Below B a w) (n : Nat) : Below B a (w.drewN n) := by
  induction n with
  | zero => exact h
  | succ n ih => exact ih.drew

/-- One step more, where the first world's size is kept. -/
theorem below_step {B : Nat} {a w w' : World} (h : Below B a w) (h' : Below w.heap.size w w') (hB : B ≤ w.heap.size) : Below B a w' := h.trans (h'.mono hB)

/-- Only blocks from lo on and below hi may have changed. -/
structure Only (lo hi : Nat) (w w' : World) : Prop where
  os : w'.os = w.os
  tape : w'.tape = w.tape
  output : w'.output = w.output
  size : w.heap.size ≤ w'.heap.size
  block : ∀ k, k < w.heap.size → (k < lo ∨ hi ≤ k) → w'.heap[k]? = w.heap[k]?

theorem Only.refl (lo hi : Nat) (w : World) : Only lo hi w w := ⟨rfl, rfl, rfl, Nat.le_refl _, fun _ _ _ => rfl⟩
theorem Only.trans {lo hi : Nat} {a b c : World} (h : Only lo hi a b) (h' : Only lo hi b c) : Only lo hi a c :=
  ⟨h'.os.trans h.os, h'.tape.trans h.tape, h'.output.trans h.output, Nat.le_trans h.size h'.size, fun k hk hne => (h'.block k (Nat.lt_of_lt_of_le hk h.size) hne).trans (h.block k hk hne)⟩
theorem Only.mono {lo hi lo' hi' : Nat} {w w' : World} (h : Only lo hi w w') (h1 : lo' ≤ lo) (h2 : hi ≤ hi') : Only lo' hi' w w' :=
  ⟨h.os, h.tape, h.output, h.size, fun k hk hne => h.block k hk (by omega)⟩
theorem Only.below {lo hi B : Nat} {w w' : World} (h : Only lo hi w w') (h1 : B ≤ lo) (h2 : B ≤ w.heap.size) : Below B w w' :=
  ⟨h.os, h.tape, h.output, h.size, fun k hk => h.block k (by omega) (by omega)⟩
theorem Only.grown {lo hi : Nat} {w w' : World} {row : Option Nat} (hg : w.grownBy w' row) (hr : ∀ k, row = some k → lo ≤ k ∧ k < hi) : Only lo hi w w' :=
  ⟨hg.os, hg.tape, hg.output, hg.size, fun k hk hne => hg.block k hk (fun e => by have := hr k e.symm; omega)⟩
theorem Only.setCell {lo hi : Nat} {w : World} {p : Addr} (u : Value) (h : lo ≤ p.block ∧ p.block < hi) : Only lo hi w (w.setCell p u) :=
  ⟨rfl, rfl, rfl, by simp [World.setCell], fun k _ hne => Below.heap_setCell _ _ _ _ (by omega)⟩
theorem Only.drew {lo hi : Nat} {a w : World} (h : Only lo hi a w) : Only lo hi a w.drew := ⟨h.os, h.tape, h.output, h.size, h.block⟩

/-- The list l lies in one of the blocks from lo on, below hi. -/
def AtI (lo hi : Nat) (w : World) (v : Value) (l : List Int) : Prop := OwnI lo w v l ∧ (∀ k, v.ownBlock = some k → k < hi) ∧ hi ≤ w.heap.size

theorem OwnI.at {B : Nat} {w : World} {v : Value} {l : List Int} (h : OwnI B w v l) : AtI B w.heap.size w v l := ⟨h, fun k hk => (h.block k hk).2, Nat.le_refl _⟩
theorem AtI.ints {lo hi : Nat} {w : World} {v : Value} {l : List Int} (h : AtI lo hi w v l) : IntsV w v l := h.1.ints
theorem AtI.len {lo hi : Nat} {w : World} {v : Value} {l : List Int} (h : AtI lo hi w v l) : l.length ≤ 1099511627776 := h.1.2
theorem AtI.below {lo hi B : Nat} {w w' : World} {v : Value} {l : List Int} (h : AtI lo hi w v l) (hb : Below B w w') (hB : hi ≤ B) : AtI lo hi w' v l := by
  obtain ⟨⟨⟨h1, h2⟩, hl⟩, hk, hs⟩ := h
  refine ⟨⟨⟨h1, ?_⟩, hl⟩, hk, Nat.le_trans hs hb.size⟩
  rcases h2 with h2 | ⟨g, cap, cur, rfl, hg, hh, r⟩
  · exact .inl h2
  · refine .inr ⟨g, cap, cur, rfl, hg, ?_, r⟩
    rw [hb.block g (Nat.lt_of_lt_of_le (hk g rfl) hB)]
    exact hh
theorem AtI.kept {lo hi : Nat} {w w' : World} {v : Value} {l : List Int} (h : AtI lo hi w v l) (hb : Below w.heap.size w w') : AtI lo hi w' v l := h.below hb h.2.2
theorem AtI.only {lo hi lo' hi' : Nat} {w w' : World} {v : Value} {l : List Int} (h : AtI lo hi w v l) (hb : Only lo' hi' w w') (hd : hi ≤ lo' ∨ hi' ≤ lo) : AtI lo hi w' v l := by
  obtain ⟨⟨⟨h1, h2⟩, hl⟩, hk, hs⟩ := h
  refine ⟨⟨⟨h1, ?_⟩, hl⟩, hk, Nat.le_trans hs hb.size⟩
  rcases h2 with h2 | ⟨g, cap, cur, rfl, hg, hh, r⟩
  · exact .inl h2
  · refine .inr ⟨g, cap, cur, rfl, hg, ?_, r⟩
    have hlt := hk g rfl
    rw [hb.block g (Array.getElem?_eq_some_iff.1 hh).1 (by omega)]
    exact hh

/-- What the walk is told of a slice of ints that came in. -/
def IsRow (k : IntKind) (w : World) (a : Option Addr) (len cap : Nat) (zs : List Int) : Prop :=
  (a = none ∧ len = 0 ∧ cap = 0 ∧ zs = []) ∨
  ∃ x, a = some x ∧ len ≤ cap ∧ cap ≤ maxLen ∧ zs.length = cap ∧ (∀ i, i < zs.length → w.cell? (x.add i) = some (.int k (zs.getD i 0))) ∧ ∀ n ∈ zs, (Lit.int k n).wf = true

theorem wf_bounds {n : Int} (h : (Lit.int .i64 n).wf = true) : -9223372036854775808 ≤ n ∧ n ≤ 9223372036854775807 := by
  simp [Lit.wf, IntKind.min, IntKind.max, IntKind.signed, IntKind.bits] at h
  omega

theorem IsRow.ints {w : World} {a : Option Addr} {len cap : Nat} {zs : List Int} (h : IsRow .i64 w a len cap zs) (hl : len ≤ 1099511627776) :
    IntsV w (.slice a len cap) (zs.take len) ∧ I64L (zs.take len) := by
  rcases h with ⟨rfl, rfl, rfl, rfl⟩ | ⟨x, rfl, h1, h2, h3, h4, h5⟩
  · exact ⟨⟨none, 0, 0, 0, rfl, Nat.le_refl _, Nat.zero_le _, fun h => absurd h (Nat.lt_irrefl 0), fun j hj => by simp at hj, Nat.zero_le _⟩, fun x hx => by simp at hx⟩
  · have e : (zs.take len).length = len := by rw [List.length_take]; omega
    refine ⟨?_, fun x hx => wf_bounds (h5 x (List.mem_of_mem_take hx))⟩
    by_cases h0 : 0 < cap
    · obtain ⟨b, off, rfl, hc⟩ := ints_at h4 (by omega)
      refine ⟨_, b, off, cap, by rw [e], by omega, h2, fun _ => rfl, fun j hj => ?_, by omega⟩
      rw [e] at hj
      rw [hc j (by omega)]
      simp [List.getD_eq_getElem?_getD, hj]
    · refine ⟨_, 0, 0, cap, by rw [e], by omega, h2, fun h => absurd h h0, fun j hj => ?_, by omega⟩
      omega

theorem grownBy_trans {a b c : World} {row : Option Nat} (h : a.grownBy b row) (h' : b.grownBy c row) : a.grownBy c row :=
  ⟨h'.os.trans h.os, h'.tape.trans h.tape, h'.output.trans h.output, Nat.le_trans h.size h'.size, fun k hk hne => (h'.block k (Nat.lt_of_lt_of_le hk h.size) hne).trans (h.block k hk hne)⟩


/-- A callee that leaves the world alone, met in a region that draws. -/
theorem quiet_back {P : Program} {f : FuncId} {args : Array Value} {w : World} {n : Nat} {v : Value}
    (h : Calls P f args (w.drewN n) fun e w' => e = .returned v ∧ w.drewN n = w') : Calls P f args (w.drewN n) fun e w'' => e = .returned v ∧ ∃ m, w'' = w.drewN m :=
  h.mono fun _ _ ⟨he, hm⟩ => ⟨he, n, hm.symm⟩

end Go.Proofs.Ytoioiippdchgmaa
