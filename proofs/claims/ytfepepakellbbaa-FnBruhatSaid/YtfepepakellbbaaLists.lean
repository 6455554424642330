/-
  Rows of lists of ints ([][]int): what the law's own functions do with them.
-/
import Derived.Test.YtfepepakellbbaaParts
import Derived.Test.YtfepepakellbbaaBase
import Derived.Test.YtfepepakellbbaaOwn
import Derived.WalkKit
import Derived.Deep.RegionHeld3
namespace Go.Proofs.Ytfepepakellbbaa
open Go.RowKit
set_option linter.unusedVariables false

theorem Try.infoII : (Try.prog.info? 24).map (fun i => (i.zero, i.size, i.bytes)) = some (some (.slice none 0 0), 1, 24) := by kernel_rfl

abbrev ListsL := List (List Int)
/-- How many marks a list of lists takes. -/
def iiLen : ListsL → Nat
  | [] => 0
  | t :: ts => t.length + iiLen ts
theorem iiLen_append : ∀ (a b : ListsL), iiLen (a ++ b) = iiLen a + iiLen b
  | [], b => by simp [iiLen]
  | t :: a, b => by simp only [List.cons_append, iiLen, iiLen_append a b]; omega
theorem iiLen_perm {a b : ListsL} (h : a.Perm b) : iiLen a = iiLen b := by
  induction h with
  | nil => rfl
  | cons x _ ih => simp only [iiLen, ih]
  | swap x y l => simp only [iiLen]; omega
  | trans _ _ ih1 ih2 => exact ih1.trans ih2
theorem iiLen_take_succ {ts : ListsL} {j : Nat} {e : List Int} (h : ts[j]? = some e) : iiLen (ts.take (j + 1)) = iiLen (ts.take j) + e.length := by
  rw [List.take_add_one, h, iiLen_append]; simp [iiLen]
theorem iiLen_take_le (ts : ListsL) (j : Nat) : iiLen (ts.take j) ≤ iiLen ts := by
  have := iiLen_append (ts.take j) (ts.drop j)
  rw [List.take_append_drop] at this
  omega
theorem iiLen_set : ∀ (ts : ListsL) (j : Nat) (e e' : List Int), ts[j]? = some e → e'.length = e.length → iiLen (ts.set j e') = iiLen ts
  | [], j, e, e', h, _ => by simp at h
  | t :: ts, 0, e, e', h, hl => by simp at h; subst h; simp [iiLen, hl]
  | t :: ts, j + 1, e, e', h, hl => by
    have := iiLen_set ts j e e' (by simpa using h) hl
    simp only [List.set_cons_succ, iiLen, this]

structure RowII (lo hi : Nat) (w : World) (v : Value) (us : List Value) (ls : ListsL) : Prop where
  row : OwnL 24 id lo w v us
  parts : Parts lo w us ls
  clear : ∀ (j : Nat) u, us[j]? = some u → Apart u v
  vhi : ∀ k, v.ownBlock = some k → k < hi
  uhi : ∀ (j : Nat) u, us[j]? = some u → ∀ k, u.ownBlock = some k → k < hi
  size : hi ≤ w.heap.size
  bound : iiLen ls ≤ 1099511627776
def AtII (lo hi : Nat) (w : World) (v : Value) (ls : ListsL) : Prop := ∃ us, RowII lo hi w v us ls
def OwnII (B : Nat) (w : World) (v : Value) (ls : ListsL) : Prop := AtII B w.heap.size w v ls
def RowsV (w : World) (v : Value) (ls : ListsL) : Prop := ∃ lo hi, AtII lo hi w v ls
def GivesII (w : World) (ls : ListsL) (e : Ending) (w' : World) : Prop := ∃ r, e = .returned r ∧ OwnII w.heap.size w' r ls ∧ Below w.heap.size w w'
def GivesIIB (w : World) (ls : ListsL) (b : Bool) (e : Ending) (w' : World) : Prop := ∃ r, e = .returned (.tuple #[r, .bool b]) ∧ OwnII w.heap.size w' r ls ∧ Below w.heap.size w w'

section
variable {lo hi : Nat} {w w' : World} {v : Value} {us : List Value} {ls : ListsL}
theorem RowII.len (h : RowII lo hi w v us ls) : us.length = ls.length := h.parts.len
theorem RowII.at (h : RowII lo hi w v us ls) {j : Nat} {e : List Int} (ht : ls[j]? = some e) : ∃ u, us[j]? = some u ∧ OwnI lo w u e := h.parts.get ht
theorem RowII.kept (h : RowII lo hi w v us ls) (hb : Below w.heap.size w w') : RowII lo hi w' v us ls :=
  ⟨h.row.kept hb, h.parts.kept hb, h.clear, h.vhi, h.uhi, Nat.le_trans h.size hb.size, h.bound⟩
theorem RowII.only {lo' hi' : Nat} (h : RowII lo hi w v us ls) (hb : Only lo' hi' w w') (hd : hi ≤ lo' ∨ hi' ≤ lo) : RowII lo hi w' v us ls :=
  ⟨h.row.only hb (fun k hk => by have := h.vhi k hk; have := (h.row.block k hk).1; omega),
   h.parts.only hb (fun j u hu k hk => by have := h.uhi j u hu k hk; have := (h.parts.block hu k hk).1; omega),
   h.clear, h.vhi, h.uhi, Nat.le_trans h.size hb.size, h.bound⟩
theorem RowII.raise {lo' hi' : Nat} (h : RowII lo hi w v us ls) (h1 : lo' ≤ lo) (h2 : hi ≤ hi') (h3 : hi' ≤ w.heap.size) : RowII lo' hi' w v us ls :=
  ⟨h.row.mono h1, h.parts.mono h1, h.clear, fun k hk => Nat.lt_of_lt_of_le (h.vhi k hk) h2, fun j u hu k hk => Nat.lt_of_lt_of_le (h.uhi j u hu k hk) h2, h3, h.bound⟩
theorem AtII.kept (h : AtII lo hi w v ls) (hb : Below w.heap.size w w') : AtII lo hi w' v ls := by obtain ⟨us, h⟩ := h; exact ⟨us, h.kept hb⟩
theorem AtII.only {lo' hi' : Nat} (h : AtII lo hi w v ls) (hb : Only lo' hi' w w') (hd : hi ≤ lo' ∨ hi' ≤ lo) : AtII lo hi w' v ls := by obtain ⟨us, h⟩ := h; exact ⟨us, h.only hb hd⟩
theorem AtII.rows (h : AtII lo hi w v ls) : RowsV w v ls := ⟨lo, hi, h⟩
theorem AtII.len (h : AtII lo hi w v ls) : iiLen ls ≤ 1099511627776 := by obtain ⟨us, h⟩ := h; exact h.bound
theorem RowsV.kept (h : RowsV w v ls) (hb : Below w.heap.size w w') : RowsV w' v ls := by obtain ⟨lo, hi, h⟩ := h; exact ⟨lo, hi, h.kept hb⟩
theorem RowsV.len (h : RowsV w v ls) : iiLen ls ≤ 1099511627776 := by obtain ⟨lo, hi, h⟩ := h; exact h.len
theorem OwnII.at {B : Nat} (h : OwnII B w v ls) : AtII B w.heap.size w v ls := h
theorem OwnII.rows {B : Nat} (h : OwnII B w v ls) : RowsV w v ls := AtII.rows h
theorem OwnII.kept {B : Nat} (h : OwnII B w v ls) (hb : Below w.heap.size w w') : OwnII B w' v ls := by
  obtain ⟨us, h⟩ := h
  exact ⟨us, (h.kept hb).raise (Nat.le_refl _) hb.size (Nat.le_refl _)⟩
theorem OwnII.mono {B B' : Nat} (h : OwnII B w v ls) (hB : B' ≤ B) : OwnII B' w v ls := by
  obtain ⟨us, h⟩ := h
  exact ⟨us, h.raise hB (Nat.le_refl _) (Nat.le_refl _)⟩
theorem OwnII.nil (B : Nat) (w : World) : OwnII B w (.slice none 0 0) [] :=
  ⟨[], OwnL.nil _ _ _ _, Parts.nil _ _, fun j u h => by simp at h, fun k hk => by simp [Value.ownBlock] at hk, fun j u h => by simp at h, Nat.le_refl _, Nat.zero_le _⟩
theorem OwnII.lit (w : World) : OwnII w.heap.size (w.alloc (.cells #[] 24)) (.slice (some ⟨w.heap.size, 0, none⟩) 0 0) [] :=
  ⟨[], OwnL.lit _ _ _, Parts.nil _ _, fun j u h => by simp at h, fun k hk => by simp [Value.ownBlock] at hk; simp; omega, fun j u h => by simp at h, Nat.le_refl _, Nat.zero_le _⟩
/-- A row of lists, laid open. -/
theorem RowsV.open (h : RowsV w v ls) : ∃ (n : Nat) (ao : Option Addr) (b c : Nat), v = .slice ao n c ∧ Hid (n = ls.length) ∧ n ≤ c ∧
    (0 < n → ao = some ⟨b, 0, none⟩) ∧ (∀ (j : Nat) (e : List Int), ls[j]? = some e → ∃ u, w.cell? ⟨b, j, none⟩ = some u ∧ IntsV w u e) ∧ n ≤ 1099511627776 := by
  obtain ⟨lo, hi, us, h⟩ := h
  obtain ⟨ao, c, rfl, h3, h5⟩ := h.row.shape
  have hlen := h.len
  cases us with
  | nil =>
    have : ls = [] := List.eq_nil_of_length_eq_zero (by simpa using hlen.symm)
    subst this
    exact ⟨0, ao, 0, c, rfl, Lib.hid rfl, h3, fun h => absurd h (Nat.lt_irrefl 0), fun j e hx => by simp at hx, Nat.zero_le _⟩
  | cons y us =>
    obtain ⟨g, rfl⟩ := h5 (by simp)
    refine ⟨_, _, g, c, rfl, Lib.hid hlen, h3, fun _ => rfl, fun j e hx => ?_, h.row.2⟩
    obtain ⟨u, hu, ho⟩ := h.at hx
    exact ⟨u, h.row.cellAt hu, ho.ints⟩
theorem RowII.mark {lo1 hi1 j : Nat} {u : Value} {e e' : List Int} (h : RowII lo hi w v us ls) (ht : ls[j]? = some e) (hu : us[j]? = some u)
    (hb : Only lo1 hi1 w w') (hn : ∀ k, lo1 ≤ k → k < hi1 → u.ownBlock = some k) (ho : OwnI lo w' u e') (hl : e'.length = e.length) : RowII lo hi w' v us (ls.set j e') := by
  refine ⟨h.row.only hb (fun k hk => ?_), h.parts.set hu hb hn ho, h.clear, h.vhi, h.uhi, Nat.le_trans h.size hb.size, by rw [iiLen_set ls j e e' ht hl]; exact h.bound⟩
  by_cases h1 : lo1 ≤ k ∧ k < hi1
  · exact absurd hk (h.clear j u hu k (hn k h1.1 h1.2))
  · omega
end

/-! Marks. -/
def MarksII : Int → ListsL → ListsL
  | _, [] => []
  | k, t :: ts => Marks k t.length :: MarksII (k + (t.length : Int)) ts
theorem MarksII.get : ∀ (k : Int) (ts : ListsL) (j : Nat) (e : List Int), ts[j]? = some e → (MarksII k ts)[j]? = some (Marks (k + (iiLen (ts.take j) : Int)) e.length)
  | k, [], j, e, h => by simp at h
  | k, t :: ts, 0, e, h => by simp at h; subst h; simp [MarksII, iiLen]
  | k, t :: ts, j + 1, e, h => by
    have ih := MarksII.get (k + (t.length : Int)) ts j e (by simpa using h)
    simp only [MarksII, List.getElem?_cons_succ, List.take_succ_cons, iiLen]
    rw [ih]
    have e1 : k + (t.length : Int) + (iiLen (ts.take j) : Int) = k + ((t.length + iiLen (ts.take j) : Nat) : Int) := by omega
    rw [e1]
theorem MarksII.len : ∀ (k : Int) (ts : ListsL), (MarksII k ts).length = ts.length
  | _, [] => rfl
  | k, t :: ts => by simp only [MarksII, List.length_cons, MarksII.len]
theorem iiLen_marks : ∀ (k : Int) (l : ListsL), iiLen (MarksII k l) = iiLen l
  | _, [] => rfl
  | k, t :: ts => by simp only [MarksII, iiLen, iiLen_marks, Marks.len]
/-- The first j lists are marked. -/
def markAtII (k : Int) (ts : ListsL) (j : Nat) : ListsL := (MarksII k ts).take j ++ ts.drop j
theorem markAtII_zero (k : Int) (ts : ListsL) : markAtII k ts 0 = ts := by simp [markAtII]
theorem markAtII_all (k : Int) (ts : ListsL) : markAtII k ts ts.length = MarksII k ts := by
  rw [markAtII, List.drop_length, List.append_nil, List.take_of_length_le (by rw [MarksII.len]; exact Nat.le_refl _)]
theorem markAtII_get {k : Int} {ts : ListsL} {j : Nat} {x : List Int} (h : ts[j]? = some x) : (markAtII k ts j)[j]? = some x := by
  have hj := (List.getElem?_eq_some_iff.1 h).1
  have hl : ((MarksII k ts).take j).length = j := by rw [List.length_take, MarksII.len]; omega
  rw [markAtII, List.getElem?_append_right (by omega), hl, Nat.sub_self, List.getElem?_drop]
  simpa using h
theorem markAtII_step {k : Int} {ts : ListsL} {j : Nat} {e : List Int} (h : ts[j]? = some e) :
    (markAtII k ts j).set j (Marks (k + (iiLen (ts.take j) : Int)) e.length) = markAtII k ts (j + 1) := by
  have hj := (List.getElem?_eq_some_iff.1 h).1
  have hl : ((MarksII k ts).take j).length = j := by rw [List.length_take, MarksII.len]; omega
  rw [markAtII, markAtII, List.set_append_right _ _ (by omega), hl, Nat.sub_self, List.take_add_one, MarksII.get k ts j e h, List.drop_eq_getElem_cons hj, List.set_cons_zero]
  simp

theorem below_drewII {B : Nat} {w W : World} (h : Below B w W) : Below B w W.drew := ⟨h.os, h.tape, h.output, h.size, h.block⟩

/-- The slice value v reads as the lists ls, wherever they lie. -/
def RdII (w : World) (v : Value) (ls : ListsL) : Prop := ∃ (n : Nat) (ao : Option Addr) (b c : Nat), v = .slice ao n c ∧ Hid (n = ls.length) ∧ n ≤ c ∧
    (0 < n → ao = some ⟨b, 0, none⟩) ∧ (∀ (j : Nat) (e : List Int), ls[j]? = some e → ∃ u, w.cell? ⟨b, j, none⟩ = some u ∧ IntsV w u e) ∧ n ≤ 1099511627776
theorem RowsV.rd {w : World} {v : Value} {ls : ListsL} (h : RowsV w v ls) : RdII w v ls := h.open
theorem RdII.nil (w : World) : RdII w (.slice none 0 0) [] := ⟨0, none, 0, 0, rfl, Lib.hid rfl, Nat.le_refl _, fun h => absurd h (Nat.lt_irrefl 0), fun j e h => by simp at h, Nat.zero_le _⟩
theorem RdII.kept {w w' : World} {v : Value} {ls : ListsL} (h : RdII w v ls) (hb : Below w.heap.size w w') : RdII w' v ls := by
  obtain ⟨n, ao, b, c, h1, h2, h3, h4, h5, h6⟩ := h
  refine ⟨n, ao, b, c, h1, h2, h3, h4, fun j e hj => ?_, h6⟩
  obtain ⟨u, hu, hi⟩ := h5 j e hj
  exact ⟨u, (hb.cell (World.block_lt_of_cell? _ _ hu)).trans hu, hi.kept hb⟩
/-- A row that reads as the lists ls, all of it in blocks from lo on and below hi; its lists may share memory. -/
structure RowR (lo hi : Nat) (w : World) (v : Value) (us : List Value) (ls : ListsL) : Prop where
  row : OwnL 24 id lo w v us
  len : us.length = ls.length
  own : ∀ (j : Nat) u l, us[j]? = some u → ls[j]? = some l → OwnI lo w u l
  vhi : ∀ k, v.ownBlock = some k → k < hi
  uhi : ∀ (j : Nat) u, us[j]? = some u → ∀ k, u.ownBlock = some k → k < hi
  size : hi ≤ w.heap.size
def AtR (lo hi : Nat) (w : World) (v : Value) (ls : ListsL) : Prop := ∃ us, RowR lo hi w v us ls
def OwnR (B : Nat) (w : World) (v : Value) (ls : ListsL) : Prop := AtR B w.heap.size w v ls
def GivesR (w : World) (ls : ListsL) (e : Ending) (w' : World) : Prop := ∃ r, e = .returned r ∧ OwnR w.heap.size w' r ls ∧ Below w.heap.size w w'
def GivesRB (w : World) (ls : ListsL) (b : Bool) (e : Ending) (w' : World) : Prop := ∃ r, e = .returned (.tuple #[r, .bool b]) ∧ OwnR w.heap.size w' r ls ∧ Below w.heap.size w w'
section
variable {lo hi : Nat} {w w' : World} {v : Value} {us : List Value} {ls : ListsL}
theorem RowR.block (h : RowR lo hi w v us ls) {j : Nat} {u : Value} (hu : us[j]? = some u) : ∀ k, u.ownBlock = some k → lo ≤ k ∧ k < w.heap.size := by
  have hj := (List.getElem?_eq_some_iff.1 hu).1
  exact (h.own j u _ hu (List.getElem?_eq_getElem (l := ls) (i := j) (by rw [← h.len]; exact hj))).block
theorem RowR.kept (h : RowR lo hi w v us ls) (hb : Below w.heap.size w w') : RowR lo hi w' v us ls :=
  ⟨h.row.kept hb, h.len, fun j u l hu hl => (h.own j u l hu hl).kept hb, h.vhi, h.uhi, Nat.le_trans h.size hb.size⟩
theorem RowR.only {lo' hi' : Nat} (h : RowR lo hi w v us ls) (hb : Only lo' hi' w w') (hd : hi ≤ lo' ∨ hi' ≤ lo) : RowR lo hi w' v us ls :=
  ⟨h.row.only hb (fun k hk => by have := h.vhi k hk; have := (h.row.block k hk).1; omega), h.len,
   fun j u l hu hl => (h.own j u l hu hl).only hb (fun k hk => by have := h.uhi j u hu k hk; have := (h.block hu k hk).1; omega),
   h.vhi, h.uhi, Nat.le_trans h.size hb.size⟩
theorem RowR.raise {lo' hi' : Nat} (h : RowR lo hi w v us ls) (h1 : lo' ≤ lo) (h2 : hi ≤ hi') (h3 : hi' ≤ w.heap.size) : RowR lo' hi' w v us ls :=
  ⟨h.row.mono h1, h.len, fun j u l hu hl => (h.own j u l hu hl).mono h1, fun k hk => Nat.lt_of_lt_of_le (h.vhi k hk) h2, fun j u hu k hk => Nat.lt_of_lt_of_le (h.uhi j u hu k hk) h2, h3⟩
theorem AtR.kept (h : AtR lo hi w v ls) (hb : Below w.heap.size w w') : AtR lo hi w' v ls := by obtain ⟨us, h⟩ := h; exact ⟨us, h.kept hb⟩
theorem AtR.only {lo' hi' : Nat} (h : AtR lo hi w v ls) (hb : Only lo' hi' w w') (hd : hi ≤ lo' ∨ hi' ≤ lo) : AtR lo hi w' v ls := by obtain ⟨us, h⟩ := h; exact ⟨us, h.only hb hd⟩
theorem OwnR.at {B : Nat} (h : OwnR B w v ls) : AtR B w.heap.size w v ls := h
theorem OwnR.mono {B B' : Nat} (h : OwnR B w v ls) (hB : B' ≤ B) : OwnR B' w v ls := by
  obtain ⟨us, h⟩ := h
  exact ⟨us, h.raise hB (Nat.le_refl _) (Nat.le_refl _)⟩
theorem OwnR.kept {B : Nat} (h : OwnR B w v ls) (hb : Below w.heap.size w w') : OwnR B w' v ls := by
  obtain ⟨us, h⟩ := h
  exact ⟨us, (h.kept hb).raise (Nat.le_refl _) hb.size (Nat.le_refl _)⟩
theorem OwnR.nil (B : Nat) (w : World) : OwnR B w (.slice none 0 0) [] :=
  ⟨[], OwnL.nil _ _ _ _, rfl, fun j u l h => by simp at h, fun k hk => by simp [Value.ownBlock] at hk, fun j u h => by simp at h, Nat.le_refl _⟩
theorem RowR.rd (h : RowR lo hi w v us ls) : RdII w v ls := by
  obtain ⟨ao, c, rfl, h3, h5⟩ := h.row.shape
  have hlen := h.len
  cases us with
  | nil =>
    have : ls = [] := List.eq_nil_of_length_eq_zero (by simpa using hlen.symm)
    subst this
    exact ⟨0, ao, 0, c, rfl, Lib.hid rfl, h3, fun h => absurd h (Nat.lt_irrefl 0), fun j e hx => by simp at hx, Nat.zero_le _⟩
  | cons y us =>
    obtain ⟨g, rfl⟩ := h5 (by simp)
    refine ⟨_, _, g, c, rfl, Lib.hid hlen, h3, fun _ => rfl, fun j e hx => ?_, h.row.2⟩
    have hj := (List.getElem?_eq_some_iff.1 hx).1
    have hu := List.getElem?_eq_getElem (l := y :: us) (i := j) (by rw [hlen]; exact hj)
    exact ⟨_, h.row.cellAt hu, (h.own j _ e hu hx).ints⟩
theorem AtR.rd (h : AtR lo hi w v ls) : RdII w v ls := by obtain ⟨us, h⟩ := h; exact h.rd
theorem AtII.rd (h : AtII lo hi w v ls) : RdII w v ls := (AtII.rows h).rd
end
def GivesRd (w : World) (ls : ListsL) (e : Ending) (w' : World) : Prop := ∃ r, e = .returned r ∧ RdII w' r ls ∧ Below w.heap.size w w'
def GivesRdB (w : World) (ls : ListsL) (b : Bool) (e : Ending) (w' : World) : Prop := ∃ r, e = .returned (.tuple #[r, .bool b]) ∧ RdII w' r ls ∧ Below w.heap.size w w'

def MarkedII (lo hi : Nat) (w : World) (v : Value) (ts : ListsL) (n : Nat) (k : Int) (e : Ending) (w' : World) : Prop :=
  e = .returned (.int .i64 (k + (n : Int))) ∧ AtII lo hi w' v (MarksII k ts) ∧ Only lo hi w w'

end Go.Proofs.Ytfepepakellbbaa
