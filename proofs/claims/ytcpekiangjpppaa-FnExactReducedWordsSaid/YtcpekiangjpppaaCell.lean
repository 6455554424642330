/-
  Rows of cells: what the law's own functions do with them.
-/
import Derived.Test.YtcpekiangjpppaaTwo
import Derived.Test.YtcpekiangjpppaaGives
import Derived.WalkKit
import Derived.Deep.RegionHeld3
namespace Go.Proofs.Ytcpekiangjpppaa
open Go.RowKit
set_option linter.unusedVariables false

theorem Try.infoC : (Try.prog.info? 39).map (fun i => (i.zero, i.size, i.bytes)) = some (some (.agg #[.int .i64 0, .int .i64 0]), 2, 16) := by kernel_rfl

def cf0 (x : Int × Int) : Value := .int .i64 x.1
def cf1 (x : Int × Int) : Value := .int .i64 x.2
def cLen (l : List (Int × Int)) : Nat := 2 * l.length
def OwnC (B : Nat) (w : World) (v : Value) (l : List (Int × Int)) : Prop := OwnT 39 cf0 cf1 B w v l ∧ cLen l ≤ 1099511627776
def CellsV (w : World) (v : Value) (l : List (Int × Int)) : Prop := ∃ B, OwnC B w v l
def AtC (lo hi : Nat) (w : World) (v : Value) (l : List (Int × Int)) : Prop := OwnC lo w v l ∧ (∀ k, v.ownBlock = some k → k < hi) ∧ hi ≤ w.heap.size
def GivesC (w : World) (l : List (Int × Int)) (e : Ending) (w' : World) : Prop := ∃ r, e = .returned r ∧ OwnC w.heap.size w' r l ∧ Below w.heap.size w w'
theorem OwnC.cells {B : Nat} {w : World} {v : Value} {l : List (Int × Int)} (h : OwnC B w v l) : CellsV w v l := ⟨B, h⟩
theorem OwnC.mono {B B' : Nat} {w : World} {v : Value} {l : List (Int × Int)} (h : OwnC B w v l) (hB : B' ≤ B) : OwnC B' w v l := ⟨h.1.mono hB, h.2⟩
theorem OwnC.kept {B : Nat} {w w' : World} {v : Value} {l : List (Int × Int)} (h : OwnC B w v l) (hb : Below w.heap.size w w') : OwnC B w' v l := ⟨h.1.kept hb, h.2⟩
theorem OwnC.nil (B : Nat) (w : World) : OwnC B w (.slice none 0 0) [] := ⟨OwnT.nil _ _ _ _ _, Nat.zero_le _⟩
theorem OwnC.at {B : Nat} {w : World} {v : Value} {l : List (Int × Int)} (h : OwnC B w v l) : AtC B w.heap.size w v l := ⟨h, fun k hk => (h.1.block k hk).2, Nat.le_refl _⟩
theorem CellsV.kept {w w' : World} {v : Value} {l : List (Int × Int)} (h : CellsV w v l) (hb : Below w.heap.size w w') : CellsV w' v l := by obtain ⟨B, h⟩ := h; exact ⟨B, h.kept hb⟩
theorem AtC.cells {lo hi : Nat} {w : World} {v : Value} {l : List (Int × Int)} (h : AtC lo hi w v l) : CellsV w v l := ⟨lo, h.1⟩
theorem AtC.len {lo hi : Nat} {w : World} {v : Value} {l : List (Int × Int)} (h : AtC lo hi w v l) : cLen l ≤ 1099511627776 := h.1.2
theorem AtC.only {lo hi lo' hi' : Nat} {w w' : World} {v : Value} {l : List (Int × Int)} (h : AtC lo hi w v l) (hb : Only lo' hi' w w') (hd : hi ≤ lo' ∨ hi' ≤ lo) : AtC lo hi w' v l :=
  ⟨⟨h.1.1.only hb (fun k hk => by have := h.2.1 k hk; have := (h.1.1.block k hk).1; omega), h.1.2⟩, h.2.1, Nat.le_trans h.2.2 hb.size⟩
theorem AtC.kept {lo hi : Nat} {w w' : World} {v : Value} {l : List (Int × Int)} (h : AtC lo hi w v l) (hb : Below w.heap.size w w') : AtC lo hi w' v l :=
  ⟨h.1.kept hb, h.2.1, Nat.le_trans h.2.2 hb.size⟩
/-- A row of cells, laid open. -/
theorem CellsV.open {w : World} {v : Value} {l : List (Int × Int)} (h : CellsV w v l) : ∃ (n : Nat) (ao : Option Addr) (b c : Nat), v = .slice ao n c ∧ Hid (n = l.length) ∧ n ≤ c ∧ c ≤ maxLen ∧
    (0 < n → ao = some ⟨b, 0, none⟩) ∧ (∀ j x, l[j]? = some x → w.cell? ⟨b, j * 2, none⟩ = some (.int .i64 x.1) ∧ w.cell? ⟨b, j * 2 + 1, none⟩ = some (.int .i64 x.2)) ∧ n ≤ 1099511627776 := by
  obtain ⟨B, h, h2⟩ := h
  obtain ⟨ao, c, rfl, h3, h4, h5⟩ := h.shape
  cases l with
  | nil => exact ⟨0, ao, 0, c, rfl, Lib.hid rfl, h3, h4, fun h => absurd h (Nat.lt_irrefl 0), fun j x hx => by simp at hx, Nat.zero_le _⟩
  | cons y l =>
    obtain ⟨g, rfl⟩ := h5 (by simp)
    exact ⟨_, _, g, c, rfl, Lib.hid rfl, h3, h4, fun _ => rfl, fun j x hx => ⟨h.cell0 hx, h.cell1 hx⟩, h.2⟩

theorem eqCell_same (a b : Int) (w : World) : Calls Try.prog 28 #[.agg #[.int .i64 a, .int .i64 b], .agg #[.int .i64 a, .int .i64 b]] w (GivesB w true) := by
  go_enter Try.func28, Try.ntmps28
  go_wp2
  go_ret
  exact ⟨rfl, ((Below.refl _ _).alloc (Nat.le_refl _) _).alloc (by simp) _⟩

theorem below_drew {B : Nat} {w W : World} (h : Below B w W) : Below B w W.drew := ⟨h.os, h.tape, h.output, h.size, h.block⟩
def HeldC (w W : World) : Prop := Below w.heap.size w W

set_option maxHeartbeats 1600000 in
theorem eqCellS_same (v u : Value) (l : List (Int × Int)) (w : World) (hv : CellsV w v l) (hu : CellsV w u l) :
    Calls Try.prog 10 #[v, u] w (GivesB w true) := by
  obtain ⟨n, ao, b, c, rfl, HL, hnc, hcm, ha, hc, hn⟩ := hv.open
  obtain ⟨m, bo, d, e, rfl, HM, hme, hem, hb, hd, hm⟩ := hu.open
  obtain rfl : n = m := HL.out.trans HM.out.symm
  have hne : ((n : Int) != (n : Int)) = false := by simp
  have HC := Lib.hid hc
  have HD := Lib.hid hd
  clear hc hd hcm hem
  go_enter Try.func10, Try.ntmps10
  go_wp2
  go_loopw [5] (fun i wr => ∃ j : Nat, j ≤ n ∧ i = .int .i64 j ∧ Below w.heap.size w wr) (fun i _ => n - (intOf i).toNat)
  case atStart => exact ⟨0, Nat.zero_le _, rfl, Below.refl _ _⟩
  case round =>
    obtain ⟨j, hj, rfl, hB⟩ := hrel
    by_cases hlt : j < n
    · obtain rfl := ha (by omega)
      obtain rfl := hb (by omega)
      obtain ⟨x, hx⟩ : ∃ x, l[j]? = some x := ⟨_, List.getElem?_eq_getElem (by rw [← HL.out]; exact hlt)⟩
      obtain ⟨x0, x1⟩ := x
      obtain ⟨h1, h2⟩ := HC.out j _ hx
      obtain ⟨h3, h4⟩ := HD.out j _ hx
      have hcell : ∀ (a : Addr) (u : Value), w.cell? a = some u → wr.cell? a = some u := fun a u h => by rw [hB.cell (World.block_lt_of_cell? _ _ h)]; exact h
      have k1 := hcell _ _ h1
      have k2 := hcell _ _ h2
      have k3 := hcell _ _ h3
      have k4 := hcell _ _ h4
      have hj0 : (0 : Int) ≤ (j : Int) := Int.natCast_nonneg _
      have hj1 : (j : Int) < (n : Int) := by omega
      clear hcell h1 h2 h3 h4 hx
      go_wp2_with fail
      go_region_with (first | (go_at_call 28; refine (eqCell_same _ _ _).mono ?_; rintro e w1 ⟨rfl, b1⟩))
      all_goals
        have hB1 := below_step (below_drew hB) b1 hB.size
        go_wp2
        go_roundw
        case rel => exact ⟨j + 1, by omega, by go_num, hB1⟩
        case measure => simp [intOf]; omega
    · obtain rfl : j = n := by omega
      go_wp2
      go_ret
      exact ⟨rfl, hB⟩

/-- The marks: two to a cell. -/
def MarksC (k : Int) (n : Nat) : List (Int × Int) := (List.range (n / 2)).map (fun t : Nat => (k + 2 * (t : Int), k + 2 * (t : Int) + 1))
theorem MarksC.len (k : Int) (n : Nat) : (MarksC k n).length = n / 2 := by simp [MarksC]
theorem MarksC.at {k : Int} {n j : Nat} (h : j < n / 2) : (MarksC k n)[j]? = some (k + 2 * (j : Int), k + 2 * (j : Int) + 1) := by
  simp [MarksC, h]
def MarkedC (lo hi : Nat) (w : World) (v : Value) (n : Nat) (k : Int) (e : Ending) (w' : World) : Prop :=
  e = .returned (.int .i64 (k + 2 * ((n / 2 : Nat) : Int))) ∧ AtC lo hi w' v (MarksC k n) ∧ Only lo hi w w'
/-- As far as j the list cur is marked. -/
def MarkUpC (cur : List (Int × Int)) (k : Int) (n j : Nat) : Prop := cur.length = n / 2 ∧ ∀ t, t < j → cur[t]? = some (k + 2 * (t : Int), k + 2 * (t : Int) + 1)
theorem MarkUpC.step {cur : List (Int × Int)} {k : Int} {n j : Nat} (h : MarkUpC cur k n j) (hj : j < n / 2) (y z : Int × Int) :
    MarkUpC ((cur.set j y).set j (k + 2 * (j : Int), k + 2 * (j : Int) + 1)) k n (j + 1) := by
  refine ⟨by simpa using h.1, fun t ht => ?_⟩
  by_cases e : j = t
  · subst e
    rw [List.getElem?_set_self (by rw [List.length_set, h.1]; exact hj)]
  · rw [List.getElem?_set_ne e, List.getElem?_set_ne e]; exact h.2 t (by omega)
theorem MarkUpC.done {cur : List (Int × Int)} {k : Int} {n : Nat} (h : MarkUpC cur k n (n / 2)) : cur = MarksC k n := by
  apply List.ext_getElem?
  intro t
  by_cases ht : t < n / 2
  · rw [h.2 t ht, MarksC.at ht]
  · rw [List.getElem?_eq_none (by rw [h.1]; omega), List.getElem?_eq_none (by rw [MarksC.len]; omega)]

set_option maxHeartbeats 1600000 in
theorem markCellS_c (lo hi : Nat) (v : Value) (l : List (Int × Int)) (k : Int) (w : World) (n : Nat) (hL : n = cLen l) (h : AtC lo hi w v l) (hk0 : 0 ≤ k) (hk : k ≤ 1125899906842624) :
    Calls Try.prog 13 #[v, .int .i64 k] w (MarkedC lo hi w v n k) := by
  obtain ⟨⟨h, hcl⟩, hhi, hsz⟩ := h
  have hlen := h.2
  obtain ⟨q, hq⟩ : ∃ q, q = l.length := ⟨_, rfl⟩
  have hn2 : n / 2 = q := by rw [hL, hq]; simp [cLen]
  have HN := Lib.hid hn2
  have HCL : Hid (2 * l.length ≤ 1099511627776) := Lib.hid hcl
  rcases h.1.2 with ⟨rfl, h0⟩ | ⟨g, cap, cur, rfl, hlo, _, hnc, _, _, _⟩
  · obtain rfl : q = 0 := by omega
    clear hhi hL hq hn2
    go_enter Try.func13, Try.ntmps13
    go_wp2
    refine wp_loop_rounds 1 ?_
    rw [rounds_succ]
    go_wp2
    go_ret
    have e : MarksC k n = [] := List.eq_nil_of_length_eq_zero (by rw [MarksC.len, HN.out])
    exact ⟨ret_int (by rw [HN.out]; simp), ⟨e ▸ OwnC.nil _ _, (fun k h => by cases h), hsz⟩, Only.refl _ _ _⟩
  · have hg := hhi g rfl
    clear hhi
    rw [← hq] at h hlen hnc ⊢
    have HQ := Lib.hid hq
    clear hL hq hn2 hcl
    go_enter Try.func13, Try.ntmps13
    go_wp2
    go_loopw [1, 5] (fun k' i wr => ∃ (j : Nat) (cur : List (Int × Int)), j ≤ q ∧ i = .int .i64 j ∧ k' = .int .i64 (k + 2 * (j : Int)) ∧ Hid (MarkUpC cur k n j) ∧ OwnT 39 cf0 cf1 lo wr (.slice (some ⟨g, 0, none⟩) q cap) cur ∧ Only lo hi w wr)
      (fun _ i _ => q - (intOf i).toNat)
    case atStart => exact ⟨0, l, Nat.zero_le _, rfl, by simp, Lib.hid ⟨by rw [← HQ.out, HN.out], fun t ht => absurd ht (Nat.not_lt_zero _)⟩, h, Only.refl _ _ _⟩
    case round =>
      obtain ⟨j, cur, hj, rfl, rfl, HM, hO, hG⟩ := hrel
      by_cases hlt : j < q
      · have hcur : j < cur.length := by rw [HM.out.1, HN.out]; exact hlt
        obtain ⟨x, hx⟩ : ∃ x, cur[j]? = some x := ⟨_, List.getElem?_eq_getElem hcur⟩
        obtain ⟨x0, x1⟩ := x
        have c0 := hO.cell0 hx
        have c1 := hO.cell1 hx
        simp only [cf0, cf1] at c0 c1
        have f0 := hO.free (j * 2)
        have f1 := hO.free (j * 2 + 1)
        have hO1 := hO.store0 hx (k + 2 * (j : Int), x1) rfl
        have hx1 : (cur.set j (k + 2 * (j : Int), x1))[j]? = some (k + 2 * (j : Int), x1) := List.getElem?_set_self hcur
        have hO2 := hO1.store1 hx1 (k + 2 * (j : Int), k + 2 * (j : Int) + 1) rfl
        simp only [cf0, cf1] at hO2
        have HM' := Lib.hid (HM.out.step (by rw [HN.out]; exact hlt) (k + 2 * (j : Int), x1) (k + 2 * (j : Int), x1))
        have hG2 := (hG.trans (Only.setCell (lo := lo) (hi := hi) (w := wr) (p := ⟨g, j * 2, none⟩) (.int .i64 (k + 2 * (j : Int))) ⟨hlo, hg⟩)).trans (Only.setCell (lo := lo) (hi := hi) (p := ⟨g, j * 2 + 1, none⟩) (.int .i64 (k + 2 * (j : Int) + 1)) ⟨hlo, hg⟩)
        have hj0 : (0 : Int) ≤ (j : Int) := Int.natCast_nonneg _
        have hj1 : (j : Int) < (q : Int) := by omega
        clear h hO hG hO1 hx hx1
        go_wp2
        go_roundw
        case rel => exact ⟨j + 1, _, by omega, by go_num, by go_num, HM', hO2, hG2⟩
        case measure => simp [intOf]; omega
      · clear h
        go_wp2
        go_ret
        obtain rfl : j = q := by omega
        have e := (show MarkUpC cur k n (n / 2) by rw [HN.out]; exact HM.out).done
        refine ⟨ret_int (by rw [HN.out]), ⟨⟨e ▸ hO, ?_⟩, (fun k h => by cases h; exact hg), Nat.le_trans hsz hG.size⟩, hG⟩
        show 2 * (MarksC k n).length ≤ _
        rw [MarksC.len, HN.out, HQ.out]
        exact HCL.out

set_option maxHeartbeats 800000 in
theorem heldCellS_c (v : Value) (n : Nat) (k : Int) (w : World) (hv : CellsV w v (MarksC k n)) (hk0 : 0 ≤ k) (hk : k ≤ 1125899906842624) :
    Calls Try.prog 14 #[v, .int .i64 k] w fun e w' => e = .returned (.int .i64 (k + 2 * ((n / 2 : Nat) : Int))) ∧ w = w' := by
  obtain ⟨q, ao, b, c, rfl, HL, hnc, hcm, ha, hc, hq⟩ := hv.open
  have hn2 : n / 2 = q := (HL.out.trans (MarksC.len k n)).symm
  have HN := Lib.hid hn2
  have HC := Lib.hid hc
  clear hcm hn2 HL hc
  go_enter Try.func14, Try.ntmps14
  go_wp2
  go_loop [1, 5] (fun k' i => ∃ j : Nat, j ≤ q ∧ i = .int .i64 j ∧ k' = .int .i64 (k + 2 * (j : Int))) (fun _ i => q - (intOf i).toNat)
  case atStart => exact ⟨0, Nat.zero_le _, rfl, by simp⟩
  case round =>
    obtain ⟨j, hj, rfl, rfl⟩ := hrel
    by_cases hlt : j < q
    · obtain rfl := ha (by omega)
      obtain ⟨h1, h2⟩ := HC.out j _ (MarksC.at (by rw [HN.out]; exact hlt))
      have hne1 : ((k + 2 * (j : Int)) != (k + 2 * (j : Int))) = false := by simp
      have hne2 : ((k + 2 * (j : Int) + 1) != (k + 2 * (j : Int) + 1)) = false := by simp
      clear ha
      go_wp2
      go_round
      case rel => exact ⟨j + 1, by omega, by go_num, by go_num⟩
      case measure => simp [intOf]; omega
    · clear ha
      obtain rfl : j = q := by omega
      go_wp2
      go_ret
      exact ⟨ret_int (by have := HN.out; omega), rfl⟩

end Go.Proofs.Ytcpekiangjpppaa
