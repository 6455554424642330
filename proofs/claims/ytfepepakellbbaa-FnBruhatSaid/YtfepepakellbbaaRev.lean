/-
  Contracts: slices.Reverse at []int, the program's LongestPerm.
-/
import Derived.Test.YtfepepakellbbaaIdent
namespace Go.Proofs.Ytfepepakellbbaa
open Go.RowKit
set_option linter.unusedVariables false

/-- n - 1, n - 2, .. : j numbers. -/
def revUp (n j : Nat) : List Int := (List.range j).map (fun t : Nat => (n : Int) - 1 - (t : Int))
theorem revUp_len (n j : Nat) : (revUp n j).length = j := by simp [revUp]
theorem revUp_succ (n j : Nat) : revUp n (j + 1) = revUp n j ++ [(n : Int) - 1 - (j : Int)] := by simp [revUp, List.range_succ]
theorem revUp_all (n : Nat) : revUp n n = (idL n).reverse := by
  apply List.ext_getElem
  · simp [revUp, idL]
  · intro i h1 h2
    simp [revUp, idL] at h1 ⊢
    omega
theorem longL_in {m : Nat} (h : inB (m : Int) 1 7 = true) : longL (m : Int) = revUp m m := by rw [longL, identL_in h, revUp_all]
theorem longL_out {n : Int} (h : inB n 1 7 = false) : longL n = [] := by rw [longL, identL_out h]; rfl

/-- a numbers at each end have been exchanged. -/
def Rev (cur l : List Int) (a : Nat) : Prop := cur.length = l.length ∧ ∀ t, t < l.length → cur[t]? = if t < a ∨ l.length ≤ t + a then l[l.length - 1 - t]? else l[t]?

theorem Rev.zero (l : List Int) : Rev l l 0 := ⟨rfl, fun t ht => by rw [if_neg (by omega)]⟩

theorem Rev.step {cur l : List Int} {a b : Nat} (h : Rev cur l a) (hab : a + b + 1 = l.length) (hlt : a < b) :
    Rev ((cur.set a (cur.getD b 0)).set b (cur.getD a 0)) l (a + 1) := by
  refine ⟨by simpa using h.1, fun t ht => ?_⟩
  have hl := h.1
  have ha := h.2 a (by omega)
  have hb := h.2 b (by omega)
  rw [if_neg (by omega)] at ha hb
  have ga : cur.getD a 0 = l.getD a 0 := by rw [List.getD_eq_getElem?_getD, ha, ← List.getD_eq_getElem?_getD]
  have gb : cur.getD b 0 = l.getD b 0 := by rw [List.getD_eq_getElem?_getD, hb, ← List.getD_eq_getElem?_getD]
  rw [ga, gb, List.getElem?_set, List.getElem?_set, List.length_set]
  by_cases e1 : b = t
  · subst e1
    rw [if_pos rfl, if_pos (by omega), if_pos (by omega)]
    rw [show l.length - 1 - b = a by omega, List.getElem?_eq_getElem (by omega)]
    simp [List.getD_eq_getElem?_getD, show a < l.length by omega]
  · rw [if_neg e1]
    by_cases e2 : a = t
    · subst e2
      rw [if_pos rfl, if_pos (by omega), if_pos (by omega)]
      rw [show l.length - 1 - a = b by omega, List.getElem?_eq_getElem (by omega)]
      simp [List.getD_eq_getElem?_getD, show b < l.length by omega]
    · rw [if_neg e2, h.2 t ht]
      by_cases c : t < a ∨ l.length ≤ t + a
      · rw [if_pos c, if_pos (by omega)]
      · rw [if_neg c, if_neg (by omega)]

theorem Rev.done {cur l : List Int} {a b : Nat} (h : Rev cur l a) (hab : a + b + 1 = l.length) (hlt : ¬ a < b) : cur = l.reverse := by
  apply List.ext_getElem?
  intro t
  by_cases ht : t < l.length
  · rw [h.2 t ht, List.getElem?_reverse ht]
    by_cases c : t < a ∨ l.length ≤ t + a
    · rw [if_pos c]
    · rw [if_neg c]
      congr 1
      omega
  · rw [List.getElem?_eq_none (by rw [h.1]; omega), List.getElem?_eq_none (by rw [List.length_reverse]; omega)]

def ReversedI (lo hi : Nat) (w : World) (v : Value) (l : List Int) (e : Ending) (w' : World) : Prop :=
  e = .returned (.tuple #[]) ∧ AtI lo hi w' v l.reverse ∧ Only lo hi w w'

set_option maxHeartbeats 800000 in
theorem reverse_c (lo hi : Nat) (v : Value) (l : List Int) (w : World) (h : AtI lo hi w v l) :
    Calls Try.prog 46 #[v] w (ReversedI lo hi w v l) := by
  obtain ⟨h, hhi, hsz⟩ := h
  have hlen := h.2
  by_cases h0 : l.length = 0
  · have hl : l = [] := List.eq_nil_of_length_eq_zero h0
    subst hl
    have hv : ∃ ao c, v = .slice ao 0 c := by
      rcases h.1.2 with ⟨rfl, _⟩ | ⟨g, cap, cur, rfl, _⟩
      · exact ⟨none, 0, rfl⟩
      · exact ⟨_, _, rfl⟩
    obtain ⟨ao, c, rfl⟩ := hv
    have A : AtI lo hi w (.slice ao 0 c) [] := ⟨h, hhi, hsz⟩
    clear h hhi h0
    go_enter Try.func46, Try.ntmps46
    go_wp2
    refine wp_loop_rounds 1 ?_
    rw [rounds_succ]
    go_wp2
    go_end0
    exact ⟨rfl, A, Only.refl _ _ _⟩
  rcases h.1.2 with ⟨rfl, h0'⟩ | ⟨g, cap, cur, rfl, hlo, _, _, _, _, _⟩
  · exact absurd h0' h0
  · have hg := hhi g rfl
    clear hhi
    obtain ⟨n, hL⟩ : ∃ n, n = l.length := ⟨_, rfl⟩
    rw [← hL] at h hlen h0 ⊢
    have HL := Lib.hid hL
    clear hL
    go_enter Try.func46, Try.ntmps46
    go_wp2
    go_loopw [2, 3] (fun i j wr => ∃ (a b : Nat) (cur : List Int), Hid (a + b + 1 = n) ∧ a ≤ n ∧ b ≤ n ∧ i = .int .i64 a ∧ j = .int .i64 b ∧ Rev cur l a ∧ OwnI lo wr (.slice (some ⟨g, 0, none⟩) n cap) cur ∧ Only lo hi w wr)
      (fun i _ _ => n - (intOf i).toNat)
    case atStart => exact ⟨0, n - 1, l, Lib.hid (by omega), by omega, by omega, rfl, by go_num, Rev.zero l, h, Only.refl _ _ _⟩
    case round =>
      obtain ⟨a, b, cur, HAB, hal, hbl, rfl, rfl, hR, hO, hG⟩ := hrel
      clear h
      by_cases hlt : a < b
      · have hab := HAB.out
        have hcl : cur.length = n := by rw [hR.1, ← HL.out]
        have hca := hO.cellAt a (by omega)
        have hcb := hO.cellAt b (by omega)
        have hfa := hO.free a
        have hfb := hO.free b
        have hR' := hR.step (by rw [← HL.out]; exact hab) hlt
        have hO2 := ((hO.store a (cur.getD b 0)).1.store b (cur.getD a 0)).1
        have hG2 := (hG.trans (Only.setCell (w := wr) (p := ⟨g, a, none⟩) (.int .i64 (cur.getD b 0)) ⟨hlo, hg⟩)).trans (Only.setCell (p := ⟨g, b, none⟩) (.int .i64 (cur.getD a 0)) ⟨hlo, hg⟩)
        have han : (a : Int) < (n : Int) := by omega
        have hbn : (b : Int) < (n : Int) := by omega
        have hbp : 0 < b := by omega
        obtain ⟨x, hx⟩ : ∃ x, x = cur.getD a 0 := ⟨_, rfl⟩
        obtain ⟨y, hy⟩ : ∃ y, y = cur.getD b 0 := ⟨_, rfl⟩
        rw [← hx] at hca hR' hO2 hG2
        rw [← hy] at hcb hR' hO2 hG2
        clear hx hy hO hG hR hab hcl
        go_wp2
        go_region
        all_goals
          go_wp2
          go_roundw
          case rel => exact ⟨a + 1, b - 1, _, Lib.hid (by have := HAB.out; omega), by omega, by omega, by go_num, by go_num, hR', hO2.drew, hG2.drew⟩
          case measure => simp [intOf]; omega
      · go_wp2
        go_end0
        have e := hR.done (by rw [← HL.out]; exact HAB.out) hlt
        exact ⟨rfl, ⟨e ▸ hO, (fun k h => by cases h; exact hg), Nat.le_trans hsz hG.size⟩, hG⟩

theorem iLong_c (n : Int) (w : World) : Calls Try.prog 13 #[.int .i64 n] w (GivesI w (longL n)) := by
  go_enter Try.func13, Try.ntmps13
  go_wp2_with fail
  refine (iIdent_c _ _).mono ?_
  rintro e w1 ⟨r, rfl, o1, b1⟩
  have t1 := o1.at
  clear o1
  go_wp2_with fail
  refine (reverse_c _ _ _ _ _ t1).mono ?_
  rintro e w2 ⟨rfl, t2, hG⟩
  have hB := b1.trans (hG.below (Nat.le_refl _) b1.size)
  clear t1
  go_wp2_with fail
  go_ret
  exact ⟨_, rfl, t2.1, hB⟩

end Go.Proofs.Ytfepepakellbbaa
