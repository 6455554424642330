/-
  Contracts: the laws' own helper less; permutations of at most five numbers have few reduced words.
-/
import Derived.Test.YtfepepakellbbaaLexC
import Derived.Test.YtfepepakellbbaaCnt
namespace Go.Proofs.Ytfepepakellbbaa
open Go.RowKit
set_option linter.unusedVariables false

set_option maxHeartbeats 800000 in
theorem lawLess_c (v u : Value) (a b : List Int) (w : World) (hv : IntsV w v a) (hu : IntsV w u b) :
    Calls Try.prog 38 #[v, u] w (GivesB w (lexLt a b)) := by
  obtain ⟨n, ao, ab, aoff, ac, rfl, HL, _, hcma, ha, hca, hna⟩ := hv.open
  obtain ⟨m, bo, bb, boff, bc, rfl, HM, _, hcmb, hb, hcb, hnb⟩ := hu.open
  clear hcma hcmb
  go_enter Try.func38, Try.ntmps38
  go_wp2
  go_loopw [5] (fun i wr => ∃ j : Nat, j ≤ n ∧ j ≤ m ∧ i = .int .i64 j ∧ Same a b j ∧ Below w.heap.size w wr) (fun i _ => n - (intOf i).toNat)
  case atStart => exact ⟨0, Nat.zero_le _, Nat.zero_le _, rfl, fun t ht => absurd ht (Nat.not_lt_zero _), Below.refl _ _⟩
  case round =>
    obtain ⟨j, hj, hjm, rfl, hS, hB⟩ := hrel
    have HSAME := Lib.hid hS
    clear hS
    by_cases hlt : j < n
    · have hlt' : (j : Int) < (n : Int) := by omega
      by_cases hltm : j < m
      · have hltm' : (j : Int) < (m : Int) := by omega
        obtain rfl := ha (by omega)
        obtain rfl := hb (by omega)
        obtain ⟨x, hx⟩ : ∃ x, x = a.getD j 0 := ⟨_, rfl⟩
        obtain ⟨y, hy⟩ : ∃ y, y = b.getD j 0 := ⟨_, rfl⟩
        have hcj : wr.cell? ⟨ab, aoff + j, none⟩ = some (.int .i64 x) := by
          rw [hx, hB.cell (p := ⟨ab, aoff + j, none⟩) (World.block_lt_of_cell? _ _ (hca j hlt))]; exact hca j hlt
        have hdj : wr.cell? ⟨bb, boff + j, none⟩ = some (.int .i64 y) := by
          rw [hy, hB.cell (p := ⟨bb, boff + j, none⟩) (World.block_lt_of_cell? _ _ (hcb j hltm))]; exact hcb j hltm
        have HX := Lib.hid hx
        have HY := Lib.hid hy
        clear hx hy hca hcb ha hb
        by_cases hxy : x = y
        · subst hxy
          have hnx : (x != x) = false := by simp
          have hS' := Lib.hid (Upto.next HSAME.out HX.out HY.out rfl (by rw [← HL.out]; exact hlt) (by rw [← HM.out]; exact hltm))
          go_wp2
          go_quiet (fail)
          go_wp2
          go_roundw
          case rel => exact ⟨j + 1, by omega, by omega, by go_num, hS'.out, below_drewN hB _⟩
          case measure => simp [intOf]; omega
        · have hnx : (x != y) = true := by simpa using hxy
          have HR : Hid (lexLt a b = decide (x < y)) := Lib.hid (by
            have := cmp_at HSAME.out (getElem?_of_getD HX.out (by rw [← HL.out]; exact hlt)) (getElem?_of_getD HY.out (by rw [← HM.out]; exact hltm)) hxy
            unfold lexLt; rw [this]
            by_cases h : x < y
            · rw [if_pos h]; simp [h]
            · rw [if_neg h]; simp [h])
          obtain ⟨dd, hdd⟩ : ∃ dd, decide (x < y) = dd := ⟨_, rfl⟩
          clear hxy
          go_wp2
          go_quiet (fail)
          go_wp2
          go_quiet (fail)
          go_wp2
          go_ret
          rw [HR.out]
          exact ⟨ret_bool hdd.symm, below_drewN (below_drewN hB _) _⟩
      · have hltm' : ¬ (j : Int) < (m : Int) := by omega
        have HR : Hid (lexLt a b = decide ((n : Int) < (m : Int))) := Lib.hid (by
          have := cmp_end HSAME.out (by rw [← HL.out]; omega) (by rw [← HM.out]; omega) (.inr (by rw [← HM.out]; omega))
          rw [← HL.out, ← HM.out] at this
          unfold lexLt; rw [this, if_neg (by omega), if_pos (by omega)]
          simp; omega)
        clear hca hcb ha hb
        go_wp2
        go_ret
        rw [HR.out]
        exact ⟨ret_bool (by simp), hB⟩
    · have hlt' : ¬ (j : Int) < (n : Int) := by omega
      have HR : Hid (lexLt a b = decide ((n : Int) < (m : Int))) := Lib.hid (by
        have := cmp_end HSAME.out (by rw [← HL.out]; omega) (by rw [← HM.out]; omega) (.inl (by rw [← HL.out]; omega))
        rw [← HL.out, ← HM.out] at this
        unfold lexLt; rw [this]
        by_cases h : n < m
        · rw [if_pos h]; simp; omega
        · rw [if_neg h]; split <;> simp <;> omega)
      clear hca hcb ha hb
      go_wp2
      go_ret
      rw [HR.out]
      exact ⟨ret_bool (by simp), hB⟩


theorem redN_up {n : Nat} {w : List Int} (h : PermN n w) {k : Nat} (hk : k + 1 < n) (hlt : w.getD k 0 < w.getD (k + 1) 0) : redN n w ≤ redN n (swapL w k (k + 1)) := by
  have hs := swap_perm h (i := k) (j := k + 1) (by omega) hk
  have hl := len_swap_up w k (by rw [h.2]; exact hk) hlt
  have h0 := lenOf_nonneg w
  obtain ⟨m, hm⟩ : ∃ m : Nat, lenOf w = (m : Int) := ⟨(lenOf w).toNat, by omega⟩
  have e1 : redN n (swapL w k (k + 1)) = (redR n (m + 1) (swapL w k (k + 1))).length := by
    rw [(redR_perm hs (by omega)).length_eq, redN, show (lenOf (swapL w k (k + 1))).toNat = m + 1 by omega]
  have e2 : redN n w = (redR n m w).length := by rw [(redR_perm h hm).length_eq, redN, hm]; rfl
  have hback : swapL (swapL w k (k + 1)) k (k + 1) = w := swapL_swapL (by rw [h.2]; omega) (by rw [h.2]; exact hk) (by omega)
  have hd : k ∈ rdesc n (swapL w k (k + 1)) := by
    refine mem_rdesc.2 ⟨hk, ?_⟩
    have a1 := pv_swap_l h (i := k) (j := k + 1) (by omega) hk (by omega)
    have a2 := pv_swap_r h (i := k) (j := k + 1) (by omega) hk
    rw [hs.eq (i := k + 1) hk, hs.eq (i := k) (by omega), a1, a2, ← h.eq (i := k) (by omega), ← h.eq hk]
    exact hlt
  rw [e1, e2, redR, List.length_flatMap]
  have hmem : ((redR n m (swapL (swapL w k (k + 1)) k (k + 1))).map (· ++ [(k : Int)])).length ∈ ((rdesc n (swapL w k (k + 1))).map fun a => ((redR n m (swapL (swapL w k (k + 1)) a (a + 1))).map (· ++ [(a : Int)])).length) := List.mem_map.2 ⟨k, hd, rfl⟩
  rw [hback, List.length_map] at hmem
  have key : ∀ (l : List Nat) (x : Nat), x ∈ l → x ≤ l.sum := by
    intro l
    induction l with
    | nil => intro x hx; simp at hx
    | cons y l ih =>
      intro x hx
      rw [List.sum_cons]
      rcases List.mem_cons.1 hx with rfl | hx
      · omega
      · have := ih x hx; omega
  exact key _ _ hmem
def downL (n : Nat) : List Int := (idL n).reverse
theorem down_top {n : Nat} {w : List Int} (h : PermN n w) (hd : ∀ k, k + 1 < n → ¬ w.getD k 0 < w.getD (k + 1) 0) : w = downL n := by
  have hup : ∀ k, k + 1 < n → pv w (k + 1) < pv w k := fun k hk => by
    have := hd k hk
    rw [h.eq (by omega), h.eq hk] at this
    have hne : pv w k ≠ pv w (k + 1) := fun e => by have := h.inj (by omega) hk e; omega
    omega
  have lo : ∀ d i, i + d + 1 = n → d ≤ pv w i := by
    intro d
    induction d with
    | zero => intro i _; omega
    | succ d ih => intro i hi; have := ih (i + 1) (by omega); have := hup i (by omega); omega
  have hi : ∀ i, i < n → pv w i + i + 1 ≤ n := by
    intro i
    induction i with
    | zero => intro hi; have := h.lt hi; omega
    | succ i ih => intro hi; have := ih (by omega); have := hup i hi; omega
  apply List.ext_getElem?
  intro i
  by_cases hin : i < n
  · rw [(h.get hin).1, downL, List.getElem?_reverse (by rw [idL_len]; exact hin), idL_len]
    have a := lo (n - 1 - i) i (by omega)
    have b := hi i hin
    have hlt2 : n - 1 - i < n := by omega
    have : (idL n)[n - 1 - i]? = some ((n - 1 - i : Nat) : Int) := by
      rw [idL, List.getElem?_map, List.getElem?_range hlt2]; rfl
    rw [this]; congr 1; omega
  · rw [List.getElem?_eq_none (by rw [h.2]; omega), List.getElem?_eq_none (by rw [downL, List.length_reverse, idL_len]; omega)]
theorem few1 : redN 1 (downL 1) ≤ 800 := by decide +kernel
theorem few2 : redN 2 (downL 2) ≤ 800 := by decide +kernel
theorem few3 : redN 3 (downL 3) ≤ 800 := by decide +kernel
theorem few4 : redN 4 (downL 4) ≤ 800 := by decide +kernel
theorem few5 : redN 5 (downL 5) ≤ 800 := by decide +kernel
theorem redN_few {n : Nat} (h5 : n ≤ 5) : ∀ (d : Nat) {w : List Int}, PermN n w → lenOf w + (d : Int) = 22 → redN n w ≤ 800
  | 0, w, h, hd => by have := len_le h; omega
  | d + 1, w, h, hd => by
    by_cases hx : ∃ k, k + 1 < n ∧ w.getD k 0 < w.getD (k + 1) 0
    · obtain ⟨k, hk, hlt⟩ := hx
      have hl := len_swap_up w k (by rw [h.2]; exact hk) hlt
      exact Nat.le_trans (redN_up h hk hlt) (redN_few h5 d (swap_perm h (by omega) hk) (by omega))
    · have e := down_top h (fun k hk hlt => hx ⟨k, hk, hlt⟩)
      have h1 := h.size.1
      rw [e]
      match n, h1, h5 with
      | 1, _, _ => exact few1
      | 2, _, _ => exact few2
      | 3, _, _ => exact few3
      | 4, _, _ => exact few4
      | 5, _, _ => exact few5

end Go.Proofs.Ytfepepakellbbaa
