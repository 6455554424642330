/-
  The contracts of the law's own helpers: toIntS, eqIntS, markIntS, heldIntS.
-/
import Derived.Test.YtoioiippdchgmaaGives
namespace Go.Proofs.Ytoioiippdchgmaa
open Go.RowKit
set_option linter.unusedVariables false

set_option maxHeartbeats 400000 in
theorem toIntS_c (v : Value) (l : List Int) (w : World) (hv : IntsV w v l) :
    Calls Try.prog 47 #[v] w (GivesI w l) := by
  obtain ⟨n, ao, b, off, c, rfl, HL, hlc, hcm, ha, hc, hn⟩ := hv.open
  go_enter Try.func47, Try.ntmps47
  go_wp2_with (at_make; refine wpList_zeros _ rfl _ _ rfl n rfl rfl ?b1 ?_)
  case b1 => exact hn
  intro w1 hO hB
  go_wp2
  go_loopw [4] (fun i wr => ∃ (j : Nat) (cur : List Int), j ≤ n ∧ i = .int .i64 j ∧ Upto cur l j ∧ OwnI w.heap.size wr (.slice (some ⟨w.heap.size, 0, none⟩) n n) cur ∧ Below w.heap.size w wr)
    (fun i _ => n - (intOf i).toNat)
  case atStart => exact ⟨0, _, Nat.zero_le _, rfl, ⟨by simp [HL.out], fun t ht => absurd ht (Nat.not_lt_zero _)⟩, hO, hB⟩
  case round =>
    obtain ⟨j, cur, hj, rfl, hup, hOr, hBr⟩ := hrel
    clear hO hB
    by_cases hlt : j < n
    · obtain rfl := ha (by omega)
      obtain ⟨x, hx⟩ : ∃ x, x = l.getD j 0 := ⟨_, rfl⟩
      have hcj : wr.cell? ⟨b, off + j, none⟩ = some (.int .i64 x) := by
        rw [hx, hBr.cell (p := ⟨b, off + j, none⟩) (World.block_lt_of_cell? _ _ (hc j hlt))]; exact hc j hlt
      have HX := Lib.hid hx
      clear hx
      have hcur : j < cur.length := by rw [hup.1, ← HL.out]; exact hlt
      have hst := hOr.cellAt j hcur
      have hfr := hOr.free j
      clear hc ha
      have hfin := Upto.step hup HX.out (by rw [← HL.out]; exact hlt)
      have hO2 := (hOr.store j x).1
      have hB2 := hBr.setCell (p := ⟨w.heap.size, j, none⟩) (Nat.le_refl _) (.int .i64 x)
      go_wp2
      go_roundw
      case rel => exact ⟨j + 1, cur.set j x, by omega, by go_num, hfin, hO2, hB2⟩
      case measure => simp [intOf]; omega
    · clear hc ha
      go_wp2
      go_ret
      obtain rfl : j = n := by omega
      have e : cur = l := Upto.done (by rw [← HL.out]; exact hup)
      exact ⟨_, rfl, e ▸ hOr, hBr⟩

set_option maxHeartbeats 400000 in
theorem eqIntS_c (v u : Value) (a b : List Int) (w : World) (hv : IntsV w v a) (hu : IntsV w u b) :
    Calls Try.prog 52 #[v, u] w (GivesB w (decide (a = b))) := by
  obtain ⟨n, ao, ab, aoff, ac, rfl, HL, _, hcma, ha, hca, hna⟩ := hv.open
  obtain ⟨m, bo, bb, boff, bc, rfl, HM, _, hcmb, hb, hcb, hnb⟩ := hu.open
  clear hcma hcmb
  by_cases hnm : n = m
  · subst hnm
    have hne : ((n : Int) != (n : Int)) = false := by simp
    go_enter Try.func52, Try.ntmps52
    go_wp2
    go_loopw [5] (fun i wr => ∃ j : Nat, j ≤ n ∧ i = .int .i64 j ∧ Same a b j ∧ Below w.heap.size w wr) (fun i _ => n - (intOf i).toNat)
    case atStart => exact ⟨0, Nat.zero_le _, rfl, fun t ht => absurd ht (Nat.not_lt_zero _), Below.refl _ _⟩
    case round =>
      obtain ⟨j, hj, rfl, hS, hB⟩ := hrel
      by_cases hlt : j < n
      · obtain rfl := ha (by omega)
        obtain rfl := hb (by omega)
        obtain ⟨x, hx⟩ : ∃ x, x = a.getD j 0 := ⟨_, rfl⟩
        obtain ⟨y, hy⟩ : ∃ y, y = b.getD j 0 := ⟨_, rfl⟩
        have hcj : wr.cell? ⟨ab, aoff + j, none⟩ = some (.int .i64 x) := by
          rw [hx, hB.cell (p := ⟨ab, aoff + j, none⟩) (World.block_lt_of_cell? _ _ (hca j hlt))]; exact hca j hlt
        have hdj : wr.cell? ⟨bb, boff + j, none⟩ = some (.int .i64 y) := by
          rw [hy, hB.cell (p := ⟨bb, boff + j, none⟩) (World.block_lt_of_cell? _ _ (hcb j hlt))]; exact hcb j hlt
        have HX := Lib.hid hx
        have HY := Lib.hid hy
        clear hx hy hca hcb ha hb
        have hjn : (j : Int) < (n : Int) := by omega
        by_cases hxy : x = y
        · subst hxy
          have hnx : (x != x) = false := by simp
          have hS' := Upto.next hS HX.out HY.out rfl (by rw [← HL.out]; exact hlt) (by rw [← HM.out]; exact hlt)
          go_wp2
          go_quiet (fail)
          go_wp2
          go_roundw
          case rel => exact ⟨j + 1, by omega, by go_num, hS', below_drewN hB _⟩
          case measure => simp [intOf]; omega
        · have hnx : (x != y) = true := by simpa using hxy
          have hab : a ≠ b := list_ne_of_getD HX.out HY.out hxy
          have Hab := Lib.hid hab
          clear hab hxy
          go_wp2
          go_quiet (fail)
          go_wp2
          go_ret
          exact ⟨ret_bool (by simp [Hab.out]), below_drewN hB _⟩
      · clear hca hcb ha hb
        go_wp2
        go_ret
        have e : a = b := by
          apply List.ext_getElem?
          intro t
          by_cases ht : t < n
          · exact hS t (by omega)
          · rw [List.getElem?_eq_none (by rw [← HL.out]; omega), List.getElem?_eq_none (by rw [← HM.out]; omega)]
        exact ⟨ret_bool (by simp [e]), hB⟩
  · have hne : ((n : Int) != (m : Int)) = true := by simp; omega
    have hab : a ≠ b := fun e => hnm (by rw [HL.out, HM.out, e])
    have Hab := Lib.hid hab
    clear hab hnm hca hcb ha hb
    go_enter Try.func52, Try.ntmps52
    go_wp2
    go_ret
    exact ⟨ret_bool (by simp [Hab.out]), Below.refl _ _⟩

/-- k, k + 1, .. : n numbers. -/
def Marks (k : Int) (n : Nat) : List Int := (List.range n).map (fun t : Nat => k + (t : Int))
theorem Marks.len (k : Int) (n : Nat) : (Marks k n).length = n := by simp [Marks]
theorem Marks.at {k : Int} {n j : Nat} (h : j < n) : (Marks k n).getD j 0 = k + (j : Int) := by
  simp [Marks, List.getD_eq_getElem?_getD, h]

def MarkedI (lo hi : Nat) (w : World) (v : Value) (n : Nat) (k : Int) (e : Ending) (w' : World) : Prop :=
  e = .returned (.int .i64 (k + (n : Int))) ∧ AtI lo hi w' v (Marks k n) ∧ Only lo hi w w'

/-- As far as j the list holds the marks. -/
def MarkUp (cur : List Int) (k : Int) (n j : Nat) : Prop := cur.length = n ∧ ∀ t, t < j → cur[t]? = some (k + (t : Int))
theorem MarkUp.step {cur : List Int} {k : Int} {n j : Nat} (h : MarkUp cur k n j) (hj : j < n) : MarkUp (cur.set j (k + (j : Int))) k n (j + 1) := by
  refine ⟨by simpa using h.1, fun t ht => ?_⟩
  rw [List.getElem?_set]
  by_cases e : j = t
  · subst e
    rw [if_pos rfl, if_pos (by rw [h.1]; exact hj)]
  · rw [if_neg e]; exact h.2 t (by omega)
theorem MarkUp.done {cur : List Int} {k : Int} {n : Nat} (h : MarkUp cur k n n) : cur = Marks k n := by
  apply List.ext_getElem?
  intro t
  by_cases ht : t < n
  · rw [h.2 t ht]; simp [Marks, ht]
  · rw [List.getElem?_eq_none (by rw [h.1]; omega), List.getElem?_eq_none (by rw [Marks.len]; omega)]

set_option maxHeartbeats 400000 in
theorem markIntS_c (lo hi : Nat) (v : Value) (l : List Int) (k : Int) (w : World) (n : Nat) (hL : n = l.length) (h : AtI lo hi w v l) (hk0 : 0 ≤ k) (hk : k ≤ 1125899906842624) :
    Calls Try.prog 32 #[v, .int .i64 k] w (MarkedI lo hi w v n k) := by
  obtain ⟨h, hhi, hsz⟩ := h
  have hlen := h.2
  rcases h.1.2 with ⟨rfl, h0⟩ | ⟨g, cap, cur, rfl, hlo, _, _, _, _, _⟩
  · obtain rfl : n = 0 := by omega
    clear hhi hL
    go_enter Try.func32, Try.ntmps32
    go_wp2
    refine wp_loop_rounds 1 ?_
    rw [rounds_succ]
    go_wp2
    go_ret
    exact ⟨ret_int (by simp), ⟨OwnI.nil _ _, (fun k h => by cases h), hsz⟩, Only.refl _ _ _⟩
  · have hg := hhi g rfl
    clear hhi
    rw [← hL] at h hlen ⊢
    have HL := Lib.hid hL
    clear hL
    go_enter Try.func32, Try.ntmps32
    go_wp2
    go_loopw [1, 5] (fun k' i wr => ∃ (j : Nat) (cur : List Int), j ≤ n ∧ i = .int .i64 j ∧ k' = .int .i64 (k + (j : Int)) ∧ MarkUp cur k n j ∧ OwnI lo wr (.slice (some ⟨g, 0, none⟩) n cap) cur ∧ Only lo hi w wr)
      (fun _ i _ => n - (intOf i).toNat)
    case atStart => exact ⟨0, l, Nat.zero_le _, rfl, by simp, ⟨HL.out.symm, fun t ht => absurd ht (Nat.not_lt_zero _)⟩, h, Only.refl _ _ _⟩
    case round =>
      obtain ⟨j, cur, hj, rfl, rfl, hM, hO, hG⟩ := hrel
      by_cases hlt : j < n
      · have hcur : j < cur.length := by rw [hM.1]; exact hlt
        have hst := hO.cellAt j hcur
        have hfr := hO.free j
        have hM' := hM.step hlt
        have hO2 := (hO.store j (k + (j : Int))).1
        have hG2 := hG.trans (Only.setCell (lo := lo) (hi := hi) (w := wr) (p := ⟨g, j, none⟩) (.int .i64 (k + (j : Int))) ⟨hlo, hg⟩)
        clear h hO hG
        obtain ⟨z, hz⟩ : ∃ z, z = cur.getD j 0 := ⟨_, rfl⟩
        rw [← hz] at hst
        clear hz
        go_wp2
        go_roundw
        case rel => exact ⟨j + 1, _, by omega, by go_num, by go_num, hM', hO2, hG2⟩
        case measure => simp [intOf]; omega
      · clear h
        go_wp2
        go_ret
        obtain rfl : j = n := by omega
        exact ⟨rfl, ⟨hM.done ▸ hO, (fun k h => by cases h; exact hg), Nat.le_trans hsz hG.size⟩, hG⟩

set_option maxHeartbeats 400000 in
theorem heldIntS_c (v : Value) (n : Nat) (k : Int) (w : World) (hv : IntsV w v (Marks k n)) (hk0 : 0 ≤ k) (hk : k ≤ 1125899906842624) :
    Calls Try.prog 33 #[v, .int .i64 k] w fun e w' => e = .returned (.int .i64 (k + (n : Int))) ∧ w = w' := by
  obtain ⟨n', ao, b, off, c, rfl, HL, _, hcm, ha, hc, hn⟩ := hv.open
  have e : n = n' := (HL.out.trans (Marks.len k n)).symm
  subst e
  clear HL hcm
  go_enter Try.func33, Try.ntmps33
  go_wp2
  go_loop [1, 5] (fun k' i => ∃ j : Nat, j ≤ n ∧ i = .int .i64 j ∧ k' = .int .i64 (k + (j : Int))) (fun _ i => n - (intOf i).toNat)
  case atStart => exact ⟨0, Nat.zero_le _, rfl, by simp⟩
  case round =>
    obtain ⟨j, hj, rfl, rfl⟩ := hrel
    by_cases hlt : j < n
    · obtain rfl := ha (by omega)
      have hcj := hc j hlt
      rw [Marks.at hlt] at hcj
      have hne : ((k + (j : Int)) != (k + (j : Int))) = false := by simp
      clear hc ha
      go_wp2
      go_round
      case rel => exact ⟨j + 1, by omega, by go_num, by go_num⟩
      case measure => simp [intOf]; omega
    · clear hc ha
      obtain rfl : j = n := by omega
      go_wp2
      go_ret
      exact ⟨rfl, rfl⟩

theorem eqIntS_same (v u : Value) (a : List Int) (w : World) (hv : IntsV w v a) (hu : IntsV w u a) :
    Calls Try.prog 52 #[v, u] w (GivesB w true) :=
  (eqIntS_c v u a a w hv hu).mono fun e w' ⟨h, hb⟩ => ⟨by rw [h]; exact ret_bool (by simp), hb⟩

end Go.Proofs.Ytoioiippdchgmaa
