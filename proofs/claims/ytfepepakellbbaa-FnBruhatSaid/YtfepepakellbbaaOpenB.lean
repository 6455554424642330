/-
  Contracts: the laws' own helpers ints, big; a slice of bytes among the arguments.
-/
import Derived.Test.YtfepepakellbbaaDrawn
import Derived.ProofKit
namespace Go.Proofs.Ytfepepakellbbaa
open Go.ChangeShapes Go.WideShapes Go.RowKit
set_option linter.unusedVariables false

set_option maxHeartbeats 400000 in
theorem ints_c (v u : Value) (a b : List Int) (w : World) (hv : IntsV w v a) (hu : IntsV w u b) :
    Calls Try.prog 14 #[v, u] w (GivesB w (decide (a = b))) := by
  obtain ⟨n, ao, ab, aoff, ac, rfl, HL, _, hcma, ha, hca, hna⟩ := hv.open
  obtain ⟨m, bo, bb, boff, bc, rfl, HM, _, hcmb, hb, hcb, hnb⟩ := hu.open
  clear hcma hcmb
  by_cases hnm : n = m
  · subst hnm
    have hne : ((n : Int) != (n : Int)) = false := by simp
    go_enter Try.func14, Try.ntmps14
    go_wp2
    go_loopw [5] (fun i wr => ∃ j : Nat, j ≤ n ∧ i = .int .i64 j ∧ Same a b j ∧ Below w.heap.size w wr) (fun i _ => n - (intOf i).toNat)
    case atStart => exact ⟨0, Nat.zero_le _, rfl, fun t ht => absurd ht (Nat.not_lt_zero _), Below.refl _ _⟩
    case round =>
      obtain ⟨j, hj, rfl, hS, hB⟩ := hrel
      by_cases hlt : j < n
      · obtain rfl := ha (by omega)
        obtain rfl := hb (by omega)
        obtain ⟨x, hx⟩ : ∃ x, x = a.getD j 0 := ⟨_, rfl⟩
        obtain ⟨y, hy⟩ : ∃ y, y = b.getD j 0 := ⟨_, rfl⟩
        have hcj : wr.cell? ⟨ab, aoff + j, none⟩ = some (.int .i64 x) := by
          rw [hx, hB.cell (p := ⟨ab, aoff + j, none⟩) (World.block_lt_of_cell? _ _ (hca j hlt))]; exact hca j hlt
        have hdj : wr.cell? ⟨bb, boff + j, none⟩ = some (.int .i64 y) := by
          rw [hy, hB.cell (p := ⟨bb, boff + j, none⟩) (World.block_lt_of_cell? _ _ (hcb j hlt))]; exact hcb j hlt
        have HX := Lib.hid hx
        have HY := Lib.hid hy
        clear hx hy hca hcb ha hb
        have hjn : (j : Int) < (n : Int) := by omega
        by_cases hxy : x = y
        · subst hxy
          have hnx : (x != x) = false := by simp
          have hS' := Upto.next hS HX.out HY.out rfl (by rw [← HL.out]; exact hlt) (by rw [← HM.out]; exact hlt)
          go_wp2
          go_quiet (fail)
          go_wp2
          go_roundw
          case rel => exact ⟨j + 1, by omega, by go_num, hS', below_drewN hB _⟩
          case measure => simp [intOf]; omega
        · have hnx : (x != y) = true := by simpa using hxy
          have hab : a ≠ b := list_ne_of_getD HX.out HY.out hxy
          have Hab := Lib.hid hab
          clear hab hxy
          go_wp2
          go_quiet (fail)
          go_wp2
          go_ret
          exact ⟨ret_bool (by simp [Hab.out]), below_drewN hB _⟩
      · clear hca hcb ha hb
        go_wp2
        go_ret
        have e : a = b := by
          apply List.ext_getElem?
          intro t
          by_cases ht : t < n
          · exact hS t (by omega)
          · rw [List.getElem?_eq_none (by rw [← HL.out]; omega), List.getElem?_eq_none (by rw [← HM.out]; omega)]
        exact ⟨ret_bool (by simp [e]), hB⟩
  · have hne : ((n : Int) != (m : Int)) = true := by simp; omega
    have hab : a ≠ b := fun e => hnm (by rw [HL.out, HM.out, e])
    have Hab := Lib.hid hab
    clear hab hnm hca hcb ha hb
    go_enter Try.func14, Try.ntmps14
    go_wp2
    go_ret
    exact ⟨ret_bool (by simp [Hab.out]), Below.refl _ _⟩


theorem ints_same (v u : Value) (a : List Int) (w : World) (hv : IntsV w v a) (hu : IntsV w u a) : Calls Try.prog 14 #[v, u] w (GivesB w true) := by
  have := ints_c v u a a w hv hu
  rwa [decide_eq_true rfl] at this
theorem big_c (ao : Option Addr) (n c : Nat) (w : World) (hn : n ≤ 9223372036854775807) :
    Calls Try.prog 10 #[.slice ao n c] w fun e w' => e = .returned (.bool (decide (1048576 < n))) ∧ w = w' := by
  by_cases h : 1048576 < n
  · go_enter Try.func10, Try.ntmps10
    have hi : (1048576 : Int) < (n : Int) := by omega
    go_wp2
    go_ret
    exact ⟨ret_bool (by simp [h]), rfl⟩
  · go_enter Try.func10, Try.ntmps10
    have hi : ¬ (1048576 : Int) < (n : Int) := by omega
    go_wp2
    go_ret
    exact ⟨ret_bool (by simp), rfl⟩
theorem bytesR_of_trod {H : Type} {enc : TypeId × Value → H} {w : World} {base : Nat} {held : Bool} {fuel : Nat} {v : Value} {x : DataW H × List MemPlace}
    (h : DataW.trod enc Try.prog w base (fun _ => true) held fuel 22 [v] = some x) : ∃ a n c, v = .slice a n c ∧ BytesR w a n c ∧ n ≤ 9223372036854775807 := by
  rcases open_ints Try.underlying22 Try.underlying5 (by kernel_rfl) h with ⟨hcs, _⟩ | ⟨a, l, c, zs, hcs, _, hl, hm, hz, _, hcell, hwz⟩
  · exact ⟨none, 0, 0, by simpa using hcs, ⟨0, 0, fun h => absurd h (Nat.lt_irrefl _), fun j hj => absurd hj (Nat.not_lt_zero _)⟩, by decide⟩
  · refine ⟨some a, l, c, by simpa using hcs, ?_, by unfold maxLen at hm; omega⟩
    have hzl : zs.length = c := by simpa using hz
    by_cases h0 : 0 < l
    · obtain ⟨b, off, rfl, hc2⟩ := ints_at hcell (by omega)
      refine ⟨b, off, fun _ => rfl, fun j hj => ?_⟩
      have hj2 : j < zs.length := by omega
      have hw := hwz (zs.getD j 0) (List.mem_of_getElem? (by rw [List.getD_eq_getElem?_getD, List.getElem?_eq_getElem hj2]; rfl))
      simp [Lit.wf, IntKind.min, IntKind.max, IntKind.signed, IntKind.bits] at hw
      refine ⟨(zs.getD j 0).toNat, by simp at hw ⊢; omega, ?_⟩
      rw [hc2 j hj2]
      congr 2
      simp at hw ⊢
      omega
    · exact ⟨0, 0, fun h => absurd h h0, fun j hj => by omega⟩

theorem IntsV.shapeL {w : World} {v : Value} {l : List Int} (h : IntsV w v l) : ∃ ao n c, v = .slice ao n c := by
  obtain ⟨ao, b, off, c, rfl, _⟩ := h
  exact ⟨_, _, _, rfl⟩
theorem IntsV.lenEq {w : World} {ao : Option Addr} {n c : Nat} {l : List Int} (h : IntsV w (.slice ao n c) l) : n = l.length := by
  obtain ⟨ao', b, off, c', he, _⟩ := h
  simp at he
  exact he.2.1

end Go.Proofs.Ytfepepakellbbaa
