/-
  Contracts: ComposePerms, InversePerm.
-/
import Derived.Test.YtfepepakellbbaaPermI
namespace Go.Proofs.Ytfepepakellbbaa
open Go.RowKit
set_option linter.unusedVariables false

theorem take_succ_map {b : List Int} {j : Nat} {y : Int} (f : Int → Int) (hy : b[j]? = some y) : (b.take (j + 1)).map f = (b.take j).map f ++ [f y] := by
  rw [List.take_add_one, hy]; simp

/-- Behind u what v does: u[v[i]]. -/
def thenL (u v : List Int) : List Int := v.map (fun x => u.getD x.toNat 0)
/-- The first j of them. -/
def thenUp (u v : List Int) (j : Nat) : List Int := (v.take j).map (fun x => u.getD x.toNat 0)
theorem thenUp_len (u v : List Int) (j : Nat) : (thenUp u v j).length ≤ j := by simp [thenUp]; omega
theorem thenUp_zero (u v : List Int) : thenUp u v 0 = [] := by simp [thenUp]
theorem thenUp_succ {u v : List Int} {j t : Nat} {x : Int} (hy : v[j]? = some (t : Int)) (hx : x = u.getD t 0) : thenUp u v j ++ [x] = thenUp u v (j + 1) := by
  rw [hx]
  unfold thenUp
  rw [take_succ_map (fun x => u.getD x.toNat 0) hy]
  simp
theorem thenUp_all (u v : List Int) {j : Nat} (h : j = v.length) : thenUp u v j = thenL u v := by
  rw [thenUp, List.take_of_length_le (by omega)]; rfl
def composeL (u v : List Int) : List Int := if isPermB u = true ∧ isPermB v = true ∧ u.length = v.length then thenL u v else []

set_option maxHeartbeats 800000 in
theorem iCompose_c (u v : Value) (a b : List Int) (w : World) (hu : IntsV w u a) (hv : IntsV w v b) :
    Calls Try.prog 16 #[u, v] w (GivesI w (composeL a b)) := by
  obtain ⟨n, ao, ab, aoff, ac, rfl, HL, _, hcma, ha, hca, hna⟩ := hu.open
  obtain ⟨m, bo, bb, boff, bc, rfl, HM, _, hcmb, hb, hcb, hnb⟩ := hv.open
  clear hcma hcmb
  cases hpa : isPermB a with
  | false =>
    have hr : composeL a b = [] := by simp [composeL, hpa]
    have HR := Lib.hid hr
    clear hr hca hcb ha hb
    go_enter Try.func16, Try.ntmps16
    go_wp2_with fail
    refine (iIsPerm_c _ _ _ hu).mono ?_
    rintro e w1 ⟨rfl, b1⟩
    go_wp2_with fail
    go_ret
    rw [HR.out]
    exact ⟨_, rfl, OwnI.nil _ _, b1⟩
  | true =>
    cases hpb : isPermB b with
    | false =>
      have hr : composeL a b = [] := by simp [composeL, hpb]
      have HR := Lib.hid hr
      clear hr hca hcb ha hb
      go_enter Try.func16, Try.ntmps16
      go_wp2_with fail
      refine (iIsPerm_c _ _ _ hu).mono ?_
      rintro e w1 ⟨rfl, b1⟩
      go_wp2_with fail
      refine (iIsPerm_c _ _ _ (hv.kept b1)).mono ?_
      rintro e w2 ⟨rfl, b2⟩
      have F2 := below_step b1 b2 b1.size
      go_wp2_with fail
      go_ret
      rw [HR.out]
      exact ⟨_, rfl, OwnI.nil _ _, F2⟩
    | true =>
      by_cases hl : n = m
      · subst hl
        have hR := Lib.hid (inR_of_perm hpb)
        have hne : ((n : Int) != (n : Int)) = false := by simp
        have hr : composeL a b = thenL a b := by rw [composeL, if_pos ⟨hpa, hpb, by rw [← HL.out, ← HM.out]⟩]
        have HR := Lib.hid hr
        clear hr
        go_enter Try.func16, Try.ntmps16
        go_wp2_with fail
        refine (iIsPerm_c _ _ _ hu).mono ?_
        rintro e w1 ⟨rfl, b1⟩
        go_wp2_with fail
        refine (iIsPerm_c _ _ _ (hv.kept b1)).mono ?_
        rintro e w2 ⟨rfl, b2⟩
        have F2 := below_step b1 b2 b1.size
        clear b1 b2
        go_wp2_with fail
        go_loopw [5, 26] (fun v i wr => ∃ j : Nat, j ≤ n ∧ i = .int .i64 j ∧ OwnI w.heap.size wr v (thenUp a b j) ∧ Below w.heap.size w wr) (fun _ i _ => n - (intOf i).toNat)
        case atStart => exact ⟨0, Nat.zero_le _, rfl, (thenUp_zero a b).symm ▸ (OwnI.lit w2).mono F2.size, F2.alloc F2.size _⟩
        case round =>
          obtain ⟨j, hj, rfl, hO, hB⟩ := hrel
          by_cases hlt : j < n
          · have hY := Lib.hid (getElem?_of_getD (l := b) (j := j) rfl (by rw [← HM.out]; exact hlt))
            have hcj := (hB.cell (p := ⟨bb, boff + j, none⟩) (World.block_lt_of_cell? _ _ (hcb j hlt))).trans (hcb j hlt)
            obtain ⟨y, hy⟩ : ∃ y, y = b.getD j 0 := ⟨_, rfl⟩
            rw [← hy] at hcj hY
            obtain ⟨t, rfl, ht⟩ := hR.out.at hY.out
            rw [← HM.out] at ht
            have hct := (hB.cell (p := ⟨ab, aoff + t, none⟩) (World.block_lt_of_cell? _ _ (hca t ht))).trans (hca t ht)
            obtain ⟨x, hx⟩ : ∃ x, x = a.getD t 0 := ⟨_, rfl⟩
            rw [← hx] at hct
            have HX := Lib.hid hx
            obtain rfl := ha (by omega)
            obtain rfl := hb (by omega)
            have hlen : (thenUp a b j).length + 1 ≤ 1099511627776 := by have := thenUp_len a b j; omega
            have hsz := hB.size
            clear hca hcb ha hb hx hy
            go_wp2_with (at_builtin; refine wpList_push wr rfl _ _ rfl hO rfl rfl hlen hsz ?_)
            intro v' w3 hO' hb1 _ _
            have hB' := hB.trans hb1
            rw [thenUp_succ hY.out HX.out] at hO'
            clear hO hB
            go_wp2
            go_roundw
            case rel => exact ⟨j + 1, by omega, by go_num, hO', hB'⟩
            case measure => simp [intOf]; omega
          · clear hca hcb ha hb
            go_wp2
            go_ret
            rw [thenUp_all a b (by rw [← HM.out]; omega)] at hO
            exact ⟨_, rfl, by rw [HR.out]; exact hO, hB⟩
      · have hne : ((n : Int) != (m : Int)) = true := by simp; omega
        have hr : composeL a b = [] := by rw [composeL, if_neg]; rintro ⟨_, _, h⟩; exact hl (by rw [HL.out, HM.out, h])
        have HR := Lib.hid hr
        clear hr hl hca hcb ha hb
        go_enter Try.func16, Try.ntmps16
        go_wp2_with fail
        refine (iIsPerm_c _ _ _ hu).mono ?_
        rintro e w1 ⟨rfl, b1⟩
        go_wp2_with fail
        refine (iIsPerm_c _ _ _ (hv.kept b1)).mono ?_
        rintro e w2 ⟨rfl, b2⟩
        have F2 := below_step b1 b2 b1.size
        go_wp2_with fail
        go_ret
        rw [HR.out]
        exact ⟨_, rfl, OwnI.nil _ _, F2⟩

end Go.Proofs.Ytfepepakellbbaa
