/-
  l2Shut: terms given back from numbers.
-/
import Derived.Test.YtoioiippdchgmaaMonK
import Derived.Test.YtoioiippdchgmaaSwapS
import Derived.Test.YtoioiippdchgmaaMonP
import Derived.Test.YtoioiippdchgmaaClosed
namespace Go.Proofs.Ytoioiippdchgmaa
open Go.RowKit
set_option linter.unusedVariables false

theorem unmon_take {l : MonL} {j : Nat} {k d : Int} (h : l[j]? = some (k, d)) : (l.take j).map unmon ++ [(digits 7 k, d)] = (l.take (j + 1)).map unmon := by
  rw [List.take_add_one, h, List.map_append]; rfl
theorem tLen_unmon : ∀ (l : MonL), tLen (l.map unmon) = 8 * l.length
  | [] => rfl
  | p :: l => by
    have h := tLen_unmon l
    have h1 : (unmon p).1.length = 7 := digits_len 7 p.1
    simp only [List.map_cons, tLen, List.length_cons, h, h1]; omega

set_option maxHeartbeats 3200000 in
theorem l2Shut_c (B : Nat) (v : Value) (l : MonL) (w : World) (hv : OwnM B w v l) (hK : KeyM l) :
    Calls Try.prog 23 #[v] w (GivesTB w (shutL (l.map unmon)) (polyB (l.map unmon))) := by
  obtain ⟨n, hn⟩ : ∃ n, l.length = n := ⟨_, rfl⟩
  obtain ⟨bo, bc, hbv, hbc, hbm, hbne⟩ := hv.shape
  have HN := Lib.hid hn
  have HK := Lib.hid hK
  rw [hn] at hbv
  subst hbv
  clear hK hbc hbm
  by_cases hbig : 600 < n
  · have hP : polyB (l.map unmon) = false := polyB_big (by rw [List.length_map, hn]; exact hbig)
    have HR := Lib.hid (show shutL (l.map unmon) = [] by unfold shutL; rw [hP]; rfl)
    have hd : (600 : Int) < (n : Int) := by omega
    clear hn
    go_enter Try.func23, Try.ntmps23
    go_wp2_with fail
    go_ret2
    rw [HR.out, hP]
    exact ⟨_, rfl, OwnP.nil _ _, Below.refl _ _⟩
  · have hd : ¬ ((600 : Int) < (n : Int)) := by omega
    have hO0 : OwnP w.heap.size (w.alloc (Obj.cells #[] 46)) (.slice (some ⟨w.heap.size, 0, none⟩) 0 0) ((l.take 0).map unmon) := OwnP.lit _
    have hB0 : Below w.heap.size w (w.alloc (Obj.cells #[] 46)) := (Below.refl _ _).alloc (Nat.le_refl _) _
    clear hn
    go_enter Try.func23, Try.ntmps23
    go_wp2_with fail
    go_loopw [4, 5] (fun ov iv wr => ∃ (j : Nat), j ≤ n ∧ iv = .int .i64 j ∧ OwnP w.heap.size wr ov ((l.take j).map unmon) ∧ Below w.heap.size w wr) (fun _ iv _ => n - (intOf iv).toNat)
    case atStart => exact ⟨0, Nat.zero_le _, rfl, hO0, hB0⟩
    case round =>
      obtain ⟨j, hj, rfl, hO, hB⟩ := hrel
      clear hO0 hB0
      by_cases hlt : j < n
      · obtain ⟨g, rfl⟩ := hbne (fun e => by have := HN.out; rw [e] at this; simp at this; omega)
        obtain ⟨y, hy⟩ : ∃ y, l[j]? = some y := ⟨_, List.getElem?_eq_getElem (by rw [HN.out]; exact hlt)⟩
        obtain ⟨x, d⟩ := y
        have h1 := hv.cell0 hy
        have h2 := hv.cell1 hy
        have k1 := (hB.cell (World.block_lt_of_cell? _ _ h1)).trans h1
        have k2 := (hB.cell (World.block_lt_of_cell? _ _ h2)).trans h2
        simp only [mf0, mf1] at k1 k2
        have hne := hO.ne g (.inl (World.block_lt_of_cell? _ _ h1))
        have HT := Lib.hid (unmon_take hy)
        have hkx := HK.out _ (List.mem_of_getElem? hy)
        simp only at hkx
        have HCL := Lib.hid (fun W => l2Exp_c x W hkx.1 hkx.2)
        have hj0 : (0 : Int) ≤ (j : Int) := Int.natCast_nonneg _
        have hj1 : (j : Int) < (n : Int) := by omega
        have hOD := hO.kept (below_drewT (Below.refl _ _))
        have hsz := hB.size
        obtain ⟨z, hz⟩ : ∃ z, z = digits 7 x := ⟨_, rfl⟩
        rw [← hz] at HT HCL
        have HLEN := Lib.hid (show tLen ((l.take j).map unmon ++ [(z, d)]) ≤ 1099511627776 by rw [HT.out, tLen_unmon, List.length_take]; omega)
        clear h1 h2 hy hkx hbne hz
        go_wp2_with fail
        go_region_held3 (fun w' => Below w.heap.size w w' ∧ w'.cell? ⟨g, j * 2, none⟩ = some (.int .i64 x) ∧ w'.cell? ⟨g, j * 2 + 1, none⟩ = some (.int .i64 d))
          (first
            | exact keep2_drew hB k1 k2
            | exact keep2_call b1 (by assumption) (Nat.le_refl _)
            | exact keep2_push b3 hk3 (by assumption) hne hne
            | exact keep2_alloc _ (by assumption) (Nat.le_refl _))
          (first
            | (refine step_pushT (by rfl) _ _ (by rfl) hOD b1 o1 hsz (by rfl) (by rfl) HLEN.out ?_; intro v3 w3 o3 b3 hk3)
            | (go_at_call 45; refine (HCL.out _).mono ?_; rintro e1 w1 ⟨r, rfl, o1, b1⟩; obtain ⟨ro, rn, rc, rfl⟩ := o1.ints.shape))
        all_goals
          have FF := held2_below (p := ⟨g, j * 2, none⟩) (q := ⟨g, j * 2 + 1, none⟩) (x := .int .i64 x) (y := .int .i64 d) (B := w.heap.size) (w := w) (W := w3) (by assumption)
          go_wp2_with fail
          go_roundw
          case rel => exact ⟨j + 1, by omega, by go_num, by rw [← HT.out]; exact o3, FF⟩
          case measure => simp [intOf]; omega
      · obtain rfl : j = n := by omega
        have HEQ := Lib.hid (show l.take j = l by rw [← HN.out, List.take_length])
        rw [HEQ.out] at hO
        have hsz := hB.size
        generalize l.map unmon = G at *
        go_wp2_with fail
        refine (sPolyOk_c _ _ _ hO.terms).mono ?_
        rintro e w6 ⟨rfl, b6⟩
        have hat6 := hO.kept b6
        have hb6 := below_step hB b6 hsz
        cases hP : polyB G with
        | false =>
          have HR := Lib.hid (show shutL G = [] by unfold shutL; rw [hP]; rfl)
          go_wp2_with fail
          go_ret2
          rw [HR.out]
          refine ⟨.slice none 0 0, ?_, OwnP.nil _ _, hb6⟩
          first | rfl | simp [Array.getD, hP]
        | true =>
          have HR := Lib.hid (show shutL G = G by unfold shutL; rw [hP]; rfl)
          go_wp2_with fail
          go_ret2
          rw [HR.out]
          refine ⟨_, ?_, hat6, hb6⟩
          first | rfl | simp [Array.getD, hP]

end Go.Proofs.Ytoioiippdchgmaa
