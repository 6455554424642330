/-
  l2Open: a list of terms as numbers.
-/
import Derived.Test.YtoioiippdchgmaaMonK
import Derived.Test.YtoioiippdchgmaaMonP
import Derived.Test.YtoioiippdchgmaaPoly
namespace Go.Proofs.Ytoioiippdchgmaa
open Go.RowKit
set_option linter.unusedVariables false

theorem mon_take {ts : TermL} {j : Nat} {e : List Int} {d : Int} (h : ts[j]? = some (e, d)) : (ts.take (j + 1)).map mon = (ts.take j).map mon ++ [(keyOf e, d)] := by
  rw [List.take_add_one, h, List.map_append]; rfl

set_option maxHeartbeats 1600000 in
theorem l2Open_c (v : Value) (ts : TermL) (w : World) (hv : TermsV w v ts) (hP : polyB ts = true) :
    Calls Try.prog 25 #[v] w (GivesM w (ts.map mon)) := by
  obtain ⟨n, ao, b, c, rfl, HL, hnc, hcm, ha, hc, hn⟩ := hv.open
  have HC := Lib.hid hc
  have HPO := Lib.hid (polyB_iff.1 hP).2
  have hn6 : n ≤ 600 := by rw [HL.out]; exact (polyB_iff.1 hP).1
  have hO0 : OwnM w.heap.size (w.alloc (.cells #[] 66)) (.slice (some ⟨w.heap.size, 0, none⟩) 0 0) ((ts.take 0).map mon) := OwnM.lit _
  have hB0 : Below w.heap.size w (w.alloc (.cells #[] 66)) := (Below.refl _ _).alloc (Nat.le_refl _) _
  clear hc hcm hP hv
  go_enter Try.func25, Try.ntmps25
  go_wp2_with fail
  go_loopw [3, 4] (fun ov iv wr => ∃ (j : Nat), j ≤ n ∧ iv = .int .i64 j ∧ OwnM w.heap.size wr ov ((ts.take j).map mon) ∧ Below w.heap.size w wr) (fun _ iv _ => n - (intOf iv).toNat)
  case atStart => exact ⟨0, Nat.zero_le _, rfl, hO0, hB0⟩
  case round =>
    obtain ⟨j, hj, rfl, hO, hB⟩ := hrel
    clear hO0 hB0
    by_cases hlt : j < n
    · obtain rfl := ha (by omega)
      obtain ⟨x, hx⟩ : ∃ x, ts[j]? = some x := ⟨_, List.getElem?_eq_getElem (by rw [← HL.out]; exact hlt)⟩
      obtain ⟨e, d⟩ := x
      obtain ⟨q, h1, h2, hq⟩ := HC.out j e d hx
      have k1 := (hB.cell (World.block_lt_of_cell? _ _ h1)).trans h1
      have k2 := (hB.cell (World.block_lt_of_cell? _ _ h2)).trans h2
      have HT := Lib.hid (mon_take hx)
      have hok := (HPO.out j (by rw [← HL.out]; exact hlt) e d hx).1
      have hE := ExpTo.exps hok
      have h7 : e.length ≤ 7 := by rw [hok.1]; exact Nat.le_refl _
      have hne := hO.ne b (World.block_lt_of_cell? _ _ h1)
      obtain ⟨qo, qn, qc, rfl⟩ := hq.shape
      have hj0 : (0 : Int) ≤ (j : Int) := Int.natCast_nonneg _
      have hj1 : (j : Int) < (n : Int) := by omega
      have hOD := hO.kept (below_drewT (Below.refl _ _))
      have hsz := hB.size
      have HLEN := Lib.hid (show ((ts.take j).map mon).length + 1 ≤ 1099511627776 by rw [List.length_map, List.length_take]; omega)
      have HK := Lib.hid (fun W (hb : Below w.heap.size w W) => l2Key_c _ e W (hq.kept hb) h7 hE)
      obtain ⟨kk, hkk⟩ : ∃ kk, kk = keyOf e := ⟨_, rfl⟩
      rw [← hkk] at HT HK
      clear h1 h2 hx hok hE h7 hkk hq
      go_wp2_with fail
      go_region_held3 (fun w' => Below w.heap.size w w' ∧ w'.cell? ⟨b, j * 2, none⟩ = some (.slice qo qn qc) ∧ w'.cell? ⟨b, j * 2 + 1, none⟩ = some (.int .i64 d))
        (first
          | exact kb2_drew hB k1 k2
          | exact kb2_push b3 hk3 (by assumption) hne hne
          | exact kb2_alloc _ (by assumption) (Nat.le_refl _)
          | assumption)
        (first
          | (refine step_pushM (by rfl) _ _ (by rfl) hOD (Below.refl _ _) hsz (by rfl) (by rfl) HLEN.out ?_; intro v3 w3 o3 b3 hk3)
          | (go_at_call 44; refine (HK.out _ (kb2_below (p := ⟨b, j * 2, none⟩) (q := ⟨b, j * 2 + 1, none⟩) (x := .slice qo qn qc) (y := .int .i64 d) (by assumption))).mono ?_; rintro e1 w1 ⟨rfl, rfl⟩))
      all_goals
        have FF := kb2_below (p := ⟨b, j * 2, none⟩) (q := ⟨b, j * 2 + 1, none⟩) (x := .slice qo qn qc) (y := .int .i64 d) (B := w.heap.size) (w := w) (W := w3) (by assumption)
        go_wp2_with fail
        go_roundw
        case rel => exact ⟨j + 1, by omega, by go_num, by rw [HT.out]; exact o3, FF⟩
        case measure => simp [intOf]; omega
    · obtain rfl : j = n := by omega
      go_wp2_with fail
      go_ret
      rw [HL.out, List.take_length] at hO
      exact ⟨_, rfl, hO, hB⟩

end Go.Proofs.Ytoioiippdchgmaa
