/-
  l2Times: the products of terms as numbers.
-/
import Derived.Test.YtoioiippdchgmaaMonK
import Derived.Test.YtoioiippdchgmaaGath
import Derived.Test.YtoioiippdchgmaaTimes
import Derived.Test.YtoioiippdchgmaaPlusS
import Derived.Test.YtoioiippdchgmaaSwapS
namespace Go.Proofs.Ytoioiippdchgmaa
open Go.RowKit
set_option linter.unusedVariables false

def rowM (p : Int × Int) (l : MonL) : MonL := l.map (fun q => (p.1 + q.1, p.2 * q.2))
def prodM (a b : MonL) : MonL := a.flatMap (fun p => rowM p b)
def timM (a b : MonL) (i j : Nat) : MonL := prodM (a.take i) b ++ (match a[i]? with | some p => rowM p (b.take j) | none => [])
theorem timM_zero (a b : MonL) : timM a b 0 0 = [] := by
  unfold timM
  cases h : a[0]? <;> simp [prodM, rowM]
theorem timM_step {a b : MonL} {i j : Nat} {x c y d : Int} (hi : a[i]? = some (x, c)) (hj : b[j]? = some (y, d)) : timM a b i j ++ [(x + y, c * d)] = timM a b i (j + 1) := by
  unfold timM
  rw [hi]
  simp only [rowM]
  rw [List.take_add_one, hj, List.map_append, List.append_assoc]; rfl
theorem timM_next {a b : MonL} {i : Nat} {p : Int × Int} (hi : a[i]? = some p) : timM a b i b.length = timM a b (i + 1) 0 := by
  have h1 : timM a b (i + 1) 0 = prodM (a.take (i + 1)) b := by
    unfold timM
    cases h : a[i + 1]? <;> simp [rowM]
  rw [h1]
  unfold timM
  rw [hi]
  simp only [List.take_length]
  rw [List.take_add_one, hi]
  simp [prodM]
theorem timM_all (a b : MonL) : timM a b a.length 0 = prodM a b := by
  unfold timM
  rw [List.getElem?_eq_none (Nat.le_refl _), List.take_length, List.append_nil]
theorem prodM_len (a b : MonL) : (prodM a b).length = a.length * b.length := by
  induction a with
  | nil => simp [prodM]
  | cons p a ih =>
    have : prodM (p :: a) b = rowM p b ++ prodM a b := rfl
    rw [this, List.length_append, ih, rowM, List.length_map, List.length_cons, Nat.add_mul]; omega
theorem timM_len {a b : MonL} (ha : a.length ≤ 600) (hb : b.length ≤ 600) (i j : Nat) : (timM a b i j).length ≤ 360600 := by
  have h1 : (prodM (a.take i) b).length ≤ 360000 := by
    rw [prodM_len, List.length_take]
    exact Nat.mul_le_mul (show min i a.length ≤ 600 by omega) hb
  unfold timM
  rw [List.length_append]
  cases h : a[i]? with
  | none => simp; omega
  | some p => simp only [rowM, List.length_map, List.length_take]; omega
theorem prodM_coef {a b : MonL} (ha : SmallM a) (hb : SmallM b) : CoefM (prodM a b) := fun p hp => by
  obtain ⟨q, hq, hp⟩ := List.mem_flatMap.1 hp
  obtain ⟨r, hr, rfl⟩ := List.mem_map.1 hp
  exact mul_big (ha q hq) (hb r hr)

set_option maxHeartbeats 3200000 in
theorem l2Times_c (B1 B2 : Nat) (va vb : Value) (la lb : MonL) (w : World) (ha : OwnM B1 w va la) (hb : OwnM B2 w vb lb) (hA : SmallM la) (hBm : SmallM lb) (hKA : KeyM la) (hKB : KeyM lb)
    (hla : la.length ≤ 600) (hlb : lb.length ≤ 600) : Calls Try.prog 34 #[va, vb] w (GivesM w (gatM (prodM la lb))) := by
  obtain ⟨n, hn⟩ : ∃ n, la.length = n := ⟨_, rfl⟩
  obtain ⟨m, hm⟩ : ∃ m, lb.length = m := ⟨_, rfl⟩
  obtain ⟨ao, ac, hav, hac, hacm, hane⟩ := ha.shape
  obtain ⟨bo, bc, hbv, hbc, hbm, hbne⟩ := hb.shape
  have HN := Lib.hid hn
  have HM := Lib.hid hm
  have HPC := Lib.hid (prodM_coef hA hBm)
  have HPL := Lib.hid (fun i j => timM_len hla hlb i j)
  have HAM := Lib.hid hA
  have HBM := Lib.hid hBm
  have HKA := Lib.hid hKA
  have HKB := Lib.hid hKB
  rw [hn] at hav hla
  rw [hm] at hbv hlb
  subst hav hbv
  have hnm : n * m ≤ 360000 := Nat.mul_le_mul hla hlb
  have hmul : ((n : Int) * (m : Int)) = ((n * m : Nat) : Int) := by push_cast; rfl
  have hwm : IntKind.i64.wrap ((n : Int) * (m : Int)) = (n : Int) * (m : Int) := IntWalk.i64_in _ (by rw [hmul]; omega)
  have HMUL := Lib.hid hmul
  clear hn hm hA hBm hKA hKB hac hacm hbc hbm hmul
  go_enter Try.func34, Try.ntmps34
  go_wp2_with (at_make; refine wpList_makeM _ rfl _ _ rfl (n * m) rfl rfl HMUL.out (by omega) ?_)
  intro w1 h1 b1
  have h1' : OwnM w.heap.size w1 (.slice (some ⟨w.heap.size, 0, none⟩) 0 (n * m)) (timM la lb 0 0) := by rw [timM_zero]; exact h1
  clear h1 hwm
  go_wp2_with fail
  go_loopw [5, 6] (fun ov iv wr => ∃ (i : Nat), i ≤ n ∧ iv = .int .i64 i ∧ OwnM w.heap.size wr ov (timM la lb i 0) ∧ Below w.heap.size w wr) (fun _ iv _ => n - (intOf iv).toNat)
  case atStart => exact ⟨0, Nat.zero_le _, rfl, h1', b1⟩
  case round =>
    obtain ⟨i, hi, rfl, hO, hB⟩ := hrel
    clear h1' b1
    by_cases hilt : i < n
    · obtain ⟨ga, rfl⟩ := hane (fun e => by have := HN.out; rw [e] at this; simp at this; omega)
      clear hane
      obtain ⟨y, hy⟩ : ∃ y, la[i]? = some y := ⟨_, List.getElem?_eq_getElem (by rw [HN.out]; exact hilt)⟩
      obtain ⟨x, c⟩ := y
      have HY := Lib.hid hy
      have a1 := ha.cell0 hy
      have a2 := ha.cell1 hy
      simp only [mf0, mf1] at a1 a2
      have HA1 := Lib.hid a1
      have HA2 := Lib.hid a2
      have hkx := HKA.out _ (List.mem_of_getElem? hy)
      have hcx := HAM.out _ (List.mem_of_getElem? hy)
      simp only at hkx hcx
      have hi0 : (0 : Int) ≤ (i : Int) := Int.natCast_nonneg _
      have hi1 : (i : Int) < (n : Int) := by omega
      have HKX := Lib.hid hkx
      have HCX := Lib.hid hcx
      clear hy a1 a2 hkx hcx
      go_wp2_with fail
      go_loopw [5, 7] (fun ov jv wr => ∃ (j : Nat), j ≤ m ∧ jv = .int .i64 j ∧ OwnM w.heap.size wr ov (timM la lb i j) ∧ Below w.heap.size w wr) (fun _ jv _ => m - (intOf jv).toNat)
      case atStart => exact ⟨0, Nat.zero_le _, rfl, hO, hB⟩
      case round =>
        obtain ⟨j, hj, rfl, hOj, hBj⟩ := hrel
        clear hO hB
        by_cases hjlt : j < m
        · obtain ⟨gb, rfl⟩ := hbne (fun e => by have := HM.out; rw [e] at this; simp at this; omega)
          clear hbne
          obtain ⟨z, hz⟩ : ∃ z, lb[j]? = some z := ⟨_, List.getElem?_eq_getElem (by rw [HM.out]; exact hjlt)⟩
          obtain ⟨y, d⟩ := z
          have b1 := hb.cell0 hz
          have b2 := hb.cell1 hz
          simp only [mf0, mf1] at b1 b2
          have k1 := (hBj.cell (World.block_lt_of_cell? _ _ HA1.out)).trans HA1.out
          have k2 := (hBj.cell (World.block_lt_of_cell? _ _ HA2.out)).trans HA2.out
          have k3 := (hBj.cell (World.block_lt_of_cell? _ _ b1)).trans b1
          have k4 := (hBj.cell (World.block_lt_of_cell? _ _ b2)).trans b2
          have hna := hOj.ne ga (World.block_lt_of_cell? _ _ HA1.out)
          have hnb := hOj.ne gb (World.block_lt_of_cell? _ _ b1)
          have HT := Lib.hid (timM_step HY.out hz)
          have hky := HKB.out _ (List.mem_of_getElem? hz)
          have hcy := HBM.out _ (List.mem_of_getElem? hz)
          simp only at hky hcy
          have hmm := mul_big HCX.out hcy
          have hw1 : IntKind.i64.wrap (x + y) = x + y := IntWalk.i64_in _ (by have := HKX.out; omega)
          have hw2 : IntKind.i64.wrap (c * d) = c * d := IntWalk.i64_in _ (by omega)
          have hj0 : (0 : Int) ≤ (j : Int) := Int.natCast_nonneg _
          have hj1 : (j : Int) < (m : Int) := by omega
          have hOD := hOj.kept (below_drewT (Below.refl _ _))
          have hsz := hBj.size
          have HLEN := Lib.hid (show (timM la lb i j).length + 1 ≤ 1099511627776 by have := HPL.out i j; omega)
          clear b1 b2 hz hky hcy hmm
          go_wp2_with fail
          go_region_held3 (fun w' => Below w.heap.size w w' ∧ w'.cell? ⟨ga, i * 2, none⟩ = some (.int .i64 x) ∧ w'.cell? ⟨ga, i * 2 + 1, none⟩ = some (.int .i64 c) ∧ w'.cell? ⟨gb, j * 2, none⟩ = some (.int .i64 y) ∧ w'.cell? ⟨gb, j * 2 + 1, none⟩ = some (.int .i64 d))
            (first
              | exact k4_drew hBj k1 k2 k3 k4
              | exact k4_push b3 hk3 (by assumption) hna hna hnb hnb
              | exact k4_alloc _ (by assumption) (Nat.le_refl _)
              | assumption)
            (first
              | (refine step_pushM (by rfl) _ _ (by rfl) hOD (Below.refl _ _) hsz (by rfl) (by rfl) HLEN.out ?_; intro v3 w3 o3 b3 hk3))
          all_goals
            have FF := k4_below (p := ⟨ga, i * 2, none⟩) (q := ⟨ga, i * 2 + 1, none⟩) (r := ⟨gb, j * 2, none⟩) (s := ⟨gb, j * 2 + 1, none⟩) (x := .int .i64 x) (y := .int .i64 c) (z := .int .i64 y) (u := .int .i64 d) (B := w.heap.size) (w := w) (W := w3) (by assumption)
            go_wp2_with fail
            go_roundw
            case rel => exact ⟨j + 1, by omega, by go_num, by rw [← HT.out]; exact o3, FF⟩
            case measure => simp [intOf]; omega
        · obtain rfl : j = m := by omega
          have HNX := Lib.hid (timM_next (b := lb) HY.out)
          rw [show timM la lb i j = timM la lb (i + 1) 0 by rw [← HNX.out, HM.out]] at hOj
          have hOn := hOj
          clear hOj
          go_wp2_with fail
          go_roundw
          case rel => exact ⟨i + 1, by omega, by go_num, hOn, hBj⟩
          case measure => simp [intOf]; omega
    · obtain rfl : i = n := by omega
      have HEQ := Lib.hid (show timM la lb i 0 = prodM la lb by rw [← HN.out, timM_all])
      have hN4 : (prodM la lb).length ≤ 400000 := by have := HPL.out i 0; rw [HEQ.out] at this; omega
      rw [HEQ.out] at hO
      have hsz := hB.size
      go_wp2_with fail
      refine (l2Gather_c _ _ _ _ hO HPC.out hN4).mono ?_
      rintro e w2 ⟨r, rfl, o2, b2⟩
      go_wp2_with fail
      go_ret
      exact ⟨_, rfl, o2.mono hsz, hB.trans (b2.mono hsz)⟩

end Go.Proofs.Ytoioiippdchgmaa
