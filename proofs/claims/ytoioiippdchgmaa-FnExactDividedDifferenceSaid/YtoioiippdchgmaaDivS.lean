/-
  l2Divided: the divided difference of terms as numbers.
-/
import Derived.Test.YtoioiippdchgmaaMonK
import Derived.Test.YtoioiippdchgmaaGath
import Derived.Test.YtoioiippdchgmaaAtK
import Derived.Test.YtoioiippdchgmaaPlusS
import Derived.Test.YtoioiippdchgmaaSwapS
namespace Go.Proofs.Ytoioiippdchgmaa
open Go.RowKit
set_option linter.unusedVariables false

def restK (k : Int) (i : Nat) : Int := k - atK k i * unitK i - atK k (i + 1) * unitK (i + 1)
def divN (a b : Int) : Nat := (a - b).natAbs
def lowOf (a b : Int) : Int := if b < a then b else a
def divC (a b d : Int) : Int := if a < b then 0 - d else d
def divT (i : Nat) (rest low : Int) (n : Nat) (c : Int) (j : Nat) : Int × Int := (rest + (low + n - 1 - j) * unitK i + (low + j) * unitK (i + 1), c)
def divK (i : Nat) (p : Int × Int) (j : Nat) : MonL :=
  (List.range j).map (divT i (restK p.1 i) (lowOf (atK p.1 i) (atK p.1 (i + 1))) (divN (atK p.1 i) (atK p.1 (i + 1))) (divC (atK p.1 i) (atK p.1 (i + 1)) p.2))
def divM (i : Nat) (p : Int × Int) : MonL := divK i p (divN (atK p.1 i) (atK p.1 (i + 1)))
def divAll (i : Nat) (l : MonL) : MonL := l.flatMap (divM i)
def dvM (i : Nat) (l : MonL) (k j : Nat) : MonL := divAll i (l.take k) ++ (match l[k]? with | some p => divK i p j | none => [])
theorem dvM_zero (i : Nat) (l : MonL) : dvM i l 0 0 = [] := by
  unfold dvM
  cases h : l[0]? <;> simp [divAll, divK]
theorem dvM_step {i k j : Nat} {l : MonL} {x d : Int} (h : l[k]? = some (x, d)) :
    dvM i l k j ++ [divT i (restK x i) (lowOf (atK x i) (atK x (i + 1))) (divN (atK x i) (atK x (i + 1))) (divC (atK x i) (atK x (i + 1)) d) j] = dvM i l k (j + 1) := by
  unfold dvM
  rw [h]
  simp only [divK]
  rw [List.range_succ, List.map_append, List.append_assoc]; rfl
theorem dvM_next {i k : Nat} {l : MonL} {x d : Int} (h : l[k]? = some (x, d)) : dvM i l k (divN (atK x i) (atK x (i + 1))) = dvM i l (k + 1) 0 := by
  have h1 : dvM i l (k + 1) 0 = divAll i (l.take (k + 1)) := by
    unfold dvM
    cases h : l[k + 1]? <;> simp [divK]
  rw [h1]
  unfold dvM
  rw [h, List.take_add_one, h]
  simp [divAll, divM]
theorem dvM_all (i : Nat) (l : MonL) : dvM i l l.length 0 = divAll i l := by
  unfold dvM
  rw [List.getElem?_eq_none (Nat.le_refl _), List.take_length, List.append_nil]
theorem divN_le (k : Int) (i : Nat) : divN (atK k i) (atK k (i + 1)) ≤ 127 := by
  have h1 := atK_bnd (k := k) i
  have h2 := atK_bnd (k := k) (i + 1)
  unfold divN; omega
theorem divAll_len (i : Nat) (l : MonL) : (divAll i l).length ≤ 127 * l.length := by
  induction l with
  | nil => simp [divAll]
  | cons p l ih =>
    have : divAll i (p :: l) = divM i p ++ divAll i l := rfl
    have h1 : (divM i p).length ≤ 127 := by
      simp only [divM, divK, List.length_map, List.length_range]
      exact divN_le _ _
    rw [this, List.length_append, List.length_cons]; omega
theorem dvM_len {i : Nat} {l : MonL} (hl : l.length ≤ 600) (k j : Nat) (hj : j ≤ 127) : (dvM i l k j).length ≤ 80000 := by
  have h1 := divAll_len i (l.take k)
  rw [List.length_take] at h1
  unfold dvM
  rw [List.length_append]
  cases h : l[k]? with
  | none => simp; omega
  | some p => simp only [divK, List.length_map, List.length_range]; omega
theorem divAll_coef {i : Nat} {l : MonL} (h : SmallM l) : CoefM (divAll i l) := fun p hp => by
  obtain ⟨q, hq, hp⟩ := List.mem_flatMap.1 hp
  obtain ⟨j, hj, rfl⟩ := List.mem_map.1 hp
  have := h q hq
  show -1000000000000 ≤ divC (atK q.1 i) (atK q.1 (i + 1)) q.2 ∧ divC (atK q.1 i) (atK q.1 (i + 1)) q.2 ≤ 1000000000000
  unfold divC
  split <;> omega

set_option maxRecDepth 100000 in
set_option maxHeartbeats 3200000 in
theorem l2Divided_c (B : Nat) (v : Value) (l : MonL) (i : Nat) (w : World) (hv : OwnM B w v l) (hS : SmallM l) (hK : KeyM l) (hi : i ≤ 5) (hl : l.length ≤ 600) :
    Calls Try.prog 40 #[v, .int .i64 (i : Int)] w (GivesM w (gatM (divAll i l))) := by
  obtain ⟨N, hn⟩ : ∃ n, l.length = n := ⟨_, rfl⟩
  obtain ⟨bo, bc, hbv, hbc, hbm, hbne⟩ := hv.shape
  have HN := Lib.hid hn
  have HC := Lib.hid (divAll_coef (i := i) hS)
  have HSM := Lib.hid hS
  have HK := Lib.hid hK
  have HDL := Lib.hid (fun k j (hj : j ≤ 127) => dvM_len (i := i) hl k j hj)
  rw [hn] at hbv hl
  subst hbv
  have hO0 : OwnM w.heap.size (w.alloc (.cells #[] 66)) (.slice (some ⟨w.heap.size, 0, none⟩) 0 0) (dvM i l 0 0) := by rw [dvM_zero]; exact OwnM.lit _
  have hB0 : Below w.heap.size w (w.alloc (.cells #[] 66)) := (Below.refl _ _).alloc (Nat.le_refl _) _
  clear hn hS hK hbc hbm
  go_enter Try.func40, Try.ntmps40
  go_wp2_with fail
  go_loopw [5, 6] (fun ov iv wr => ∃ (k : Nat), k ≤ N ∧ iv = .int .i64 k ∧ OwnM w.heap.size wr ov (dvM i l k 0) ∧ Below w.heap.size w wr) (fun _ iv _ => N - (intOf iv).toNat)
  case atStart => exact ⟨0, Nat.zero_le _, rfl, hO0, hB0⟩
  case round =>
    obtain ⟨k, hk, rfl, hO, hB⟩ := hrel
    clear hO0 hB0
    by_cases hlt : k < N
    · obtain ⟨g, rfl⟩ := hbne (fun e => by have := HN.out; rw [e] at this; simp at this; omega)
      obtain ⟨y, hy⟩ : ∃ y, l[k]? = some y := ⟨_, List.getElem?_eq_getElem (by rw [HN.out]; exact hlt)⟩
      obtain ⟨x, d⟩ := y
      have h1 := hv.cell0 hy
      have h2 := hv.cell1 hy
      have k1 := (hB.cell (World.block_lt_of_cell? _ _ h1)).trans h1
      have k2 := (hB.cell (World.block_lt_of_cell? _ _ h2)).trans h2
      simp only [mf0, mf1] at k1 k2
      have HT := Lib.hid (fun j => dvM_step (i := i) (j := j) hy)
      have HNX := Lib.hid (dvM_next (i := i) hy)
      have hkx := HK.out _ (List.mem_of_getElem? hy)
      have hsd := HSM.out _ (List.mem_of_getElem? hy)
      simp only at hkx hsd
      have HNL := Lib.hid (divN_le x i)
      have HRS := Lib.hid (show restK x i = x - atK x i * unitK i - atK x (i + 1) * unitK (i + 1) from rfl)
      have ba := atK_bnd (k := x) i
      have bb := atK_bnd (k := x) (i + 1)
      have bu := unitK_bnd (i := i) (by omega)
      have bv := unitK_bnd (i := i + 1) (by omega)
      simp only [divT] at HT
      obtain ⟨a, ha⟩ : ∃ a, a = atK x i := ⟨_, rfl⟩
      obtain ⟨b, hb⟩ : ∃ b, b = atK x (i + 1) := ⟨_, rfl⟩
      obtain ⟨u, hu⟩ : ∃ u, u = unitK i := ⟨_, rfl⟩
      obtain ⟨z, hz⟩ : ∃ z, z = unitK (i + 1) := ⟨_, rfl⟩
      obtain ⟨rest, hr⟩ : ∃ r, r = restK x i := ⟨_, rfl⟩
      have HA := Lib.hid ha
      have HB := Lib.hid hb
      have HU := Lib.hid hu
      have HV := Lib.hid hz
      rw [← ha, ← hb, ← hu, ← hz, ← hr] at HRS
      rw [← ha] at ba
      rw [← hb] at bb
      rw [← hu] at bu
      rw [← hz] at bv
      rw [← ha, ← hb] at HNX HNL
      rw [← ha, ← hb, ← hu, ← hz, ← hr] at HT
      have m1 := mul_unit (d := a) (u := u) (by omega) bu
      have m2 := mul_unit (d := b) (u := z) (by omega) bv
      have hj0 : (0 : Int) ≤ (k : Int) := Int.natCast_nonneg _
      have hj1 : (k : Int) < (N : Int) := by omega
      have w1 : IntKind.i64.wrap (a - b) = a - b := IntWalk.i64_in _ (by omega)
      have w3 : IntKind.i64.wrap (a * u) = a * u := IntWalk.i64_in _ (by omega)
      have w4 : IntKind.i64.wrap (b * z) = b * z := IntWalk.i64_in _ (by omega)
      have w5 : IntKind.i64.wrap (x - a * u) = x - a * u := IntWalk.i64_in _ (by omega)
      have w6 : IntKind.i64.wrap (x - a * u - b * z) = rest := (IntWalk.i64_in _ (by omega)).trans HRS.out.symm
      have hrb : -2000000000000000 ≤ rest ∧ rest ≤ 2000000000000000 := by have := HRS.out; omega
      have HRB := Lib.hid hrb
      have HBU := Lib.hid bu
      have HBV := Lib.hid bv
      have HCU := Lib.hid (fun W => l2UnitX_c (i : Int) i W rfl (by omega))
      have HCV := Lib.hid (fun W => l2UnitX_c ((i : Int) + 1) (i + 1) W (by omega) (by omega))
      rw [← hu] at HCU
      rw [← hz] at HCV
      clear h1 h2 hy hbne ha hb hu hz hr m1 m2 hrb bu bv
      by_cases hab : a < b
      · have hmin : (if b < a then b else a) = a := by rw [if_neg (by omega)]
        obtain ⟨n, hn⟩ : ∃ n : Nat, (n : Int) = b - a := ⟨(b - a).toNat, by omega⟩
        have HNN := Lib.hid (show divN a b = n by unfold divN; omega)
        have HLO := Lib.hid (show lowOf a b = a by unfold lowOf; rw [if_neg (by omega)])
        have HCO := Lib.hid (show divC a b d = -d by unfold divC; rw [if_pos hab]; omega)
        have hneg : a - b < 0 := by omega
        have w7 : IntKind.i64.wrap (-(a - b)) = (n : Int) := (IntWalk.i64_in _ (by omega)).trans (by omega)
        have w7' : IntKind.i64.wrap (0 - (a - b)) = (n : Int) := (IntWalk.i64_in _ (by omega)).trans (by omega)
        have w7'' : IntKind.i64.wrap (b - a) = (n : Int) := (IntWalk.i64_in _ (by omega)).trans (by omega)
        have w8 : IntKind.i64.wrap (-d) = -d := IntWalk.i64_in _ (by omega)
        have hn127 : n ≤ 127 := by omega
        have hln : 0 ≤ a ∧ a + (n : Int) ≤ 127 := by omega
        rw [HNN.out] at HNX
        simp only [HNN.out, HLO.out, HCO.out] at HT
        have HHN := Lib.hid hn
        go_wp2_with fail
        refine (l2AtX_c x _ i _ rfl hkx.1 hkx.2 (by omega)).mono ?_
        rw [← HA.out]
        rintro e w1 ⟨rfl, rfl⟩
        go_wp2_with fail
        refine (l2AtX_c x _ (i + 1) _ (by omega) hkx.1 hkx.2 (by omega)).mono ?_
        rw [← HB.out]
        rintro e w1 ⟨rfl, rfl⟩
        go_wp2_with fail
        go_quiet ((go_at_call 55; first | exact quiet_back (HCU.out _) | exact quiet_back (HCV.out _)))
        have hO6 := hO.kept (below_drewN (Below.refl wr.heap.size wr) nq)
        have FF := below_drewN hB nq
        have k26 : (wr.drewN nq).cell? ⟨g, k * 2 + 1, none⟩ = some (.int .i64 d) := k2
        clear hO hB k1 k2
        generalize wr.drewN nq = W6 at *
        go_wp2_with fail
        clear hn hmin w1 w3 w4 w5 w6 hneg w7 w7' w7'' w8
        rw [← HHN.out]
        go_loopw [5, 13] (fun ov jv wr => ∃ (j : Nat), j ≤ n ∧ jv = .int .i64 j ∧ OwnM w.heap.size wr ov (dvM i l k j) ∧ Below w.heap.size w wr) (fun _ jv _ => n - (intOf jv).toNat)
        case atStart => exact ⟨0, Nat.zero_le _, rfl, hO6, FF⟩
        case round =>
          obtain ⟨j, hj, rfl, hOj, hBj⟩ := hrel
          clear hO6 FF k26
          by_cases hjn : j < n
          · have m3 := mul_unit (d := a + (n : Int) - 1 - (j : Int)) (u := u) (by omega) HBU.out
            have m4 := mul_unit (d := a + (j : Int)) (u := z) (by omega) HBV.out
            have hrb := HRB.out
            have wa : IntKind.i64.wrap (a + (n : Int)) = a + (n : Int) := IntWalk.i64_in _ (by omega)
            have wb : IntKind.i64.wrap (a + (n : Int) - 1) = a + (n : Int) - 1 := IntWalk.i64_in _ (by omega)
            have wc : IntKind.i64.wrap (a + (n : Int) - 1 - (j : Int)) = a + (n : Int) - 1 - (j : Int) := IntWalk.i64_in _ (by omega)
            have wd : IntKind.i64.wrap ((a + (n : Int) - 1 - (j : Int)) * u) = (a + (n : Int) - 1 - (j : Int)) * u := IntWalk.i64_in _ (by omega)
            have we : IntKind.i64.wrap (rest + (a + (n : Int) - 1 - (j : Int)) * u) = rest + (a + (n : Int) - 1 - (j : Int)) * u := IntWalk.i64_in _ (by omega)
            have wf : IntKind.i64.wrap (a + (j : Int)) = a + (j : Int) := IntWalk.i64_in _ (by omega)
            have wg : IntKind.i64.wrap ((a + (j : Int)) * z) = (a + (j : Int)) * z := IntWalk.i64_in _ (by omega)
            have wh : IntKind.i64.wrap (rest + (a + (n : Int) - 1 - (j : Int)) * u + (a + (j : Int)) * z) = rest + (a + (n : Int) - 1 - (j : Int)) * u + (a + (j : Int)) * z := IntWalk.i64_in _ (by omega)
            have hj0' : (0 : Int) ≤ (j : Int) := Int.natCast_nonneg _
            have hj1' : (j : Int) < (n : Int) := by omega
            have hsz := hBj.size
            have HLEN := Lib.hid (show (dvM i l k j).length + 1 ≤ 1099511627776 by have := HDL.out k j (by omega); omega)
            clear m3 m4 hrb
            go_wp2_with fail
            refine (HCU.out _).mono ?_
            rintro e w1 ⟨rfl, rfl⟩
            go_wp2_with fail
            refine (HCV.out _).mono ?_
            rintro e w1 ⟨rfl, rfl⟩
            go_wp2_with (at_builtin; refine wpList_pushM _ rfl _ _ rfl hOj rfl rfl rfl HLEN.out hsz ?_)
            intro v7 w7 R7 b7
            have R8 : OwnM w.heap.size w7 v7 (dvM i l k (j + 1)) := by rw [← HT.out j]; exact R7
            have B7 := hBj.trans b7
            clear R7 b7
            go_wp2
            go_roundw
            case rel => exact ⟨j + 1, by omega, by go_num, R8, B7⟩
            case measure => simp [intOf]; omega
          · obtain rfl : j = n := by omega
            rw [HNX.out] at hOj
            go_wp2_with fail
            go_roundw
            case rel => exact ⟨k + 1, by omega, by go_num, hOj, hBj⟩
            case measure => simp [intOf]; omega
      · have hmin : (if b < a then b else a) = b := by
          by_cases h : b < a
          · rw [if_pos h]
          · rw [if_neg h]; omega
        obtain ⟨n, hn⟩ : ∃ n : Nat, (n : Int) = a - b := ⟨(a - b).toNat, by omega⟩
        have HNN := Lib.hid (show divN a b = n by unfold divN; omega)
        have HLO := Lib.hid (show lowOf a b = b by unfold lowOf; rw [hmin])
        have HCO := Lib.hid (show divC a b d = d by unfold divC; rw [if_neg hab])
        have hneg : ¬ a - b < 0 := by omega
        have hn127 : n ≤ 127 := by omega
        have hln : 0 ≤ b ∧ b + (n : Int) ≤ 127 := by omega
        rw [HNN.out] at HNX
        simp only [HNN.out, HLO.out, HCO.out] at HT
        have HHN := Lib.hid hn
        go_wp2_with fail
        refine (l2AtX_c x _ i _ rfl hkx.1 hkx.2 (by omega)).mono ?_
        rw [← HA.out]
        rintro e w1 ⟨rfl, rfl⟩
        go_wp2_with fail
        refine (l2AtX_c x _ (i + 1) _ (by omega) hkx.1 hkx.2 (by omega)).mono ?_
        rw [← HB.out]
        rintro e w1 ⟨rfl, rfl⟩
        go_wp2_with fail
        go_quiet ((go_at_call 55; first | exact quiet_back (HCU.out _) | exact quiet_back (HCV.out _)))
        have hO6 := hO.kept (below_drewN (Below.refl wr.heap.size wr) nq)
        have FF := below_drewN hB nq
        have k26 : (wr.drewN nq).cell? ⟨g, k * 2 + 1, none⟩ = some (.int .i64 d) := k2
        clear hO hB k1 k2
        generalize wr.drewN nq = W6 at *
        go_wp2_with fail
        clear hn hmin w1 w3 w4 w5 w6 hneg
        rw [← HHN.out]
        go_loopw [5, 13] (fun ov jv wr => ∃ (j : Nat), j ≤ n ∧ jv = .int .i64 j ∧ OwnM w.heap.size wr ov (dvM i l k j) ∧ Below w.heap.size w wr) (fun _ jv _ => n - (intOf jv).toNat)
        case atStart => exact ⟨0, Nat.zero_le _, rfl, hO6, FF⟩
        case round =>
          obtain ⟨j, hj, rfl, hOj, hBj⟩ := hrel
          clear hO6 FF k26
          by_cases hjn : j < n
          · have m3 := mul_unit (d := b + (n : Int) - 1 - (j : Int)) (u := u) (by omega) HBU.out
            have m4 := mul_unit (d := b + (j : Int)) (u := z) (by omega) HBV.out
            have hrb := HRB.out
            have wa : IntKind.i64.wrap (b + (n : Int)) = b + (n : Int) := IntWalk.i64_in _ (by omega)
            have wb : IntKind.i64.wrap (b + (n : Int) - 1) = b + (n : Int) - 1 := IntWalk.i64_in _ (by omega)
            have wc : IntKind.i64.wrap (b + (n : Int) - 1 - (j : Int)) = b + (n : Int) - 1 - (j : Int) := IntWalk.i64_in _ (by omega)
            have wd : IntKind.i64.wrap ((b + (n : Int) - 1 - (j : Int)) * u) = (b + (n : Int) - 1 - (j : Int)) * u := IntWalk.i64_in _ (by omega)
            have we : IntKind.i64.wrap (rest + (b + (n : Int) - 1 - (j : Int)) * u) = rest + (b + (n : Int) - 1 - (j : Int)) * u := IntWalk.i64_in _ (by omega)
            have wf : IntKind.i64.wrap (b + (j : Int)) = b + (j : Int) := IntWalk.i64_in _ (by omega)
            have wg : IntKind.i64.wrap ((b + (j : Int)) * z) = (b + (j : Int)) * z := IntWalk.i64_in _ (by omega)
            have wh : IntKind.i64.wrap (rest + (b + (n : Int) - 1 - (j : Int)) * u + (b + (j : Int)) * z) = rest + (b + (n : Int) - 1 - (j : Int)) * u + (b + (j : Int)) * z := IntWalk.i64_in _ (by omega)
            have hj0' : (0 : Int) ≤ (j : Int) := Int.natCast_nonneg _
            have hj1' : (j : Int) < (n : Int) := by omega
            have hsz := hBj.size
            have HLEN := Lib.hid (show (dvM i l k j).length + 1 ≤ 1099511627776 by have := HDL.out k j (by omega); omega)
            clear m3 m4 hrb
            go_wp2_with fail
            refine (HCU.out _).mono ?_
            rintro e w1 ⟨rfl, rfl⟩
            go_wp2_with fail
            refine (HCV.out _).mono ?_
            rintro e w1 ⟨rfl, rfl⟩
            go_wp2_with (at_builtin; refine wpList_pushM _ rfl _ _ rfl hOj rfl rfl rfl HLEN.out hsz ?_)
            intro v7 w7 R7 b7
            have R8 : OwnM w.heap.size w7 v7 (dvM i l k (j + 1)) := by rw [← HT.out j]; exact R7
            have B7 := hBj.trans b7
            clear R7 b7
            go_wp2
            go_roundw
            case rel => exact ⟨j + 1, by omega, by go_num, R8, B7⟩
            case measure => simp [intOf]; omega
          · obtain rfl : j = n := by omega
            rw [HNX.out] at hOj
            go_wp2_with fail
            go_roundw
            case rel => exact ⟨k + 1, by omega, by go_num, hOj, hBj⟩
            case measure => simp [intOf]; omega
    · obtain rfl : k = N := by omega
      have HEQ := Lib.hid (show dvM i l k 0 = divAll i l by rw [← HN.out, dvM_all])
      have hN4 : (divAll i l).length ≤ 400000 := by have := divAll_len i l; rw [HN.out] at this; omega
      rw [HEQ.out] at hO
      have hsz := hB.size
      go_wp2_with fail
      refine (l2Gather_c _ _ _ _ hO HC.out hN4).mono ?_
      rintro e w2 ⟨r, rfl, o2, b2⟩
      go_wp2_with fail
      go_ret
      exact ⟨_, rfl, o2.mono hsz, hB.trans (b2.mono hsz)⟩

end Go.Proofs.Ytoioiippdchgmaa
