/-
  l2Gather: terms as numbers put in descending order, those alike added, noughts left out.
-/
import Derived.Test.YtoioiippdchgmaaMonM
import Derived.Test.YtoioiippdchgmaaGathP
import Derived.Test.YtoioiippdchgmaaGives
namespace Go.Proofs.Ytoioiippdchgmaa
open Go.RowKit
set_option linter.unusedVariables false

set_option maxRecDepth 100000 in
set_option maxHeartbeats 6400000 in
theorem l2Gather_c (B : Nat) (v : Value) (l0 : MonL) (w : World) (hv : OwnM B w v l0) (hC : CoefM l0) (hN : l0.length ≤ 400000) :
    Calls Try.prog 46 #[v] w (GivesM w (gatM l0)) := by
  obtain ⟨N, hNN⟩ : ∃ N, l0.length = N := ⟨_, rfl⟩
  have HNN := Lib.hid hNN
  have HCC := Lib.hid hC
  rw [hNN] at hN
  have hL : OwnM w.heap.size (w.alloc (.cells #[] 66)) (.slice (some ⟨w.heap.size, 0, none⟩) 0 0) [] := OwnM.lit _
  have hv1 : OwnM B (w.alloc (.cells #[] 66)) v l0 := hv.kept ((Below.refl _ _).alloc (Nat.le_refl _) _)
  have hlen : ([] : MonL).length + l0.length ≤ 1099511627776 := by simp; omega
  obtain ⟨vo, vc, hvv, _⟩ := hv.shape
  rw [hNN] at hvv
  subst hvv
  clear hNN hv hC
  go_enter Try.func46, Try.ntmps46
  go_wp2_with (at_builtin; refine wpList_apM _ rfl _ _ rfl hL hv1 rfl rfl hlen (by simp) ?_)
  intro v1 w1 h1 b1
  have B1 : Below w.heap.size w w1 := ((Below.refl _ _).alloc (Nat.le_refl _) _).trans b1
  have HR1 : Hid (l0.Perm l0 ∧ Runs leK l0 1) := Lib.hid ⟨List.Perm.refl _, Runs.one _ _⟩
  have h1' : OwnM w.heap.size w1 v1 l0 := h1
  clear hL hv1 hlen h1 b1
  go_wp2
  go_loopw [3, 4] (fun ov zv wr => ∃ (z : Nat) (a : MonL), 1 ≤ z ∧ z ≤ 800000 ∧ zv = .int .i64 z ∧ OwnM w.heap.size wr ov a ∧ Hid (a.Perm l0 ∧ Runs leK a z) ∧ Below w.heap.size w wr) (fun _ zv _ => N - (intOf zv).toNat)
  case atStart => exact ⟨1, l0, Nat.le_refl _, by decide, rfl, h1', HR1, B1⟩
  case round =>
    obtain ⟨z, a, hz1, hz2, rfl, hO, HR, hB⟩ := hrel
    clear h1' HR1 B1
    have hal : a.length = N := by rw [HR.out.1.length_eq, HNN.out]
    have HAL := Lib.hid hal
    obtain ⟨ao, ac, hav, hac, hacm, hane⟩ := hO.shape
    rw [hal] at hav hac
    subst hav
    clear hal
    by_cases hzN : z < N
    · obtain ⟨g, rfl⟩ := hane (fun e => by have := HAL.out; rw [e] at this; simp at this; omega)
      clear hane
      have HP0 : Hid (PassSt leK a z 0 []) := Lib.hid (PassSt.start HR.out.2)
      obtain ⟨W0, rfl⟩ : ∃ W0 : World, W0 = wr := ⟨_, rfl⟩
      go_wp2_with (at_make; refine wpList_makeM _ rfl _ _ rfl N rfl rfl rfl (by omega) ?_)
      intro wm hNX hBW
      go_wp2
      go_loopw [5, 6] (fun nv tv wr => ∃ (t q : Nat) (nx : MonL), t ≤ N + 1600000 ∧ tv = .int .i64 t ∧ Hid (t = q * (2 * z)) ∧ OwnM W0.heap.size wr nv nx ∧ Hid (PassSt leK a z t nx) ∧ Below W0.heap.size W0 wr) (fun _ tv _ => N - (intOf tv).toNat)
      case atStart => exact ⟨0, 0, [], by omega, rfl, Lib.hid (by simp), hNX, HP0, hBW⟩
      case round =>
        obtain ⟨t, q, nx, ht, rfl, HT, hX, HP, hBt⟩ := hrel
        clear hNX HP0 hBW
        by_cases htN : t < N
        · obtain ⟨mid, hmid⟩ : ∃ mid, min (t + z) N = mid := ⟨_, rfl⟩
          obtain ⟨en, hen⟩ : ∃ en, min (t + 2 * z) N = en := ⟨_, rfl⟩
          have HMID := Lib.hid hmid
          have HEN := Lib.hid hen
          have HM0 : Hid (MergeSt leK a t mid en t mid []) := Lib.hid (by
            have hl := HAL.out
            exact HP.out.merge HT.out hz1 (by omega) (by rw [hl]; exact hmid.symm) (by rw [hl]; exact hen.symm))
          have hX0 : OwnM W0.heap.size wr _ (nx ++ []) := (List.append_nil nx).symm ▸ hX
          clear hmid hen
          have hm1 : (if (N : Int) < (t : Int) + (z : Int) then (N : Int) else (t : Int) + (z : Int)) = (mid : Int) := by have := HMID.out; split <;> omega
          have hm2 : (if (N : Int) < (t : Int) + 2 * (z : Int) then (N : Int) else (t : Int) + 2 * (z : Int)) = (en : Int) := by have := HEN.out; split <;> omega
          go_wp2
          clear hm1 hm2
          go_loopw [5, 7, 9] (fun nv iv jv wr => ∃ (i j : Nat) (cur : MonL), iv = .int .i64 i ∧ jv = .int .i64 j ∧ i ≤ mid ∧ mid ≤ j ∧ j ≤ en ∧ OwnM W0.heap.size wr nv (nx ++ cur) ∧ Hid (MergeSt leK a t mid en i j cur) ∧ Below W0.heap.size W0 wr)
            (fun _ iv jv _ => (mid - (intOf iv).toNat) + (en - (intOf jv).toNat))
          case atStart => exact ⟨t, mid, [], rfl, rfl, HM0.out.b2, Nat.le_refl _, HM0.out.b4, hX0, HM0, hBt⟩
          case round =>
            obtain ⟨i, j, cur, rfl, rfl, hi, hmj, hj, hXc, HMC, hBc⟩ := hrel
            clear hX0 hX hBt
            have hmN : mid ≤ N := by have := HMID.out; omega
            have heN : en ≤ N := by have := HEN.out; omega
            have hi0 : (0 : Int) ≤ (i : Int) := Int.natCast_nonneg _
            have hj0 : (0 : Int) ≤ (j : Int) := Int.natCast_nonneg _
            have hcl : (nx ++ cur).length + 1 ≤ 1099511627776 := by
              have h1 := HMC.out.len
              have h2 := HP.out.len
              rw [List.length_append]
              omega
            have hXs := hBc.size
            by_cases hjen : j < en
            · have hje : (j : Int) < (en : Int) := by have := HEN.out; omega
              obtain ⟨pj, hpj⟩ : ∃ x, a[j]? = some x := ⟨_, List.getElem?_eq_getElem (by rw [HAL.out]; omega)⟩
              obtain ⟨kj, dj⟩ := pj
              have cj0 := hO.cell0 hpj
              have cj := (hBc.cell (World.block_lt_of_cell? _ _ cj0)).trans cj0
              have cjd0 := hO.cell1 hpj
              have cjd := (hBc.cell (World.block_lt_of_cell? _ _ cjd0)).trans cjd0
              simp only [mf0, mf1] at cj cjd
              have HPJ := Lib.hid hpj
              have hjN : (j : Int) < (N : Int) := by omega
              clear hpj cj0 cjd0
              by_cases hilt : i < mid
              · have hie : (i : Int) < (mid : Int) := by have := HMID.out; omega
                obtain ⟨pi, hpi⟩ : ∃ x, a[i]? = some x := ⟨_, List.getElem?_eq_getElem (by rw [HAL.out]; omega)⟩
                obtain ⟨ki, di⟩ := pi
                have ci0 := hO.cell0 hpi
                have ci := (hBc.cell (World.block_lt_of_cell? _ _ ci0)).trans ci0
                have cid0 := hO.cell1 hpi
                have cid := (hBc.cell (World.block_lt_of_cell? _ _ cid0)).trans cid0
                simp only [mf0, mf1] at ci cid
                have HPI := Lib.hid hpi
                have hiN : (i : Int) < (N : Int) := by omega
                have HY := Lib.hid hcl
                clear hpi ci0 cid0 hcl
                obtain ⟨dd, hdd⟩ : ∃ dd, decide (kj ≤ ki) = dd := ⟨_, rfl⟩
                have HDD := Lib.hid hdd
                have hge : decide ((en : Int) ≤ (j : Int)) = false := by have := HEN.out; simp; omega
                have hge2 : decide (en ≤ j) = false := by have := HEN.out; simp; omega
                have hlt2 : decide ((i : Int) < (mid : Int)) = true := by have := HMID.out; simp; omega
                have hlt3 : decide (i < mid) = true := by have := HMID.out; simp; omega
                cases dd with
                | true =>
                  have HM7 := Lib.hid (HMC.out.left leK_order hilt HPI.out (.inr (fun y hy => by rw [HPJ.out] at hy; obtain rfl := Option.some.inj hy; exact (show kj ≤ ki from of_decide_eq_true HDD.out))))
                  go_wp2_with fail
                  go_quiet (fail)
                  clear hge hlt2 hdd hge2 hlt3
                  have hX6 := hXc.kept (below_drewN (Below.refl wr.heap.size wr) nq)
                  have FF := below_drewN hBc nq
                  have ci6 : (wr.drewN nq).cell? ⟨g, i * 2, none⟩ = some (.int .i64 ki) := ci
                  have cid6 : (wr.drewN nq).cell? ⟨g, i * 2 + 1, none⟩ = some (.int .i64 di) := cid
                  have h6s := FF.size
                  clear hXc hBc ci cid cj cjd
                  go_wp2_with (at_builtin; refine wpList_pushM (wr.drewN nq) rfl _ _ rfl hX6 rfl rfl rfl HY.out h6s ?_)
                  intro v7 w7 R7a b7
                  have R7 : OwnM W0.heap.size w7 v7 (nx ++ (cur ++ [(ki, di)])) := by first | exact R7a | (rw [← List.append_assoc]; exact R7a)
                  have B7 := FF.trans b7
                  clear R7a b7
                  go_wp2
                  go_roundw
                  case rel => exact ⟨i + 1, j, cur ++ [(ki, di)], by go_num, rfl, by omega, by omega, by omega, R7, HM7, B7⟩
                  case measure => simp [intOf]; omega
                | false =>
                  have HM7 := Lib.hid (HMC.out.right leK_order hjen HPJ.out (.inr (fun y hy => by rw [HPI.out] at hy; obtain rfl := Option.some.inj hy; exact (show ¬ kj ≤ ki from of_decide_eq_false HDD.out))))
                  go_wp2_with fail
                  go_quiet (fail)
                  clear hge hlt2 hdd hge2 hlt3
                  have hX6 := hXc.kept (below_drewN (Below.refl wr.heap.size wr) nq)
                  have FF := below_drewN hBc nq
                  have cj6 : (wr.drewN nq).cell? ⟨g, j * 2, none⟩ = some (.int .i64 kj) := cj
                  have cjd6 : (wr.drewN nq).cell? ⟨g, j * 2 + 1, none⟩ = some (.int .i64 dj) := cjd
                  have h6s := FF.size
                  clear hXc hBc ci cid cj cjd
                  go_wp2_with (at_builtin; refine wpList_pushM (wr.drewN nq) rfl _ _ rfl hX6 rfl rfl rfl HY.out h6s ?_)
                  intro v7 w7 R7a b7
                  have R7 : OwnM W0.heap.size w7 v7 (nx ++ (cur ++ [(kj, dj)])) := by first | exact R7a | (rw [← List.append_assoc]; exact R7a)
                  have B7 := FF.trans b7
                  clear R7a b7
                  go_wp2
                  go_roundw
                  case rel => exact ⟨i, j + 1, cur ++ [(kj, dj)], rfl, by go_num, by omega, by omega, by omega, R7, HM7, B7⟩
                  case measure => simp [intOf]; omega
              · have hie : ¬ (i : Int) < (mid : Int) := by have := HMID.out; omega
                have hge : decide ((en : Int) ≤ (j : Int)) = false := by have := HEN.out; simp; omega
                have hge2 : decide (en ≤ j) = false := by have := HEN.out; simp; omega
                have hlt2 : decide ((i : Int) < (mid : Int)) = false := by have := HMID.out; simp; omega
                have hlt3 : decide (i < mid) = false := by have := HMID.out; simp; omega
                have HM7 := Lib.hid (HMC.out.right leK_order hjen HPJ.out (.inl (by omega)))
                have HY := Lib.hid hcl
                clear hcl
                go_wp2
                go_quiet (fail)
                clear hge hlt2 hge2 hlt3
                have hX6 := hXc.kept (below_drewN (Below.refl wr.heap.size wr) nq)
                have FF := below_drewN hBc nq
                have cj6 : (wr.drewN nq).cell? ⟨g, j * 2, none⟩ = some (.int .i64 kj) := cj
                have cjd6 : (wr.drewN nq).cell? ⟨g, j * 2 + 1, none⟩ = some (.int .i64 dj) := cjd
                have h6s := FF.size
                clear hXc hBc cj cjd
                go_wp2_with (at_builtin; refine wpList_pushM (wr.drewN nq) rfl _ _ rfl hX6 rfl rfl rfl HY.out h6s ?_)
                intro v7 w7 R7a b7
                have R7 : OwnM W0.heap.size w7 v7 (nx ++ (cur ++ [(kj, dj)])) := by first | exact R7a | (rw [← List.append_assoc]; exact R7a)
                have B7 := FF.trans b7
                clear R7a b7
                go_wp2
                go_roundw
                case rel => exact ⟨i, j + 1, cur ++ [(kj, dj)], rfl, by go_num, by omega, by omega, by omega, R7, HM7, B7⟩
                case measure => simp [intOf]; omega
            · have hje0 : en ≤ j := by omega
              have hje : ¬ (j : Int) < (en : Int) := by have := HEN.out; omega
              by_cases hilt : i < mid
              · have hie : (i : Int) < (mid : Int) := by have := HMID.out; omega
                obtain ⟨pi, hpi⟩ : ∃ x, a[i]? = some x := ⟨_, List.getElem?_eq_getElem (by rw [HAL.out]; omega)⟩
                obtain ⟨ki, di⟩ := pi
                have ci0 := hO.cell0 hpi
                have ci := (hBc.cell (World.block_lt_of_cell? _ _ ci0)).trans ci0
                have cid0 := hO.cell1 hpi
                have cid := (hBc.cell (World.block_lt_of_cell? _ _ cid0)).trans cid0
                simp only [mf0, mf1] at ci cid
                have hiN : (i : Int) < (N : Int) := by omega
                have hge : decide ((en : Int) ≤ (j : Int)) = true := by simp; omega
                have hge2 : decide (en ≤ j) = true := by have := HEN.out; simp; omega
                have HM7 := Lib.hid (HMC.out.left leK_order hilt hpi (.inl hje0))
                have HY := Lib.hid hcl
                clear hcl ci0 cid0 hpi
                go_wp2
                go_quiet (fail)
                clear hge hge2
                have hX6 := hXc.kept (below_drewN (Below.refl wr.heap.size wr) nq)
                have FF := below_drewN hBc nq
                have ci6 : (wr.drewN nq).cell? ⟨g, i * 2, none⟩ = some (.int .i64 ki) := ci
                have cid6 : (wr.drewN nq).cell? ⟨g, i * 2 + 1, none⟩ = some (.int .i64 di) := cid
                have h6s := FF.size
                clear hXc hBc ci cid
                go_wp2_with (at_builtin; refine wpList_pushM (wr.drewN nq) rfl _ _ rfl hX6 rfl rfl rfl HY.out h6s ?_)
                intro v7 w7 R7a b7
                have R7 : OwnM W0.heap.size w7 v7 (nx ++ (cur ++ [(ki, di)])) := by first | exact R7a | (rw [← List.append_assoc]; exact R7a)
                have B7 := FF.trans b7
                clear R7a b7
                go_wp2
                go_roundw
                case rel => exact ⟨i + 1, j, cur ++ [(ki, di)], by go_num, rfl, by omega, by omega, by omega, R7, HM7, B7⟩
                case measure => simp [intOf]; omega
              · have hie : ¬ (i : Int) < (mid : Int) := by have := HMID.out; omega
                have HMD : Hid (MergeSt leK a t mid en mid en cur) := Lib.hid (by have h := HMC.out; rwa [show i = mid by omega, show j = en by omega] at h)
                have HN := Lib.hid (HP.out.next HT.out hz1 (by rw [HAL.out]; exact htN) (by rw [HAL.out]; exact HEN.out.symm) HMD.out)
                have HTN : Hid (t + 2 * z = (q + 1) * (2 * z)) := Lib.hid (by rw [Nat.add_mul q 1 (2 * z), ← HT.out, Nat.one_mul])
                clear hcl
                go_wp2
                go_roundw
                case rel => exact ⟨t + 2 * z, q + 1, nx ++ cur, by omega, by go_num, HTN, hXc, HN, hBc⟩
                case measure => simp [intOf]; omega
        · have HD2 := Lib.hid (HP.out.done (by rw [HAL.out]; omega))
          have HN : Hid (nx.Perm l0 ∧ Runs leK nx (2 * z)) := Lib.hid ⟨HD2.out.1.trans HR.out.1, HD2.out.2⟩
          have hXb := hX.mono hB.size
          have hBn := hB.trans (hBt.mono hB.size)
          go_wp2
          go_roundw
          case rel => exact ⟨2 * z, nx, by omega, by omega, by go_num, hXb, HN, hBn⟩
          case measure => simp [intOf]; omega
    · have HS := Lib.hid (HR.out.2.all (by rw [HAL.out]; omega))
      have HAC : Hid (CoefM a) := Lib.hid (fun p hp => HCC.out p (HR.out.1.mem_iff.1 hp))
      have HPM := Lib.hid HR.out.1
      obtain ⟨W1, rfl⟩ : ∃ W1 : World, W1 = wr := ⟨_, rfl⟩
      have hS0 : OwnM W1.heap.size (W1.alloc (.cells #[] 66)) (.slice (some ⟨W1.heap.size, 0, none⟩) 0 0) [] := OwnM.lit _
      have hSB : Below W1.heap.size W1 (W1.alloc (.cells #[] 66)) := (Below.refl _ _).alloc (Nat.le_refl _) _
      have hW1 := hB.size
      clear HR HCC
      go_wp2
      go_loopw [11, 12] (fun sv kv wr => ∃ (k : Nat) (sum : MonL), k ≤ N ∧ kv = .int .i64 k ∧ OwnM W1.heap.size wr sv sum ∧ Hid (SumSt a sum k) ∧ Below W1.heap.size W1 wr) (fun _ kv _ => N - (intOf kv).toNat)
      case atStart => exact ⟨0, [], Nat.zero_le _, rfl, hS0, Lib.hid (SumSt.start a), hSB⟩
      case round =>
        obtain ⟨k, sum, hk, rfl, hX, HT, hBt⟩ := hrel
        clear hS0 hSB
        by_cases hkN : k < N
        · obtain ⟨g, rfl⟩ := hane (fun e => by have := HAL.out; rw [e] at this; simp at this; omega)
          clear hane
          obtain ⟨y, hy⟩ : ∃ y, a[k]? = some y := ⟨_, List.getElem?_eq_getElem (by rw [HAL.out]; exact hkN)⟩
          obtain ⟨x, d⟩ := y
          have cx0 := hO.cell0 hy
          have cd0 := hO.cell1 hy
          have cx := (hBt.cell (World.block_lt_of_cell? _ _ cx0)).trans cx0
          have cd := (hBt.cell (World.block_lt_of_cell? _ _ cd0)).trans cd0
          simp only [mf0, mf1] at cx cd
          have HYY := Lib.hid hy
          have hk0 : (0 : Int) ≤ (k : Int) := Int.natCast_nonneg _
          have hk1 : (k : Int) < (N : Int) := by omega
          have hsl : sum.length + 1 ≤ 1099511627776 := by have := HT.out.len; omega
          obtain ⟨so, sc, hsv, hsc, hscm, hsne⟩ := hX.shape
          clear hy cx0 cd0
          rcases List.eq_nil_or_concat sum with rfl | ⟨s0, q, rfl⟩
          · simp only [List.length_nil] at hsv
            subst hsv
            have HT7 := Lib.hid (HT.out.new HS.out HYY.out (fun s0 z h => by simp at h))
            have hX0 : OwnM W1.heap.size wr (.slice so 0 sc) ([] ++ []) := hX
            clear hsne hsc hscm
            go_wp2_with fail
            go_quiet (fail)
            have hX6 := hX.kept (below_drewN (Below.refl wr.heap.size wr) nq)
            have FF := below_drewN hBt nq
            have cx6 : (wr.drewN nq).cell? ⟨g, k * 2, none⟩ = some (.int .i64 x) := cx
            have cd6 : (wr.drewN nq).cell? ⟨g, k * 2 + 1, none⟩ = some (.int .i64 d) := cd
            have h6s := FF.size
            clear hX hX0 hBt cx cd
            go_wp2_with (at_builtin; refine wpList_pushM (wr.drewN nq) rfl _ _ rfl hX6 rfl rfl rfl (by decide) h6s ?_)
            intro v7 w7 R7 b7
            have B7 := FF.trans b7
            clear b7
            go_wp2
            go_roundw
            case rel => exact ⟨k + 1, [] ++ [(x, d)], by omega, by go_num, R7, HT7, B7⟩
            case measure => simp [intOf]; omega
          · rw [List.concat_eq_append] at hsv hsl hsne hX HT
            obtain ⟨gs, rfl⟩ := hsne (by simp)
            obtain ⟨x0, c0⟩ := q
            obtain ⟨m, hm⟩ : ∃ m, s0.length = m := ⟨_, rfl⟩
            have HM := Lib.hid hm
            rw [List.length_append, List.length_singleton, hm] at hsv
            subst hsv
            have hm400 : m + 1 ≤ 400000 := by
              have := HT.out.len
              rw [List.length_append, List.length_singleton, hm] at this
              omega
            have hlast : (s0 ++ [(x0, c0)])[m]? = some (x0, c0) := by rw [← hm]; simp
            have cs := hX.cell0 hlast
            have cc := hX.cell1 hlast
            have cf := hX.free (m * 2 + 1)
            simp only [mf0, mf1] at cs cc
            have HLA := Lib.hid hlast
            have hm0 : (0 : Int) ≤ (m : Int) := Int.natCast_nonneg _
            have hm1 : (0 : Int) < (m : Int) + 1 := by omega
            have hm2 : decide ((0 : Int) < (m : Int) + 1) = true := decide_eq_true (by omega)
            have hm3 : (m : Int) < (m : Int) + 1 := by omega
            have hw1 : IntKind.i64.wrap ((m : Int) + 1 - 1) = (m : Int) := (IntWalk.i64_in _ (by omega)).trans (by omega)
            have hb1 := HT.out.bnd HAC.out (by rw [HAL.out]; exact hN) (p := (x0, c0)) (by simp)
            have hb2 := HAC.out _ (List.mem_of_getElem? HYY.out)
            simp only at hb1 hb2
            have hws : IntKind.i64.wrap (c0 + d) = c0 + d := IntWalk.i64_in _ (by omega)
            have HY := Lib.hid hsl
            clear hsne hsc hscm hm hsl hlast
            by_cases hxx : x0 = x
            · subst hxx
              have hxe : (x0 == x0) = true := by simp
              have HT7 := Lib.hid (HT.out.same HYY.out)
              go_wp2_with fail
              go_quiet (fail)
              have hX6 := hX.kept (below_drewN (Below.refl wr.heap.size wr) nq)
              have FF := below_drewN hBt nq
              have cc6 : (wr.drewN nq).cell? ⟨gs, m * 2 + 1, none⟩ = some (.int .i64 c0) := cc
              have cd6 : (wr.drewN nq).cell? ⟨g, k * 2 + 1, none⟩ = some (.int .i64 d) := cd
              have cf6 : (wr.drewN nq).frozen? ⟨gs, m * 2 + 1, none⟩ = false := hX6.free _
              have hst := hX6.store1 HLA.out (x0, c0 + d) rfl
              have hgg : (s0 ++ [(x0, c0)]).set m (x0, c0 + d) = s0 ++ [(x0, c0 + d)] := by rw [← HM.out]; simp
              rw [hgg] at hst
              simp only [mf1] at hst
              have hBs : Below W1.heap.size W1 ((wr.drewN nq).setCell ⟨gs, m * 2 + 1, none⟩ (.int .i64 (c0 + d))) :=
                FF.setCell (p := ⟨gs, m * 2 + 1, none⟩) (hX6.block gs rfl).1 _
              have HST := Lib.hid hst
              have HBS := Lib.hid hBs
              clear hX hBt cx cs cc cd cf hst hBs hgg hX6 FF hxe
              generalize wr.drewN nq = W6 at *
              go_wp2_with fail
              go_region
              all_goals
                go_wp2_with fail
                go_roundw
                case rel => exact ⟨k + 1, s0 ++ [(x0, c0 + d)], by omega, by go_num, HST.out.kept (below_drewT (Below.refl _ _)), HT7, below_drewT HBS.out⟩
                case measure => simp [intOf]; omega
            · have hxe : (x0 == x) = false := by simpa using hxx
              have HT7 := Lib.hid (HT.out.new HS.out HYY.out (fun s1 z h => by
                have := List.append_inj_right' h rfl
                simp at this
                rw [← this]; exact hxx))
              clear hxx
              go_wp2_with fail
              go_quiet (fail)
              have hX6 := hX.kept (below_drewN (Below.refl wr.heap.size wr) nq)
              have FF := below_drewN hBt nq
              have cx6 : (wr.drewN nq).cell? ⟨g, k * 2, none⟩ = some (.int .i64 x) := cx
              have cd6 : (wr.drewN nq).cell? ⟨g, k * 2 + 1, none⟩ = some (.int .i64 d) := cd
              have h6s := FF.size
              clear hX hBt cx cd cs cc cf hxe
              go_wp2_with (at_builtin; refine wpList_pushM (wr.drewN nq) rfl _ _ rfl hX6 rfl rfl rfl HY.out h6s ?_)
              intro v7 w7 R7 b7
              have B7 := FF.trans b7
              clear b7
              go_wp2
              go_roundw
              case rel => exact ⟨k + 1, s0 ++ [(x0, c0)] ++ [(x, d)], by omega, by go_num, by first | exact R7 | (rw [List.append_assoc]; exact R7), HT7, B7⟩
              case measure => simp [intOf]; omega
        · have HD := Lib.hid (HT.out.done (by rw [HAL.out]; omega) HPM.out)
          have hB2 := hB.trans (hBt.mono hW1)
          have HML := Lib.hid HT.out.len
          obtain ⟨so, sc, hsv, hsc, hscm, hsne⟩ := hX.shape
          obtain ⟨M, hM⟩ : ∃ M, sum.length = M := ⟨_, rfl⟩
          rw [hM] at hsv
          subst hsv
          have HM := Lib.hid hM
          obtain ⟨W2, rfl⟩ : ∃ W2 : World, W2 = wr := ⟨_, rfl⟩
          have hS0 : OwnM W2.heap.size (W2.alloc (.cells #[] 66)) (.slice (some ⟨W2.heap.size, 0, none⟩) 0 0) (noZero (sum.take 0)) := OwnM.lit _
          have hSB : Below W2.heap.size W2 (W2.alloc (.cells #[] 66)) := (Below.refl _ _).alloc (Nat.le_refl _) _
          have hW2 := hB2.size
          have hM4 : M ≤ 400000 := by have := HML.out; omega
          clear hM hsc hscm hane hBt HT
          go_wp2
          go_loopw [13, 14] (fun lv jv wr => ∃ (j : Nat), j ≤ M ∧ jv = .int .i64 j ∧ OwnM W2.heap.size wr lv (noZero (sum.take j)) ∧ Below W2.heap.size W2 wr) (fun _ jv _ => M - (intOf jv).toNat)
          case atStart => exact ⟨0, Nat.zero_le _, rfl, hS0, hSB⟩
          case round =>
            obtain ⟨j, hj, rfl, hF, hBf⟩ := hrel
            clear hS0 hSB
            by_cases hjM : j < M
            · obtain ⟨gs, rfl⟩ := hsne (fun e => by have := HM.out; rw [e] at this; simp at this; omega)
              clear hsne
              obtain ⟨y, hy⟩ : ∃ y, sum[j]? = some y := ⟨_, List.getElem?_eq_getElem (by rw [HM.out]; exact hjM)⟩
              obtain ⟨x, d⟩ := y
              have cx0 := hX.cell0 hy
              have cd0 := hX.cell1 hy
              have cx := (hBf.cell (World.block_lt_of_cell? _ _ cx0)).trans cx0
              have cd := (hBf.cell (World.block_lt_of_cell? _ _ cd0)).trans cd0
              simp only [mf0, mf1] at cx cd
              have hj0 : (0 : Int) ≤ (j : Int) := Int.natCast_nonneg _
              have hj1 : (j : Int) < (M : Int) := by omega
              have h6s := hBf.size
              have HY := Lib.hid (show (noZero (sum.take j)).length + 1 ≤ 1099511627776 by have := noZero_len sum j; have := HM.out; omega)
              clear cx0 cd0
              by_cases hd : d = 0
              · have HZ := Lib.hid (noZero_no hy hd)
                have hd1 : (d != 0) = false := by simpa using hd
                clear hy
                go_wp2_with fail
                go_roundw
                case rel => exact ⟨j + 1, by omega, by go_num, by rw [HZ.out]; exact hF, hBf⟩
                case measure => simp [intOf]; omega
              · have HZ := Lib.hid (noZero_yes hy hd)
                have hd1 : (d != 0) = true := by simpa using hd
                clear hy
                go_wp2_with (at_builtin; refine wpList_pushM wr rfl _ _ rfl hF rfl rfl rfl HY.out h6s ?_)
                intro v7 w7 R7 b7
                have B7 := hBf.trans b7
                clear b7
                go_wp2
                go_roundw
                case rel => exact ⟨j + 1, by omega, by go_num, by rw [HZ.out]; exact R7, B7⟩
                case measure => simp [intOf]; omega
            · obtain rfl : j = M := by omega
              have hF2 := hF
              rw [← HM.out, List.take_length, HD.out] at hF2
              go_wp2
              go_ret
              exact ⟨_, rfl, hF2.mono hW2, hB2.trans (hBf.mono hW2)⟩

end Go.Proofs.Ytoioiippdchgmaa
