/-
  Contracts: l1Sorted and ReducedWords of the reference.
-/
import Derived.Test.YtcpekiangjpppaaWords
import Derived.Test.YtcpekiangjpppaaMerge
import Derived.Test.YtcpekiangjpppaaLexC
import Derived.Test.YtcpekiangjpppaaCov
namespace Go.Proofs.Ytcpekiangjpppaa
open Go.RowKit
set_option linter.unusedVariables false

abbrev PairL := List (Value × List Int)
abbrev OwnQ (B : Nat) (w : World) (v : Value) (a : PairL) : Prop := OwnL 22 Prod.fst B w v a
def leQ (p q : Value × List Int) : Prop := lexLt q.2 p.2 = false
theorem leQ_order : Order leQ :=
  ⟨fun x y z h1 h2 => lexLt_ntrans (a := z.2) (b := y.2) (c := x.2) h2 h1, fun x y h => by
    unfold leQ at h ⊢
    exact lexLt_asymm (by simpa using h)⟩

/-- 'append(out, src...)' of rows. -/
theorem wpList_apL {ops : Array Oper} {rest : List Oper} {o : Oper} {a : Act} {Q : Exit → Act → World → Prop} (w : World) (hgd : o.guard = none) (s x : Operand)
    (ho : o.op = .call { callee := .builtin .append, args := #[s, x], argTypes := #[32, 32] })
    {α : Type} {f : α → Value} {B B' : Nat} {v u : Value} {l m : List α} (hown : OwnL 22 f B w v l) (hsrc : OwnL 22 f B' w u m) (h1 : ∀ z ∈ m, (f z).oneCell' = true) (hs : a.eval s = v) (hx : a.eval x = u)
    (hlen : l.length + m.length ≤ 1099511627776) (hB : B ≤ w.heap.size)
    (h : ∀ v' w', OwnL 22 f B w' v' (l ++ m) → Below B w w' → wpList Try.prog ops Q rest (a.put o.dst v') w') :
    wpList Try.prog ops Q (o :: rest) a w := by
  obtain ⟨i0, hi, hz0, hz1, hz2⟩ := info_parts Try.infoII
  by_cases hm : m = []
  · subst hm
    obtain ⟨ao, c, hu, hcc, _⟩ := hsrc.shape
    cases ao with
    | none =>
      have hc0 : c = 0 := by
        rcases hsrc.1.2 with ⟨h2, _⟩ | ⟨g, cap, cur, h2, _⟩
        · rw [hu] at h2; simp at h2; exact h2
        · rw [hu] at h2; simp at h2
      subst hc0
      refine wpList_append_own_none hgd s x 32 ho B 22 i0 1 Try.underlying32 hi v l.length (l.map f) hs hown.1 (by rw [hx, hu]; rfl) ?_
      exact h v w (by simpa using hown) (Below.refl _ _)
    | some ad =>
      refine wpList_append_own _ hgd s x 32 ho B 22 i0 (.slice none 0 0) 1 24 Try.underlying32 hi hz0 hz1 hz2 rfl (by decide) v l.length (l.map f) hs hown.1
        ad 0 c [] (by rw [hx, hu]; rfl) rfl (fun j u hj => by simp at hj) (fun u hu => by simp at hu) (by have := hown.2; unfold maxLen; omega) (by have := hown.2; omega) hB ?_
      intro v' w' hown' hgrow hnil
      refine h v' w' ⟨?_, by simpa using hown.2⟩ ((Below.refl _ _).grown hgrow hB (fun k hk => (hown.block k hk).1))
      simpa using hown'
  · obtain ⟨ao, c, hu, hcc, hne⟩ := hsrc.shape
    obtain ⟨g, rfl⟩ := hne hm
    refine wpList_append_own _ hgd s x 32 ho B 22 i0 (.slice none 0 0) 1 24 Try.underlying32 hi hz0 hz1 hz2 rfl (by decide) v l.length (l.map f) hs hown.1
      ⟨g, 0, none⟩ m.length c (m.map f) (by rw [hx, hu]) (by simp) ?_ (fun z hz => ?_) (by unfold maxLen; omega) (by omega) hB ?_
    · intro j u' hj
      rw [List.getElem?_map] at hj
      cases hmj : m[j]? with
      | none => rw [hmj] at hj; simp at hj
      | some y =>
        rw [hmj] at hj
        obtain rfl := Option.some.inj hj
        have h3 := hsrc
        rw [hu] at h3
        rw [Addr.add_lit, Nat.zero_add]
        exact h3.cellAt hmj
    · obtain ⟨y, hy, rfl⟩ := List.mem_map.1 hz
      exact h1 y hy
    · intro v' w' hown' hgrow hnil
      refine h v' w' ⟨?_, by simpa using hlen⟩ ((Below.refl _ _).grown hgrow hB (fun k hk => (hown.block k hk).1))
      rw [List.length_append, List.map_append]
      exact hown'

theorem leB {B : Nat} {w W : World} {p q : Addr} {x y : Value} (h : Below B w W ∧ W.cell? p = some x ∧ W.cell? q = some y) : Below B w W := h.1

def GivesQ (B : Nat) (w : World) (a0 : PairL) (e : Ending) (w' : World) : Prop :=
  ∃ r a, e = .returned r ∧ OwnQ w.heap.size w' r a ∧ a.Perm a0 ∧ a.Pairwise leQ ∧ Below w.heap.size w w'

set_option maxRecDepth 100000 in
set_option maxHeartbeats 6400000 in
theorem l1Sorted_c (B : Nat) (v : Value) (a0 : PairL) (w : World) (hv : OwnQ B w v a0) (hE : ∀ p ∈ a0, OwnI B w p.1 p.2) (hN : a0.length ≤ 1000) :
    Calls Try.prog 34 #[v] w (GivesQ B w a0) := by
  have HE := Lib.hid hE
  obtain ⟨N, hNN⟩ : ∃ N, a0.length = N := ⟨_, rfl⟩
  have HNN := Lib.hid hNN
  rw [hNN] at hN
  have hone : ∀ z ∈ a0, (Prod.fst z).oneCell' = true := fun z hz => by obtain ⟨_, _, _, h⟩ := (hE z hz).ints.shape'; rw [h]; rfl
  have HONE := Lib.hid hone
  have hL : OwnQ w.heap.size (w.alloc (.cells #[] 22)) (.slice (some ⟨w.heap.size, 0, none⟩) 0 0) [] := OwnL.lit _ _ _
  have hv1 : OwnQ B (w.alloc (.cells #[] 22)) v a0 := hv.kept ((Below.refl _ _).alloc (Nat.le_refl _) _)
  have hlen : ([] : PairL).length + a0.length ≤ 1099511627776 := by simp; omega
  obtain ⟨vo, vc, hvv, _⟩ := hv.shape
  rw [hNN] at hvv
  subst hvv
  clear hE hone hNN hv
  go_enter Try.func34, Try.ntmps34
  go_wp2_with (at_builtin; refine wpList_apL _ rfl _ _ rfl hL hv1 HONE.out rfl rfl hlen (by simp) ?_)
  intro v1 w1 h1 b1
  have B1 : Below w.heap.size w w1 := ((Below.refl _ _).alloc (Nat.le_refl _) _).trans b1
  have HR1 : Hid (a0.Perm a0 ∧ Runs leQ a0 1) := Lib.hid ⟨List.Perm.refl _, Runs.one _ _⟩
  have h1' : OwnQ w.heap.size w1 v1 a0 := h1
  clear hL hv1 hlen h1 b1
  go_wp2
  go_loopw [3, 4] (fun ov zv wr => ∃ (z : Nat) (a : PairL), 1 ≤ z ∧ z ≤ 2000 ∧ zv = .int .i64 z ∧ OwnQ w.heap.size wr ov a ∧ Hid (a.Perm a0 ∧ Runs leQ a z) ∧ Below w.heap.size w wr) (fun _ zv _ => N - (intOf zv).toNat)
  case atStart => exact ⟨1, a0, Nat.le_refl _, by decide, rfl, h1', HR1, B1⟩
  case round =>
    obtain ⟨z, a, hz1, hz2, rfl, hO, HR, hB⟩ := hrel
    clear h1' HR1 B1
    have hal : a.length = N := by rw [HR.out.1.length_eq, HNN.out]
    have HAL := Lib.hid hal
    obtain ⟨ao, ac, hav, hac, hane⟩ := hO.shape
    rw [hal] at hav hac
    subst hav
    clear hal
    by_cases hzN : z < N
    · obtain ⟨g, rfl⟩ := hane (fun e => by have := HAL.out; rw [e] at this; simp at this; omega)
      clear hane
      have hNX : OwnQ wr.heap.size (wr.alloc (.cells #[] 22)) (.slice (some ⟨wr.heap.size, 0, none⟩) 0 0) [] := OwnL.lit _ _ _
      have hBW : Below wr.heap.size wr (wr.alloc (.cells #[] 22)) := (Below.refl _ _).alloc (Nat.le_refl _) _
      have HP0 : Hid (PassSt leQ a z 0 []) := Lib.hid (PassSt.start HR.out.2)
      obtain ⟨W0, rfl⟩ : ∃ W0 : World, W0 = wr := ⟨_, rfl⟩
      go_wp2
      go_loopw [5, 6] (fun nv tv wr => ∃ (t q : Nat) (nx : PairL), t ≤ N + 4000 ∧ tv = .int .i64 t ∧ Hid (t = q * (2 * z)) ∧ OwnQ W0.heap.size wr nv nx ∧ Hid (PassSt leQ a z t nx) ∧ Below W0.heap.size W0 wr) (fun _ tv _ => N - (intOf tv).toNat)
      case atStart => exact ⟨0, 0, [], by omega, rfl, Lib.hid (by simp), hNX, HP0, hBW⟩
      case round =>
        obtain ⟨t, q, nx, ht, rfl, HT, hX, HP, hBt⟩ := hrel
        clear hNX HP0 hBW
        by_cases htN : t < N
        · obtain ⟨mid, hmid⟩ : ∃ mid, min (t + z) N = mid := ⟨_, rfl⟩
          obtain ⟨en, hen⟩ : ∃ en, min (t + 2 * z) N = en := ⟨_, rfl⟩
          have HMID := Lib.hid hmid
          have HEN := Lib.hid hen
          have HM0 : Hid (MergeSt leQ a t mid en t mid []) := Lib.hid (by
            have hl := HAL.out
            exact HP.out.merge HT.out hz1 (by omega) (by rw [hl]; exact hmid.symm) (by rw [hl]; exact hen.symm))
          have hX0 : OwnQ W0.heap.size wr _ (nx ++ []) := (List.append_nil nx).symm ▸ hX
          clear hmid hen
          have hm1 : min ((t : Int) + (z : Int)) (N : Int) = (mid : Int) := by have := HMID.out; omega
          have hm2 : min ((t : Int) + 2 * (z : Int)) (N : Int) = (en : Int) := by have := HEN.out; omega
          go_wp2
          clear hm1 hm2
          go_loopw [5, 7, 8] (fun nv iv jv wr => ∃ (i j : Nat) (cur : PairL), iv = .int .i64 i ∧ jv = .int .i64 j ∧ i ≤ mid ∧ mid ≤ j ∧ j ≤ en ∧ OwnQ W0.heap.size wr nv (nx ++ cur) ∧ Hid (MergeSt leQ a t mid en i j cur) ∧ Below W0.heap.size W0 wr)
            (fun _ iv jv _ => (mid - (intOf iv).toNat) + (en - (intOf jv).toNat))
          case atStart => exact ⟨t, mid, [], rfl, rfl, HM0.out.b2, Nat.le_refl _, HM0.out.b4, hX0, HM0, hBt⟩
          case round =>
            obtain ⟨i, j, cur, rfl, rfl, hi, hmj, hj, hXc, HMC, hBc⟩ := hrel
            clear hX0 hX hBt
            have hmN : mid ≤ N := by have := HMID.out; omega
            have heN : en ≤ N := by have := HEN.out; omega
            have hi0 : (0 : Int) ≤ (i : Int) := Int.natCast_nonneg _
            have hj0 : (0 : Int) ≤ (j : Int) := Int.natCast_nonneg _
            have hcl : (nx ++ cur).length + 1 ≤ 1099511627776 := by
              have h1 := HMC.out.len
              have h2 := HP.out.len
              rw [List.length_append]
              omega
            have hXs := hBc.size
            by_cases hjen : j < en
            · have hje : (j : Int) < (en : Int) := by have := HEN.out; omega
              obtain ⟨pj, hpj⟩ : ∃ x, a[j]? = some x := ⟨_, List.getElem?_eq_getElem (by rw [HAL.out]; omega)⟩
              obtain ⟨uj, lj⟩ := pj
              have cj0 := hO.cellAt hpj
              have cj := (hBc.cell (World.block_lt_of_cell? _ _ cj0)).trans cj0
              have ej := HE.out _ (HR.out.1.mem_iff.1 (List.mem_of_getElem? hpj))
              simp only at cj ej
              obtain ⟨ujo, ujn, ujc, rfl⟩ := ej.ints.shape'
              have HPJ := Lib.hid hpj
              have hjN : (j : Int) < (N : Int) := by omega
              clear hpj
              by_cases hilt : i < mid
              · have hie : (i : Int) < (mid : Int) := by have := HMID.out; omega
                obtain ⟨pi, hpi⟩ : ∃ x, a[i]? = some x := ⟨_, List.getElem?_eq_getElem (by rw [HAL.out]; omega)⟩
                obtain ⟨ui, li⟩ := pi
                have ci0 := hO.cellAt hpi
                have ci := (hBc.cell (World.block_lt_of_cell? _ _ ci0)).trans ci0
                have ei := HE.out _ (HR.out.1.mem_iff.1 (List.mem_of_getElem? hpi))
                simp only at ci ei
                obtain ⟨uio, uin, uic, rfl⟩ := ei.ints.shape'
                have HPI := Lib.hid hpi
                have hiN : (i : Int) < (N : Int) := by omega
                have ejD : IntsV W0 (.slice ujo ujn ujc) lj := ej.ints.kept hB
                have eiD : IntsV W0 (.slice uio uin uic) li := ei.ints.kept hB
                have HY := Lib.hid hcl
                clear hpi ej ei cj0 ci0 hcl
                obtain ⟨dd, hdd⟩ : ∃ dd, lexLt lj li = dd := ⟨_, rfl⟩
                have HDD := Lib.hid hdd
                clear hdd
                have hge : decide ((en : Int) ≤ (j : Int)) = false := by have := HEN.out; simp; omega
                have hge2 : decide (en ≤ j) = false := by have := HEN.out; simp; omega
                have hlt2 : decide ((i : Int) < (mid : Int)) = true := by have := HMID.out; simp; omega
                have hlt3 : decide (i < mid) = true := by have := HMID.out; simp; omega
                go_wp2_with fail
                go_region_held3 (fun w' => Below W0.heap.size W0 w' ∧ w'.cell? ⟨g, j, none⟩ = some (.slice ujo ujn ujc) ∧ w'.cell? ⟨g, i, none⟩ = some (.slice uio uin uic))
                  (first
                    | exact k2_drew hBc cj ci
                    | exact k2_call b6 (by assumption) (Nat.le_refl _))
                  (first | (go_at_call 53; refine (l1Less_c _ _ lj li _ (ejD.kept (held2_b (p := ⟨g, j, none⟩) (q := ⟨g, i, none⟩) (x := .slice ujo ujn ujc) (y := .slice uio uin uic) (by assumption))) (eiD.kept (held2_b (p := ⟨g, j, none⟩) (q := ⟨g, i, none⟩) (x := .slice ujo ujn ujc) (y := .slice uio uin uic) (by assumption)))).mono ?_; rw [HDD.out]; rintro e1 w6 ⟨rfl, b6⟩))
                all_goals
                  have FF := held2_b (p := ⟨g, j, none⟩) (q := ⟨g, i, none⟩) (x := .slice ujo ujn ujc) (y := .slice uio uin uic) (B := W0.heap.size) (w := W0) (W := w6) (by assumption)
                  have hX6 := (hXc.kept (below_drewII (Below.refl wr.heap.size wr))).kept b6
                  have ci6 : w6.cell? ⟨g, i, none⟩ = some (.slice uio uin uic) := (b6.cell (World.block_lt_of_cell? _ _ ci)).trans ci
                  have cj6 : w6.cell? ⟨g, j, none⟩ = some (.slice ujo ujn ujc) := (b6.cell (World.block_lt_of_cell? _ _ cj)).trans cj
                  have h6s := FF.size
                  clear ci cj hXc hBc b6 ejD eiD hge hlt2
                  try clear hge2
                  try clear hlt3
                  cases dd with
                  | false =>
                    have HM7 := Lib.hid (HMC.out.left leQ_order hilt HPI.out (.inr (fun y hy => by rw [HPJ.out] at hy; obtain rfl := Option.some.inj hy; exact HDD.out)))
                    go_wp2_with (at_builtin; refine wpList_pushL w6 rfl _ _ rfl Try.underlying32 Try.infoII rfl (by decide) (y := (.slice uio uin uic, li)) hX6 rfl rfl rfl rfl HY.out h6s ?_)
                    intro v7 w7 R7a b7 _ _
                    have R7 : OwnQ W0.heap.size w7 v7 (nx ++ (cur ++ [(.slice uio uin uic, li)])) := by first | exact R7a | (rw [← List.append_assoc]; exact R7a)
                    have B7 := FF.trans b7
                    clear R7a b7
                    go_wp2
                    go_roundw
                    case rel => exact ⟨i + 1, j, cur ++ [(.slice uio uin uic, li)], by go_num, rfl, by omega, by omega, by omega, R7, HM7, B7⟩
                    case measure => simp [intOf]; omega
                  | true =>
                    have HM7 := Lib.hid (HMC.out.right leQ_order hjen HPJ.out (.inr (fun y hy => by rw [HPI.out] at hy; obtain rfl := Option.some.inj hy; unfold leQ; rw [HDD.out]; simp)))
                    go_wp2_with (at_builtin; refine wpList_pushL w6 rfl _ _ rfl Try.underlying32 Try.infoII rfl (by decide) (y := (.slice ujo ujn ujc, lj)) hX6 rfl rfl rfl rfl HY.out h6s ?_)
                    intro v7 w7 R7a b7 _ _
                    have R7 : OwnQ W0.heap.size w7 v7 (nx ++ (cur ++ [(.slice ujo ujn ujc, lj)])) := by first | exact R7a | (rw [← List.append_assoc]; exact R7a)
                    have B7 := FF.trans b7
                    clear R7a b7
                    go_wp2
                    go_roundw
                    case rel => exact ⟨i, j + 1, cur ++ [(.slice ujo ujn ujc, lj)], rfl, by go_num, by omega, by omega, by omega, R7, HM7, B7⟩
                    case measure => simp [intOf]; omega
              · have hie : ¬ (i : Int) < (mid : Int) := by have := HMID.out; omega
                have hge : decide ((en : Int) ≤ (j : Int)) = false := by have := HEN.out; simp; omega
                have hge2 : decide (en ≤ j) = false := by have := HEN.out; simp; omega
                have hlt2 : decide ((i : Int) < (mid : Int)) = false := by have := HMID.out; simp; omega
                have hlt3 : decide (i < mid) = false := by have := HMID.out; simp; omega
                have HM7 := Lib.hid (HMC.out.right leQ_order hjen HPJ.out (.inl (by omega)))
                have HY := Lib.hid hcl
                clear hcl ej cj0
                go_wp2
                go_quiet (fail)
                have hX6 := hXc.kept (below_drewN (Below.refl wr.heap.size wr) nq)
                have FF := below_drewN hBc nq
                have cj6 : (wr.drewN nq).cell? ⟨g, j, none⟩ = some (.slice ujo ujn ujc) := cj
                have h6s := FF.size
                clear hXc hBc cj hge hlt2
                try clear hge2
                try clear hlt3
                go_wp2_with (at_builtin; refine wpList_pushL (wr.drewN nq) rfl _ _ rfl Try.underlying32 Try.infoII rfl (by decide) (y := (.slice ujo ujn ujc, lj)) hX6 rfl rfl rfl rfl HY.out h6s ?_)
                intro v7 w7 R7a b7 _ _
                have R7 : OwnQ W0.heap.size w7 v7 (nx ++ (cur ++ [(.slice ujo ujn ujc, lj)])) := by first | exact R7a | (rw [← List.append_assoc]; exact R7a)
                have B7 := FF.trans b7
                clear R7a b7
                go_wp2
                go_roundw
                case rel => exact ⟨i, j + 1, cur ++ [(.slice ujo ujn ujc, lj)], rfl, by go_num, by omega, by omega, by omega, R7, HM7, B7⟩
                case measure => simp [intOf]; omega
            · have hje0 : en ≤ j := by omega
              have hje : ¬ (j : Int) < (en : Int) := by have := HEN.out; omega
              by_cases hilt : i < mid
              · have hie : (i : Int) < (mid : Int) := by have := HMID.out; omega
                obtain ⟨pi, hpi⟩ : ∃ x, a[i]? = some x := ⟨_, List.getElem?_eq_getElem (by rw [HAL.out]; omega)⟩
                obtain ⟨ui, li⟩ := pi
                have ci0 := hO.cellAt hpi
                have ci := (hBc.cell (World.block_lt_of_cell? _ _ ci0)).trans ci0
                have ei := HE.out _ (HR.out.1.mem_iff.1 (List.mem_of_getElem? hpi))
                simp only at ci ei
                obtain ⟨uio, uin, uic, rfl⟩ := ei.ints.shape'
                have hiN : (i : Int) < (N : Int) := by omega
                have hge : decide ((en : Int) ≤ (j : Int)) = true := by simp; omega
                have hge2 : decide (en ≤ j) = true := by have := HEN.out; simp; omega
                have HM7 := Lib.hid (HMC.out.left leQ_order hilt hpi (.inl hje0))
                have HY := Lib.hid hcl
                clear hcl ei ci0 hpi
                go_wp2
                go_quiet (fail)
                have hX6 := hXc.kept (below_drewN (Below.refl wr.heap.size wr) nq)
                have FF := below_drewN hBc nq
                have ci6 : (wr.drewN nq).cell? ⟨g, i, none⟩ = some (.slice uio uin uic) := ci
                have h6s := FF.size
                clear hXc hBc ci hge
                try clear hge2
                go_wp2_with (at_builtin; refine wpList_pushL (wr.drewN nq) rfl _ _ rfl Try.underlying32 Try.infoII rfl (by decide) (y := (.slice uio uin uic, li)) hX6 rfl rfl rfl rfl HY.out h6s ?_)
                intro v7 w7 R7a b7 _ _
                have R7 : OwnQ W0.heap.size w7 v7 (nx ++ (cur ++ [(.slice uio uin uic, li)])) := by first | exact R7a | (rw [← List.append_assoc]; exact R7a)
                have B7 := FF.trans b7
                clear R7a b7
                go_wp2
                go_roundw
                case rel => exact ⟨i + 1, j, cur ++ [(.slice uio uin uic, li)], by go_num, rfl, by omega, by omega, by omega, R7, HM7, B7⟩
                case measure => simp [intOf]; omega
              · have hie : ¬ (i : Int) < (mid : Int) := by have := HMID.out; omega
                have HMD : Hid (MergeSt leQ a t mid en mid en cur) := Lib.hid (by have h := HMC.out; rwa [show i = mid by omega, show j = en by omega] at h)
                have HN := Lib.hid (HP.out.next HT.out hz1 (by rw [HAL.out]; exact htN) (by rw [HAL.out]; exact HEN.out.symm) HMD.out)
                have HTN : Hid (t + 2 * z = (q + 1) * (2 * z)) := Lib.hid (by rw [Nat.add_mul q 1 (2 * z), ← HT.out, Nat.one_mul])
                clear hcl
                go_wp2
                go_roundw
                case rel => exact ⟨t + 2 * z, q + 1, nx ++ cur, by omega, by go_num, HTN, hXc, HN, hBc⟩
                case measure => simp [intOf]; omega
        · have HD2 := Lib.hid (HP.out.done (by rw [HAL.out]; omega))
          have HN : Hid (nx.Perm a0 ∧ Runs leQ nx (2 * z)) := Lib.hid ⟨HD2.out.1.trans HR.out.1, HD2.out.2⟩
          have hXb := hX.mono hB.size
          have hBn := hB.trans (hBt.mono hB.size)
          go_wp2
          go_roundw
          case rel => exact ⟨2 * z, nx, by omega, by omega, by go_num, hXb, HN, hBn⟩
          case measure => simp [intOf]; omega
    · have HS := Lib.hid (HR.out.2.all (by rw [HAL.out]; omega))
      go_wp2
      go_ret
      exact ⟨_, a, rfl, hO, HR.out.1, HS.out, hB⟩

theorem zip_fst {α β : Type} : ∀ {a : List α} {b : List β}, a.length = b.length → (a.zip b).map Prod.fst = a
  | [], _, _ => by simp
  | x :: a, [], h => by simp at h
  | x :: a, y :: b, h => by simp [zip_fst (a := a) (b := b) (by simpa using h)]
theorem zip_snd {α β : Type} : ∀ {a : List α} {b : List β}, a.length = b.length → (a.zip b).map Prod.snd = b
  | [], b, h => by cases b with | nil => simp | cons y b => simp at h
  | x :: a, [], h => by simp at h
  | x :: a, y :: b, h => by simp [zip_snd (a := a) (b := b) (by simpa using h)]
theorem RowC.q {B : Nat} {w : World} {v : Value} {us : List Value} {ls : ListsL} (h : RowC B w v us ls) : OwnQ B w v (us.zip ls) ∧ (us.zip ls).length = ls.length ∧ (us.zip ls).map Prod.snd = ls ∧ ∀ p ∈ us.zip ls, OwnI B w p.1 p.2 := by
  have hl : (us.zip ls).length = us.length := by simp [h.len]
  refine ⟨⟨?_, by rw [hl]; exact h.row.2⟩, by simp [h.len], zip_snd h.len, fun p hp => ?_⟩
  · rw [zip_fst h.len, hl]
    have := h.row.1
    rwa [List.map_id] at this
  · obtain ⟨j, hj, e⟩ := List.mem_iff_getElem.1 hp
    simp at hj
    rw [List.getElem_zip] at e
    subst e
    exact h.own j _ _ (List.getElem?_eq_getElem (by omega)) (List.getElem?_eq_getElem (by omega))
theorem OwnQ.ownR {B B' : Nat} {w : World} {v : Value} {a : PairL} (h : OwnQ B w v a) (he : ∀ p ∈ a, OwnI B' w p.1 p.2) (hB : B' ≤ B) : OwnR B' w v (a.map Prod.snd) := by
  have h2 : OwnL 22 id B' w v (a.map Prod.fst) := by
    have h3 := h.mono hB
    refine ⟨?_, by simpa using h3.2⟩
    rw [List.map_id, List.length_map]
    exact h3.1
  have key : ∀ (j : Nat) u, (a.map Prod.fst)[j]? = some u → ∃ p, a[j]? = some p ∧ u = p.1 := fun j u hu => by
    rw [List.getElem?_map] at hu
    cases hx : a[j]? with
    | none => rw [hx] at hu; simp at hu
    | some p => rw [hx] at hu; exact ⟨p, rfl, (Option.some.inj hu).symm⟩
  refine ⟨a.map Prod.fst, h2, by simp, fun j u l hu hl => ?_, fun k hk => (h2.block k hk).2, fun j u hu k hk => ?_, Nat.le_refl _⟩
  · obtain ⟨p, hp, rfl⟩ := key j u hu
    rw [List.getElem?_map, hp] at hl
    obtain rfl := Option.some.inj hl
    exact he p (List.mem_of_getElem? hp)
  · obtain ⟨p, hp, rfl⟩ := key j u hu
    exact ((he p (List.mem_of_getElem? hp)).block k hk).2
theorem sorted_words {n m : Nat} {l : List Int} (h : PermN n l) (hm : lenOf l = (m : Int)) {a a0 : PairL} (h0 : a0.map Prod.snd = redR n m l) (hp : a.Perm a0) (hs : a.Pairwise leQ) : a.map Prod.snd = redL n m l := by
  have hp2 : (a.map Prod.snd).Perm (redR n m l) := by rw [← h0]; exact hp.map _
  refine asc_unique (asc_of_sorted (hp2.nodup_iff.2 (nodup_redR n m l)) ?_) (asc_redL n m l) fun x => ?_
  · exact List.Pairwise.map _ (fun x y h => h) hs
  · rw [hp2.mem_iff]; exact (redR_perm h hm).mem_iff

set_option maxHeartbeats 1600000 in
theorem sReduced_c (v : Value) (l : List Int) (w : World) (hv : IntsV w v l) :
    Calls Try.prog 17 #[v] w (GivesRB w (wordsL l) (wordsB' l)) := by
  cases hp : isPermB l with
  | false =>
    have HR : Hid (wordsL l = [] ∧ wordsB' l = false) := Lib.hid (by simp [wordsL, wordsB', hp])
    go_enter Try.func17, Try.ntmps17
    go_wp2_with fail
    refine (sIsPerm_c _ _ _ hv).mono ?_
    rw [hp]
    rintro e w1 ⟨rfl, b1⟩
    go_wp2_with fail
    go_ret2
    rw [HR.out.1, HR.out.2]
    exact ⟨_, rfl, OwnR.nil _ _, b1⟩
  | true =>
    have HP : Hid (PermN l.length l) := Lib.hid ⟨hp, rfl⟩
    have HPP := Lib.hid hp
    obtain ⟨m, hm⟩ : ∃ m : Nat, lenOf l = (m : Int) := ⟨(lenOf l).toNat, by have := lenOf_nonneg l; omega⟩
    have hm21 : m ≤ 21 := by have := len_le HP.out; omega
    have HM := Lib.hid hm
    have HRN : Hid (redN l.length l = (redR l.length m l).length) := Lib.hid (by rw [redN, hm, (redR_perm HP.out hm).length_eq]; rfl)
    obtain ⟨vo, vn, vc, rfl⟩ := hv.shape'
    clear hp hm
    go_enter Try.func17, Try.ntmps17
    go_wp2_with fail
    refine (sIsPerm_c _ _ _ hv).mono ?_
    rw [HPP.out]
    rintro e w1 ⟨rfl, b1⟩
    have A1 : Below w1.heap.size w1 ((w1.alloc (.cells #[] 3)).alloc (.cells #[] 22)) := ((Below.refl _ _).alloc (Nat.le_refl _) _).alloc (by simp) _
    have hin := (hv.kept b1).into.kept A1
    have hb := (OwnI.lit w1).kept (w' := (w1.alloc (.cells #[] 3)).alloc (.cells #[] 22)) ((Below.refl _ _).alloc (Nat.le_refl _) _)
    have hR : RowC w1.heap.size ((w1.alloc (.cells #[] 3)).alloc (.cells #[] 22)) (.slice (some ⟨w1.heap.size + 1, 0, none⟩) 0 0) [] [] := by
      have := RowC.lit (B := w1.heap.size) (w1.alloc (.cells #[] 3)) (by simp)
      simpa using this
    have hS : ∀ k, (fun k => k < w1.heap.size) k → (Value.slice (some ⟨w1.heap.size + 1, 0, none⟩) 0 0).ownBlock ≠ some k := fun k hk e => by
      simp [Value.ownBlock] at e hk; omega
    have hap : Apart (Value.slice (some ⟨w1.heap.size, 0, none⟩) 0 0) (Value.slice (some ⟨w1.heap.size + 1, 0, none⟩) 0 0) := fun k hk e => by
      simp [Value.ownBlock] at e hk; omega
    go_wp2_with fail
    refine (l1Words_c l.length w1.heap.size m l [] _ _ _ [] [] (fun k => k < w1.heap.size) _ HM.out HP.out hin hS hb hap hR (by simp) A1.size (by simp; omega)).mono ?_
    rintro e w2 ⟨r, us, ls, rfl, R2, W2, g2, v2⟩
    have B2 : Below w1.heap.size w1 w2 := A1.grown g2 (by simp; omega) (fun k hk => by simp [Value.ownBlock] at hk; omega)
    have B2w := b1.trans (B2.mono b1.size)
    have hws : (redR l.length m l).map (· ++ []) = redR l.length m l := by simp
    rw [hws] at W2
    have HW := Lib.hid W2
    obtain ⟨q1, q2, q3, q4⟩ := R2.q
    obtain ⟨ao, c, hrv, _⟩ := R2.row.shape
    obtain ⟨q, hq⟩ : ∃ q, us.length = q := ⟨_, rfl⟩
    rw [hq] at hrv
    subst hrv
    have HQ : Hid (q = ls.length) := Lib.hid (by rw [← hq, R2.len])
    have hq801 : q ≤ 801 := by rw [HQ.out]; exact W2.len
    clear hq hin hb hR hS hap W2 g2 v2 R2 hws A1
    by_cases h8 : redN l.length l ≤ 800
    · have HE : Hid (ls = redR l.length m l) := Lib.hid (by have := HW.out.few (by have := HRN.out; rw [List.length_nil]; omega); rwa [List.nil_append] at this)
      have hq8 : (q : Int) ≤ 800 := by have h2 := HQ.out; rw [HE.out, ← HRN.out] at h2; omega
      have HR : Hid (wordsL l = redL l.length m l ∧ wordsB' l = true) := Lib.hid (by
        refine ⟨by rw [wordsL, if_pos ⟨HPP.out, h8⟩, HM.out]; rfl, by simp [wordsB', HPP.out, h8]⟩)
      have HA0 := Lib.hid (q3.trans HE.out)
      have HQ4 := Lib.hid q4
      have HLN : Hid ((us.zip ls).length ≤ 1000) := Lib.hid (by rw [q2, ← HQ.out]; omega)
      clear q2 q3 q4 h8
      go_wp2_with fail
      refine (l1Sorted_c w1.heap.size _ _ _ q1 HQ4.out HLN.out).mono ?_
      rintro e w3 ⟨r3, a, rfl, o3, p3, s3, b3⟩
      have HS := Lib.hid (sorted_words HP.out HM.out HA0.out p3 s3)
      have HO3 : Hid (OwnR w1.heap.size w3 r3 (a.map Prod.snd)) := Lib.hid (o3.ownR (fun p hp => (HQ4.out p (p3.mem_iff.1 hp)).kept b3) B2.size)
      have B3 := below_step B2w b3 B2w.size
      have hbs := b1.size
      clear o3 p3 s3 b3
      go_wp2
      go_ret2
      rw [HR.out.1, HR.out.2, ← HS.out]
      exact ⟨_, rfl, HO3.out.mono hbs, B3⟩
    · have hq8 : 800 < (q : Int) := by
        have := HW.out.many (by have := HRN.out; rw [List.length_nil]; omega)
        rw [← HQ.out] at this; omega
      have HR : Hid (wordsL l = [] ∧ wordsB' l = false) := Lib.hid (by simp [wordsL, wordsB', HPP.out, h8])
      clear h8 q1 q2 q3 q4
      go_wp2
      go_ret2
      rw [HR.out.1, HR.out.2]
      exact ⟨_, rfl, OwnR.nil _ _, B2w⟩

end Go.Proofs.Ytcpekiangjpppaa
