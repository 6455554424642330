/-
  Contracts: patterns (HasPattern, IsVexillary).
-/
import Derived.Test.YtfepepakellbbaaExt
import Derived.Test.YtfepepakellbbaaPermI
import Derived.Deep.RegionHeld3
import Derived.Deep.AppendLies
import Derived.Deep.DrawnRows
namespace Go.Proofs.Ytfepepakellbbaa
open Go.RowKit
set_option linter.unusedVariables false
attribute [local go_sem ↓] Go.wp_at_zero Go.wp_at_succ

/-- append(s, y) at a step of a region that draws its order. -/
theorem step_push {ops : Array Oper} {o : Oper} {a : Act} {w : World} {K : Act → World → Prop} {Q : Exit → Act → World → Prop} {E : Prop}
    (hw : Region.wanted o (yielded ops a.tmps) = true) (s x : Operand)
    (ho : o.op = .call { callee := .builtin .append, args := #[s, x], argTypes := #[24, 24] })
    {B : Nat} {v : Value} {l : List Int} {y : Int} {g : Nat} (hown : OwnI B w v l) (hs : a.eval s = v) (hx : a.eval x = .slice (some ⟨g, 0, none⟩) 1 1)
    (hc : w.cell? ⟨g, 0, none⟩ = some (.int .i64 y)) (hlen : l.length + 1 ≤ 1099511627776) (hB : B ≤ w.heap.size)
    (h : ∀ v' w', OwnI B w' v' (l ++ [y]) → Below B w w' → K (a.put o.dst v') w') :
    if Region.wanted o (yielded ops a.tmps) = true then Oper.wp Try.prog o a w K Q else E := by
  obtain ⟨i0, hi, hz0, hz1, hz2⟩ := info_parts Try.infoI
  rw [if_pos hw]
  refine wp_append_lies w s x 24 ho B 3 i0 (.int .i64 0) 1 8 Try.underlying24 hi hz0 hz1 hz2 rfl (by decide) v l.length (l.map (Value.int .i64)) hs hown.1
    ⟨g, 0, none⟩ 1 1 [.int .i64 y] hx rfl ?_ ?_ (by decide) ?_ ?_ hB w.heap.size rfl ?_
  · intro j u hj
    match j, hj with
    | 0, hj => simp at hj; subst hj; exact hc
  · intro u hu; simp at hu; subst hu; rfl
  · unfold maxLen; omega
  · omega
  · intro g' cap w' hown' hgrow hat hlt
    have hb : ∀ k, v.ownBlock = some k → B ≤ k := fun k hk => (hown.block k hk).1
    refine h _ w' ⟨?_, by simpa using hlen⟩ ((Below.refl _ _).grown hgrow hB (fun k hk => hb k hk))
    rw [List.length_append, List.map_append]
    exact hown'

/-- Do the numbers chosen stand to that at the place i as the pattern says (the first j of them)? -/
def fitsUp (l p ch : List Int) (i j : Nat) : Bool := (List.range j).all (fun t => decide (ch.getD t 0 < l.getD i 0) == decide (p.getD t 0 < p.getD ch.length 0))
theorem fitsUp_zero (l p ch : List Int) (i : Nat) : fitsUp l p ch i 0 = true := rfl
theorem fitsUp_succ {l p ch : List Int} {i j : Nat} {c x y z : Int} (hc : c = ch.getD j 0) (hx : x = l.getD i 0) (hy : y = p.getD j 0) (hz : z = p.getD ch.length 0) :
    fitsUp l p ch i (j + 1) = (fitsUp l p ch i j && (decide (c < x) == decide (y < z))) := by
  subst hc hx hy hz
  simp [fitsUp, List.range_succ, List.all_append]
/-- Can numbers that were chosen go on to the pattern, from the place i on? -/
def patF (l p : List Int) : Nat → List Int → Nat → Bool
  | 0, ch, i => decide (ch.length = p.length)
  | f + 1, ch, i => decide (ch.length = p.length) || ((fitsUp l p ch i ch.length && patF l p f (ch ++ [l.getD i 0]) (i + 1)) || patF l p f ch (i + 1))
def patB (l p ch : List Int) (i : Nat) : Bool := patF l p (l.length - i) ch i
theorem patB_full {l p ch : List Int} {i : Nat} (h : ch.length = p.length) : patB l p ch i = true := by
  unfold patB; cases l.length - i <;> simp [patF, h]
theorem patB_end {l p ch : List Int} {i : Nat} (h : ch.length ≠ p.length) (hi : l.length ≤ i) : patB l p ch i = false := by
  unfold patB; rw [show l.length - i = 0 by omega]; simp [patF, h]
theorem patB_step {l p ch : List Int} {i : Nat} (h : ch.length ≠ p.length) (hi : i < l.length) :
    patB l p ch i = ((fitsUp l p ch i ch.length && patB l p (ch ++ [l.getD i 0]) (i + 1)) || patB l p ch (i + 1)) := by
  unfold patB
  obtain ⟨d, hd⟩ : ∃ d, l.length - i = d + 1 := ⟨l.length - i - 1, by omega⟩
  rw [hd, show l.length - (i + 1) = d by omega]
  have hne : decide (ch.length = p.length) = false := by simpa using h
  simp only [patF, hne, Bool.false_or]
theorem patB_no {l p ch : List Int} {i : Nat} (h : ch.length ≠ p.length) (hi : i < l.length) (hf : fitsUp l p ch i ch.length = false) : patB l p ch i = patB l p ch (i + 1) := by
  rw [patB_step h hi, hf]; simp
theorem patB_yes {l p ch : List Int} {i : Nat} {x : Int} (h : ch.length ≠ p.length) (hi : i < l.length) (hx : x = l.getD i 0) (hf : fitsUp l p ch i ch.length = true) (hr : patB l p (ch ++ [x]) (i + 1) = true) : patB l p ch i = true := by
  rw [patB_step h hi, hf, ← hx, hr]; simp
theorem patB_on {l p ch : List Int} {i : Nat} {x : Int} (h : ch.length ≠ p.length) (hi : i < l.length) (hx : x = l.getD i 0) (hr : patB l p (ch ++ [x]) (i + 1) = false) : patB l p ch i = patB l p ch (i + 1) := by
  rw [patB_step h hi, ← hx, hr]; simp

theorem keep_alloc {B : Nat} {w W : World} {p : Addr} {x : Value} (o : Obj) (h : Below B w W ∧ W.cell? p = some x) (hB : B ≤ w.heap.size) : Below B w (W.alloc o) ∧ (W.alloc o).cell? p = some x := by
  have hb := (Below.refl W.heap.size W).alloc (Nat.le_refl _) o
  refine ⟨h.1.alloc (Nat.le_trans hB h.1.size) o, ?_⟩
  rw [hb.cell (World.block_lt_of_cell? _ _ h.2)]; exact h.2
theorem keep_drew {B : Nat} {w W : World} {p : Addr} {x : Value} (h : Below B w W) (hc : W.cell? p = some x) : Below B w W.drew ∧ W.drew.cell? p = some x := ⟨⟨h.os, h.tape, h.output, h.size, h.block⟩, hc⟩
theorem keep_call {B : Nat} {w W W' : World} {p : Addr} {x : Value} (hb : Below W.heap.size W W') (h : Below B w W ∧ W.cell? p = some x) (hB : B ≤ w.heap.size) : Below B w W' ∧ W'.cell? p = some x :=
  ⟨below_step h.1 hb (Nat.le_trans hB h.1.size), by rw [hb.cell (World.block_lt_of_cell? _ _ h.2)]; exact h.2⟩
theorem keep_push {w W W' : World} {p : Addr} {x : Value} (hb : Below w.heap.size W W') (h : Below w.heap.size w W ∧ W.cell? p = some x) (hc : w.cell? p = some x) : Below w.heap.size w W' ∧ W'.cell? p = some x := by
  have h2 := h.1.trans hb
  exact ⟨h2, by rw [h2.cell (World.block_lt_of_cell? _ _ hc)]; exact hc⟩
theorem held_below {w W : World} {p : Addr} {x : Value} (h : Below w.heap.size w W ∧ W.cell? p = some x) : Below w.heap.size w W := h.1
theorem ints_held {w W : World} {p : Addr} {x v : Value} {l : List Int} (hv : IntsV w v l) (h : Below w.heap.size w W ∧ W.cell? p = some x) : IntsV W v l := hv.kept h.1
def GivesHeld (w W : World) (l : List Int) (e : Ending) (w1 : World) : Prop := ∃ r, e = .returned r ∧ OwnI w.heap.size w1 r l ∧ Below W.heap.size W w1
theorem l1Ints_held {w W : World} {p : Addr} {x v : Value} {l : List Int} (hv : IntsV w v l) (h : Below w.heap.size w W ∧ W.cell? p = some x) :
    Calls Try.prog 67 #[v] W (GivesHeld w W l) :=
  (l1Ints_c v l W (hv.kept h.1)).mono fun e w1 ⟨r, h1, h2, h3⟩ => ⟨r, h1, h2.mono h.1.size, h3⟩
theorem clone_held {w W : World} {p : Addr} {x v : Value} {l : List Int} (hv : IntsV w v l) (h : Below w.heap.size w W ∧ W.cell? p = some x) :
    Calls Try.prog 57 #[v] W (GivesHeld w W l) :=
  (cloneI_c v l W (hv.kept h.1)).mono fun e w1 ⟨r, h1, h2, h3⟩ => ⟨r, h1, h2.mono h.1.size, h3⟩
/-- The element's block came behind the list. -/
theorem step_pushA {ops : Array Oper} {o : Oper} {a : Act} {w W : World} {K : Act → World → Prop} {Q : Exit → Act → World → Prop} {E : Prop}
    (hw : Region.wanted o (yielded ops a.tmps) = true) (s x : Operand)
    (ho : o.op = .call { callee := .builtin .append, args := #[s, x], argTypes := #[24, 24] })
    {v : Value} {l : List Int} {y : Int} {p : Addr} {u : Value} (hown : OwnI w.heap.size W v l) (hs : a.eval s = v) (hx : a.eval x = .slice (some ⟨W.heap.size, 0, none⟩) 1 1)
    (hlen : l.length + 1 ≤ 1099511627776) (hh : Below w.heap.size w (W.alloc (.cells #[.int .i64 y] 3)) ∧ (W.alloc (.cells #[.int .i64 y] 3)).cell? p = some u)
    (h : ∀ v' w', OwnI w.heap.size w' v' (l ++ [y]) → Below w.heap.size (W.alloc (.cells #[.int .i64 y] 3)) w' → K (a.put o.dst v') w') :
    if Region.wanted o (yielded ops a.tmps) = true then Oper.wp Try.prog o a (W.alloc (.cells #[.int .i64 y] 3)) K Q else E :=
  step_push hw s x ho (hown.kept ((Below.refl _ _).alloc (Nat.le_refl _) _)) hs hx (by simp) hlen hh.1.size h
/-- The element's block came ahead of the list. -/
theorem step_pushB {ops : Array Oper} {o : Oper} {a : Act} {w W W' : World} {K : Act → World → Prop} {Q : Exit → Act → World → Prop} {E : Prop}
    (hw : Region.wanted o (yielded ops a.tmps) = true) (s x : Operand)
    (ho : o.op = .call { callee := .builtin .append, args := #[s, x], argTypes := #[24, 24] })
    {v : Value} {l : List Int} {y : Int} {g : Nat} {p : Addr} {u : Value} (hown : OwnI w.heap.size W' v l) (hb : Below W.heap.size W W') (hs : a.eval s = v) (hx : a.eval x = .slice (some ⟨g, 0, none⟩) 1 1)
    (hc0 : W.cell? ⟨g, 0, none⟩ = some (.int .i64 y))
    (hlen : l.length + 1 ≤ 1099511627776) (hh : Below w.heap.size w W' ∧ W'.cell? p = some u)
    (h : ∀ v' w', OwnI w.heap.size w' v' (l ++ [y]) → Below w.heap.size W' w' → K (a.put o.dst v') w') :
    if Region.wanted o (yielded ops a.tmps) = true then Oper.wp Try.prog o a W' K Q else E :=
  step_push hw s x ho hown hs hx (by rw [hb.cell (World.block_lt_of_cell? _ _ hc0)]; exact hc0) hlen hh.1.size h

set_option maxHeartbeats 3200000 in
theorem holds_c (l p : List Int) : ∀ (d i0 : Nat) (ch : List Int) (lv pv cv : Value) (w : World), l.length - i0 = d → i0 ≤ l.length → ch.length ≤ p.length → IntsV w lv l → IntsV w pv p → IntsV w cv ch →
    Calls Try.prog 55 #[lv, pv, .int .i64 (i0 : Int), cv] w (GivesB w (patB l p ch i0)) := by
  intro d
  induction d using Nat.strongRecOn with
  | ind d ih => ?_
  intro i0 ch lv pv cv w hd hi0 hcp hl hp hch
  have hl0 := hl
  have hp0 := hp
  have hch0 := hch
  obtain ⟨n, ao, b, off, c, rfl, HL, hnc, hcm, ha, hc, hn⟩ := hl.open
  obtain ⟨m, po, pb, poff, pc, rfl, HM, hmc, hcm2, hpa, hpc, hpn⟩ := hp.open
  obtain ⟨k, co, cb, coff, cc, rfl, HK, hkc, hcm3, hca, hcc, hcn⟩ := hch.open
  clear hcm hcm2 hcm3 hl hp hch
  by_cases hkm : k = m
  · have HR : Hid (patB l p ch i0 = true) := Lib.hid (patB_full (by rw [← HK.out, ← HM.out]; exact hkm))
    subst hkm
    have he : ((k : Int) == (k : Int)) = true := by simp
    clear hc hpc hcc ha hpa hca ih
    go_enter Try.func55, Try.ntmps55
    go_wp2
    go_ret
    exact ⟨ret_bool HR.out.symm, Below.refl _ _⟩
  · have hlt : k < m := by rw [← HK.out, ← HM.out] at hcp; omega
    have HN : Hid (ch.length ≠ p.length) := Lib.hid (by rw [← HK.out, ← HM.out]; exact hkm)
    have he : ((k : Int) == (m : Int)) = false := by simp; omega
    obtain rfl := hpa (by omega)
    obtain ⟨z, hz⟩ : ∃ z, z = p.getD k 0 := ⟨_, rfl⟩
    have hcz := (hpc k hlt).trans (by rw [← hz])
    have HZ : Hid (z = p.getD ch.length 0) := Lib.hid (by rw [← HK.out]; exact hz)
    have HPC := Lib.hid hpc
    have HCC := Lib.hid hcc
    have HC := Lib.hid hc
    have HIH := Lib.hid ih
    have HCA := Lib.hid hca
    clear hc hpc hcc hz hkm ih hca
    go_enter Try.func55, Try.ntmps55
    go_wp2
    clear he
    go_loopw [10] (fun iv wr => ∃ i : Nat, i0 ≤ i ∧ i ≤ n ∧ iv = .int .i64 i ∧ Hid (patB l p ch i0 = patB l p ch i) ∧ Below w.heap.size w wr) (fun iv _ => n - (intOf iv).toNat)
    case atStart => exact ⟨i0, Nat.le_refl _, by rw [HL.out]; exact hi0, rfl, Lib.hid rfl, Below.refl _ _⟩
    case round =>
      obtain ⟨i, hii, hin, rfl, HP, hB⟩ := hrel
      by_cases hltn : i < n
      · obtain rfl := ha (by omega)
        obtain ⟨wo, rfl⟩ : ∃ wo : World, wo = wr := ⟨_, rfl⟩
        obtain ⟨x, hx⟩ : ∃ x, x = l.getD i 0 := ⟨_, rfl⟩
        have hcx : w.cell? ⟨b, off + i, none⟩ = some (.int .i64 x) := (HC.out i hltn).trans (by rw [← hx])
        have HX := Lib.hid hx
        clear hx ha
        go_wp2
        go_loopw [11, 29] (fun fv jv wr => ∃ (j : Nat) (f : Bool), j ≤ k ∧ jv = .int .i64 j ∧ fv = .bool f ∧ Hid (f = fitsUp l p ch i j) ∧ Below w.heap.size w wr) (fun _ jv _ => k - (intOf jv).toNat)
        case atStart => exact ⟨0, true, Nat.zero_le _, rfl, rfl, Lib.hid rfl, hB⟩
        case round =>
          obtain ⟨j, f, hj, rfl, rfl, HF, hBj⟩ := hrel
          clear hB
          by_cases hjk : j < k
          · obtain rfl := HCA.out (by omega)
            obtain ⟨y, hy⟩ : ∃ y, y = p.getD j 0 := ⟨_, rfl⟩
            obtain ⟨q, hq⟩ : ∃ q, q = ch.getD j 0 := ⟨_, rfl⟩
            have hcell : ∀ (a : Addr) (u : Value), w.cell? a = some u → wr.cell? a = some u := fun a u h => by rw [hBj.cell (World.block_lt_of_cell? _ _ h)]; exact h
            have h1 := hcell _ _ hcx
            have h2 := hcell _ _ hcz
            have h3 := hcell _ _ ((HPC.out j (by omega)).trans (by rw [← hy]))
            have h4 := hcell _ _ ((HCC.out j hjk).trans (by rw [← hq]))
            have HS := Lib.hid (fitsUp_succ (j := j) hq HX.out hy HZ.out)
            rw [← HF.out] at HS
            obtain ⟨q1, hq1⟩ : ∃ q1, decide (q < x) = q1 := ⟨_, rfl⟩
            obtain ⟨q2, hq2⟩ : ∃ q2, decide (y < z) = q2 := ⟨_, rfl⟩
            rw [hq1, hq2] at HS
            clear hcx hcz hcell hy hq
            have hkm2 : (k : Int) < (m : Int) := by omega
            have hjm2 : (j : Int) < (m : Int) := by omega
            cases f with
            | false =>
              go_wp2
              go_quiet (fail)
              go_wp2
              go_roundw
              case rel => exact ⟨j + 1, false, by omega, by go_num, rfl, Lib.hid (by rw [HS.out]; rfl), below_drewN hBj _⟩
              case measure => simp [intOf]; omega
            | true =>
              go_wp2
              go_quiet (fail)
              go_wp2
              go_roundw
              case rel => exact ⟨j + 1, q1 == q2, by omega, by go_num, by simp, Lib.hid (by rw [HS.out]; rfl), below_drewN hBj _⟩
              case measure => simp [intOf]; omega
          · obtain rfl : j = k := by omega
            cases f with
            | false =>
              have HP' : Hid (patB l p ch i0 = patB l p ch (i + 1)) := Lib.hid (by rw [HP.out]; exact patB_no HN.out (by rw [← HL.out]; exact hltn) (by rw [← HK.out]; exact HF.out.symm))
              go_wp2
              go_quiet (fail)
              go_wp2
              go_roundw
              case rel => exact ⟨i + 1, by omega, by omega, by go_num, HP', below_drewN hBj _⟩
              case measure => simp [intOf]; omega
            | true =>
              have HF2 : Hid (fitsUp l p ch i ch.length = true) := Lib.hid (by rw [← HK.out]; exact HF.out.symm)
              have hcx2 : wr.cell? ⟨b, off + i, none⟩ = some (.int .i64 x) := by rw [hBj.cell (World.block_lt_of_cell? _ _ hcx)]; exact hcx
              have hlen : ch.length + 1 ≤ 1099511627776 := by rw [← HK.out]; have := HM.out; omega
              have hcl : (ch ++ [x]).length ≤ p.length := by simp; rw [← HK.out, ← HM.out]; omega
              have hi1 : i + 1 ≤ l.length := by rw [← HL.out]; omega
              have hdd : l.length - (i + 1) < d := by rw [← hd]; omega
              have HCL := Lib.hid hcl
              have HI1 := Lib.hid hi1
              have HDD := Lib.hid hdd
              have HLEN := Lib.hid hlen
              have hw1 : IntKind.i64.wrap ((i : Int) + 1) = (i : Int) + 1 := IntWalk.i64_in _ (by omega)
              have hi00 : (0 : Int) ≤ (i : Int) := Int.natCast_nonneg _
              have hi01 : (i : Int) < (n : Int) := by omega
              have HCX := Lib.hid hcx
              clear hcl hi1 hdd hlen hcx hcz
              obtain ⟨res, hres⟩ : ∃ res, patB l p (ch ++ [x]) (i + 1) = res := ⟨_, rfl⟩
              have HRES := Lib.hid hres
              clear hres
              go_wp2_with fail
              go_region_held3 (fun w' => Below w.heap.size w w' ∧ w'.cell? ⟨b, off + i, none⟩ = some (.int .i64 x))
                (first
                  | exact keep_drew hBj hcx2
                  | exact keep_push b3 (by assumption) HCX.out
                  | exact keep_call b1 (by assumption) (Nat.le_refl _)
                  | exact keep_call b4 (by assumption) (Nat.le_refl _)
                  | exact keep_alloc _ (by assumption) (Nat.le_refl _))
                (first
                  | (refine step_pushA (by rfl) _ _ (by rfl) o1 (by rfl) (by rfl) HLEN.out (by assumption) ?_; intro v3 w3 o3 b3)
                  | (refine step_pushB (by rfl) _ _ (by rfl) o1 b1 (by rfl) (by rfl) (by simp; rfl) HLEN.out (by assumption) ?_; intro v3 w3 o3 b3)
                  | (go_at_call 57; refine (clone_held hch0 (by assumption)).mono ?_; rintro e w1 ⟨r, rfl, o1, b1⟩)
                  | (go_at_call 55; refine (HIH.out _ HDD.out (i + 1) (ch ++ [x]) _ _ _ _ rfl HI1.out HCL.out (ints_held hl0 (by assumption)) (ints_held hp0 (by assumption)) o3.ints).mono ?_; rw [HRES.out]; rintro e w4 ⟨rfl, b4⟩))
              all_goals
                cases res with
                | true =>
                  have HR : Hid (patB l p ch i0 = true) := Lib.hid (by rw [HP.out]; exact patB_yes HN.out (by rw [← HL.out]; exact hltn) HX.out HF2.out HRES.out)
                  go_wp2
                  go_ret
                  exact ⟨ret_bool HR.out.symm, held_below (p := ⟨b, off + i, none⟩) (x := .int .i64 x) (by assumption)⟩
                | false =>
                  have HP' : Hid (patB l p ch i0 = patB l p ch (i + 1)) := Lib.hid (by rw [HP.out]; exact patB_on HN.out (by rw [← HL.out]; exact hltn) HX.out HRES.out)
                  go_wp2
                  go_roundw
                  case rel => exact ⟨i + 1, by omega, by omega, by go_num, HP', held_below (p := ⟨b, off + i, none⟩) (x := .int .i64 x) (by assumption)⟩
                  case measure => simp [intOf]; omega
      · obtain rfl : i = n := by omega
        have HR : Hid (patB l p ch i0 = false) := Lib.hid (by rw [HP.out]; exact patB_end HN.out (by rw [← HL.out]; exact Nat.le_refl _))
        go_wp2
        go_ret
        exact ⟨ret_bool HR.out.symm, hB⟩

end Go.Proofs.Ytfepepakellbbaa
