/-
  Contracts: DiagramOf.
-/
import Derived.Test.YtfepepakellbbaaCell
import Derived.Test.YtfepepakellbbaaInv
import Derived.Test.YtfepepakellbbaaSwap
namespace Go.Proofs.Ytfepepakellbbaa
open Go.RowKit
set_option linter.unusedVariables false

def cellsIn (bk : List Int) (i j : Nat) : List (Int × Int) := ((List.range j).filter (fun t => decide ((i : Int) < bk.getD t 0))).map (fun t : Nat => ((i : Int), (t : Int)))
/-- The cells of the rows before i, and those of the row i before the place j. -/
def diagAt (l bk : List Int) (i j : Nat) : List (Int × Int) := (List.range i).flatMap (fun t => cellsIn bk t (l.getD t 0).toNat) ++ cellsIn bk i j
def diagL (l : List Int) : List (Int × Int) := if isPermB l = true then diagAt l (invOf l) l.length 0 else []
theorem diagL_no {l : List Int} (h : isPermB l = false) : diagL l = [] := by simp [diagL, h]
theorem diagL_yes {l : List Int} (h : isPermB l = true) : diagL l = diagAt l (invOf l) l.length 0 := by simp [diagL, h]
theorem diagAt_zero (l bk : List Int) : diagAt l bk 0 0 = [] := rfl
theorem diagAt_yes {l bk : List Int} {i j : Nat} {y : Int} (hy : y = bk.getD j 0) (h : (i : Int) < y) : diagAt l bk i (j + 1) = diagAt l bk i j ++ [((i : Int), (j : Int))] := by
  have e : decide ((i : Int) < bk.getD j 0) = true := by rw [← hy]; simpa using h
  simp only [diagAt, cellsIn, List.range_succ, List.filter_append, List.map_append, List.filter_cons, e, if_true, List.filter_nil, List.map_cons, List.map_nil, List.append_assoc]
theorem diagAt_no {l bk : List Int} {i j : Nat} {y : Int} (hy : y = bk.getD j 0) (h : ¬ (i : Int) < y) : diagAt l bk i (j + 1) = diagAt l bk i j := by
  have e : decide ((i : Int) < bk.getD j 0) = false := by rw [← hy]; simpa using h
  simp only [diagAt, cellsIn, List.range_succ, List.filter_append, List.filter_cons, e, List.filter_nil, Bool.false_eq_true, if_false, List.append_nil]
theorem diagAt_next {l bk : List Int} {i x : Nat} (hx : (x : Int) = l.getD i 0) : diagAt l bk i x = diagAt l bk (i + 1) 0 := by
  have e : (l.getD i 0).toNat = x := by rw [← hx]; simp
  have e0 : cellsIn bk (i + 1) 0 = [] := rfl
  simp only [diagAt, List.range_succ, List.flatMap_append, e, e0, List.append_nil, List.flatMap_cons, List.flatMap_nil]
theorem cellsIn_len (bk : List Int) (i j : Nat) : (cellsIn bk i j).length ≤ j := by
  rw [cellsIn, List.length_map]
  exact Nat.le_trans (List.length_filter_le _ _) (by simp)
theorem diagAt_len {l bk : List Int} {m : Nat} (h : ∀ t, (l.getD t 0).toNat ≤ m) : ∀ (i j : Nat), (diagAt l bk i j).length ≤ i * m + j
  | 0, j => by simpa [diagAt] using cellsIn_len bk 0 j
  | i + 1, j => by
    have h1 := diagAt_len (bk := bk) h i (l.getD i 0).toNat
    have h2 := h i
    have h3 := cellsIn_len bk (i + 1) j
    simp only [diagAt, List.length_append, List.range_succ, List.flatMap_append, List.flatMap_cons, List.flatMap_nil, List.append_nil] at h1 ⊢
    rw [Nat.succ_mul]
    omega
theorem perm_vals {l : List Int} (h : isPermB l = true) (t : Nat) : (l.getD t 0).toNat ≤ 7 := by
  obtain ⟨_, h7, hr, _⟩ := isPermB_iff.1 h
  rw [List.getD_eq_getElem?_getD]
  cases e : l[t]? with
  | none => simp
  | some x => have := hr x (List.mem_of_getElem? e); simp; omega

theorem AtI.grown {lo hi : Nat} {w w' : World} {v : Value} {l : List Int} {row : Option Nat} (h : AtI lo hi w v l) (hg : w.grownBy w' row) (hne : ∀ k, row = some k → k < lo ∨ hi ≤ k) : AtI lo hi w' v l := by
  refine ⟨h.1.grown hg ?_, h.2.1, Nat.le_trans h.2.2 hg.size⟩
  cases hv : v.ownBlock with
  | none => exact .inl rfl
  | some b =>
    refine .inr fun e => ?_
    have h1 := (h.1.block b hv).1
    have h2 := h.2.1 b hv
    have := hne b e.symm
    omega
/-- The block of v lies outside. -/
def Outside (lo hi : Nat) (v : Value) : Prop := ∀ k, v.ownBlock = some k → k < lo ∨ hi ≤ k
theorem Outside.push {lo hi : Nat} {v v' : Value} {n : Nat} (h : Outside lo hi v) (hp : ∀ k, v'.ownBlock = some k → v.ownBlock = some k ∨ n ≤ k) (hn : hi ≤ n) : Outside lo hi v' := fun k hk => by
  rcases hp k hk with h1 | h1
  · exact h k h1
  · omega

set_option maxHeartbeats 1600000 in
theorem iDiag_c (v : Value) (l : List Int) (w : World) (hv : IntsV w v l) :
    Calls Try.prog 58 #[v] w (GivesC w (diagL l)) := by
  have B0 := (Below.refl w.heap.size w).alloc (Nat.le_refl _) (Obj.cells #[] 43)
  have O0 := OwnT.lit 43 cf0 cf1 w
  cases hp : isPermB l with
  | false =>
    have HR := Lib.hid (diagL_no hp)
    have hv1 := hv.kept B0
    go_enter Try.func58, Try.ntmps58
    go_wp2_with fail
    refine (iIsPerm_c _ _ _ hv1).mono ?_
    rintro e w1 ⟨rfl, b1⟩
    have F1 := below_step B0 b1 B0.size
    have O1 := O0.kept b1
    clear O0 B0 hv1
    go_wp2_with fail
    go_ret
    rw [HR.out]
    exact ⟨_, rfl, ⟨O1, Nat.zero_le _⟩, F1⟩
  | true =>
    have HR := Lib.hid (diagL_yes hp)
    have HIn := Lib.hid (inR_of_perm hp)
    have HV := Lib.hid (perm_vals hp)
    have HIv : Hid (inverseL l = invOf l) := Lib.hid (by simp [inverseL, hp])
    have hv0 := hv
    have hv1 := hv.kept B0
    obtain ⟨n, ao, b, off, c, rfl, HL, hnc, hcm, ha, hc, hn⟩ := hv.open
    have hn1 : 1 ≤ n := by rw [HL.out]; exact (isPermB_iff.1 hp).1
    have hn7 : n ≤ 7 := by rw [HL.out]; exact (isPermB_iff.1 hp).2.1
    obtain rfl := ha (by omega)
    have HC := Lib.hid hc
    clear hcm hc
    go_enter Try.func58, Try.ntmps58
    go_wp2_with fail
    refine (iIsPerm_c _ _ _ hv1).mono ?_
    rintro e w1 ⟨rfl, b1⟩
    have F1 := below_step B0 b1 B0.size
    have O1 := O0.kept b1
    go_wp2_with fail
    refine (iInverse_c _ _ _ (hv0.kept F1)).mono ?_
    rintro e w2 ⟨r, rfl, o2, b2⟩
    rw [HIv.out] at o2
    have F2 := below_step F1 b2 F1.size
    have O2 := O1.kept b2
    obtain ⟨bk, hbk⟩ : ∃ bk, bk = invOf l := ⟨_, rfl⟩
    have hbl : bk.length = n := by rw [hbk, invOf, invUp_len, HL.out]
    have HBK := Lib.hid hbk
    rw [← hbk] at o2
    obtain ⟨g, cap, rfl, hgB, hgw, hgc, _⟩ := o2.row (by omega)
    have A2 := o2.at
    have Out2 : Outside w1.heap.size w2.heap.size (.slice (some ⟨w.heap.size, 0, none⟩) 0 0) := fun k hk => by
      simp [Value.ownBlock] at hk; subst hk; exact .inl (Nat.lt_of_lt_of_le (by simp) b1.size)
    obtain ⟨lo, hlo⟩ : ∃ lo, lo = w1.heap.size := ⟨_, rfl⟩
    obtain ⟨hi, hhi⟩ : ∃ hi, hi = w2.heap.size := ⟨_, rfl⟩
    rw [← hlo, ← hhi] at A2 Out2
    rw [hbl] at A2 hgc ⊢
    have HBL := Lib.hid hbl
    clear hlo hhi hbk hbl o2 b2 O0 O1 F1 B0 b1 hv hv1 hgB hgw hp
    go_wp2_with fail
    go_loopw [3, 17] (fun ov iv wr => ∃ i : Nat, i ≤ n ∧ iv = .int .i64 i ∧ OwnT 43 cf0 cf1 w.heap.size wr ov (diagAt l bk i 0) ∧ Hid (Outside lo hi ov) ∧ AtI lo hi wr (.slice (some ⟨g, 0, none⟩) n cap) bk ∧ Below w.heap.size w wr) (fun _ iv _ => n - (intOf iv).toNat)
    case atStart => exact ⟨0, Nat.zero_le _, rfl, diagAt_zero l bk ▸ O2, Lib.hid Out2, A2, F2⟩
    case round =>
      obtain ⟨i, hi1, rfl, hO, HOut, hA, hB⟩ := hrel
      clear O2 A2 F2
      obtain ⟨wo, rfl⟩ : ∃ wo : World, wo = wr := ⟨_, rfl⟩
      by_cases hlt : i < n
      · obtain ⟨x, hx⟩ : ∃ x, x = l.getD i 0 := ⟨_, rfl⟩
        have hcx : w.cell? ⟨b, off + i, none⟩ = some (.int .i64 x) := (HC.out i hlt).trans (by rw [← hx])
        obtain ⟨x, rfl, hxn⟩ := HIn.out.at (getElem?_of_getD hx (by rw [← HL.out]; exact hlt))
        rw [← HL.out] at hxn
        have HX := Lib.hid hx
        have hltB : decide ((i : Int) < (n : Int)) = true := by simpa using hlt
        have hcxo : wo.cell? ⟨b, off + i, none⟩ = some (.int .i64 (x : Int)) := by
          rw [hB.cell (World.block_lt_of_cell? _ _ hcx)]; exact hcx
        clear hx
        go_wp2
        go_loopw [3, 23] (fun ov jv wr => ∃ j : Nat, j ≤ x ∧ jv = .int .i64 j ∧ OwnT 43 cf0 cf1 w.heap.size wr ov (diagAt l bk i j) ∧ Hid (Outside lo hi ov) ∧ AtI lo hi wr (.slice (some ⟨g, 0, none⟩) n cap) bk ∧ Below w.heap.size w wr) (fun _ jv _ => x - (intOf jv).toNat)
        case atStart => exact ⟨0, Nat.zero_le _, rfl, hO, HOut, hA, hB⟩
        case round =>
          obtain ⟨j, hj, rfl, hOj, HOutj, hAj, hBj⟩ := hrel
          clear hO hA hB HOut
          have hcx' : wr.cell? ⟨b, off + i, none⟩ = some (.int .i64 (x : Int)) := by
            rw [hBj.cell (World.block_lt_of_cell? _ _ hcx)]; exact hcx
          by_cases hjx : j < x
          · obtain ⟨y, hy⟩ : ∃ y, y = bk.getD j 0 := ⟨_, rfl⟩
            have hcy := hAj.1.cellAt j (by rw [HBL.out]; omega)
            rw [← hy] at hcy
            have HY := Lib.hid hy
            clear hy
            have hsz := hBj.size
            have hlen : (diagAt l bk i j).length + 1 ≤ 1099511627776 := by have := diagAt_len (bk := bk) HV.out i j; omega
            by_cases hiy : (i : Int) < y
            · have e := Lib.hid (diagAt_yes (l := l) (i := i) HY.out hiy)
              go_wp2_with (at_builtin; refine wpList_push2 wr rfl _ _ rfl Try.underlying39 Try.infoC rfl (by decide) hOj (y := ((i : Int), (j : Int))) rfl rfl ⟨rfl, rfl⟩ rfl rfl rfl hlen hsz ?_)
              intro v' w3 hO' hb1 hg1 hk1
              rw [← e.out] at hO'
              have hOut' := Lib.hid (HOutj.out.push hk1 hAj.2.2)
              have hA' := hAj.grown hg1 HOutj.out
              have hB' := hBj.trans hb1
              clear hOj hAj hBj hk1 hg1 hcx' hcy
              go_wp2
              go_roundw
              case rel => exact ⟨j + 1, by omega, by go_num, hO', hOut', hA', hB'⟩
              case measure => simp [intOf]; omega
            · have e := Lib.hid (diagAt_no (l := l) (i := i) HY.out hiy)
              go_wp2
              go_roundw
              case rel => exact ⟨j + 1, by omega, by go_num, by rw [e.out]; exact hOj, HOutj, hAj, hBj⟩
              case measure => simp [intOf]; omega
          · obtain rfl : j = x := by omega
            have e := Lib.hid (diagAt_next (bk := bk) HX.out)
            go_wp2
            go_roundw
            case rel => exact ⟨i + 1, by omega, by go_num, by rw [← e.out]; exact hOj, HOutj, hAj, hBj⟩
            case measure => simp [intOf]; omega
      · obtain rfl : i = n := by omega
        go_wp2
        go_ret
        rw [HR.out, ← HL.out, ← HBK.out]
        exact ⟨_, rfl, ⟨hO, by have := diagAt_len (bk := bk) HV.out i 0; show 2 * _ ≤ _; omega⟩, hB⟩

end Go.Proofs.Ytfepepakellbbaa
