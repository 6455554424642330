/-
  Contract: beginnings.
-/
import Derived.Test.YtfepepakellbbaaPushII
import Derived.Test.YtfepepakellbbaaRed
import Derived.Test.YtfepepakellbbaaInv
namespace Go.Proofs.Ytfepepakellbbaa
open Go.RowKit
set_option linter.unusedVariables false

theorem Free.pushed {nv rv rv' u : Value} {us : List Value} {m : Nat} (hf : Free nv rv us) (hn : ∀ q, nv.ownBlock = some q → q < m) (hat : ∀ k, rv'.ownBlock = some k → rv.ownBlock = some k ∨ m ≤ k)
    (hu : ∀ q, u.ownBlock = some q → m ≤ q) : Free nv rv' (us ++ [u]) := fun k hk => by
  have h1 := hn k hk
  refine ⟨fun e => ?_, fun j x hx e => ?_⟩
  · rcases hat k e with h | h
    · exact (hf k hk).1 h
    · omega
  · by_cases hj : j < us.length
    · rw [List.getElem?_append_left hj] at hx; exact (hf k hk).2 j x hx e
    · rw [List.getElem?_append_right (by omega)] at hx
      obtain ⟨h2, h3⟩ := List.getElem?_eq_some_iff.1 hx
      simp at h2 h3
      subst h3
      have := hu k e
      omega
theorem Free.moved {nv nv' rv : Value} {us : List Value} {m : Nat} (hf : Free nv rv us) (hat : ∀ k, nv'.ownBlock = some k → nv.ownBlock = some k ∨ m ≤ k) (hr : ∀ k, rv.ownBlock = some k → k < m)
    (hus : ∀ (j : Nat) u, us[j]? = some u → ∀ k, u.ownBlock = some k → k < m) : Free nv' rv us := fun k hk => by
  rcases hat k hk with h | h
  · exact hf k h
  · exact ⟨fun e => by have := hr k e; omega, fun j u hu e => by have := hus j u hu k e; omega⟩

/-- The values before k that stand behind the next one. -/
def ldUp (w : List Int) (k : Nat) : List Nat := (List.range k).filter (fun k => decide (pv (invOf w) (k + 1) < pv (invOf w) k))
theorem ldUp_all (n : Nat) (w : List Int) : ldUp w (n - 1) = ldesc n w := rfl
theorem ldUp_yes {w : List Int} {k : Nat} (h : pv (invOf w) (k + 1) < pv (invOf w) k) : ldUp w (k + 1) = ldUp w k ++ [k] := by
  have : decide (pv (invOf w) (k + 1) < pv (invOf w) k) = true := by simpa using h
  simp only [ldUp, List.range_succ, List.filter_append, List.filter_cons, this, if_true, List.filter_nil]
theorem ldUp_no {w : List Int} {k : Nat} (h : ¬ pv (invOf w) (k + 1) < pv (invOf w) k) : ldUp w (k + 1) = ldUp w k := by
  have : decide (pv (invOf w) (k + 1) < pv (invOf w) k) = false := by simpa using h
  simp only [ldUp, List.range_succ, List.filter_append, List.filter_cons, this, List.filter_nil, Bool.false_eq_true, if_false, List.append_nil]
theorem ldUp_len (w : List Int) (k : Nat) : (ldUp w k).length ≤ k := by
  unfold ldUp
  exact Nat.le_trans (List.length_filter_le _ _) (by simp)
def numsL (ks : List Nat) : List Int := ks.map (fun t : Nat => (t : Int))
def restsL (l : List Int) (ks : List Nat) : ListsL := ks.map (lsw l)
theorem numsL_snoc (ks : List Nat) (k : Nat) : numsL (ks ++ [k]) = numsL ks ++ [(k : Int)] := by simp [numsL]
theorem restsL_snoc (l : List Int) (ks : List Nat) (k : Nat) : restsL l (ks ++ [k]) = restsL l ks ++ [lsw l k] := by simp [restsL]
theorem numsL_get' {qs : List Nat} {j q : Nat} (h : qs[j]? = some q) : (numsL qs).getD j 0 = (q : Int) := by
  rw [numsL, List.getD_eq_getElem?_getD, List.getElem?_map, h]; rfl
theorem numsL_len (ks : List Nat) : (numsL ks).length = ks.length := by simp [numsL]
theorem restsL_len (l : List Int) (ks : List Nat) : (restsL l ks).length = ks.length := by simp [restsL]
theorem iiLen_rests (l : List Int) : ∀ ks : List Nat, iiLen (restsL l ks) = ks.length * l.length
  | [] => by simp [restsL, iiLen]
  | k :: ks => by
    have ih := iiLen_rests l ks
    simp only [restsL, List.map_cons, iiLen, lsw_len, List.length_cons, Nat.succ_mul] at ih ⊢
    omega

def GivesBeg (w : World) (n : Nat) (l : List Int) (e : Ending) (w' : World) : Prop :=
  ∃ r1 r2 us, e = .returned (.tuple #[r1, r2]) ∧ IntsV w' r1 (numsL (ldesc n l)) ∧ RowII w.heap.size w'.heap.size w' r2 us (restsL l (ldesc n l)) ∧ Below w.heap.size w w'

theorem exchanged_x (v : Value) (l : List Int) (i j : Nat) (x y : Int) (w : World) (hx : x = (i : Int)) (hy : y = (j : Int)) (hv : IntsV w v l) (hi : i < l.length) (hj : j < l.length) (hij : i ≠ j) :
    Calls Try.prog 47 #[v, .int .i64 x, .int .i64 y] w (GivesI w (swapL l i j)) := by
  subst hx hy; exact exchanged_c v l i j w hv hi hj hij

theorem IntsV.shape' {w : World} {v : Value} {l : List Int} (h : IntsV w v l) : ∃ ao n c, v = .slice ao n c := by
  obtain ⟨ao, b, off, c, h0, _⟩ := h
  exact ⟨ao, _, c, h0⟩
theorem RowII.ne {lo hi : Nat} {w : World} {v : Value} {us : List Value} {ls : ListsL} (h : RowII lo hi w v us ls) (k : Nat) (hk : k < lo ∨ hi ≤ k) : v.ownBlock ≠ some k := fun e => by
  have := (h.row.block k e).1; have := h.vhi k e; omega
theorem OwnI.upto {B : Nat} {w w' : World} {v : Value} {l : List Int} (h : OwnI B w v l) (hb : Below w.heap.size w w') : OwnI B w' v l := h.kept hb

set_option maxHeartbeats 3200000 in
theorem beginnings_c (n : Nat) (v : Value) (l : List Int) (w : World) (hp : PermN n l) (hv : IntsV w v l) :
    Calls Try.prog 76 #[v] w (GivesBeg w n l) := by
  have hv0 := hv
  obtain ⟨q, ao, b, off, c, rfl, HL, hqc, hcm, ha, hc, hq⟩ := hv.open
  obtain rfl : q = n := HL.out.trans hp.2
  have h1 := hp.size.1
  have h7 := hp.size.2
  have HR : Hid (inverseL l = invOf l) := Lib.hid (by rw [inverseL, if_pos hp.1])
  have HP := Lib.hid hp
  clear hp hv hc ha hcm hqc
  go_enter Try.func76, Try.ntmps76
  go_wp2_with fail
  refine (iInverse_c _ _ _ hv0).mono ?_
  rw [HR.out]
  rintro e w1 ⟨r, rfl, o1, b1⟩
  have hli : (invOf l).length = q := (inv_perm HP.out).2
  obtain ⟨g, cap, rfl, hgB, hgw, hgc, _⟩ := o1.row (by rw [hli]; exact h1)
  rw [hli] at hgc o1 ⊢
  have HLI := Lib.hid hli
  clear hli
  have hN : OwnI w1.heap.size ((w1.alloc (.cells #[] 3)).alloc (.cells #[] 24)) (.slice (some ⟨w1.heap.size, 0, none⟩) 0 0) (numsL (ldUp l 0)) :=
    (OwnI.lit w1).kept ((Below.refl _ _).alloc (Nat.le_refl _) _)
  have hR : RowII w1.heap.size ((w1.alloc (.cells #[] 3)).alloc (.cells #[] 24)).heap.size ((w1.alloc (.cells #[] 3)).alloc (.cells #[] 24)) (.slice (some ⟨w1.heap.size + 1, 0, none⟩) 0 0) [] (restsL l (ldUp l 0)) := by
    have := RowII.lit (w1.alloc (.cells #[] 3))
    simpa [ldUp, restsL] using this.raise (lo' := w1.heap.size) (hi' := w1.heap.size + 2) (by simp) (by simp) (by simp)
  have hF : Free (.slice (some ⟨w1.heap.size, 0, none⟩) 0 0) (.slice (some ⟨w1.heap.size + 1, 0, none⟩) 0 0) [] := fun k hk => by
    simp [Value.ownBlock] at hk ⊢; omega
  have hB : Below w1.heap.size w1 ((w1.alloc (.cells #[] 3)).alloc (.cells #[] 24)) := ((Below.refl _ _).alloc (Nat.le_refl _) _).alloc (by simp) _
  go_wp2
  go_loopw [5, 6, 15] (fun nv rv iv wr => ∃ (j : Nat) (us : List Value), j + 1 ≤ q ∧ iv = .int .i64 j ∧ OwnI w1.heap.size wr nv (numsL (ldUp l j)) ∧ RowII w1.heap.size wr.heap.size wr rv us (restsL l (ldUp l j)) ∧ Free nv rv us ∧ Below w1.heap.size w1 wr)
    (fun _ _ iv _ => q - (intOf iv).toNat)
  case atStart => exact ⟨0, [], h1, rfl, hN, hR, hF, hB⟩
  case round =>
    obtain ⟨j, us, hj, rfl, hNj, hRj, hFj, hBj⟩ := hrel
    clear hN hR hF hB
    by_cases hlt : j + 1 < q
    · have hi := inv_perm HP.out
      obtain ⟨x, hx⟩ : ∃ x : Int, x = ((pv (invOf l) j : Nat) : Int) := ⟨_, rfl⟩
      obtain ⟨y, hy⟩ : ∃ y : Int, y = ((pv (invOf l) (j + 1) : Nat) : Int) := ⟨_, rfl⟩
      have o1j := o1.kept hBj
      have c1 : wr.cell? ⟨g, j, none⟩ = some (.int .i64 x) := by rw [o1j.cellAt j (by rw [HLI.out]; omega), hi.eq (by omega), ← hx]
      have c2 : wr.cell? ⟨g, j + 1, none⟩ = some (.int .i64 y) := by rw [o1j.cellAt (j + 1) (by rw [HLI.out]; omega), hi.eq hlt, ← hy]
      have HX := Lib.hid hx
      have HY := Lib.hid hy
      have hj1 : (j : Int) < (q : Int) := by omega
      have hj2 : (j : Int) + 1 < (q : Int) := by omega
      have hj3 : IntKind.i64.wrap ((j : Int) + 1) = (j : Int) + 1 := IntWalk.i64_in _ (by omega)
      have hj4 : 0 ≤ (j : Int) + 1 := by omega
      have hj5 : ((j : Int) + 1).toNat = j + 1 := by omega
      have hj6 : (j : Int) < (q : Int) - 1 := by omega
      have hj0 : (0 : Int) ≤ (j : Int) := Int.natCast_nonneg _
      have HI := Lib.hid hi
      clear hx hy hi
      by_cases hxy : y < x
      · have hd := quietGtr hxy
        have hlt2 : pv (invOf l) (j + 1) < pv (invOf l) j := by rw [HX.out, HY.out] at hxy; omega
        have HU := Lib.hid (ldUp_yes hlt2)
        have HSW : Hid (swapL l (pv (invOf l) j) (pv (invOf l) (j + 1)) = lsw l j) := Lib.hid (swap_at HP.out hlt)
        have HA1 : Hid (pv (invOf l) j < l.length) := Lib.hid (by rw [HP.out.2]; exact HI.out.lt (by omega))
        have HA2 : Hid (pv (invOf l) (j + 1) < l.length) := Lib.hid (by rw [HP.out.2]; exact HI.out.lt hlt)
        have HA3 : Hid (pv (invOf l) j ≠ pv (invOf l) (j + 1)) := Lib.hid (by omega)
        clear hlt2 hxy
        have hnl : (numsL (ldUp l j)).length + 1 ≤ 1099511627776 := by rw [numsL_len]; have := ldUp_len l j; omega
        have hrl : (restsL l (ldUp l j)).length + 1 ≤ 1099511627776 := by rw [restsL_len]; have := ldUp_len l j; omega
        have hil : iiLen (restsL l (ldUp l j) ++ [lsw l j]) ≤ 1099511627776 := by
          rw [← restsL_snoc, iiLen_rests, HP.out.2, List.length_append, List.length_singleton]
          have := ldUp_len l j
          have h3 : ((ldUp l j).length + 1) * q ≤ 8 * 7 := Nat.mul_le_mul (by omega) h7
          exact Nat.le_trans h3 (by decide)
        have HNL := Lib.hid hnl
        have HRL := Lib.hid hrl
        have HIL := Lib.hid hil
        clear hnl hrl hil
        go_wp2
        go_quiet (fail)
        have hN1 : OwnI w1.heap.size (wr.drewN nq) _ (numsL (ldUp l j)) := hNj
        have hB1 := below_drewN hBj nq
        go_wp2_with (at_builtin; refine wpList_pushAt (wr.drewN nq) rfl _ _ rfl hN1 rfl rfl HNL.out hB1.size ?_)
        intro v2 w2 hN2 hb2 hg2 hat2
        rw [← numsL_snoc, ← HU.out] at hN2
        have hR2 := (hRj.up (below_drewN (Below.refl wr.heap.size wr) nq)).grown hg2 hFj
        have hF2 := hFj.moved hat2 (fun k hk => hRj.vhi k hk) (fun i u hu k hk => hRj.uhi i u hu k hk)
        have hB2 := hB1.trans hb2
        have hRD := hR2.up (below_drewII (Below.refl w2.heap.size w2))
        have hvD := (hv0.kept (b1.trans (hB2.mono b1.size))).drew
        have hsz := hB2.size
        have o1k := o1.kept hB2
        have c1' : w2.cell? ⟨g, j, none⟩ = some (.int .i64 x) := by rw [o1k.cellAt j (by rw [HLI.out]; omega), HI.out.eq (by omega), ← HX.out]
        have c2' : w2.cell? ⟨g, j + 1, none⟩ = some (.int .i64 y) := by rw [o1k.cellAt (j + 1) (by rw [HLI.out]; omega), HI.out.eq hlt, ← HY.out]
        have hne := hR2.ne g (.inl hgw)
        have hnm := hN2.block
        clear hN1 hB1 hg2 hat2 hb2 hRj hFj hBj hNj c1 c2 o1k o1j hd
        go_wp2_with fail
        go_region_held3 (fun w' => Below w1.heap.size w1 w' ∧ w'.cell? ⟨g, j, none⟩ = some (.int .i64 x) ∧ w'.cell? ⟨g, j + 1, none⟩ = some (.int .i64 y))
          (first
            | exact k2_drew hB2 c1' c2'
            | exact k2_call b3 (by assumption) (Nat.le_refl _)
            | exact k2_push b4 hk4 (by assumption) hne hne
            | exact k2_alloc _ (by assumption) (Nat.le_refl _))
          (first
            | (refine step_pushII (by rfl) _ _ (by rfl) hRD b3 o3 hsz (by rfl) (by rfl) HIL.out HRL.out ?_; intro v4 w4 hR4 b4 hg4 hat4 hk4)
            | (go_at_call 47; refine (exchanged_x _ _ _ _ _ _ _ HX.out HY.out hvD HA1.out HA2.out HA3.out).mono ?_; rw [HSW.out]; rintro e1 w3 ⟨r3, rfl, o3, b3⟩; obtain ⟨ro, rn, rc, rfl⟩ := o3.ints.shape'))
        all_goals
          have FF := held2_b (p := ⟨g, j, none⟩) (q := ⟨g, j + 1, none⟩) (x := .int .i64 x) (y := .int .i64 y) (B := w1.heap.size) (w := w1) (W := w4) (by assumption)
          rw [← restsL_snoc, ← HU.out] at hR4
          have hb34 := (Below.refl w2.heap.size w2.drew).trans (b3.mono (Nat.le_refl _))
          have hN3 : OwnI w1.heap.size w3 v2 (numsL (ldUp l (j + 1))) := hN2.drew.kept b3
          have hN4 : OwnI w1.heap.size w4 v2 (numsL (ldUp l (j + 1))) := hN3.grown hg4 (by
            cases hv : v2.ownBlock with
            | none => exact .inl rfl
            | some k => exact .inr fun e => (hF2 k hv).1 e.symm)
          have hF4 := hF2.pushed (m := w2.heap.size) (fun q hq => (hnm q hq).2) (fun k hk => (hat4 k hk).imp id (fun h => Nat.le_trans b3.size h)) (fun q hq => (o3.block q hq).1)
          go_wp2_with fail
          go_roundw
          case rel => exact ⟨j + 1, _, by omega, by go_num, hN4, hR4, hF4, FF⟩
          case measure => simp [intOf]; omega
      · have hlt2 : ¬ pv (invOf l) (j + 1) < pv (invOf l) j := by rw [HX.out, HY.out] at hxy; omega
        have HU := Lib.hid (ldUp_no hlt2)
        have hd : decide (y < x) = false := by simpa using hxy
        clear hlt2
        go_wp2
        go_quiet (fail)
        have hN1 : OwnI w1.heap.size (wr.drewN nq) _ (numsL (ldUp l j)) := hNj
        have hR1 := hRj.up (below_drewN (Below.refl wr.heap.size wr) nq)
        have hB1 := below_drewN hBj nq
        rw [← HU.out] at hN1 hR1
        clear hj3 hj4 hj5 hd
        go_wp2
        go_roundw
        case rel => exact ⟨j + 1, _, by omega, by go_num, hN1, hR1, hFj, hB1⟩
        case measure => simp [intOf]; omega
    · obtain rfl : q = j + 1 := by omega
      have HE : Hid (ldUp l j = ldesc (j + 1) l) := Lib.hid (ldUp_all (j + 1) l)
      go_wp2
      go_ret2
      rw [HE.out] at hNj hRj
      refine ⟨_, _, us, rfl, hNj.ints, hRj.raise b1.size (Nat.le_refl _) (Nat.le_refl _), b1.trans (hBj.mono b1.size)⟩

end Go.Proofs.Ytfepepakellbbaa
