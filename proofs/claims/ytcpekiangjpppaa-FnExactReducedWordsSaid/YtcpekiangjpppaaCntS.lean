/-
  Contract: CountReduced of the reference (level by level).
-/
import Derived.Test.YtcpekiangjpppaaPlc
namespace Go.Proofs.Ytcpekiangjpppaa
open Go.RowKit
set_option linter.unusedVariables false

theorem numsL_set (qs : List Nat) (j x : Nat) : (numsL qs).set j (x : Int) = numsL (qs.set j x) := by simp [numsL, List.map_set]
theorem numsL_push (qs : List Nat) (x : Nat) : numsL qs ++ [(x : Int)] = numsL (qs ++ [x]) := by simp [numsL]
theorem numsL_rep (f : Nat) : numsL (List.replicate f 0) = List.replicate f 0 := by simp [numsL]
theorem numsL_get {qs : List Nat} {j q : Nat} (h : qs[j]? = some q) : (numsL qs).getD j 0 = (q : Int) := by
  rw [numsL, List.getD_eq_getElem?_getD, List.getElem?_map, h]; rfl

/-- The three rows that a round of l1Count makes. -/
structure CntSt (b0 : Nat) (w : World) (nv mv av : Value) (us : List Value) (ns : ListsL) (qs ats : List Nat) : Prop where
  nx : RowII b0 w.heap.size w nv us ns
  mo : OwnI b0 w mv (numsL qs)
  ar : OwnI b0 w av (numsL ats)
  fm : Free mv nv us
  fa : Free av nv us
  ma : Apart mv av
section
variable {b0 : Nat} {W w' : World} {nv mv av : Value} {us : List Value} {ns : ListsL} {qs ats : List Nat}
theorem CntSt.kept (h : CntSt b0 W nv mv av us ns qs ats) (hb : Below W.heap.size W w') : CntSt b0 w' nv mv av us ns qs ats :=
  ⟨h.nx.up hb, h.mo.kept hb, h.ar.kept hb, h.fm, h.fa, h.ma⟩
theorem own_ne {B : Nat} {w w' : World} {v nv : Value} {l : List Int} (h : OwnI B w v l) (hg : w.grownBy w' nv.ownBlock) (hn : ∀ k, v.ownBlock = some k → nv.ownBlock ≠ some k) : OwnI B w' v l :=
  h.grown hg (by
    cases hv : v.ownBlock with
    | none => exact .inl rfl
    | some k => exact .inr fun e => hn k hv e.symm)
theorem CntSt.pushN {m : Nat} {u v5 : Value} {v : List Int} (h : CntSt b0 W nv mv av us ns qs ats) (hm : ∀ k, mv.ownBlock = some k → k < m) (ha : ∀ k, av.ownBlock = some k → k < m) (hmW : m ≤ W.heap.size)
    (hu : ∀ q, u.ownBlock = some q → m ≤ q) (R5 : RowII b0 w'.heap.size w' v5 (us ++ [u]) (ns ++ [v])) (g5 : W.grownBy w' nv.ownBlock) (at5 : ∀ k, v5.ownBlock = some k → nv.ownBlock = some k ∨ W.heap.size ≤ k) :
    CntSt b0 w' v5 mv av (us ++ [u]) (ns ++ [v]) qs ats :=
  ⟨R5, own_ne h.mo g5 (fun k hk => (h.fm k hk).1), own_ne h.ar g5 (fun k hk => (h.fa k hk).1),
   h.fm.pushed hm (fun k hk => (at5 k hk).imp id (Nat.le_trans hmW)) hu, h.fa.pushed ha (fun k hk => (at5 k hk).imp id (Nat.le_trans hmW)) hu, h.ma⟩
theorem CntSt.pushM {v6 : Value} {qs' : List Nat} (h : CntSt b0 W nv mv av us ns qs ats) (o6 : OwnI b0 w' v6 (numsL qs')) (g6 : W.grownBy w' mv.ownBlock) (at6 : ∀ k, v6.ownBlock = some k → mv.ownBlock = some k ∨ W.heap.size ≤ k) :
    CntSt b0 w' nv v6 av us ns qs' ats := by
  refine ⟨h.nx.grown g6 h.fm, o6, own_ne h.ar g6 (fun k hk e => h.ma k e hk), h.fm.moved at6 (fun k hk => h.nx.vhi k hk) (fun j u hu k hk => h.nx.uhi j u hu k hk), h.fa, fun k hk e => ?_⟩
  rcases at6 k hk with h1 | h1
  · exact h.ma k h1 e
  · have := (h.ar.block k e).2; omega
theorem CntSt.setA {g f c : Nat} (h : CntSt b0 W nv mv (.slice (some ⟨g, 0, none⟩) f c) us ns qs ats) (p x : Nat) :
    CntSt b0 (W.setCell ⟨g, p, none⟩ (.int .i64 (x : Int))) nv mv (.slice (some ⟨g, 0, none⟩) f c) us ns qs (ats.set p x) := by
  have hs := h.ar.store p (x : Int)
  rw [numsL_set] at hs
  exact ⟨h.nx.grown (nv := .slice (some ⟨g, 0, none⟩) f c) hs.2 h.fa, own_ne (nv := .slice (some ⟨g, 0, none⟩) f c) h.mo hs.2 h.ma, hs.1, h.fm, h.fa, h.ma⟩
theorem CntSt.setM {g f c : Nat} (h : CntSt b0 W nv (.slice (some ⟨g, 0, none⟩) f c) av us ns qs ats) (p x : Nat) :
    CntSt b0 (W.setCell ⟨g, p, none⟩ (.int .i64 (x : Int))) nv (.slice (some ⟨g, 0, none⟩) f c) av us ns (qs.set p x) ats := by
  have hs := h.mo.store p (x : Int)
  rw [numsL_set] at hs
  exact ⟨h.nx.grown (nv := .slice (some ⟨g, 0, none⟩) f c) hs.2 h.fm, hs.1, own_ne (nv := .slice (some ⟨g, 0, none⟩) f c) h.ar hs.2 (fun k hk e => h.ma k e hk), h.fm, h.fa, h.ma⟩
theorem CntSt.drew (h : CntSt b0 W nv mv av us ns qs ats) : CntSt b0 W.drew nv mv av us ns qs ats := h.kept (below_drewII (Below.refl _ _))
end
/-- What is counted so far. -/
def doneN (n : Nat) (qs0 : List Nat) (ls0 : ListsL) (i k : Nat) : Nat := wsum n (qs0.take i) (ls0.take i) + qs0.getD i 0 * rpart n (ls0.getD i []) k

theorem l1Swap_x (v : Value) (l : List Int) (i j : Nat) (x y : Int) (w : World) (hx : x = (i : Int)) (hy : y = (j : Int)) (hv : IntsV w v l) (hi : i < l.length) (hj : j < l.length) :
    Calls Try.prog 37 #[v, .int .i64 x, .int .i64 y] w (GivesI w (swapL l i j)) := by
  subst hx hy; exact l1Swap_c v l i j w hv hi hj
theorem count_bound {n m T : Nat} {ls0 : ListsL} {qs0 : List Nat} (hD : LevD n (m + 1) T ls0 qs0) {i d : Nat} {x0 : List Int} (hx : ls0[i]? = some x0) (hd : qs0[i]? = some d) {k : Nat} (hk : k ≤ n - 1) :
    wsum n (qs0.take i) (ls0.take i) + d * rpart n x0 k ≤ T := by
  obtain ⟨hp, hl⟩ := hD.perm x0 (List.mem_of_getElem? hx)
  have h1 := rpart_mono n x0 (n - 1 - k) k
  rw [show k + (n - 1 - k) = n - 1 by omega, rpart_all hp hl] at h1
  have h2 := wsum_take (n := n) hd hx
  have h3 := wsum_take_le (n := n) qs0 ls0 (i + 1)
  have h4 : d * rpart n x0 k ≤ d * redN n x0 := Nat.mul_le_mul_left _ h1
  rw [hD.sum] at h3
  omega
/-- One way more. -/
theorem count_step {n m T : Nat} {ls0 : ListsL} {qs0 : List Nat} (hD : LevD n (m + 1) T ls0 qs0) {i d : Nat} {x0 : List Int} (hx : ls0[i]? = some x0) (hd : qs0[i]? = some d) {k : Nat} (hk : k + 1 < n) (hdn : x0.getD (k + 1) 0 < x0.getD k 0)
    {ns : ListsL} {ms ats : List Nat} {j q : Nat} (hM : LevM n m ns ms ats) (hs : wsum n ms ns = wsum n (qs0.take i) (ls0.take i) + d * rpart n x0 k) (hv : ns[j]? = some (swapL x0 k (k + 1))) (hq : ms[j]? = some q) :
    LevM n m ns (ms.set j (q + d)) ats ∧ wsum n (ms.set j (q + d)) ns = wsum n (qs0.take i) (ls0.take i) + d * rpart n x0 (k + 1) ∧ q + d ≤ T := by
  have h1 := wsum_set (n := n) d hq hv
  rw [hs, Nat.add_assoc, ← Nat.mul_add, ← rpart_yes hdn] at h1
  refine ⟨hM.add j _, h1, ?_⟩
  have hjl := (List.getElem?_eq_some_iff.1 hq).1
  have h2 := wsum_ge (n := n) (qs := ms.set j (q + d)) (vs := ns) (j := j) (q := q + d) (by rw [List.getElem?_set_self hjl]) hv
  have h3 := redN_pos (hM.perm _ (List.mem_of_getElem? hv)).1
  have h4 := count_bound hD hx hd (k := k + 1) (by omega)
  have h5 : (q + d) * 1 ≤ (q + d) * redN n (swapL x0 k (k + 1)) := Nat.mul_le_mul_left _ h3
  omega

theorem rd_one (w : World) (v : Value) (l : List Int) (hv : IntsV w v l) : RdII (w.alloc (.cells #[v] 22)) (.slice (some ⟨w.heap.size, 0, none⟩) 1 1) [l] := by
  refine ⟨1, _, w.heap.size, 1, rfl, Lib.hid rfl, Nat.le_refl _, fun _ => rfl, fun j e hj => ?_, by decide⟩
  match j, hj with
  | 0, hj => simp at hj; subst hj; exact ⟨v, by simp, hv.kept ((Below.refl _ _).alloc (Nat.le_refl _) _)⟩
theorem ints_one (w : World) : IntsV (w.alloc (.cells #[.int .i64 1] 3)) (.slice (some ⟨w.heap.size, 0, none⟩) 1 1) (numsL [1]) := by
  refine ⟨_, w.heap.size, 0, 1, rfl, Nat.le_refl _, by unfold maxLen; omega, fun _ => rfl, fun j hj => ?_, by decide⟩
  match j, hj with
  | 0, hj => simp [numsL]

set_option maxRecDepth 100000 in
set_option maxHeartbeats 6400000 in
theorem l1Count_c (n : Nat) (v : Value) (l : List Int) (w : World) (hp : PermN n l) (hv : IntsV w v l) :
    Calls Try.prog 30 #[v] w (GivesN w (redN n l : Int)) := by
  have hv0 := hv
  obtain ⟨q0, ao, bb, off, c, rfl, HL, hnc, hcm, ha, hc, hn⟩ := hv.open
  obtain rfl : q0 = n := HL.out.trans hp.2
  clear hv ha hc hcm hnc hn
  have h1 := hp.size.1
  have h7 := hp.size.2
  have HP := Lib.hid hp
  obtain ⟨m, hm⟩ : ∃ m : Nat, lenOf l = (m : Int) := ⟨(lenOf l).toNat, by have := lenOf_nonneg l; omega⟩
  have hm21 : m ≤ 21 := by have := len_le hp; omega
  have HM := Lib.hid hm
  obtain ⟨T, hT⟩ : ∃ T, redN q0 l = T := ⟨_, rfl⟩
  have hTb : T ≤ 21936950640377856 := by rw [← hT]; exact redN_le hp
  have HD0 : Hid (LevD q0 m T [l] [1]) := Lib.hid (by rw [← hT]; exact LevD.start hp hm)
  obtain ⟨f, hf⟩ : ∃ f, factN q0 = f := ⟨_, rfl⟩
  have hfb : f ≤ 5040 := by rw [← hf]; exact factN_le q0 h7
  have HF := Lib.hid hf
  have hR0 := (rd_one w _ l hv0).kept ((Below.refl _ _).alloc (Nat.le_refl _) (.cells #[.int .i64 1] 3))
  have hI0 := ints_one (w.alloc (.cells #[.slice ao q0 c] 22))
  rw [show (w.alloc (.cells #[.slice ao q0 c] 22)).heap.size = w.heap.size + 1 by simp] at hI0
  have hB0 : Below w.heap.size w ((w.alloc (.cells #[.slice ao q0 c] 22)).alloc (.cells #[.int .i64 1] 3)) := ((Below.refl _ _).alloc (Nat.le_refl _) _).alloc (by simp) _
  rw [hT]
  have HT := Lib.hid hT
  have HTB := Lib.hid hTb
  clear hp hm hT hTb hf
  go_enter Try.func30, Try.ntmps30
  go_wp2_with fail
  refine (l1Length_c _ l _ (hv0.kept hB0) (by rw [HP.out.2]; omega)).mono ?_
  rw [HM.out]
  rintro e w1 ⟨rfl, b1⟩
  have hR1 := hR0.kept b1
  have hI1 := hI0.kept b1
  have hB1 := below_step hB0 b1 hB0.size
  clear hR0 hI0 hB0 b1
  go_wp2_with fail
  go_loopw [3, 4, 5] (fun lv cv nv wr => ∃ (m : Nat) (ls : ListsL) (qs : List Nat), m ≤ 21 ∧ nv = .int .i64 m ∧ RdII wr lv ls ∧ IntsV wr cv (numsL qs) ∧ Hid (LevD q0 m T ls qs) ∧ Below w.heap.size w wr) (fun _ _ nv _ => (intOf nv).toNat)
  case atStart => exact ⟨m, _, _, hm21, rfl, hR1, hI1, HD0, hB1⟩
  case round =>
    obtain ⟨m, ls, qs, hm21, rfl, hR, hI, HD, hB⟩ := hrel
    clear hR1 hI1 hB1 HD0
    by_cases hm0 : 0 < m
    · obtain ⟨m', rfl⟩ : ∃ m', m = m' + 1 := ⟨m - 1, by omega⟩
      obtain ⟨M, hM⟩ : ∃ M : Int, M = ((m' + 1 : Nat) : Int) := ⟨_, rfl⟩
      have hM0 : 0 < M := by omega
      have hM1 : M ≤ 21 := by omega
      have HMM := Lib.hid hM
      rw [← hM]
      clear hM
      obtain ⟨N0, lao, lb, lc, rfl, HN0, hlc, hla, hlcs, hlN⟩ := hR
      have HLC := Lib.hid hlcs
      have hqlen : qs.length = N0 := by rw [HD.out.len, HN0.out]
      obtain ⟨N1, cao, cb, coff, cc, rfl, HN1, hcc, _, hca, hccs, hcN⟩ := hI.open
      obtain rfl : N1 = N0 := by rw [HN1.out, numsL_len, hqlen]
      have HQL := Lib.hid hqlen
      have HCC := Lib.hid hccs
      clear hlcs hccs hqlen hI
      obtain ⟨W0, rfl⟩ : ∃ W0 : World, W0 = wr := ⟨_, rfl⟩
      go_wp2_with fail
      refine (l1Factorial_c q0 _ h7).mono ?_
      rw [HF.out]
      rintro e w2 ⟨rfl, rfl⟩
      go_wp2_with (at_make; refine wpList_zeros _ rfl _ _ rfl f rfl rfl (by omega) ?_)
      intro w3 hO3 hB3
      have hB3' : Below ((W0.alloc (.cells #[] 22)).alloc (.cells #[] 3)).heap.size ((W0.alloc (.cells #[] 22)).alloc (.cells #[] 3)) w3 := by simpa using hB3
      have hNX : RowII W0.heap.size w3.heap.size w3 (.slice (some ⟨W0.heap.size, 0, none⟩) 0 0) [] [] := by
        have h0 := (RowII.lit W0).up (w' := (W0.alloc (.cells #[] 22)).alloc (.cells #[] 3)) ((Below.refl _ _).alloc (Nat.le_refl _) _)
        exact h0.up hB3'
      have hMO : OwnI W0.heap.size w3 (.slice (some ⟨W0.heap.size + 1, 0, none⟩) 0 0) (numsL []) := by
        have h0 := (OwnI.lit (W0.alloc (.cells #[] 22))).kept hB3'
        simpa [numsL] using h0.mono (B' := W0.heap.size) (by simp)
      have hAR : OwnI W0.heap.size w3 (.slice (some ⟨W0.heap.size + 2, 0, none⟩) f f) (numsL (List.replicate f 0)) := by
        rw [numsL_rep]
        exact hO3.mono (B' := W0.heap.size) (by omega)
      have hS0 : CntSt W0.heap.size w3 (.slice (some ⟨W0.heap.size, 0, none⟩) 0 0) (.slice (some ⟨W0.heap.size + 1, 0, none⟩) 0 0) (.slice (some ⟨W0.heap.size + 2, 0, none⟩) f f) [] [] [] (List.replicate f 0) :=
        ⟨hNX, hMO, hAR, fun k hk => by simp [Value.ownBlock] at hk ⊢; omega, fun k hk => by simp [Value.ownBlock] at hk ⊢; omega, fun k hk => by simp [Value.ownBlock] at hk ⊢; omega⟩
      have hBW : Below W0.heap.size W0 w3 := (((Below.refl _ _).alloc (Nat.le_refl _) _).alloc (by simp) _).trans (hB3.mono (by omega))
      clear hNX hMO hAR hO3 hB3 hB3'
      have HL0 : Hid (LevM q0 m' [] [] (List.replicate f 0)) := Lib.hid (by rw [← HF.out]; exact LevM.start q0 m')
      go_wp2
      go_loopw [6, 7, 9] (fun nv mv iv wr => ∃ (i : Nat) (us : List Value) (ns : ListsL) (ms ats : List Nat), i ≤ N1 ∧ iv = .int .i64 i ∧ CntSt W0.heap.size wr nv mv (.slice (some ⟨W0.heap.size + 2, 0, none⟩) f f) us ns ms ats ∧
          Hid (LevM q0 m' ns ms ats ∧ wsum q0 ms ns = wsum q0 (qs.take i) (ls.take i)) ∧ Below W0.heap.size W0 wr) (fun _ _ iv _ => N1 - (intOf iv).toNat)
      case atStart => exact ⟨0, [], [], [], _, Nat.zero_le _, by first | rfl | simp, by first | exact hS0 | simpa using hS0, Lib.hid ⟨HL0.out, rfl⟩, hBW⟩
      case round =>
        obtain ⟨i, us, ns, ms, ats, hi, rfl, hS, HLI, hBi⟩ := hrel
        clear hS0 HL0 hBW
        by_cases hlt : i < N1
        · obtain ⟨x0, hx⟩ : ∃ x, ls[i]? = some x := ⟨_, List.getElem?_eq_getElem (by rw [← HN0.out]; exact hlt)⟩
          obtain ⟨d, hd⟩ : ∃ d, qs[i]? = some d := ⟨_, List.getElem?_eq_getElem (by rw [HQL.out]; exact hlt)⟩
          obtain ⟨u, hu, hiu⟩ := HLC.out i x0 hx
          obtain ⟨hxp, hxm⟩ := HD.out.perm x0 (List.mem_of_getElem? hx)
          have hiu0 := hiu
          obtain ⟨ql, uo, ub, uoff, uc, rfl, HU, huc, _, hua, hucs, _⟩ := hiu.open
          obtain rfl : ql = q0 := HU.out.trans hxp.2
          obtain rfl := hua (by omega)
          obtain rfl := hla (by omega)
          obtain rfl := hca (by omega)
          have hcc0 := HCC.out i hlt
          rw [numsL_get hd] at hcc0
          have HXI := Lib.hid hx
          have HDI := Lib.hid hd
          have HXP := Lib.hid hxp
          have HXM := Lib.hid hxm
          have HUC := Lib.hid hucs
          have hi0 : (0 : Int) ≤ (i : Int) := Int.natCast_nonneg _
          have hi1 : (i : Int) < (N1 : Int) := by omega
          have HLI2 : Hid (LevM ql m' ns ms ats ∧ wsum ql ms ns = wsum ql (qs.take i) (ls.take i) + d * rpart ql x0 0) := Lib.hid ⟨HLI.out.1, by rw [HLI.out.2, rpart_zero, Nat.mul_zero, Nat.add_zero]⟩
          clear hx hd hxp hxm hucs hiu hua hla hca
          go_wp2
          go_loopw [6, 7, 10] (fun nv mv kv wr => ∃ (k : Nat) (us : List Value) (ns : ListsL) (ms ats : List Nat), k + 1 ≤ ql ∧ kv = .int .i64 k ∧ CntSt W0.heap.size wr nv mv (.slice (some ⟨W0.heap.size + 2, 0, none⟩) f f) us ns ms ats ∧
              Hid (LevM ql m' ns ms ats ∧ wsum ql ms ns = wsum ql (qs.take i) (ls.take i) + d * rpart ql x0 k) ∧ Below W0.heap.size W0 wr) (fun _ _ kv _ => ql - (intOf kv).toNat)
          case atStart => exact ⟨0, us, ns, ms, ats, h1, rfl, hS, HLI2, hBi⟩
          case round =>
            obtain ⟨k, us, ns, ms, ats, hk, rfl, hS, HLK, hBk⟩ := hrel
            clear HLI2 hBi HLI
            by_cases hkl : k + 1 < ql
            · obtain ⟨x, hx⟩ : ∃ x, x0.getD k 0 = x := ⟨_, rfl⟩
              obtain ⟨y, hy⟩ : ∃ y, x0.getD (k + 1) 0 = y := ⟨_, rfl⟩
              have c1 := (hBk.cell (World.block_lt_of_cell? _ _ hu)).trans hu
              have c2 := (hBk.cell (World.block_lt_of_cell? _ _ (HUC.out k (by omega)))).trans (HUC.out k (by omega))
              have c3 := (hBk.cell (World.block_lt_of_cell? _ _ (HUC.out (k + 1) hkl))).trans (HUC.out (k + 1) hkl)
              rw [hx] at c2
              rw [hy] at c3
              have HX := Lib.hid hx
              have HY := Lib.hid hy
              have hk0 : (0 : Int) ≤ (k : Int) := Int.natCast_nonneg _
              have hk1 : (k : Int) < (ql : Int) := by omega
              have hk2 : (k : Int) + 1 < (ql : Int) := by omega
              have hk3 : IntKind.i64.wrap ((k : Int) + 1) = (k : Int) + 1 := IntWalk.i64_in _ (by omega)
              have hk4 : 0 ≤ (k : Int) + 1 := by omega
              have hk5 : ((k : Int) + 1).toNat = k + 1 := by omega
              clear hx hy
              by_cases hxy : x < y
              · have hdd : decide (x < y) = true := by simpa using hxy
                have HR : Hid (rpart ql x0 (k + 1) = rpart ql x0 k) := Lib.hid (rpart_no (by rw [HX.out, HY.out]; omega))
                go_wp2
                go_quiet (fail)
                have S2 := hS.kept (below_drewN (Below.refl wr.heap.size wr) nq)
                have B2 := below_drewN hBk nq
                clear hk3 hk4 hk5 hdd hxy hS hBk c1 c2 c3
                go_wp2
                go_roundw
                case rel => exact ⟨k + 1, us, ns, ms, ats, by omega, by go_num, S2, Lib.hid (by rw [HR.out]; exact HLK.out), B2⟩
                case measure => simp [intOf]; omega
              · have hdd : decide (x < y) = false := by simpa using hxy
                have HDN : Hid (x0.getD (k + 1) 0 < x0.getD k 0) := Lib.hid (by
                  by_cases h : x0.getD (k + 1) 0 < x0.getD k 0
                  · exact h
                  · have := up_of_not_down HXP.out hkl h
                    rw [HX.out, HY.out] at this
                    exact absurd this hxy)
                have HSP := Lib.hid (swap_perm HXP.out (i := k) (j := k + 1) (by omega) hkl)
                have HSM : Hid (lenOf (swapL x0 k (k + 1)) = (m' : Int)) := Lib.hid (by
                  have h3 := len_swap_down (l := x0) (k := k) (by rw [HXP.out.2]; exact hkl) HDN.out
                  have := HXM.out
                  omega)
                have HK1 : Hid (k < x0.length) := Lib.hid (by rw [HXP.out.2]; omega)
                have HK2 : Hid (k + 1 < x0.length) := Lib.hid (by rw [HXP.out.2]; exact hkl)
                go_wp2
                go_quiet (fail)
                have S2 := hS.kept (below_drewN (Below.refl wr.heap.size wr) nq)
                have B2 := below_drewN hBk nq
                have c1' : (wr.drewN nq).cell? ⟨lb, i, none⟩ = some (.slice (some ⟨ub, uoff, none⟩) ql uc) := c1
                have hiu2 : IntsV (wr.drewN nq) (.slice (some ⟨ub, uoff, none⟩) ql uc) x0 := hiu0.kept (below_drewN hBk nq)
                clear hk3 hk4 hk5 hdd hxy hS hBk c1 c2 c3
                go_wp2_with fail
                refine (l1Swap_x _ x0 k (k + 1) _ _ _ rfl (by push_cast; rfl) hiu2 HK1.out HK2.out).mono ?_
                rintro e w4 ⟨r, rfl, o4, b4⟩
                obtain ⟨ro, rn, rc, rfl⟩ := o4.ints.shape'
                clear hiu2 c1'
                go_wp2_with fail
                refine (l1Place_c _ _ _ o4.ints (by rw [HSP.out.2]; omega)).mono ?_
                obtain ⟨p, hp⟩ : ∃ p, plc (swapL x0 k (k + 1)) = p := ⟨_, rfl⟩
                have hpf : p < f := by rw [← hp, ← HF.out]; exact plc_lt HSP.out
                rw [hp]
                have HPP := Lib.hid hp
                clear hp
                rintro e w5 ⟨rfl, b5⟩
                have b45 := below_step b4 b5 b4.size
                have S5 := S2.kept b45
                have o5 := o4.kept b5
                have B5 := below_step B2 b45 B2.size
                obtain ⟨a, ha⟩ : ∃ a, ats[p]? = some a := ⟨_, List.getElem?_eq_getElem (by have := HLK.out.1.alen; have := HF.out; omega)⟩
                have cA0 := S5.ar.cellAt p (by rw [numsL_len]; exact (List.getElem?_eq_some_iff.1 ha).1)
                rw [numsL_get ha] at cA0
                have hp1 : (p : Int) < (f : Int) := by omega
                have hp0 : (0 : Int) ≤ (p : Int) := Int.natCast_nonneg _
                have HA := Lib.hid ha
                clear ha
                by_cases ha0 : a = 0
                · subst ha0
                  have HLV0 := Lib.hid HLK.out.1
                  have HNL : Hid (ns.length ≤ 5040) := Lib.hid (Nat.le_trans HLV0.out.small (by have := HF.out; omega))
                  have HNW : Hid (LevM ql m' (ns ++ [swapL x0 k (k + 1)]) (ms ++ [0]) (ats.set p (ns.length + 1))) := Lib.hid (by
                    have := HLV0.out.new HSP.out HSM.out (by rw [HPP.out]; exact HA.out)
                    rw [HPP.out] at this; exact this)
                  have HIL : Hid (iiLen (ns ++ [swapL x0 k (k + 1)]) ≤ 1099511627776) := Lib.hid (by
                    rw [iiLen_each (n := ql) (fun z hz => (HNW.out.perm z hz).1.2), List.length_append, List.length_singleton]
                    have := HNL.out
                    have h3 : (ns.length + 1) * ql ≤ 6000 * 7 := Nat.mul_le_mul (by omega) h7
                    exact Nat.le_trans h3 (by decide))
                  have HLN : Hid (ns.length + 1 ≤ 1099511627776) := Lib.hid (by have := HNL.out; omega)
                  have HML : Hid ((numsL ms).length + 1 ≤ 1099511627776) := Lib.hid (by rw [numsL_len, HLV0.out.len]; exact HLN.out)
                  have cA1 : w5.cell? ⟨W0.heap.size + 2, p, none⟩ = some (.int .i64 0) := cA0
                  have hsz := B2.size
                  clear cA0
                  go_wp2_with (at_builtin; refine wpList_pushII w5 rfl _ _ rfl S2.nx b45 o5 hsz rfl rfl rfl HIL.out HLN.out ?_)
                  intro v6 w6 R6 b6 g6 at6
                  obtain ⟨ao6, c6, hv6, _, _⟩ := R6.row.shape
                  obtain ⟨n6, hn6⟩ : ∃ n6, (us ++ [Value.slice ro rn rc]).length = n6 := ⟨_, rfl⟩
                  rw [hn6] at hv6
                  subst hv6
                  have S6 := S5.pushN (m := (wr.drewN nq).heap.size) (fun k hk => (S2.mo.block k hk).2) (fun k hk => (S2.ar.block k hk).2) b45.size (fun q hq => (o5.block q hq).1) R6 g6 at6
                  have B6 := B5.trans b6
                  have hB6s := B6.size
                  have HN6 : Hid (n6 = ns.length + 1) := Lib.hid (by rw [← hn6, List.length_append, List.length_singleton, S5.nx.len])
                  have hn66 : n6 ≤ 6000 := by have := HN6.out; have := HNL.out; omega
                  clear R6 b6 g6 at6 S2 b45 o4 o5 S5 B5 cA1 hsz b4 b5 B2 hn6
                  go_wp2_with (at_builtin; refine wpList_pushAt w6 rfl _ _ rfl S6.mo rfl rfl HML.out hB6s ?_)
                  intro v7 w7 O7 b7 g7 at7
                  have O7' : OwnI W0.heap.size w7 v7 (numsL (ms ++ [0])) := by rw [← numsL_push]; exact O7
                  have S7a := S6.pushM O7' g7 at7
                  have B7a := B6.trans b7
                  have cA7 := S7a.ar.cellAt p (by rw [numsL_len]; exact (List.getElem?_eq_some_iff.1 HA.out).1)
                  rw [numsL_get HA.out] at cA7
                  have cA8 : w7.cell? ⟨W0.heap.size + 2, p, none⟩ = some (.int .i64 0) := cA7
                  have fA7 := S7a.ar.free p
                  have S7 := S7a.setA p n6
                  have B7 := B7a.setCell (p := ⟨W0.heap.size + 2, p, none⟩) (by simp) (.int .i64 ((n6 : Nat) : Int))
                  have HLV : Hid (LevM ql m' (ns ++ [swapL x0 k (k + 1)]) (ms ++ [0]) (ats.set p n6)) := Lib.hid (by rw [HN6.out]; exact HNW.out)
                  have HWS : Hid (wsum ql (ms ++ [0]) (ns ++ [swapL x0 k (k + 1)]) = wsum ql (qs.take i) (ls.take i) + d * rpart ql x0 k) := Lib.hid (by
                    rw [wsum_push 0 _ HLV0.out.len, HLK.out.2]; omega)
                  have HJV : Hid ((ns ++ [swapL x0 k (k + 1)])[ns.length]? = some (swapL x0 k (k + 1))) := Lib.hid (by simp)
                  have HJQ : Hid ((ms ++ [0])[ns.length]? = some 0) := Lib.hid (by rw [← HLV0.out.len]; simp)
                  have HJA : Hid ((ats.set p n6)[p]? = some (ns.length + 1)) := Lib.hid (by rw [List.getElem?_set_self (List.getElem?_eq_some_iff.1 HA.out).1, HN6.out])
                  clear S6 O7 O7' g7 at7 S7a b7 B6 B7a cA7
                  have HST := Lib.hid (count_step HD.out HXI.out HDI.out hkl HDN.out HLV.out HWS.out HJV.out HJQ.out)
                  have hqd : 0 + d ≤ 21936950640377856 := Nat.le_trans HST.out.2.2 HTB.out
                  obtain ⟨gm, cm, rfl, hgm, hgmw, hcm, _⟩ := S7.mo.row (by rw [numsL_len]; have := (List.getElem?_eq_some_iff.1 HJQ.out).1; omega)
                  have hjm : ns.length < (numsL (ms ++ [0])).length := by rw [numsL_len]; exact (List.getElem?_eq_some_iff.1 HJQ.out).1
                  have cM := S7.mo.cellAt ns.length hjm
                  rw [numsL_get HJQ.out] at cM
                  have fM := S7.mo.free ns.length
                  have cA := S7.ar.cellAt p (by rw [numsL_len]; have := HLV.out.alen; have := HF.out; omega)
                  rw [numsL_get HJA.out] at cA
                  have cC := (B7.cell (World.block_lt_of_cell? _ _ hcc0)).trans hcc0
                  have S8 := (S7.setM ns.length (0 + d)).drew
                  have B8 := below_drewII (B7.setCell (p := ⟨gm, ns.length, none⟩) hgm (.int .i64 ((0 + d : Nat) : Int)))
                  obtain ⟨nm, hnm⟩ : ∃ nm, (numsL (ms ++ [0])).length = nm := ⟨_, rfl⟩
                  have hnmm : nm ≤ 1099511627776 := by rw [← hnm]; exact S7.mo.len
                  obtain ⟨A, hA⟩ : ∃ A : Int, ((ns.length + 1 : Nat) : Int) = A := ⟨_, rfl⟩
                  obtain ⟨J, hJ⟩ : ∃ J : Int, A - 1 = J := ⟨_, rfl⟩
                  obtain ⟨Q, hQ⟩ : ∃ Q : Int, ((0 : Nat) : Int) = Q := ⟨_, rfl⟩
                  obtain ⟨D, hD⟩ : ∃ D : Int, ((d : Nat) : Int) = D := ⟨_, rfl⟩
                  obtain ⟨QD, hQD⟩ : ∃ QD : Int, ((0 + d : Nat) : Int) = QD := ⟨_, rfl⟩
                  rw [hnm] at hjm hcm S8 ⊢
                  rw [hA] at cA
                  rw [hQ] at cM
                  rw [hD] at cC
                  rw [hQD] at S8 B8
                  have hw1 : IntKind.i64.wrap (A - 1) = J := by rw [hJ]; exact IntWalk.i64_in _ (by omega)
                  have hw2 : IntKind.i64.wrap (Q + D) = QD := by rw [show Q + D = QD by omega]; exact IntWalk.i64_in _ (by omega)
                  have hA00 : (A == 0) = false := by simp; omega
                  have hJ0 : 0 ≤ J := by omega
                  have hJn : J < (nm : Int) := by omega
                  have hJt : J.toNat = ns.length := by omega
                  clear hA hJ hQ hD hQD hnm hcc0
                  go_wp2
                  go_region
                  all_goals
                    go_wp2
                    go_roundw
                    case rel => exact ⟨k + 1, _, _, _, _, by omega, by go_num, S8, Lib.hid ⟨HST.out.1, HST.out.2.1⟩, B8⟩
                    case measure => simp [intOf]; omega
                · obtain ⟨j, rfl⟩ : ∃ j, a = j + 1 := ⟨a - 1, by omega⟩
                  have S7 := S5
                  have B7 := B5
                  have HLV := Lib.hid HLK.out.1
                  have HWS := Lib.hid HLK.out.2
                  have HJV := Lib.hid (HLV.out.find HSP.out (j := j) (by rw [HPP.out]; exact HA.out))
                  obtain ⟨q, hq⟩ : ∃ q, ms[j]? = some q := ⟨_, List.getElem?_eq_getElem (by rw [HLV.out.len]; exact (List.getElem?_eq_some_iff.1 HJV.out).1)⟩
                  have HJQ := Lib.hid hq
                  have HJA := HA
                  clear hq S2 b45 o4 o5 S5 B5 b4 b5 B2 cA0 ha0
                  have HST := Lib.hid (count_step HD.out HXI.out HDI.out hkl HDN.out HLV.out HWS.out HJV.out HJQ.out)
                  have hqd : q + d ≤ 21936950640377856 := Nat.le_trans HST.out.2.2 HTB.out
                  obtain ⟨gm, cm, rfl, hgm, hgmw, hcm, _⟩ := S7.mo.row (by rw [numsL_len]; have := (List.getElem?_eq_some_iff.1 HJQ.out).1; omega)
                  have hjm : j < (numsL ms).length := by rw [numsL_len]; exact (List.getElem?_eq_some_iff.1 HJQ.out).1
                  have cM := S7.mo.cellAt j hjm
                  rw [numsL_get HJQ.out] at cM
                  have fM := S7.mo.free j
                  have cA := S7.ar.cellAt p (by rw [numsL_len]; have := HLV.out.alen; have := HF.out; omega)
                  rw [numsL_get HJA.out] at cA
                  have cC := (B7.cell (World.block_lt_of_cell? _ _ hcc0)).trans hcc0
                  have S8 := (S7.setM j (q + d)).drew
                  have B8 := below_drewII (B7.setCell (p := ⟨gm, j, none⟩) hgm (.int .i64 ((q + d : Nat) : Int)))
                  obtain ⟨nm, hnm⟩ : ∃ nm, (numsL ms).length = nm := ⟨_, rfl⟩
                  have hnmm : nm ≤ 1099511627776 := by rw [← hnm]; exact S7.mo.len
                  obtain ⟨A, hA⟩ : ∃ A : Int, ((j + 1 : Nat) : Int) = A := ⟨_, rfl⟩
                  obtain ⟨J, hJ⟩ : ∃ J : Int, A - 1 = J := ⟨_, rfl⟩
                  obtain ⟨Q, hQ⟩ : ∃ Q : Int, ((q : Nat) : Int) = Q := ⟨_, rfl⟩
                  obtain ⟨D, hD⟩ : ∃ D : Int, ((d : Nat) : Int) = D := ⟨_, rfl⟩
                  obtain ⟨QD, hQD⟩ : ∃ QD : Int, ((q + d : Nat) : Int) = QD := ⟨_, rfl⟩
                  rw [hnm] at hjm hcm S8 ⊢
                  rw [hA] at cA
                  rw [hQ] at cM
                  rw [hD] at cC
                  rw [hQD] at S8 B8
                  have hw1 : IntKind.i64.wrap (A - 1) = J := by rw [hJ]; exact IntWalk.i64_in _ (by omega)
                  have hw2 : IntKind.i64.wrap (Q + D) = QD := by rw [show Q + D = QD by omega]; exact IntWalk.i64_in _ (by omega)
                  have hA00 : (A == 0) = false := by simp; omega
                  have hJ0 : 0 ≤ J := by omega
                  have hJn : J < (nm : Int) := by omega
                  have hJt : J.toNat = j := by omega
                  clear hA hJ hQ hD hQD hnm hcc0
                  go_wp2
                  go_region
                  all_goals
                    go_wp2
                    go_roundw
                    case rel => exact ⟨k + 1, _, _, _, _, by omega, by go_num, S8, Lib.hid ⟨HST.out.1, HST.out.2.1⟩, B8⟩
                    case measure => simp [intOf]; omega
            · obtain rfl : ql = k + 1 := by omega
              have HN : Hid (LevM (k + 1) m' ns ms ats ∧ wsum (k + 1) ms ns = wsum (k + 1) (qs.take (i + 1)) (ls.take (i + 1))) := Lib.hid ⟨HLK.out.1, by
                rw [HLK.out.2, wsum_take HDI.out HXI.out]
                have := rpart_all HXP.out HXM.out
                rw [show k + 1 - 1 = k by omega] at this
                rw [this]⟩
              go_wp2
              go_roundw
              case rel => exact ⟨i + 1, us, ns, ms, ats, by omega, by go_num, hS, HN, hBk⟩
              case measure => simp [intOf]; omega
        · obtain rfl : i = N1 := by omega
          have HN : Hid (LevD q0 m' T ns ms) := Lib.hid (by
            have hs : wsum q0 ms ns = T := by
              rw [HLI.out.2, List.take_of_length_le (by rw [HQL.out]; exact Nat.le_refl _), List.take_of_length_le (by rw [← HN0.out]; exact Nat.le_refl _)]
              exact HD.out.sum
            refine ⟨HLI.out.1.len, fun e => ?_, HLI.out.1.perm, HLI.out.1.nodup, hs⟩
            have h2 : ms = [] := List.eq_nil_of_length_eq_zero (by rw [HLI.out.1.len, e]; rfl)
            rw [e, h2] at hs
            have := redN_pos HP.out
            rw [HT.out] at this
            simp [wsum] at hs
            omega)
          have hRN : RdII wr _ ns := RowsV.rd (AtII.rows ⟨us, hS.nx⟩)
          have hIN := hS.mo.ints
          have hBN := hB.trans (hBi.mono hB.size)
          have HM1 : Hid (M - 1 = (m' : Int)) := Lib.hid (by have := HMM.out; omega)
          go_wp2
          go_roundw
          case rel => exact ⟨m', ns, ms, by omega, by rw [HM1.out], hRN, hIN, HN, hBN⟩
          case measure => simp [intOf]; omega
    · obtain rfl : m = 0 := by omega
      have HE := Lib.hid HD.out.last
      obtain ⟨N1, cao, cb, coff, cc, rfl, HN1, hcc, _, hca, hccs, hcN⟩ := hI.open
      have hN1 : 0 < N1 := by rw [HN1.out, numsL_len]; exact (List.getElem?_eq_some_iff.1 HE.out).1
      obtain rfl := hca (by omega)
      have c0 := hccs 0 hN1
      rw [numsL_get HE.out, Nat.add_zero] at c0
      clear hccs hca hI
      go_wp2
      go_ret
      exact ⟨rfl, hB⟩

set_option maxHeartbeats 1600000 in
theorem sCount_c (v : Value) (l : List Int) (w : World) (hv : IntsV w v l) :
    Calls Try.prog 15 #[v] w (GivesN w (countL l)) := by
  cases hp : isPermB l with
  | false =>
    have HR : Hid (countL l = -1) := Lib.hid (by simp [countL, hp])
    go_enter Try.func15, Try.ntmps15
    go_wp2_with fail
    refine (sIsPerm_c _ _ _ hv).mono ?_
    rw [hp]
    rintro e w1 ⟨rfl, b1⟩
    go_wp2_with fail
    go_ret
    rw [HR.out]
    exact ⟨rfl, b1⟩
  | true =>
    have HP : Hid (PermN l.length l) := Lib.hid ⟨hp, rfl⟩
    have HR : Hid (countL l = (redN l.length l : Int)) := Lib.hid (countL_yes HP.out)
    go_enter Try.func15, Try.ntmps15
    go_wp2_with fail
    refine (sIsPerm_c _ _ _ hv).mono ?_
    rw [hp]
    rintro e w1 ⟨rfl, b1⟩
    clear hp
    go_wp2_with fail
    refine (l1Count_c l.length _ l _ HP.out (hv.kept b1)).mono ?_
    rintro e w2 ⟨rfl, b2⟩
    have B2 := below_step b1 b2 b1.size
    go_wp2_with fail
    go_ret
    rw [HR.out]
    exact ⟨rfl, B2⟩

end Go.Proofs.Ytcpekiangjpppaa
