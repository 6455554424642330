/-
  Contract: l1Words of the reference.
-/
import Derived.Test.YtcpekiangjpppaaAll
import Derived.Test.YtcpekiangjpppaaCntS
namespace Go.Proofs.Ytcpekiangjpppaa
open Go.RowKit
set_option linter.unusedVariables false

/-! Plain. -/
structure WordsOk (ls ws ls' : ListsL) : Prop where
  few : ls.length + ws.length ≤ 800 → ls' = ls ++ ws
  many : 800 < ls.length + ws.length → 800 < ls'.length
  len : ls'.length ≤ 801
theorem WordsOk.start {ls : ListsL} (h : ls.length ≤ 801) : WordsOk ls [] ls := ⟨fun _ => by simp, fun h => by simpa using h, h⟩
theorem WordsOk.on {ls ws ws' ls1 ls2 : ListsL} (h : WordsOk ls ws ls1) (h8 : ls1.length ≤ 800) (h' : WordsOk ls1 ws' ls2) : WordsOk ls (ws ++ ws') ls2 := by
  refine ⟨fun hl => ?_, fun hl => ?_, h'.len⟩
  · rw [List.length_append] at hl
    have e := h.few (by omega)
    rw [h'.few (by rw [e, List.length_append]; omega), e, List.append_assoc]
  · rw [List.length_append] at hl
    by_cases h1 : ls.length + ws.length ≤ 800
    · have e := h.few h1
      exact h'.many (by rw [e, List.length_append]; omega)
    · have := h.many (by omega); omega
theorem WordsOk.skip {ls ws ls1 : ListsL} (ws' : ListsL) (h : WordsOk ls ws ls1) (h8 : 800 < ls1.length) : WordsOk ls (ws ++ ws') ls1 := by
  refine ⟨fun hl => ?_, fun _ => h8, h.len⟩
  rw [List.length_append] at hl
  have e := h.few (by omega)
  rw [e, List.length_append] at h8
  omega
def dlUp (l : List Int) (k : Nat) : List Nat := (List.range k).filter (fun t => decide (l.getD (t + 1) 0 < l.getD t 0))
theorem dlUp_yes {l : List Int} {k : Nat} (h : l.getD (k + 1) 0 < l.getD k 0) : dlUp l (k + 1) = dlUp l k ++ [k] := by
  have : decide (l.getD (k + 1) 0 < l.getD k 0) = true := by simpa using h
  simp only [dlUp, List.range_succ, List.filter_append, List.filter_cons, this, if_true, List.filter_nil]
theorem dlUp_no {l : List Int} {k : Nat} (h : ¬ l.getD (k + 1) 0 < l.getD k 0) : dlUp l (k + 1) = dlUp l k := by
  have : decide (l.getD (k + 1) 0 < l.getD k 0) = false := by simpa using h
  simp only [dlUp, List.range_succ, List.filter_append, List.filter_cons, this, List.filter_nil, Bool.false_eq_true, if_false, List.append_nil]
def wordsR (n m : Nat) (l behind : List Int) (k : Nat) : ListsL := (redR n m (swapL l k (k + 1))).map (· ++ ((k : Int) :: behind))
def wsUp (n m : Nat) (l behind : List Int) (k : Nat) : ListsL := (dlUp l k).flatMap (wordsR n m l behind)
theorem wsUp_zero (n m : Nat) (l behind : List Int) : wsUp n m l behind 0 = [] := rfl
theorem wsUp_yes {n m k : Nat} {l behind : List Int} (h : l.getD (k + 1) 0 < l.getD k 0) : wsUp n m l behind (k + 1) = wsUp n m l behind k ++ wordsR n m l behind k := by
  rw [wsUp, wsUp, dlUp_yes h, List.flatMap_append, List.flatMap_cons, List.flatMap_nil, List.append_nil]
theorem wsUp_no {n m k : Nat} {l behind : List Int} (h : ¬ l.getD (k + 1) 0 < l.getD k 0) : wsUp n m l behind (k + 1) = wsUp n m l behind k := by
  rw [wsUp, wsUp, dlUp_no h]
theorem wsUp_all (n m : Nat) (l behind : List Int) : wsUp n m l behind (n - 1) = (redR n (m + 1) l).map (· ++ behind) := by
  rw [redR, List.map_flatMap]
  unfold wsUp
  show (rdesc n l).flatMap _ = _
  congr 1
  funext k
  rw [wordsR, List.map_map]
  congr 1
  funext x
  simp
theorem dl_nil {n m : Nat} {l : List Int} (h : PermN n l) (hm : lenOf l = ((m + 1 : Nat) : Int)) : dlUp l (n - 1) ≠ [] := by
  intro e
  have hp := (redR_perm h hm).length_eq
  have hpos := redL_pos (m + 1) h hm
  have e2 : rdesc n l = [] := e
  rw [redR, e2] at hp
  simp at hp
  omega

/-! Reading, and where. -/
def IntsIn (S : Nat → Prop) (w : World) (v : Value) (l : List Int) : Prop :=
  ∃ (ao : Option Addr) (b off c : Nat), v = .slice ao l.length c ∧ l.length ≤ c ∧ c ≤ maxLen ∧ (0 < c → ao = some ⟨b, off, none⟩) ∧
    (∀ j, j < l.length → w.cell? ⟨b, off + j, none⟩ = some (.int .i64 (l.getD j 0))) ∧ l.length ≤ 1099511627776 ∧ (0 < l.length → S b)
theorem IntsIn.ints {S : Nat → Prop} {w : World} {v : Value} {l : List Int} (h : IntsIn S w v l) : IntsV w v l := by
  obtain ⟨ao, b, off, c, h0, h1, h2, h3, h4, h5, _⟩ := h
  exact ⟨ao, b, off, c, h0, h1, h2, h3, h4, h5⟩
theorem IntsIn.grown {S : Nat → Prop} {w w' : World} {v : Value} {l : List Int} {row : Option Nat} (h : IntsIn S w v l) (hg : w.grownBy w' row) (hs : ∀ k, S k → row ≠ some k) : IntsIn S w' v l := by
  obtain ⟨ao, b, off, c, h0, h1, h2, h3, h4, h5, h6⟩ := h
  refine ⟨ao, b, off, c, h0, h1, h2, h3, fun j hj => ?_, h5, h6⟩
  rw [World.cell?_of_block (hg.block b (World.block_lt_of_cell? _ _ (h4 j hj)) (fun e => hs b (h6 (by omega)) e.symm))]
  exact h4 j hj
theorem IntsV.into {w : World} {v : Value} {l : List Int} (h : IntsV w v l) : IntsIn (fun k => k < w.heap.size) w v l := by
  obtain ⟨ao, b, off, c, h0, h1, h2, h3, h4, h5⟩ := h
  exact ⟨ao, b, off, c, h0, h1, h2, h3, h4, h5, fun hl => World.block_lt_of_cell? _ _ (h4 0 hl)⟩
theorem IntsIn.kept {S : Nat → Prop} {w w' : World} {v : Value} {l : List Int} (h : IntsIn S w v l) (hb : Below w.heap.size w w') : IntsIn S w' v l := by
  obtain ⟨ao, b, off, c, h0, h1, h2, h3, h4, h5, h6⟩ := h
  refine ⟨ao, b, off, c, h0, h1, h2, h3, fun j hj => ?_, h5, h6⟩
  rw [hb.cell (p := ⟨b, off + j, none⟩) (World.block_lt_of_cell? _ _ (h4 j hj))]
  exact h4 j hj
theorem OwnI.into {B : Nat} {w : World} {v : Value} {l : List Int} (h : OwnI B w v l) : IntsIn (fun k => v.ownBlock = some k) w v l := by
  have hc0 := h
  obtain ⟨h, hl⟩ := h
  rcases h.2 with ⟨rfl, h0⟩ | ⟨g, cap, cur, rfl, hb, hg, hnc, hcm, hcs, htake⟩
  · exact ⟨none, 0, 0, 0, by rw [h0], by omega, Nat.zero_le _, fun h => absurd h (Nat.lt_irrefl 0), fun j hj => by omega, hl, fun hh => by omega⟩
  · refine ⟨some ⟨g, 0, none⟩, g, 0, cap, rfl, hnc, hcm, fun _ => rfl, fun j hj => ?_, hl, fun _ => rfl⟩
    have := hc0.cellAt j hj
    rw [Nat.zero_add]; exact this
theorem IntsV.cell {w : World} {b off q c : Nat} {l : List Int} (h : IntsV w (.slice (some ⟨b, off, none⟩) q c) l) {j : Nat} (hj : j < q) : w.cell? ⟨b, off + j, none⟩ = some (.int .i64 (l.getD j 0)) := by
  obtain ⟨ao, b', off', c', h0, h1, h2, h3, h4, _⟩ := h
  simp only [Value.slice.injEq] at h0
  obtain ⟨h5, rfl, rfl⟩ := h0
  have := h3 (by omega)
  rw [← h5] at this
  simp only [Option.some.injEq, Addr.mk.injEq, and_true] at this
  obtain ⟨rfl, rfl⟩ := this
  exact h4 j hj
theorem grown_step {a b c : World} {row row' : Option Nat} (h : a.grownBy b row) (h' : b.grownBy c row') (hr : ∀ k, row' = some k → row = some k ∨ a.heap.size ≤ k) : a.grownBy c row :=
  ⟨h'.os.trans h.os, h'.tape.trans h.tape, h'.output.trans h.output, Nat.le_trans h.size h'.size, fun k hk hne => (h'.block k (Nat.lt_of_lt_of_le hk h.size) (fun e => by
    rcases hr k e.symm with h1 | h1
    · exact hne h1.symm
    · omega)).trans (h.block k hk hne)⟩

/-- A row of the call's own, its lists too; none of them lies in the row's block. -/
structure RowC (B : Nat) (w : World) (v : Value) (us : List Value) (ls : ListsL) : Prop where
  row : OwnL 22 id B w v us
  len : us.length = ls.length
  own : ∀ (j : Nat) u l, us[j]? = some u → ls[j]? = some l → OwnI B w u l
  clear : ∀ (j : Nat) u, us[j]? = some u → Apart u v
section
variable {B : Nat} {w w' : World} {v : Value} {us : List Value} {ls : ListsL}
theorem RowC.kept (h : RowC B w v us ls) (hb : Below w.heap.size w w') : RowC B w' v us ls := ⟨h.row.kept hb, h.len, fun j u l hu hl => (h.own j u l hu hl).kept hb, h.clear⟩
theorem RowC.lit (w : World) (hB : B ≤ w.heap.size) : RowC B (w.alloc (.cells #[] 22)) (.slice (some ⟨w.heap.size, 0, none⟩) 0 0) [] [] :=
  ⟨(OwnL.lit _ _ _).mono hB, rfl, fun j u l h => by simp at h, fun j u h => by simp at h⟩
theorem RowC.block (h : RowC B w v us ls) {j : Nat} {u : Value} (hu : us[j]? = some u) : ∀ k, u.ownBlock = some k → B ≤ k ∧ k < w.heap.size := by
  have hj := (List.getElem?_eq_some_iff.1 hu).1
  exact (h.own j u _ hu (List.getElem?_eq_getElem (l := ls) (i := j) (by rw [← h.len]; exact hj))).block
theorem RowC.ownR (h : RowC B w v us ls) : OwnR B w v ls := ⟨us, h.row, h.len, h.own, fun k hk => (h.row.block k hk).2, fun j u hu k hk => (h.block hu k hk).2, Nat.le_refl _⟩
/-- 'l = append(l, x)'. -/
theorem wpList_pushC {ops : Array Oper} {rest : List Oper} {o : Oper} {a : Act} {Q : Exit → Act → World → Prop} (w : World) (hgd : o.guard = none) (s x : Operand)
    (ho : o.op = .call { callee := .builtin .append, args := #[s, x], argTypes := #[32, 32] })
    {u : Value} {e : List Int} (hown : RowC B w v us ls) (hu : OwnI B w u e) (hap : Apart u v) (hB : B ≤ w.heap.size)
    (hs : a.eval s = v) {g : Nat} (hx : a.eval x = .slice (some ⟨g, 0, none⟩) 1 1) (hg0 : g = w.heap.size) (hl1 : ls.length + 1 ≤ 1099511627776)
    (h : ∀ v' w', RowC B w' v' (us ++ [u]) (ls ++ [e]) → w.grownBy w' v.ownBlock → (∀ k, v'.ownBlock = some k → v.ownBlock = some k ∨ w.heap.size ≤ k) → wpList Try.prog ops Q rest (a.put o.dst v') w') :
    wpList Try.prog ops Q (o :: rest) a (w.alloc (.cells #[u] 22)) := by
  subst hg0
  have hlu := hown.len
  have hu1 : u.oneCell' = true := by obtain ⟨_, _, _, rfl⟩ := hu.ints.shape'; rfl
  obtain ⟨i0, hi, hz0, hz, hz2⟩ := info_parts Try.infoII
  have hsz : (Value.slice none 0 0).cells.size = 1 := rfl
  refine wpList_append_lies _ hgd s x 32 ho B 22 i0 (.slice none 0 0) 1 24 Try.underlying32 hi hz0 hz hz2 hsz (by decide) v us.length (us.map id) hs (hown.row.1.alloc _)
    ⟨w.heap.size, 0, none⟩ 1 1 [u] hx rfl ?_ ?_ (by decide) ?_ ?_ ?_ (w.heap.size + 1) (by simp) ?_
  · intro j z hj
    match j, hj with
    | 0, hj => simp at hj; subst hj; simp [Addr.add]
  · intro z hz; simp at hz; subst hz; exact hu1
  · unfold maxLen; omega
  · omega
  · simp; omega
  · intro g cap w' hown' hgrow hat hlt
    have hg : w.grownBy w' v.ownBlock := grownBy_trans (World.grownBy_alloc w _ _) hgrow
    have hat' : ∀ k, (Value.slice (some ⟨g, 0, none⟩) (us.length + 1) cap).ownBlock = some k → v.ownBlock = some k ∨ w.heap.size ≤ k := fun q hq => by
      simp [Value.ownBlock] at hq
      subst hq
      rcases hat with h | h
      · exact .inl h
      · exact .inr (by omega)
    have hrow : OwnL 22 id B w' (.slice (some ⟨g, 0, none⟩) (us.length + 1) cap) (us ++ [u]) := by
      refine ⟨?_, by simp; omega⟩
      rw [List.length_append]
      have e2 : (us ++ [u]).map id = us.map id ++ [u] := by simp
      rw [e2]
      exact hown'
    have key : ∀ (j : Nat) (z : Value), (us ++ [u])[j]? = some z → us[j]? = some z ∨ (j = us.length ∧ z = u) := by
      intro j z hz
      by_cases hj : j < us.length
      · rw [List.getElem?_append_left hj] at hz; exact .inl hz
      · rw [List.getElem?_append_right (by omega)] at hz
        obtain ⟨h1, h2⟩ := List.getElem?_eq_some_iff.1 hz
        simp at h1 h2
        exact .inr ⟨by omega, h2.symm⟩
    refine h _ w' ⟨hrow, by simp [hlu], fun j z l hz hl => ?_, fun j z hz q hq e => ?_⟩ hg hat'
    · rcases key j z hz with h1 | ⟨rfl, rfl⟩
      · rw [List.getElem?_append_left (by rw [← hlu]; exact (List.getElem?_eq_some_iff.1 h1).1)] at hl
        exact own_ne (hown.own j z l h1 hl) hg (hown.clear j z h1)
      · rw [List.getElem?_append_right (by omega)] at hl
        have : l = e := by
          obtain ⟨h1, h2⟩ := List.getElem?_eq_some_iff.1 hl
          simp at h2; exact h2.symm
        subst this
        exact own_ne hu hg hap
    · rcases key j z hz with h1 | ⟨rfl, rfl⟩
      · rcases hat' q e with h2 | h2
        · exact hown.clear j z h1 q hq h2
        · have := (hown.block h1 q hq).2; omega
      · rcases hat' q e with h2 | h2
        · exact hap q hq h2
        · have := (hu.block q hq).2; omega
end

def GivesW (B : Nat) (w : World) (lv : Value) (ls ws : ListsL) (e : Ending) (w' : World) : Prop :=
  ∃ r us' ls', e = .returned r ∧ RowC B w' r us' ls' ∧ WordsOk ls ws ls' ∧ w.grownBy w' lv.ownBlock ∧ (∀ k, r.ownBlock = some k → lv.ownBlock = some k ∨ w.heap.size ≤ k)

set_option maxHeartbeats 3200000 in
theorem l1Words_c (n B : Nat) : ∀ (m : Nat) (l behind : List Int) (wv bv lv : Value) (us : List Value) (ls : ListsL) (S : Nat → Prop) (w : World), lenOf l = (m : Int) → PermN n l → IntsIn S w wv l → (∀ k, S k → lv.ownBlock ≠ some k) →
    OwnI B w bv behind → Apart bv lv → RowC B w lv us ls → ls.length ≤ 800 → B ≤ w.heap.size → behind.length + m ≤ 100 →
    Calls Try.prog 33 #[wv, bv, lv] w (GivesW B w lv ls ((redR n m l).map (· ++ behind))) := by
  intro m
  induction m using Nat.strongRecOn with
  | ind m ih => ?_
  intro l behind wv bv lv us ls S w hm hp hw hS hb hap hR h8 hB hbl
  have HW := Lib.hid hw
  obtain ⟨q, ao, b, off, c, rfl, HL, hqc, hcm, ha, hc, hq⟩ := hw.ints.open
  obtain rfl : q = n := HL.out.trans hp.2
  have h1 := hp.size.1
  have h7 := hp.size.2
  obtain rfl := ha (by omega)
  obtain ⟨bo, bn, bc, rfl⟩ := hb.ints.shape'
  obtain ⟨lo, ln, lc, rfl⟩ : ∃ ao n c, lv = .slice ao n c := by obtain ⟨ao, c, h, _⟩ := hR.row.shape; exact ⟨_, _, _, h⟩
  have HIH := Lib.hid ih
  have HM := Lib.hid hm
  have HP := Lib.hid hp
  have HSS := Lib.hid hS
  have HB := Lib.hid hb
  have HBL := Lib.hid hbl
  have HAP := Lib.hid hap
  have H8 := Lib.hid h8
  have HBW := Lib.hid hB
  obtain ⟨LV, hLV⟩ : ∃ LV : Value, LV = .slice lo ln lc := ⟨_, rfl⟩
  have HLV := Lib.hid hLV
  have hgr : w.grownBy w (Value.slice lo ln lc).ownBlock := ⟨rfl, rfl, rfl, Nat.le_refl _, fun _ _ _ => rfl⟩
  have HK0 : Hid (WordsOk ls (wsUp q (m - 1) l behind 0) ls) := Lib.hid (WordsOk.start (by omega))
  clear ih hm hp hS hb hbl hap h8 hw hcm ha hc hqc hLV
  go_enter Try.func33, Try.ntmps33
  go_wp2
  go_loopw [2, 7, 8] (fun lv' dv kv wr => ∃ (k : Nat) (us' : List Value) (ls' : ListsL) (d : Bool), k + 1 ≤ q ∧ kv = .int .i64 k ∧ dv = .bool d ∧ Hid (d = (dlUp l k).isEmpty) ∧ RowC B wr lv' us' ls' ∧ Hid (WordsOk ls (wsUp q (m - 1) l behind k) ls') ∧
      w.grownBy wr (Value.slice lo ln lc).ownBlock ∧ (∀ k, lv'.ownBlock = some k → (Value.slice lo ln lc).ownBlock = some k ∨ w.heap.size ≤ k)) (fun _ _ kv _ => q - (intOf kv).toNat)
  case atStart => exact ⟨0, us, ls, true, h1, rfl, rfl, Lib.hid rfl, hR, HK0, hgr, fun k hk => .inl hk⟩
  case round =>
    obtain ⟨k, us', ls', d, hk, rfl, rfl, HD, hRk, HWK, hgk, hvk⟩ := hrel
    clear hgr HK0 hR
    obtain ⟨ko, kc, hkv, hkc, _⟩ := hRk.row.shape
    obtain ⟨n', hn'⟩ : ∃ n', us'.length = n' := ⟨_, rfl⟩
    rw [hn'] at hkv hkc
    subst hkv
    have HN' : Hid (n' = ls'.length) := Lib.hid (by rw [← hn']; exact hRk.len)
    have hn81 : n' ≤ 801 := by rw [HN'.out]; exact HWK.out.len
    clear hn'
    by_cases hlt : k + 1 < q
    · have hwr := HW.out.grown hgk HSS.out
      obtain ⟨x, hx⟩ : ∃ x, l.getD k 0 = x := ⟨_, rfl⟩
      obtain ⟨y, hy⟩ : ∃ y, l.getD (k + 1) 0 = y := ⟨_, rfl⟩
      have c1 := hwr.ints.cell (j := k) (by omega)
      have c2 := hwr.ints.cell (j := k + 1) hlt
      rw [hx] at c1
      rw [hy] at c2
      have HX := Lib.hid hx
      have HY := Lib.hid hy
      have HWR := Lib.hid hwr
      have hk0 : (0 : Int) ≤ (k : Int) := Int.natCast_nonneg _
      have hk1 : (k : Int) < (q : Int) := by omega
      have hk2 : (k : Int) + 1 < (q : Int) := by omega
      have hk3 : IntKind.i64.wrap ((k : Int) + 1) = (k : Int) + 1 := IntWalk.i64_in _ (by omega)
      have hk4 : 0 ≤ (k : Int) + 1 := by omega
      have hk5 : ((k : Int) + 1).toNat = k + 1 := by omega
      clear hx hy hwr
      by_cases hxy : y < x
      · have hdd := quietGtr hxy
        have HDN : Hid (l.getD (k + 1) 0 < l.getD k 0) := Lib.hid (by rw [HX.out, HY.out]; exact hxy)
        have HSP := Lib.hid (swap_perm HP.out (i := k) (j := k + 1) (by omega) hlt)
        have hsm := len_swap_down (l := l) (k := k) (by rw [HP.out.2]; exact hlt) HDN.out
        obtain ⟨m', rfl⟩ : ∃ m', m = m' + 1 := ⟨m - 1, by have := HM.out; have := lenOf_nonneg (swapL l k (k + 1)); omega⟩
        have HSM : Hid (lenOf (swapL l k (k + 1)) = (m' : Int)) := Lib.hid (by have := HM.out; omega)
        have HK1 : Hid (k < l.length) := Lib.hid (by rw [HP.out.2]; omega)
        have HK2 : Hid (k + 1 < l.length) := Lib.hid (by rw [HP.out.2]; exact hlt)
        have HD' : Hid (false = (dlUp l (k + 1)).isEmpty) := Lib.hid (by rw [dlUp_yes HDN.out]; simp)
        by_cases h8 : n' ≤ 800
        · have h8' : (n' : Int) ≤ 800 := by omega
          clear hsm
          go_wp2
          go_quiet (fail)
          have R2 := hRk.kept (below_drewN (Below.refl wr.heap.size wr) nq)
          have g2 := grownBy_trans hgk (grown_of_below (Value.slice lo ln lc).ownBlock (below_drewN (Below.refl wr.heap.size wr) nq))
          have hwv2 : IntsV (wr.drewN nq) (.slice (some ⟨b, off, none⟩) q c) l := HWR.out.ints.kept (below_drewN (Below.refl wr.heap.size wr) nq)
          clear hk3 hk4 hk5 hdd hxy c1 c2 hRk hgk
          go_wp2_with fail
          refine (l1Swap_x _ l k (k + 1) _ _ _ rfl (by push_cast; rfl) hwv2 HK1.out HK2.out).mono ?_
          rintro e w4 ⟨r, rfl, o4, b4⟩
          have R4 := R2.kept b4
          have g4 := grownBy_trans g2 (grown_of_below (Value.slice lo ln lc).ownBlock b4)
          have hone := own_one w4 (k : Int)
          have hb4 := own_ne HB.out g4 HAP.out
          have A4 := (Below.refl w4.heap.size w4).alloc (Nat.le_refl _) (Obj.cells #[.int .i64 (k : Int)] 3)
          have hsrc := hb4.ints.kept A4
          have hlenx : ([(k : Int)] : List Int).length + behind.length ≤ 1099511627776 := by have := HBL.out; simp; omega
          have hlk : ∀ q, (Value.slice ko n' kc).ownBlock = some q → q < (wr.drewN nq).heap.size := fun q hq => (R2.row.block q hq).2
          clear hwv2 R2 g2 hb4
          go_wp2_with (at_builtin; refine wpList_extend _ rfl _ _ rfl hone hsrc rfl rfl hlenx (by simp) ?_)
          intro v6 w6 O6 b6 _
          have b46 := A4.trans b6
          have R6 := R4.kept b46
          have g6 := grownBy_trans g4 (grown_of_below (Value.slice lo ln lc).ownBlock b46)
          have o6 := o4.kept b46
          have O6' : OwnI w4.heap.size w6 v6 ((k : Int) :: behind) := O6
          have hBw6 : B ≤ w6.heap.size := by
            have h2 := HB.out
            have := g6.size
            have h3 : B ≤ w.heap.size := HBW.out
            omega
          have hS6 : ∀ q, r.ownBlock = some q → (Value.slice ko n' kc).ownBlock ≠ some q := fun q hq e => by
            have := (o4.block q hq).1; have := hlk q e; omega
          have hap6 : Apart v6 (.slice ko n' kc) := fun q hq e => by
            have := (O6.block q hq).1; have := hlk q e; have := b4.size; omega
          have HLS : Hid (ls'.length ≤ 800) := Lib.hid (by rw [← HN'.out]; exact h8)
          have HBW4 : Hid (B ≤ w4.heap.size) := Lib.hid (by have := g4.size; have := HBW.out; omega)
          have HBL6 : Hid (((k : Int) :: behind).length + m' ≤ 100) := Lib.hid (by have := HBL.out; simp; omega)
          have hlk6 : ∀ k, (Value.slice ko n' kc).ownBlock = some k → (Value.slice lo ln lc).ownBlock = some k ∨ w.heap.size ≤ k := hvk
          clear hone hsrc hlenx O6 b6 b46 A4 R4 g4 b4 hvk
          go_wp2_with fail
          refine (HIH.out m' (Nat.lt_succ_self _) (swapL l k (k + 1)) ((k : Int) :: behind) r v6 _ us' ls' (fun q => r.ownBlock = some q) w6 HSM.out HSP.out o6.into hS6 (O6'.mono HBW4.out) hap6 R6 HLS.out hBw6 HBL6.out).mono ?_
          rintro e w7 ⟨r7, us7, ls7, rfl, R7, W7, g7, v7⟩
          have HW7 : Hid (WordsOk ls (wsUp q (m' + 1 - 1) l behind (k + 1)) ls7) := Lib.hid (by
            rw [wsUp_yes HDN.out]
            exact HWK.out.on HLS.out W7)
          have G7 := grown_step g6 g7 hlk6
          have V7 : ∀ k, r7.ownBlock = some k → (Value.slice lo ln lc).ownBlock = some k ∨ w.heap.size ≤ k := fun k hk => by
            rcases v7 k hk with h | h
            · exact hlk6 k h
            · exact .inr (Nat.le_trans g6.size h)
          clear W7 g7 v7 g6 R6 o6 O6' hS6 hap6 hlk hlk6 o4
          go_wp2
          go_roundw
          case rel => exact ⟨k + 1, us7, ls7, false, by omega, by go_num, rfl, HD', R7, HW7, G7, V7⟩
          case measure => simp [intOf]; omega
        · have h8' : ¬ (n' : Int) ≤ 800 := by omega
          have HW7 : Hid (WordsOk ls (wsUp q (m' + 1 - 1) l behind (k + 1)) ls') := Lib.hid (by
            rw [wsUp_yes HDN.out]
            exact HWK.out.skip _ (by rw [← HN'.out]; omega))
          clear hsm
          go_wp2
          go_quiet (fail)
          have R2 := hRk.kept (below_drewN (Below.refl wr.heap.size wr) nq)
          have g2 := grownBy_trans hgk (grown_of_below (Value.slice lo ln lc).ownBlock (below_drewN (Below.refl wr.heap.size wr) nq))
          clear hk3 hk4 hk5 hdd hxy c1 c2 hRk hgk
          go_wp2
          go_roundw
          case rel => exact ⟨k + 1, us', ls', false, by omega, by go_num, rfl, HD', R2, HW7, g2, hvk⟩
          case measure => simp [intOf]; omega
      · have hdd : decide (y < x) = false := by simpa using hxy
        have HDN : Hid (¬ l.getD (k + 1) 0 < l.getD k 0) := Lib.hid (by rw [HX.out, HY.out]; exact hxy)
        have HD' : Hid (d = (dlUp l (k + 1)).isEmpty) := Lib.hid (by rw [dlUp_no HDN.out]; exact HD.out)
        have HW7 : Hid (WordsOk ls (wsUp q (m - 1) l behind (k + 1)) ls') := Lib.hid (by rw [wsUp_no HDN.out]; exact HWK.out)
        go_wp2
        go_quiet (fail)
        have R2 := hRk.kept (below_drewN (Below.refl wr.heap.size wr) nq)
        have g2 := grownBy_trans hgk (grown_of_below (Value.slice lo ln lc).ownBlock (below_drewN (Below.refl wr.heap.size wr) nq))
        clear hk3 hk4 hk5 hdd hxy c1 c2 hRk hgk
        go_wp2
        go_roundw
        case rel => exact ⟨k + 1, us', ls', d, by omega, by go_num, rfl, HD', R2, HW7, g2, hvk⟩
        case measure => simp [intOf]; omega
    · obtain rfl : q = k + 1 := by omega
      cases m with
      | zero =>
        have hdl : dlUp l k = [] := by
          rw [List.eq_nil_iff_forall_not_mem]
          intro t ht
          simp only [dlUp, List.mem_filter, List.mem_range, decide_eq_true_eq] at ht
          have := len_swap_down (l := l) (k := t) (by rw [HP.out.2]; omega) ht.2
          have := lenOf_nonneg (swapL l t (t + 1))
          have := HM.out
          omega
        have hd : d = true := by rw [HD.out, hdl]; rfl
        subst hd
        have HE : Hid (ls' = ls) := Lib.hid (by
          have h2 := HWK.out
          rw [show wsUp (k + 1) (0 - 1) l behind k = [] by rw [wsUp, hdl]; rfl] at h2
          rw [h2.few (by have := H8.out; simp; omega)]; simp)
        have hbr := own_ne HB.out hgk HAP.out
        have hapr : Apart (.slice bo bn bc) (.slice ko n' kc) := fun q hq e => by
          rcases hvk q e with h | h
          · exact HAP.out q hq h
          · have := (HB.out.block q hq).2; omega
        have hBr : B ≤ wr.heap.size := Nat.le_trans HBW.out hgk.size
        have HLN : Hid (ls'.length + 1 ≤ 1099511627776) := Lib.hid (by rw [← HN'.out]; omega)
        clear hdl
        go_wp2_with (at_builtin; refine wpList_pushC wr rfl _ _ rfl hRk hbr hapr hBr rfl rfl rfl HLN.out ?_)
        intro v7 w7 R7 g7 at7
        have G7 := grown_step hgk g7 hvk
        have V7 : ∀ k, v7.ownBlock = some k → (Value.slice lo ln lc).ownBlock = some k ∨ w.heap.size ≤ k := fun k hk => by
          rcases at7 k hk with h | h
          · exact hvk k h
          · exact .inr (Nat.le_trans hgk.size h)
        have HW7 : Hid (WordsOk ls ((redR (k + 1) 0 l).map (· ++ behind)) (ls' ++ [behind])) := Lib.hid (by
          rw [HE.out]
          refine ⟨fun _ => by simp [redR], fun h => by simp [redR] at h ⊢; omega, by have := H8.out; simp; omega⟩)
        clear hRk hgk g7 at7 hbr hapr hvk
        go_wp2
        go_ret
        exact ⟨_, _, _, rfl, R7, HW7.out, G7, V7⟩
      | succ m' =>
        have hd : d = false := by
          rw [HD.out]
          have := dl_nil HP.out HM.out
          rw [show k + 1 - 1 = k from rfl] at this
          cases h : dlUp l k with
          | nil => exact absurd h this
          | cons a b => rfl
        subst hd
        have HW7 : Hid (WordsOk ls ((redR (k + 1) (m' + 1) l).map (· ++ behind)) ls') := Lib.hid (by
          rw [← wsUp_all]; exact HWK.out)
        go_wp2
        go_ret
        exact ⟨_, _, _, rfl, hRk, HW7.out, hgk, hvk⟩

end Go.Proofs.Ytcpekiangjpppaa
