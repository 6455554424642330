/-
  Contracts: allReduced, ReducedWords (the program's).
-/
import Derived.Test.YtfepepakellbbaaCnt
import Derived.Test.YtfepepakellbbaaDiag
import Derived.Test.YtfepepakellbbaaDrawn
namespace Go.Proofs.Ytfepepakellbbaa
open Go.RowKit
set_option linter.unusedVariables false

theorem RowII.out {lo hi : Nat} {w w' : World} {v : Value} {us : List Value} {ls : ListsL} {row : Option Nat} (h : RowII lo hi w v us ls) (hg : w.grownBy w' row) (hne : ∀ k, row = some k → k < lo ∨ hi ≤ k) : RowII lo hi w' v us ls := by
  refine ⟨h.row.grown hg ?_, h.parts.grown hg (fun j x hx q hq e => ?_), h.clear, h.vhi, h.uhi, Nat.le_trans h.size hg.size, h.bound⟩
  · cases hv : v.ownBlock with
    | none => exact .inl rfl
    | some k => exact .inr fun e => by have := hne k e.symm; have := h.vhi k hv; have := (h.row.block k hv).1; omega
  · have := hne q e; have := h.uhi j x hx q hq; have := (h.parts.block hx q hq).1; omega
theorem rowII_one (w : World) : RowII w.heap.size (w.heap.size + 2) ((w.alloc (.cells #[] 3)).alloc (.cells #[.slice (some ⟨w.heap.size, 0, none⟩) 0 0] 24)) (.slice (some ⟨w.heap.size + 1, 0, none⟩) 1 1) [.slice (some ⟨w.heap.size, 0, none⟩) 0 0] [[]] := by
  have ho : OwnI w.heap.size ((w.alloc (.cells #[] 3)).alloc (.cells #[.slice (some ⟨w.heap.size, 0, none⟩) 0 0] 24)) (.slice (some ⟨w.heap.size, 0, none⟩) 0 0) [] :=
    (OwnI.lit w).kept ((Below.refl _ _).alloc (Nat.le_refl _) _)
  have hr : OwnL 24 id (w.heap.size + 1) ((w.alloc (.cells #[] 3)).alloc (.cells #[.slice (some ⟨w.heap.size, 0, none⟩) 0 0] 24)) (.slice (some ⟨w.heap.size + 1, 0, none⟩) 1 1) [.slice (some ⟨w.heap.size, 0, none⟩) 0 0] := by
    refine ⟨?_, by simp⟩
    have := World.ownsRow_lit (base := w.heap.size + 1) (e := 24) (size := 1) (w.alloc (.cells #[] 3)) #[.slice (some ⟨w.heap.size, 0, none⟩) 0 0] 1 (by simp) (by unfold maxLen; omega) rfl
    simpa using this
  have key : ∀ (j : Nat) (u : Value), [Value.slice (some ⟨w.heap.size, 0, none⟩) 0 0][j]? = some u → j = 0 ∧ u = .slice (some ⟨w.heap.size, 0, none⟩) 0 0 := fun j u h => by
    match j, h with
    | 0, h => simp at h; exact ⟨rfl, h.symm⟩
  refine ⟨hr.mono (Nat.le_succ _), ⟨rfl, fun j u l hu hl => ?_, fun i j u u' hij hu hu' => ?_⟩, fun j u hu k hk => ?_, fun k hk => ?_, fun j u hu k hk => ?_, by simp, by simp [iiLen]⟩
  · obtain ⟨rfl, rfl⟩ := key j u hu
    simp at hl; subst hl; exact ho
  · have := (key i u hu).1; have := (key j u' hu').1; omega
  · obtain ⟨rfl, rfl⟩ := key j u hu
    simp [Value.ownBlock] at hk ⊢; omega
  · simp [Value.ownBlock] at hk; omega
  · obtain ⟨rfl, rfl⟩ := key j u hu
    simp [Value.ownBlock] at hk; omega

/-! Plain. -/
def wordsOf (n m : Nat) (l : List Int) (k : Nat) : ListsL := (redL n m (lsw l k)).map ((k : Int) :: ·)
def allUp (n m : Nat) (l : List Int) (i j : Nat) : ListsL := ((ldesc n l).take i).flatMap (wordsOf n m l) ++ (wordsOf n m l ((ldesc n l).getD i 0)).take j
theorem allUp_zero (n m : Nat) (l : List Int) : allUp n m l 0 0 = [] := by simp [allUp]
theorem allUp_succ {n m i j k : Nat} {l e : List Int} (hk : (ldesc n l)[i]? = some k) (he : (redL n m (lsw l k))[j]? = some e) : allUp n m l i (j + 1) = allUp n m l i j ++ [(k : Int) :: e] := by
  have h1 : (ldesc n l).getD i 0 = k := by rw [List.getD_eq_getElem?_getD, hk]; rfl
  have h2 : (wordsOf n m l k)[j]? = some ((k : Int) :: e) := by rw [wordsOf, List.getElem?_map, he]; rfl
  rw [allUp, allUp, h1, List.take_add_one, h2]; simp
theorem allUp_next {n m i j k : Nat} {l : List Int} (hk : (ldesc n l)[i]? = some k) (hj : j = (redL n m (lsw l k)).length) : allUp n m l i j = allUp n m l (i + 1) 0 := by
  have h1 : (ldesc n l).getD i 0 = k := by rw [List.getD_eq_getElem?_getD, hk]; rfl
  rw [allUp, allUp, h1, List.take_add_one, hk, List.take_of_length_le (l := wordsOf n m l k) (by rw [wordsOf, List.length_map]; omega)]
  simp
theorem allUp_all {n m i : Nat} {l : List Int} (hi : i = (ldesc n l).length) : allUp n m l i 0 = redL n (m + 1) l := by
  rw [allUp, List.take_of_length_le (by omega), redL]; simp; rfl
theorem allUp_sub (n m : Nat) (l : List Int) (i j : Nat) (hi : i < (ldesc n l).length) : List.Sublist (allUp n m l i j) (redL n (m + 1) l) := by
  have h1 : (ldesc n l).getD i 0 = (ldesc n l)[i] := by rw [List.getD_eq_getElem?_getD, List.getElem?_eq_getElem hi]; rfl
  have h2 : redL n (m + 1) l = ((ldesc n l).take i).flatMap (wordsOf n m l) ++ (wordsOf n m l ((ldesc n l)[i]) ++ ((ldesc n l).drop (i + 1)).flatMap (wordsOf n m l)) := by
    have e : redL n (m + 1) l = (ldesc n l).flatMap (wordsOf n m l) := rfl
    rw [e]
    conv => lhs; rw [← List.take_append_drop i (ldesc n l), List.drop_eq_getElem_cons hi, List.flatMap_append, List.flatMap_cons]
  rw [h2, allUp, h1]
  exact List.Sublist.append (List.Sublist.refl _) ((List.take_sublist _ _).trans (List.sublist_append_left _ _))
theorem words_len {n m i k : Nat} {l : List Int} (hk : (ldesc n l)[i]? = some k) : (redL n m (lsw l k)).length ≤ (redL n (m + 1) l).length := by
  have hi := (List.getElem?_eq_some_iff.1 hk).1
  have h := (allUp_sub n m l i (redL n m (lsw l k)).length hi).length_le
  have h1 : (ldesc n l).getD i 0 = k := by rw [List.getD_eq_getElem?_getD, hk]; rfl
  rw [allUp, h1, List.length_append, List.length_take, wordsOf, List.length_map] at h
  omega

set_option maxHeartbeats 3200000 in
theorem allReduced_c (n : Nat) : ∀ (m : Nat) (l : List Int) (v : Value) (w : World), lenOf l = (m : Int) → PermN n l → IntsV w v l → (redL n m l).length ≤ 800 →
    Calls Try.prog 63 #[v] w (GivesII w (redL n m l)) := by
  intro m
  induction m with
  | zero =>
    intro l v w hm hp hv h8
    have h0 : ldesc n l = [] := by
      rw [List.eq_nil_iff_forall_not_mem]
      intro k hk
      obtain ⟨h1, h2⟩ := mem_ldesc.1 hk
      have := len_lsw_down hp h1 h2
      have := lenOf_nonneg (lsw l k)
      omega
    have H0 := Lib.hid h0
    have HP := Lib.hid hp
    obtain ⟨vo, vn, vc, rfl⟩ := hv.shape'
    clear h0 hp hm h8
    go_enter Try.func63, Try.ntmps63
    go_wp2_with fail
    refine (beginnings_c n _ l _ HP.out hv).mono ?_
    rintro e w1 ⟨r1, r2, us, rfl, hr1, hR, b1⟩
    obtain ⟨q, ao, b, off, c, rfl, HQ, hqc, hcm, ha, hc, hq⟩ := hr1.open
    have hq0 : q = 0 := by rw [HQ.out, H0.out]; rfl
    subst hq0
    have hone := rowII_one w1
    have B1 : Below w.heap.size w ((w1.alloc (.cells #[] 3)).alloc (.cells #[.slice (some ⟨w1.heap.size, 0, none⟩) 0 0] 24)) := (b1.alloc b1.size _).alloc (by have := b1.size; simp; omega) _
    have hbs := b1.size
    clear hR hc hcm ha hqc
    go_wp2
    go_ret
    exact ⟨_, rfl, ⟨_, hone.raise hbs (by simp) (Nat.le_refl _)⟩, B1⟩
  | succ m ih =>
    intro l v w hm hp hv h8
    have HIH := Lib.hid ih
    have HP := Lib.hid hp
    have HM := Lib.hid hm
    have H8 := Lib.hid h8
    have hpos := redL_pos (m + 1) hp hm
    have hne : 0 < (ldesc n l).length := by
      rcases Nat.eq_zero_or_pos (ldesc n l).length with h | h
      · rw [redL, List.eq_nil_of_length_eq_zero h] at hpos; simp at hpos
      · exact h
    have hm21 : m + 1 ≤ 21 := by have := len_le hp; omega
    have h7 := hp.size.2
    obtain ⟨vo, vn, vc, rfl⟩ := hv.shape'
    clear hp hm h8 ih hpos
    go_enter Try.func63, Try.ntmps63
    go_wp2_with fail
    refine (beginnings_c n _ l _ HP.out hv).mono ?_
    rintro e w1 ⟨r1, r2, us, rfl, hr1, hR, b1⟩
    obtain ⟨q, ao, b, off, c, rfl, HQ, hqc, hcm, ha, hc, hq⟩ := hr1.open
    have hqn : q = (ldesc n l).length := by rw [HQ.out, numsL_len]
    obtain rfl := ha (by omega)
    obtain ⟨q2, ao2, b2, c2, rfl, HQ2, hqc2, ha2, hc2, hq2⟩ := RowsV.open (AtII.rows ⟨us, hR⟩)
    obtain rfl : q2 = q := by rw [HQ2.out, restsL_len, hqn]
    obtain rfl := ha2 (by omega)
    have HC := Lib.hid hc
    have HC2 := Lib.hid hc2
    have HQN := Lib.hid hqn
    have hq1 : 0 < q2 := by omega
    have hqne : ((q2 : Int) == 0) = false := by simp; omega
    have hR0 : RowII w1.heap.size (w1.alloc (.cells #[] 24)).heap.size (w1.alloc (.cells #[] 24)) (.slice (some ⟨w1.heap.size, 0, none⟩) 0 0) [] (allUp n m l 0 0) := by
      rw [allUp_zero]; simpa using RowII.lit w1
    have hB0 : Below w1.heap.size w1 (w1.alloc (.cells #[] 24)) := (Below.refl _ _).alloc (Nat.le_refl _) _
    clear hc hc2 hcm hqn hR hne hr1
    go_wp2
    clear hqne
    go_loopw [5, 23] (fun ov iv wr => ∃ (i : Nat) (us : List Value), i ≤ q2 ∧ iv = .int .i64 i ∧ RowII w1.heap.size wr.heap.size wr ov us (allUp n m l i 0) ∧ Below w1.heap.size w1 wr) (fun _ iv _ => q2 - (intOf iv).toNat)
    case atStart => exact ⟨0, [], Nat.zero_le _, rfl, hR0, hB0⟩
    case round =>
      obtain ⟨i, us', hi, rfl, hRi, hBi⟩ := hrel
      clear hR0 hB0
      by_cases hlt : i < q2
      · obtain ⟨k, hk⟩ : ∃ k, (ldesc n l)[i]? = some k := ⟨_, List.getElem?_eq_getElem (by rw [← HQN.out]; exact hlt)⟩
        have hck := (hBi.cell (World.block_lt_of_cell? _ _ (HC.out i hlt))).trans (HC.out i hlt)
        rw [numsL_get' hk] at hck
        have hx : (restsL l (ldesc n l))[i]? = some (lsw l k) := by rw [restsL, List.getElem?_map, hk]; rfl
        obtain ⟨u, hu, hiu⟩ := HC2.out i _ hx
        have hcu := (hBi.cell (World.block_lt_of_cell? _ _ hu)).trans hu
        have hiu2 := hiu.kept hBi
        obtain ⟨h1, h2⟩ := mem_ldesc.1 (List.mem_of_getElem? hk)
        have hdn := len_lsw_down HP.out h1 h2
        have HLM : Hid (lenOf (lsw l k) = (m : Int)) := Lib.hid (by have := HM.out; omega)
        have HPL := Lib.hid (lsw_perm HP.out h1)
        have HL8 : Hid ((redL n m (lsw l k)).length ≤ 800) := Lib.hid (Nat.le_trans (words_len hk) H8.out)
        have HK := Lib.hid hk
        have hi0 : (0 : Int) ≤ (i : Int) := Int.natCast_nonneg _
        have hi1 : (i : Int) < (q2 : Int) := by omega
        obtain ⟨K, hK⟩ : ∃ K : Int, (k : Int) = K := ⟨_, rfl⟩
        rw [hK] at hck
        have HKK := Lib.hid hK
        clear hk hx hu hiu hdn h1 h2 hK
        go_wp2_with fail
        refine (HIH.out _ _ _ HLM.out HPL.out hiu2 HL8.out).mono ?_
        rintro e w3 ⟨r3, rfl, ⟨us3, h3⟩, b3⟩
        have R3 := hRi.up b3
        have B3 := below_step hBi b3 hBi.size
        obtain ⟨ao3, c3, hv3, hc3, hne3⟩ := h3.row.shape
        have hlp := redL_pos m HPL.out HLM.out
        have hl3 := h3.len
        obtain ⟨g3, rfl⟩ := hne3 (fun e => by rw [e] at hl3; simp at hl3; omega)
        obtain ⟨n3, hn3⟩ : ∃ n3, us3.length = n3 := ⟨_, rfl⟩
        rw [hn3] at hv3 hc3 hl3
        subst hv3
        have hO3 : Outside wr.heap.size w3.heap.size _ := fun k hk => .inl (hRi.vhi k hk)
        obtain ⟨lo, hlo⟩ : ∃ lo, wr.heap.size = lo := ⟨_, rfl⟩
        obtain ⟨hi3, hhi3⟩ : ∃ hi3, w3.heap.size = hi3 := ⟨_, rfl⟩
        have hw1lo : w1.heap.size ≤ lo := by rw [← hlo]; exact hBi.size
        rw [hlo, hhi3] at h3 hO3
        have hn8 : n3 ≤ 800 := by rw [hl3]; exact HL8.out
        have HL3 := Lib.hid hl3
        obtain ⟨L, hL⟩ : ∃ L, redL n m (lsw l k) = L := ⟨_, rfl⟩
        rw [hL] at h3 HL3
        have HLL := Lib.hid hL
        clear b3 hne3 hl3 hn3 hlp hlo hL hRi hBi hck hcu hiu2
        have hhw : hi3 ≤ w3.heap.size := by omega
        clear hhi3
        go_wp2
        go_loopw [5, 34] (fun ov jv wr => ∃ (j : Nat) (us : List Value), j ≤ n3 ∧ jv = .int .i64 j ∧ RowII w1.heap.size wr.heap.size wr ov us (allUp n m l i j) ∧ RowII lo hi3 wr (.slice (some ⟨g3, 0, none⟩) n3 c3) us3 L ∧ Outside lo hi3 ov ∧ Below w1.heap.size w1 wr ∧ hi3 ≤ wr.heap.size) (fun _ jv _ => n3 - (intOf jv).toNat)
        case atStart => exact ⟨0, us', Nat.zero_le _, rfl, R3, h3, hO3, B3, hhw⟩
        case round =>
          obtain ⟨j, us5, hj, rfl, hRj, h3j, hOj, hBj, hhj⟩ := hrel
          clear R3 h3 hO3 B3 hhw
          by_cases hjn : j < n3
          · obtain ⟨x, hx⟩ : ∃ x, L[j]? = some x := ⟨_, List.getElem?_eq_getElem (by rw [← HL3.out]; exact hjn)⟩
            obtain ⟨u, hu, ho⟩ := h3j.at hx
            have cu := h3j.row.cellAt hu
            simp only [id] at cu
            have hxl : x.length = m := by
              have := (mem_redL m HPL.out HLM.out x).1 (by rw [HLL.out]; exact List.mem_of_getElem? hx)
              have h2 := this.len
              have h3 := HLM.out
              omega
            obtain ⟨uo, un, uc, rfl⟩ := ho.ints.shape'
            have HNX := Lib.hid (allUp_succ (j := j) HK.out (by rw [HLL.out]; exact hx))
            have hin : i < (ldesc n l).length := by rw [← HQN.out]; exact hlt
            have HSUB := Lib.hid (allUp_sub n m l i (j + 1) hin)
            have HLA : Hid ((allUp n m l i j).length + 1 ≤ 1099511627776) := Lib.hid (by
              have h2 := HSUB.out.length_le
              rw [HNX.out, List.length_append, List.length_singleton] at h2
              have := H8.out
              omega)
            have HIA : Hid (iiLen (allUp n m l i j ++ [(k : Int) :: x]) ≤ 1099511627776) := Lib.hid (by
              rw [← HNX.out, iiLen_each (n := m + 1) (fun z hz => by
                have h2 := (mem_redL (m + 1) HP.out HM.out z).1 (HSUB.out.subset hz)
                have := h2.len
                have := HM.out
                omega)]
              have h2 := HSUB.out.length_le
              have h3 : (allUp n m l i (j + 1)).length * (m + 1) ≤ 800 * 21 := Nat.mul_le_mul (Nat.le_trans h2 H8.out) hm21
              exact Nat.le_trans h3 (by decide))
            have hj0 : (0 : Int) ≤ (j : Int) := Int.natCast_nonneg _
            have hj1 : (j : Int) < (n3 : Int) := by omega
            have hone := own_one wr K
            have hsrc := ho.ints.kept ((Below.refl wr.heap.size wr).alloc (Nat.le_refl _) (Obj.cells #[.int .i64 K] 3))
            have hlenx : ([K] : List Int).length + x.length ≤ 1099511627776 := by simp; omega
            have HX := Lib.hid hx
            have hws := hBj.size
            clear hx hu ho hin hxl
            go_wp2_with (at_builtin; refine wpList_extend _ rfl _ _ rfl hone hsrc rfl rfl hlenx (by simp) ?_)
            intro v6 w6 O6 b6 _
            have b06 : Below wr.heap.size wr w6 := ((Below.refl _ _).alloc (Nat.le_refl _) _).trans b6
            obtain ⟨ro, rn, rc, rfl⟩ := O6.ints.shape'
            have O6' : OwnI wr.heap.size w6 (.slice ro rn rc) ((k : Int) :: x) := by rw [HKK.out]; exact O6
            clear hone hsrc hlenx O6 b6 cu
            go_wp2_with (at_builtin; refine wpList_pushII w6 rfl _ _ rfl hRj b06 O6' hws rfl rfl rfl HIA.out HLA.out ?_)
            intro v7 w7 R7 b7 g7 at7
            rw [← HNX.out] at R7
            have B7 := (below_step hBj b06 hBj.size).trans b7
            have h37 := (h3j.kept b06).out g7 hOj
            have O7 : Outside lo hi3 v7 := hOj.push at7 (Nat.le_trans hhj b06.size)
            have hh7 := Nat.le_trans (Nat.le_trans hhj b06.size) b7.size
            clear hRj h3j hOj b06 O6' b7 g7 at7
            go_wp2
            go_roundw
            case rel => exact ⟨j + 1, _, by omega, by go_num, R7, h37, O7, B7, hh7⟩
            case measure => simp [intOf]; omega
          · obtain rfl : j = n3 := by omega
            have HNX := Lib.hid (allUp_next (j := j) HK.out (by rw [HLL.out]; exact HL3.out))
            rw [HNX.out] at hRj
            clear h3j hOj
            go_wp2
            go_roundw
            case rel => exact ⟨i + 1, _, by omega, by go_num, hRj, hBj⟩
            case measure => simp [intOf]; omega
      · obtain rfl : i = q2 := by omega
        have HE := Lib.hid (allUp_all (n := n) (m := m) (l := l) HQN.out)
        rw [HE.out] at hRi
        have B1 := b1.trans (hBi.mono b1.size)
        have hbs := b1.size
        go_wp2
        go_ret
        exact ⟨_, rfl, ⟨_, hRi.raise hbs (Nat.le_refl _) (Nat.le_refl _)⟩, B1⟩

def wordsL (l : List Int) : ListsL := if isPermB l = true ∧ redN l.length l ≤ 800 then redL l.length (lenOf l).toNat l else []
def wordsB' (l : List Int) : Bool := isPermB l && decide (redN l.length l ≤ 800)

set_option maxHeartbeats 1600000 in
theorem iReduced_c (v : Value) (l : List Int) (w : World) (hv : IntsV w v l) :
    Calls Try.prog 36 #[v] w (GivesIIB w (wordsL l) (wordsB' l)) := by
  obtain ⟨x, hx⟩ : ∃ x, countL l = x := ⟨_, rfl⟩
  have HX := Lib.hid hx
  cases hp : isPermB l with
  | false =>
    have HR : Hid (wordsL l = [] ∧ wordsB' l = false) := Lib.hid (by simp [wordsL, wordsB', hp])
    have hx1 : x = -1 := by rw [← hx, countL, if_neg (by rw [hp]; simp)]
    subst hx1
    clear hx hp
    go_enter Try.func36, Try.ntmps36
    go_wp2_with fail
    refine (iCount_c _ _ _ hv).mono ?_
    rw [HX.out]
    rintro e w1 ⟨rfl, b1⟩
    go_wp2
    go_ret2
    rw [HR.out.1, HR.out.2]
    exact ⟨_, rfl, OwnII.nil _ _, b1⟩
  | true =>
    have HP : Hid (PermN l.length l) := Lib.hid ⟨hp, rfl⟩
    have hx1 : x = (redN l.length l : Int) := by rw [← hx]; exact countL_yes HP.out
    obtain ⟨m, hm⟩ : ∃ m : Nat, lenOf l = (m : Int) := ⟨(lenOf l).toNat, by have := lenOf_nonneg l; omega⟩
    have HM := Lib.hid hm
    have HX1 := Lib.hid hx1
    have hx0 : 0 ≤ x := by omega
    clear hx
    by_cases h8 : x ≤ 800
    · have H8 : Hid ((redL l.length m l).length ≤ 800) := Lib.hid (by
        have : redN l.length l = (redL l.length m l).length := by rw [redN, hm]; rfl
        omega)
      have HR : Hid (wordsL l = redL l.length m l ∧ wordsB' l = true) := Lib.hid (by
        have h9 : redN l.length l ≤ 800 := by omega
        refine ⟨by rw [wordsL, if_pos ⟨hp, h9⟩, hm]; rfl, by simp [wordsB', hp, h9]⟩)
      clear hp hx1 hm
      go_enter Try.func36, Try.ntmps36
      go_wp2_with fail
      refine (iCount_c _ _ _ hv).mono ?_
      rw [HX.out]
      rintro e w1 ⟨rfl, b1⟩
      go_wp2_with fail
      refine (allReduced_c l.length m l _ _ HM.out HP.out (hv.kept b1) H8.out).mono ?_
      rintro e w2 ⟨r, rfl, ho, b2⟩
      have B2 := below_step b1 b2 b1.size
      have ho2 := ho.mono b1.size
      clear ho b2
      go_wp2
      go_ret2
      rw [HR.out.1, HR.out.2]
      exact ⟨_, rfl, ho2, B2⟩
    · have h8' : 800 < x := by omega
      have HR : Hid (wordsL l = [] ∧ wordsB' l = false) := Lib.hid (by
        have h9 : ¬ redN l.length l ≤ 800 := by omega
        simp [wordsL, wordsB', hp, h9])
      clear hp hx1 hm
      go_enter Try.func36, Try.ntmps36
      go_wp2_with fail
      refine (iCount_c _ _ _ hv).mono ?_
      rw [HX.out]
      rintro e w1 ⟨rfl, b1⟩
      go_wp2
      go_ret2
      rw [HR.out.1, HR.out.2]
      exact ⟨_, rfl, OwnII.nil _ _, b1⟩

end Go.Proofs.Ytfepepakellbbaa
