/-
  Contracts: CoversOf of the reference.
-/
import Derived.Test.YtcpekiangjpppaaCov
namespace Go.Proofs.Ytcpekiangjpppaa
open Go.RowKit
set_option linter.unusedVariables false

/-- A row of the call's own that reads as the lists ls. -/
structure RdRow (B : Nat) (w : World) (v : Value) (us : List Value) (ls : ListsL) : Prop where
  own : OwnL 22 id B w v us
  len : us.length = ls.length
  get : ∀ (j : Nat) (e : List Int), ls[j]? = some e → ∃ u, us[j]? = some u ∧ OwnI B w u e
  one : ∀ z ∈ us, z.oneCell' = true
  row : ∃ g c, v = .slice (some ⟨g, 0, none⟩) ls.length c ∧ ls.length ≤ c
theorem RdRow.kept {B : Nat} {w w' : World} {v : Value} {us : List Value} {ls : ListsL} (h : RdRow B w v us ls) (hb : Below w.heap.size w w') : RdRow B w' v us ls :=
  ⟨h.own.kept hb, h.len, fun j e hj => let ⟨u, hu, hi⟩ := h.get j e hj; ⟨u, hu, hi.kept hb⟩, h.one, h.row⟩
theorem RdRow.lit {B : Nat} (w : World) (hB : B ≤ w.heap.size) : RdRow B (w.alloc (.cells #[] 22)) (.slice (some ⟨w.heap.size, 0, none⟩) 0 0) [] [] :=
  ⟨(OwnL.lit _ _ _).mono hB, rfl, fun j e h => by simp at h, fun z h => by simp at h, _, _, rfl, Nat.le_refl _⟩
theorem RdRow.rd {B : Nat} {w : World} {v : Value} {us : List Value} {ls : ListsL} (h : RdRow B w v us ls) : RdII w v ls := by
  obtain ⟨g, c, rfl, hc⟩ := h.row
  have := h.own.2
  refine ⟨ls.length, _, g, c, rfl, Lib.hid rfl, hc, fun _ => rfl, fun j e hj => ?_, by rw [← h.len]; exact this⟩
  obtain ⟨u, hu, hi⟩ := h.get j e hj
  exact ⟨u, h.own.cellAt hu, hi.ints⟩
theorem RdRow.ownR {B : Nat} {w : World} {v : Value} {us : List Value} {ls : ListsL} (h : RdRow B w v us ls) : OwnR B w v ls := by
  have hown : ∀ (j : Nat) u l, us[j]? = some u → ls[j]? = some l → OwnI B w u l := fun j u l hu hl => by
    obtain ⟨u', hu', ho⟩ := h.get j l hl
    rw [hu] at hu'
    exact Option.some.inj hu' ▸ ho
  refine ⟨us, h.own, h.len, hown, fun k hk => (h.own.block k hk).2, fun j u hu k hk => ?_, Nat.le_refl _⟩
  have hj := (List.getElem?_eq_some_iff.1 hu).1
  exact ((hown j u _ hu (List.getElem?_eq_getElem (l := ls) (i := j) (by rw [← h.len]; exact hj))).block k hk).2
theorem getElem?_ins {α : Type} {l : List α} {k j : Nat} {x y : α} (hk : k ≤ l.length) (h : (l.take k ++ x :: l.drop k)[j]? = some y) : (j < k ∧ l[j]? = some y) ∨ (j = k ∧ y = x) ∨ (k < j ∧ l[j - 1]? = some y) := by
  have hl : (l.take k).length = k := by rw [List.length_take]; omega
  by_cases h1 : j < k
  · rw [List.getElem?_append_left (by omega), List.getElem?_take_of_lt h1] at h
    exact .inl ⟨h1, h⟩
  · rw [List.getElem?_append_right (by omega), hl] at h
    by_cases h2 : j = k
    · subst h2; rw [Nat.sub_self] at h; exact .inr (.inl ⟨rfl, (Option.some.inj h).symm⟩)
    · obtain ⟨d, hd⟩ : ∃ d, j - k = d + 1 := ⟨j - k - 1, by omega⟩
      rw [hd, List.getElem?_cons_succ, List.getElem?_drop] at h
      exact .inr (.inr ⟨by omega, by rw [show j - 1 = k + d by omega]; exact h⟩)
theorem getElem?_ins_lt {α : Type} {l : List α} {k j : Nat} {x : α} (hk : k ≤ l.length) (h : j < k) : (l.take k ++ x :: l.drop k)[j]? = l[j]? := by
  rw [List.getElem?_append_left (by rw [List.length_take]; omega), List.getElem?_take_of_lt h]
theorem getElem?_ins_eq {α : Type} {l : List α} {k : Nat} {x : α} (hk : k ≤ l.length) : (l.take k ++ x :: l.drop k)[k]? = some x := by
  rw [List.getElem?_append_right (by rw [List.length_take]; omega), List.length_take, show k - min k l.length = 0 by omega]; rfl
theorem getElem?_ins_gt {α : Type} {l : List α} {k j : Nat} {x : α} (hk : k ≤ l.length) (h : k < j) : (l.take k ++ x :: l.drop k)[j]? = l[j - 1]? := by
  rw [List.getElem?_append_right (by rw [List.length_take]; omega), List.length_take, show j - min k l.length = (j - 1 - k) + 1 by omega, List.getElem?_cons_succ, List.getElem?_drop]
  congr 1; omega
theorem insert_rd {B : Nat} (v xv : Value) (us : List Value) (ls : ListsL) (x : List Int) (w : World) (h : RdRow B w v us ls) (hx : OwnI B w xv x) (hB : B ≤ w.heap.size) (hn : ls.length ≤ 1000000) :
    Calls Try.prog 39 #[v, xv] w fun e w' => ∃ r us', e = .returned r ∧ RdRow B w' r us' (insL x ls) ∧ Below w.heap.size w w' := by
  obtain ⟨g, c, rfl, hc⟩ := h.row
  have hx1 : xv.oneCell' = true := by obtain ⟨_, _, _, _, rfl, _⟩ := hx.ints; rfl
  refine (l1Insert_c g ls.length c xv us ls x w (fun j z hj => h.own.cellAt hj) (fun j e hj => let ⟨u, hu, hi⟩ := h.get j e hj; ⟨u, hu, hi.ints⟩) h.len rfl hn hc h.one hx1 hx.ints).mono ?_
  rintro e w' ⟨r, k, rfl, hk, he, hb, hr⟩
  rcases hr with ⟨h1, rfl⟩ | ⟨h1, h2⟩
  · rw [he, if_pos h1]
    exact ⟨_, us, rfl, h.kept hb, hb⟩
  · rw [he, if_neg h1]
    have hku : k ≤ us.length := by rw [h.len]; exact hk
    have hl2 : (us.take k ++ xv :: us.drop k).length = (ls.take k ++ x :: ls.drop k).length := by simp [h.len]
    refine ⟨r, _, rfl, ⟨h2.mono hB, hl2, fun j e hj => ?_, fun z hz => ?_, ?_⟩, hb⟩
    · rcases getElem?_ins hk hj with ⟨a, b⟩ | ⟨a, b⟩ | ⟨a, b⟩
      · obtain ⟨u, hu, hi⟩ := h.get j e b
        exact ⟨u, by rw [getElem?_ins_lt hku a]; exact hu, hi.kept hb⟩
      · subst a b; exact ⟨xv, getElem?_ins_eq hku, hx.kept hb⟩
      · obtain ⟨u, hu, hi⟩ := h.get (j - 1) e b
        exact ⟨u, by rw [getElem?_ins_gt hku a]; exact hu, hi.kept hb⟩
    · rcases List.mem_append.1 hz with h3 | h3
      · exact h.one z (List.mem_of_mem_take h3)
      · rcases List.mem_cons.1 h3 with rfl | h3
        · exact hx1
        · exact h.one z (List.mem_of_mem_drop h3)
    · obtain ⟨ao, c', hv, hc', hne⟩ := h2.shape
      obtain ⟨g', rfl⟩ := hne (by simp)
      rw [hl2] at hv hc'
      exact ⟨g', c', hv, hc'⟩

structure CovM (l : List Int) (i j : Nat) (ls : ListsL) : Prop where
  asc : Asc ls
  mem : ∀ z, z ∈ ls ↔ ∃ a b, a < b ∧ b < l.length ∧ (a < i ∨ (a = i ∧ b < j)) ∧ covB l a b = true ∧ z = swapL l a b
  len : ls.length ≤ i * 8 + j
theorem insL_len (x : List Int) : ∀ l, (insL x l).length ≤ l.length + 1
  | [] => by simp [insL]
  | y :: l => by
    have ih := insL_len x l
    simp only [insL]
    split
    · simp; omega
    · split <;> simp
theorem CovM.start (l : List Int) : CovM l 0 1 [] := ⟨List.Pairwise.nil, fun z => ⟨fun h => by simp at h, fun ⟨a, b, h1, _, h3, _⟩ => by omega⟩, by simp⟩
theorem CovM.yes {l : List Int} {i j : Nat} {ls : ListsL} (h : CovM l i j ls) (hij : i < j) (hj : j < l.length) (hc : covB l i j = true) : CovM l i (j + 1) (insL (swapL l i j) ls) := by
  refine ⟨asc_insL _ _ h.asc, fun z => ?_, Nat.le_trans (insL_len _ _) (by have := h.len; omega)⟩
  rw [mem_insL, h.mem]
  constructor
  · rintro (rfl | ⟨a, b, h1, h2, h3, h4, rfl⟩)
    · exact ⟨i, j, hij, hj, .inr ⟨rfl, by omega⟩, hc, rfl⟩
    · exact ⟨a, b, h1, h2, by omega, h4, rfl⟩
  · rintro ⟨a, b, h1, h2, h3, h4, rfl⟩
    by_cases e : a = i ∧ b = j
    · obtain ⟨rfl, rfl⟩ := e; exact .inl rfl
    · exact .inr ⟨a, b, h1, h2, by omega, h4, rfl⟩
theorem CovM.no {l : List Int} {i j : Nat} {ls : ListsL} (h : CovM l i j ls) (hc : covB l i j = false) : CovM l i (j + 1) ls := by
  refine ⟨h.asc, fun z => ?_, by have := h.len; omega⟩
  rw [h.mem]
  constructor
  · rintro ⟨a, b, h1, h2, h3, h4, rfl⟩; exact ⟨a, b, h1, h2, by omega, h4, rfl⟩
  · rintro ⟨a, b, h1, h2, h3, h4, rfl⟩
    by_cases e : a = i ∧ b = j
    · obtain ⟨rfl, rfl⟩ := e; rw [hc] at h4; simp at h4
    · exact ⟨a, b, h1, h2, by omega, h4, rfl⟩
theorem CovM.next {l : List Int} {i j : Nat} {ls : ListsL} (h : CovM l i j ls) (hj : l.length ≤ j) (h8 : j ≤ i + 8) : CovM l (i + 1) (i + 2) ls := by
  refine ⟨h.asc, fun z => ?_, by have := h.len; omega⟩
  rw [h.mem]
  constructor
  · rintro ⟨a, b, h1, h2, h3, h4, rfl⟩; exact ⟨a, b, h1, h2, by omega, h4, rfl⟩
  · rintro ⟨a, b, h1, h2, h3, h4, rfl⟩; exact ⟨a, b, h1, h2, by omega, h4, rfl⟩
theorem CovM.done {l : List Int} {i j : Nat} {ls : ListsL} (h : CovM l i j ls) (hp : isPermB l = true) (hi : l.length ≤ i) : ls = coversL l := by
  refine covers_eq hp h.asc fun z => (h.mem z).trans ⟨?_, ?_⟩
  · rintro ⟨a, b, h1, h2, h3, h4, rfl⟩; exact ⟨a, b, h1, h2, h4, rfl⟩
  · rintro ⟨a, b, h1, h2, h4, rfl⟩; exact ⟨a, b, h1, h2, .inl (by omega), h4, rfl⟩

set_option maxHeartbeats 3200000 in
theorem sCovers_c (v : Value) (l : List Int) (w : World) (hv : IntsV w v l) :
    Calls Try.prog 22 #[v] w (GivesR w (coversL l)) := by
  have hv0 := hv
  obtain ⟨n, ao, bb, off, c, rfl, HL, hnc, hcm, ha, hc, hn⟩ := hv.open
  clear hv ha hc hcm hnc
  cases hp : isPermB l with
  | false =>
    have HR : Hid (coversL l = []) := Lib.hid (by simp [coversL, hp])
    go_enter Try.func22, Try.ntmps22
    go_wp2_with fail
    refine (sIsPerm_c _ _ _ hv0).mono ?_
    rw [hp]
    rintro e w1 ⟨rfl, b1⟩
    go_wp2_with fail
    go_ret
    rw [HR.out]
    exact ⟨_, rfl, OwnR.nil _ _, b1⟩
  | true =>
    have HP : Hid (PermN n l) := Lib.hid ⟨hp, HL.out.symm⟩
    have hn1 := HP.out.size.1
    have hn7 := HP.out.size.2
    have HPP := Lib.hid hp
    have HY : Hid (lengthL l = lenOf l) := Lib.hid (by rw [lengthL, if_pos hp])
    obtain ⟨y, hy⟩ : ∃ y, lenOf l = y := ⟨_, rfl⟩
    have hy1 : 0 ≤ y := by rw [← hy]; exact lenOf_nonneg l
    have hy2 : y ≤ 21 := by rw [← hy]; exact len_le HP.out
    have HYY := Lib.hid hy
    clear hy
    go_enter Try.func22, Try.ntmps22
    go_wp2_with fail
    refine (sIsPerm_c _ _ _ hv0).mono ?_
    rw [hp]
    rintro e w1 ⟨rfl, b1⟩
    clear hp
    have hR0 := RdRow.lit w1 b1.size
    have hB0 := b1.alloc b1.size (.cells #[] 22)
    go_wp2_with fail
    go_loopw [3, 4] (fun ov iv wr => ∃ (i : Nat) (us : List Value) (ls : ListsL), i ≤ n ∧ iv = .int .i64 i ∧ RdRow w.heap.size wr ov us ls ∧ CovM l i (i + 1) ls ∧ Below w.heap.size w wr) (fun _ iv _ => n - (intOf iv).toNat)
    case atStart => exact ⟨0, [], [], Nat.zero_le _, rfl, hR0, CovM.start l, hB0⟩
    case round =>
      obtain ⟨i, us, ls, hi, rfl, hR, hM, hB⟩ := hrel
      clear hR0 hB0
      have HM := Lib.hid hM
      clear hM
      by_cases hlt : i < n
      · have hi0 : (0 : Int) ≤ (i : Int) := Int.natCast_nonneg _
        obtain ⟨wo, rfl⟩ : ∃ wo : World, wo = wr := ⟨_, rfl⟩
        go_wp2_with fail
        go_loopw [3, 5] (fun ov jv wr => ∃ (j : Nat) (us : List Value) (ls : ListsL), i < j ∧ j ≤ n ∧ jv = .int .i64 j ∧ RdRow w.heap.size wr ov us ls ∧ Hid (CovM l i j ls) ∧ Below w.heap.size w wr) (fun _ jv _ => n - (intOf jv).toNat)
        case atStart => exact ⟨i + 1, us, ls, by omega, by omega, by go_num, hR, HM, hB⟩
        case round =>
          obtain ⟨j, us', ls', hij, hj, rfl, hRj, HMj, hBj⟩ := hrel
          clear hR HM hB
          by_cases hlj : j < n
          · have hj0 : (0 : Int) ≤ (j : Int) := Int.natCast_nonneg _
            have HA : Hid (i < l.length) := Lib.hid (by rw [← HL.out]; omega)
            have HB : Hid (j < l.length) := Lib.hid (by rw [← HL.out]; omega)
            have HSP := Lib.hid (swap_perm HP.out hlt hlj)
            have HX : Hid (lengthL (swapL l i j) = lenOf (swapL l i j)) := Lib.hid (by rw [lengthL, if_pos HSP.out.1])
            obtain ⟨x, hx⟩ : ∃ x, lenOf (swapL l i j) = x := ⟨_, rfl⟩
            have hx1 : 0 ≤ x := by rw [← hx]; exact lenOf_nonneg _
            have hx2 : x ≤ 21 := by rw [← hx]; exact len_le HSP.out
            have HXX := Lib.hid hx
            clear hx
            go_wp2_with fail
            refine (l1Swap_c _ l i j _ (hv0.kept hBj) HA.out HB.out).mono ?_
            rintro e w2 ⟨r, rfl, o1, b2⟩
            have B2 := below_step hBj b2 hBj.size
            go_wp2_with fail
            refine (l1Length_c _ _ _ o1.ints (by rw [HSP.out.2]; omega)).mono ?_
            rw [HXX.out]
            rintro e w3 ⟨rfl, b3⟩
            have B3 := below_step B2 b3 B2.size
            go_wp2_with fail
            refine (l1Length_c _ _ _ (hv0.kept B3) (by rw [← HL.out]; omega)).mono ?_
            rw [HYY.out]
            rintro e w4 ⟨rfl, b4⟩
            have B4 := below_step B3 b4 B3.size
            have R4 := ((hRj.kept b2).kept b3).kept b4
            have O4 := (o1.kept b3).kept b4
            have hws := B4.size
            have hwo := hBj.size
            clear B2 B3 hRj b2 b3 b4 hBj o1
            by_cases hxy : x = y + 1
            · subst hxy
              have HC : Hid (covB l i j = true) := Lib.hid (by rw [covB, HX.out, HY.out, HXX.out, HYY.out]; simp)
              have HN := Lib.hid (HMj.out.yes hij HB.out HC.out)
              have hye : (y + 1 == y + 1) = true := by simp
              have HLL : Hid (ls'.length ≤ 1000000) := Lib.hid (by have := HMj.out.len; omega)
              go_wp2_with fail
              refine (insert_rd _ _ _ _ _ _ R4 (O4.mono hwo) hws HLL.out).mono ?_
              rintro e w5 ⟨r5, us5, rfl, R5, b5⟩
              have B5 := below_step B4 b5 B4.size
              clear R4 b5 hye
              go_wp2_with fail
              go_roundw
              case rel => exact ⟨j + 1, _, _, by omega, by omega, by go_num, R5, HN, B5⟩
              case measure => simp [intOf]; omega
            · have hye : (x == y + 1) = false := by simpa using hxy
              have HC : Hid (covB l i j = false) := Lib.hid (by rw [covB, HX.out, HY.out, HXX.out, HYY.out]; simpa using hxy)
              have HN := Lib.hid (HMj.out.no HC.out)
              clear hxy
              go_wp2_with fail
              go_roundw
              case rel => exact ⟨j + 1, _, _, by omega, by omega, by go_num, R4, HN, B4⟩
              case measure => simp [intOf]; omega
          · have HN := Lib.hid (HMj.out.next (by rw [← HL.out]; omega) (by omega))
            go_wp2_with fail
            go_roundw
            case rel => exact ⟨i + 1, _, _, by omega, by go_num, hRj, HN.out, hBj⟩
            case measure => simp [intOf]; omega
      · have HE := Lib.hid (HM.out.done HPP.out (by rw [← HL.out]; omega))
        go_wp2_with fail
        go_ret
        rw [← HE.out]
        exact ⟨_, rfl, hR.ownR, hB⟩

end Go.Proofs.Ytcpekiangjpppaa
