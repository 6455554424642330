/-
  Plain: what is written is read back: numbers, lists of numbers, terms, polynomials.
-/
import Derived.Test.YthgigbihpcelpaaDoorPInts
import Derived.Test.YthgigbihpcelpaaDoorFPoly
namespace Go.Proofs.YthgigbihpcelpaaDoor
open Go.RowKit
set_option linter.unusedVariables false

theorem strOf_list (l : List UInt8) : (strOf l).data.toList = l := by simp [strOf]
theorem fmtNat_digits : ∀ (m : Nat), m < 100000000000000000000 → ∀ b ∈ fmtNat m, 48 ≤ b.toNat ∧ b.toNat ≤ 57 := by
  intro m
  induction m using Nat.strongRecOn with
  | ind m ih =>
    intro hm b hb
    by_cases h : m < 10
    · rw [fmtNat_small h] at hb
      simp at hb
      subst hb
      rw [dig_nat h]; omega
    · rw [fmtNat_big h hm] at hb
      rcases List.mem_append.1 hb with h1 | h1
      · exact ih (m / 10) (by omega) (by omega) b h1
      · simp at h1
        subst h1
        rw [dig_nat (by omega)]; omega
theorem decL_snoc (l : List UInt8) (b : UInt8) : decL (l ++ [b]) = 10 * decL l + ((b.toNat : Int) - 48) := by
  rw [decL, List.foldl_append]; rfl
theorem decL_fmtNat : ∀ (m : Nat), m < 100000000000000000000 → decL (fmtNat m) = (m : Int) := by
  intro m
  induction m using Nat.strongRecOn with
  | ind m ih =>
    intro hm
    by_cases h : m < 10
    · rw [fmtNat_small h]
      have := dig_nat h
      show decL ([] ++ [dig m]) = _
      rw [decL_snoc, this]
      simp [decL]; omega
    · rw [fmtNat_big h hm, decL_snoc, ih (m / 10) (by omega) (by omega), dig_nat (by omega)]
      omega
theorem fmtNat_short : ∀ (k m : Nat), 1 ≤ k → m < 10 ^ k → m < 100000000000000000000 → (fmtNat m).length ≤ k
  | 0, m, h, _, _ => by omega
  | k + 1, m, _, hm, h20 => by
    by_cases h : m < 10
    · rw [fmtNat_small h]; simp
    · rw [fmtNat_big h h20, List.length_append, List.length_singleton]
      have hk : 1 ≤ k := by
        rcases k with _ | k
        · simp at hm; omega
        · omega
      have := fmtNat_short k (m / 10) hk (by rw [Nat.pow_succ] at hm; omega) (by omega)
      omega
theorem dig_to (l : List UInt8) (h : ∀ b ∈ l, 48 ≤ b.toNat ∧ b.toNat ≤ 57) (j : Nat) : DigTo l j := fun t b _ hb => h b (List.mem_of_getElem? hb)
theorem num_back {n : Int} (h1 : -999999999 ≤ n) (h2 : n ≤ 999999999) : NumOk (strOf (fmtInt n)) ∧ numV (strOf (fmtInt n)) = n := by
  obtain ⟨m, hm⟩ : ∃ m, m = n.natAbs := ⟨_, rfl⟩
  have hm9 : m < 1000000000 := by omega
  have hd := fmtNat_digits m (by omega)
  have hv := decL_fmtNat m (by omega)
  have hl := fmtNat_short 9 m (by omega) (by omega) (by omega)
  have hne := fmtNat_ne m
  have hl1 : 0 < (fmtNat m).length := List.length_pos_iff.2 hne
  by_cases hn : n < 0
  · have e : fmtInt n = 45 :: fmtNat m := by rw [fmtInt, if_pos hn, hm]
    have hA : atOf (strOf (fmtInt n)) = 1 := by rw [atOf, strOf_list, e]; simp
    have hR : restOf (strOf (fmtInt n)) = fmtNat m := by rw [restOf, hA, strOf_list, e]; rfl
    have hV : numV (strOf (fmtInt n)) = n := by rw [numV, if_pos hA, hR, hv]; omega
    refine ⟨⟨?_, ?_, ?_, by rw [hV]⟩, hV⟩
    · rw [hA, strOf_size, e, List.length_cons]; omega
    · rw [hA, strOf_size, e, List.length_cons]; omega
    · rw [hR]; exact dig_to _ hd _
  · have e : fmtInt n = fmtNat m := by rw [fmtInt, if_neg hn, hm]
    have hA : atOf (strOf (fmtInt n)) = 0 := by
      rw [atOf, strOf_list, e]
      refine if_neg fun h => ?_
      have := hd 45 (List.mem_of_getElem? h)
      exact absurd this.1 (by decide)
    have hR : restOf (strOf (fmtInt n)) = fmtNat m := by rw [restOf, hA, strOf_list, e]; rfl
    have hV : numV (strOf (fmtInt n)) = n := by rw [numV, if_neg (by rw [hA]; decide), hR, hv]; omega
    refine ⟨⟨?_, ?_, ?_, by rw [hV]⟩, hV⟩
    · rw [hA, strOf_size, e]; omega
    · rw [hA, strOf_size, e]; omega
    · rw [hR]; exact dig_to _ hd _

theorem fmtInt_letters {n : Int} (h1 : -999999999 ≤ n) (h2 : n ≤ 999999999) : ∀ b ∈ fmtInt n, b = 45 ∨ (48 ≤ b.toNat ∧ b.toNat ≤ 57) := by
  intro b hb
  unfold fmtInt at hb
  split at hb
  · rcases List.mem_cons.1 hb with h | h
    · exact .inl h
    · exact .inr (fmtNat_digits _ (by omega) b h)
  · exact .inr (fmtNat_digits _ (by omega) b hb)
theorem fmtInt_no {n : Int} (h1 : -999999999 ≤ n) (h2 : n ≤ 999999999) {c : UInt8} (hc : c ≠ 45) (hd : ¬ (48 ≤ c.toNat ∧ c.toNat ≤ 57)) : c ∉ fmtInt n := fun h => by
  rcases fmtInt_letters h1 h2 c h with h | h
  · exact hc h
  · exact hd h
theorem mem_joinUp {f : Nat → List UInt8} {sep : List UInt8} {b : UInt8} : ∀ {j : Nat}, b ∈ joinUp f sep j → (∃ i, i < j ∧ b ∈ f i) ∨ b ∈ sep
  | 0, h => by simp [joinUp] at h
  | 1, h => .inl ⟨0, by omega, h⟩
  | j + 2, h => by
    simp only [joinUp, List.mem_append] at h
    rcases h with (h | h) | h
    · rcases mem_joinUp (j := j + 1) h with ⟨i, hi, hb⟩ | hb
      · exact .inl ⟨i, by omega, hb⟩
      · exact .inr hb
    · exact .inr h
    · exact .inl ⟨j + 1, by omega, h⟩
/-- Numbers of at most nine digits. -/
def Nine (l : List Int) : Prop := ∀ x ∈ l, -999999999 ≤ x ∧ x ≤ 999999999
theorem Nine.at {l : List Int} (h : Nine l) (j : Nat) : -999999999 ≤ l.getD j 0 ∧ l.getD j 0 ≤ 999999999 := by
  by_cases hj : j < l.length
  · exact h _ (List.mem_of_getElem? (getElem?_of_getD rfl hj))
  · rw [List.getD_eq_getElem?_getD, List.getElem?_eq_none (by omega)]; decide
theorem fiL_no {l : List Int} (h : Nine l) {c : UInt8} (hc : c ≠ 45) (hd : ¬ (48 ≤ c.toNat ∧ c.toNat ≤ 57)) (h32 : c ≠ 32) : c ∉ fiL l := fun hm => by
  rcases mem_joinUp hm with ⟨i, _, hb⟩ | hb
  · exact fmtInt_no (h.at i).1 (h.at i).2 hc hd hb
  · simp at hb; exact h32 hb

/-! Splitting what was joined. -/
theorem split_hitS {l sep : List UInt8} {i : Nat} (hs : sep ≠ []) (h : Lib.index l sep = (i : Int)) : Lib.split l sep = l.take i :: Lib.split (l.drop (i + sep.length)) sep := by
  have hm : ¬ (Lib.index l sep == -1) = true := fun e => by have := beq_iff_eq.1 e; omega
  have e : (Lib.index l sep).toNat = i := by omega
  unfold Lib.split
  rw [Lib.count_hit hs h, Nat.add_comm 1]
  conv => lhs; unfold Lib.splitK
  rw [if_neg hm, e]
  rfl
theorem occ_head {l : List UInt8} {c : UInt8} {tl : List UInt8} {j : Nat} (h : l[j]? ≠ some c) : Lib.occAt l (c :: tl) j = false := by
  unfold Lib.occAt
  cases hd : l.drop j with
  | nil => rfl
  | cons b r =>
    have hb : l[j]? = some b := by
      have := List.getElem?_drop (xs := l) (i := j) (j := 0)
      rw [hd] at this
      simpa using this.symm
    have : c ≠ b := fun e => h (by rw [hb, e])
    simp [List.isPrefixOf, this]
theorem index_sep {x rest : List UInt8} {c : UInt8} {tl : List UInt8} (hx : c ∉ x) : Lib.index (x ++ ((c :: tl) ++ rest)) (c :: tl) = (x.length : Int) := by
  refine Lib.index_first (by simp) ?_ (fun j hj => occ_head ?_)
  · unfold Lib.occAt
    rw [List.drop_left]
    exact List.isPrefixOf_iff_prefix.2 (List.prefix_append _ _)
  · rw [List.getElem?_append_left hj]
    exact fun h => hx (List.mem_of_getElem? h)
theorem split_sep {x rest : List UInt8} {c : UInt8} {tl : List UInt8} (hx : c ∉ x) : Lib.split (x ++ ((c :: tl) ++ rest)) (c :: tl) = x :: Lib.split rest (c :: tl) := by
  rw [split_hitS (by simp) (index_sep hx), List.take_left, List.drop_append, List.drop_of_length_le (by omega), Nat.add_sub_cancel_left, List.drop_left]
  rfl
theorem split_nonemptyS (l sep : List UInt8) : Lib.split l sep ≠ [] := by
  unfold Lib.split
  cases Lib.count l sep with
  | zero => simp [Lib.splitK]
  | succ k => unfold Lib.splitK; split <;> simp
theorem split_nonempty (l : List UInt8) (c : UInt8) : Lib.split l [c] ≠ [] := split_nonemptyS _ _
theorem index_lacks {x : List UInt8} {c : UInt8} {tl : List UInt8} (hx : c ∉ x) : Lib.index x (c :: tl) = -1 := Lib.index_none fun j _ => occ_head fun h => hx (List.mem_of_getElem? h)
theorem split_end {x : List UInt8} {c : UInt8} {tl : List UInt8} (hx : c ∉ x) : Lib.split x (c :: tl) = [x] := by
  unfold Lib.split
  rw [Lib.count_miss (index_lacks hx)]
  rfl
theorem joinTail_cons (sep y : List UInt8) (r : List (List UInt8)) : Lib.joinTail sep (y :: r) = sep ++ (y ++ Lib.joinTail sep r) := by simp [Lib.joinTail]
theorem split_join {c : UInt8} {tl : List UInt8} : ∀ (r : List (List UInt8)) (x : List UInt8), c ∉ x → (∀ y ∈ r, c ∉ y) → Lib.split (Lib.join (x :: r) (c :: tl)) (c :: tl) = x :: r
  | [], x, hx, _ => by rw [Lib.join_one]; exact split_end hx
  | y :: r, x, hx, hr => by
    have ih := split_join (tl := tl) r y (hr y (by simp)) (fun z hz => hr z (by simp [hz]))
    rw [Lib.join_cons] at ih
    rw [Lib.join_cons, joinTail_cons, split_sep hx, ih]
theorem split_join2 : ∀ (r : List (List UInt8)) (x : List UInt8), (44 : UInt8) ∉ x → (∀ y ∈ r, (44 : UInt8) ∉ y) → Lib.split (x ++ Lib.joinTail [44, 32] r) [44] = x :: r.map (32 :: ·)
  | [], x, hx, _ => by
    have : Lib.joinTail [44, 32] [] = [] := rfl
    rw [this, List.append_nil]; exact split_end hx
  | y :: r, x, hx, hr => by
    have ih := split_join2 r (32 :: y) (by
      intro h
      rcases List.mem_cons.1 h with h | h
      · exact absurd h (by decide)
      · exact hr y (by simp) h) (fun z hz => hr z (by simp [hz]))
    have e : x ++ Lib.joinTail [44, 32] (y :: r) = x ++ (([44] : List UInt8) ++ ((32 :: y) ++ Lib.joinTail [44, 32] r)) := by rw [joinTail_cons]; simp
    rw [e, split_sep (tl := []) hx, ih]
    rfl
theorem range_cons (f : Nat → List UInt8) (n : Nat) : (List.range (n + 1)).map f = f 0 :: (List.range n).map (fun i => f (i + 1)) := by
  rw [List.range_succ_eq_map]; simp
theorem map_fAt (l : List Int) : (List.range l.length).map (fAt l) = l.map fmtInt := by
  apply List.ext_getElem?
  intro i
  rw [List.getElem?_map, List.getElem?_map]
  by_cases hi : i < l.length
  · rw [List.getElem?_range hi, List.getElem?_eq_getElem hi]
    simp [fAt, List.getD_eq_getElem?_getD, hi]
  · rw [List.getElem?_eq_none (by simpa using hi), List.getElem?_eq_none (by omega)]; rfl
theorem nums_back {l : List Int} (h : Nine l) : numsB (strOf (fiL l)) = true ∧ numsL (strOf (fiL l)) = l := by
  cases l with
  | nil => exact nums_none (by rw [strOf_toList]; rfl)
  | cons a r =>
    have hj : fiL (a :: r) = Lib.join (fmtInt a :: r.map fmtInt) [32] := by rw [fiL, joinUp_join, map_fAt]; rfl
    have hsp : Lib.split (strOf (fiL (a :: r))).data.toList [32] = fmtInt a :: r.map fmtInt := by
      rw [strOf_list, hj]
      have hno : ∀ x ∈ (a :: r), (32 : UInt8) ∉ fmtInt x := fun x hx => fmtInt_no (h x hx).1 (h x hx).2 (by decide) (by decide)
      exact split_join _ _ (hno a (by simp)) (fun y hy => by
        obtain ⟨x, hx, rfl⟩ := List.mem_map.1 hy
        exact hno x (by simp [hx]))
    have hne : ¬ (strOf (fiL (a :: r))).toList = [] := by
      rw [strOf_toList, hj, Lib.join_cons]
      intro e
      have h1 := (List.append_eq_nil_iff.1 e).1
      unfold fmtInt at h1
      split at h1
      · simp at h1
      · exact fmtNat_ne _ h1
    have hall : ∀ y ∈ (fmtInt a :: r.map fmtInt), numOk (strOf y) = true := by
      intro y hy
      have hy' : y ∈ (a :: r).map fmtInt := hy
      obtain ⟨x, hx, rfl⟩ := List.mem_map.1 hy'
      exact numOk_iff.2 (num_back (h x hx).1 (h x hx).2).1
    obtain ⟨h1, h2⟩ := (nums_some hne hsp.symm).2 hall
    refine ⟨h1, h2.trans ?_⟩
    show ((a :: r).map fmtInt).map _ = _
    rw [List.map_map]
    conv => rhs; rw [← List.map_id (a :: r)]
    apply List.map_congr_left
    intro x hx
    exact (num_back (h x hx).1 (h x hx).2).2

/-- A term out of its two texts. -/
noncomputable def termOf (a b : List UInt8) : Option (List Int × Int) :=
  if numOk (strOf a) = true ∧ numsB (strOf b) = true ∧ (numsL (strOf b)).length ≤ 7 then some (numsL (strOf b) ++ List.replicate (7 - (numsL (strOf b)).length) 0, numV (strOf a)) else none
theorem short_pad (l : List Int) : ∀ k, k ≤ l.length → l.take k = l.take (lastNZ l k) ++ List.replicate (k - lastNZ l k) 0
  | 0, _ => by simp [lastNZ]
  | k + 1, hk => by
    have ih := short_pad l k (by omega)
    have hle := lastNZ_le l k
    by_cases h : l.getD k 0 = 0
    · rw [lastNZ_zero rfl h, show k + 1 - lastNZ l k = (k - lastNZ l k) + 1 by omega, List.replicate_succ', ← List.append_assoc, ← ih, List.take_add_one, getElem?_of_getD rfl (by omega), h]
      rfl
    · rw [lastNZ_stop rfl h]; simp
theorem term_nine {e : List Int} {c : Int} (h : TermOk e c) : Nine (shortL e) ∧ (-999999999 ≤ c ∧ c ≤ 999999999) := by
  refine ⟨fun x hx => ?_, ?_⟩
  · have := termOk_small h x (List.mem_of_mem_take hx)
    omega
  · have := inB_true h.2.2.1; omega
theorem term_back {e : List Int} {c : Int} (h : TermOk e c) : termOf (fmtInt c) (fiL (shortL e)) = some (e, c) := by
  obtain ⟨h1, h2, h3⟩ := term_nine h
  obtain ⟨hb, hl⟩ := nums_back h1
  obtain ⟨hn, hv⟩ := num_back h2 h3
  have hlen : (shortL e).length ≤ 7 := by rw [shortL, List.length_take, h.1]; omega
  unfold termOf
  rw [hl, if_pos ⟨numOk_iff.2 hn, hb, hlen⟩, hv]
  have hp := short_pad e e.length (Nat.le_refl _)
  rw [List.take_length] at hp
  have hle := lastNZ_le e e.length
  have e1 : (shortL e).length = lastNZ e e.length := by rw [shortL, List.length_take]; omega
  rw [e1, ← h.1]
  congr 2
  rw [shortL]
  exact hp.symm
theorem termText_no {e : List Int} {c : Int} (h : TermOk e c) : (44 : UInt8) ∉ termText (e, c) := by
  obtain ⟨h1, h2, h3⟩ := term_nine h
  unfold termText
  intro hm
  simp only [List.mem_append, List.mem_singleton] at hm
  rcases hm with (hm | hm) | hm
  · exact fmtInt_no h2 h3 (by decide) (by decide) hm
  · exact absurd hm (by decide)
  · exact fiL_no h1 (by decide) (by decide) (by decide) hm
theorem split_term {e : List Int} {c : Int} (h : TermOk e c) : Lib.split (termText (e, c)) [58] = [fmtInt c, fiL (shortL e)] := by
  obtain ⟨h1, h2, h3⟩ := term_nine h
  have e1 : termText (e, c) = fmtInt c ++ (([58] : List UInt8) ++ fiL (shortL e)) := by simp [termText]
  rw [e1, split_sep (tl := []) (fmtInt_no h2 h3 (by decide) (by decide)), split_end (tl := []) (fiL_no h1 (by decide) (by decide) (by decide))]
theorem cut_term {e : List Int} {c : Int} (h : TermOk e c) : Lib.cut (termText (e, c)) [58] = (fmtInt c, fiL (shortL e), true) := by
  obtain ⟨h1, h2, h3⟩ := term_nine h
  have e1 : termText (e, c) = fmtInt c ++ (([58] : List UInt8) ++ fiL (shortL e)) := by simp [termText]
  have hi := index_sep (rest := fiL (shortL e)) (tl := []) (fmtInt_no h2 h3 (c := 58) (by decide) (by decide))
  unfold Lib.cut
  rw [e1, hi, if_pos (by omega)]
  simp only [Int.toNat_natCast, List.take_left]
  rw [List.drop_append, List.drop_of_length_le (by omega), Nat.add_sub_cancel_left]
  rfl

def sText (k : Nat) (x : List UInt8) : Option (List UInt8) := if k = 0 then some x else match x with | [] => none | b :: t => if b = 32 then some t else none
noncomputable def sTwo (ls : List (List UInt8)) : Option (List Int × Int) := match ls with | [a, b] => termOf a b | _ => none
noncomputable def sPart (k : Nat) (x : List UInt8) : Option (List Int × Int) := (sText k x).bind fun t => sTwo (Lib.split t [58])
noncomputable def iPart (_ : Nat) (x : List UInt8) : Option (List Int × Int) := termOf (Lib.cut x [58]).1 (Lib.cut x [58]).2.1

def PP (s : ByteArray) (ts : TermL) : Prop := polyB ts = true ∧ strOf (fpolyL ts) = s
noncomputable def ppB (s : ByteArray) : Bool := @decide (∃ ts, PP s ts) (Classical.propDecidable _)
open Classical in
noncomputable def ppL (s : ByteArray) : TermL := if h : ∃ ts, PP s ts then Classical.choose h else []
theorem pp_no {s : ByteArray} (h : ¬ ∃ ts, PP s ts) : ppB s = false ∧ ppL s = [] := by
  refine ⟨by unfold ppB; exact @decide_eq_false _ (Classical.propDecidable _) h, ?_⟩
  unfold ppL; rw [dif_neg h]
theorem pp_yes {s : ByteArray} {ts : TermL} (h : PP s ts) (hu : ∀ us, PP s us → us = ts) : ppB s = true ∧ ppL s = ts := by
  have he : ∃ ts, PP s ts := ⟨ts, h⟩
  refine ⟨by unfold ppB; exact @decide_eq_true _ (Classical.propDecidable _) he, ?_⟩
  unfold ppL; rw [dif_pos he]
  exact hu _ (Classical.choose_spec he)
theorem texts_of {s : ByteArray} {ts : TermL} (h : PP s ts) (h0 : ts ≠ []) : s.data.toList = Lib.join (ts.map termText) [44, 32] := by
  have h2 := h.2
  rw [← h2, strOf_list, fpolyL_yes h.1 h0, joinUp_join]
  congr 1
  apply List.ext_getElem?
  intro i
  rw [List.getElem?_map, List.getElem?_map]
  by_cases hi : i < ts.length
  · rw [List.getElem?_range hi, List.getElem?_eq_getElem hi]
    simp [fpAt, List.getD_eq_getElem?_getD, hi]
  · rw [List.getElem?_eq_none (by simpa using hi), List.getElem?_eq_none (by omega)]; rfl
theorem sBack {s : ByteArray} {ts : TermL} (h : PP s ts) (h0 : ts ≠ []) :
    (Lib.split s.data.toList [44]).length = ts.length ∧ ∀ (k : Nat) x, (Lib.split s.data.toList [44])[k]? = some x → sPart k x = ts[k]? := by
  have hok := polyB_all h.1
  cases ts with
  | nil => exact absurd rfl h0
  | cons t r =>
    have hno : ∀ u ∈ (t :: r), (44 : UInt8) ∉ termText u := by
      intro u hu
      obtain ⟨j, hj⟩ := List.getElem?_of_mem hu
      obtain ⟨e, c⟩ := u
      exact termText_no (hok j e c hj)
    have hsp : Lib.split s.data.toList [44] = termText t :: (r.map termText).map (32 :: ·) := by
      rw [texts_of h h0, List.map_cons, Lib.join_cons]
      exact split_join2 _ _ (hno t (by simp)) (fun y hy => by
        obtain ⟨u, hu, rfl⟩ := List.mem_map.1 hy
        exact hno u (by simp [hu]))
    rw [hsp]
    refine ⟨by simp, fun k x hx => ?_⟩
    cases k with
    | zero =>
      simp at hx
      subst hx
      obtain ⟨e, c⟩ := t
      have ho := hok 0 e c rfl
      show (sText 0 _).bind _ = _
      simp only [sText, if_pos, Option.bind_some]
      rw [split_term ho]
      exact term_back ho
    | succ k =>
      simp only [List.getElem?_cons_succ, List.getElem?_map] at hx
      cases hr : r[k]? with
      | none => rw [hr] at hx; simp at hx
      | some u =>
        rw [hr] at hx
        simp at hx
        subst hx
        obtain ⟨e, c⟩ := u
        have ho := hok (k + 1) e c (by simpa using hr)
        rw [List.getElem?_cons_succ, hr]
        show (sText (k + 1) _).bind _ = _
        simp only [sText, Nat.succ_ne_zero, if_neg, if_pos, not_false_eq_true, Option.bind_some]
        rw [split_term ho]
        exact term_back ho
theorem iBack {s : ByteArray} {ts : TermL} (h : PP s ts) (h0 : ts ≠ []) :
    (Lib.split s.data.toList [44, 32]).length = ts.length ∧ ∀ (k : Nat) x, (Lib.split s.data.toList [44, 32])[k]? = some x → iPart k x = ts[k]? := by
  have hok := polyB_all h.1
  cases ts with
  | nil => exact absurd rfl h0
  | cons t r =>
    have hno : ∀ u ∈ (t :: r), (44 : UInt8) ∉ termText u := by
      intro u hu
      obtain ⟨j, hj⟩ := List.getElem?_of_mem hu
      obtain ⟨e, c⟩ := u
      exact termText_no (hok j e c hj)
    have hsp : Lib.split s.data.toList [44, 32] = (t :: r).map termText := by
      rw [texts_of h h0]
      exact split_join _ _ (hno t (by simp)) (fun y hy => by
        obtain ⟨u, hu, rfl⟩ := List.mem_map.1 hy
        exact hno u (by simp [hu]))
    rw [hsp]
    refine ⟨by simp, fun k x hx => ?_⟩
    rw [List.getElem?_map] at hx
    cases hr : (t :: r)[k]? with
    | none => rw [hr] at hx; simp at hx
    | some u =>
      rw [hr] at hx
      simp at hx
      subst hx
      obtain ⟨e, c⟩ := u
      have ho := hok k e c hr
      unfold iPart
      rw [cut_term ho]
      exact term_back ho

/-- How a parser goes: the parts in turn; then the text is written anew and compared. -/
def ParseRes (part : Nat → List UInt8 → Option (List Int × Int)) (ps : List (List UInt8)) (m : Nat) (s : ByteArray) (ts : TermL) (b : Bool) : Prop :=
  (b = false ∧ ts = [] ∧ ∃ k x, k < m ∧ ps[k]? = some x ∧ part k x = none) ∨
  ∃ us : TermL, us.length = m ∧ (∀ k x, k < m → ps[k]? = some x → part k x = us[k]?) ∧ ((b = true ∧ ts = us ∧ strOf (fpolyL us) = s) ∨ (b = false ∧ ts = [] ∧ strOf (fpolyL us) ≠ s))
theorem res_eq {part : Nat → List UInt8 → Option (List Int × Int)} {ps : List (List UInt8)} {m : Nat} {s : ByteArray} {ts : TermL} {b : Bool}
    (hC : ∀ ts, PP s ts → ts ≠ [] → ps.length = ts.length ∧ ∀ (k : Nat) x, ps[k]? = some x → part k x = ts[k]?)
    (hm : m = min ps.length 601 ∨ m = ps.length) (h0 : s ≠ strOf [48]) (hp : 0 < ps.length) (hE : s.size = 0 → ∃ x, ps[0]? = some x ∧ part 0 x = none) (h : ParseRes part ps m s ts b) :
    ppB s = b ∧ ppL s = ts := by
  have hm0 : 0 < m := by omega
  have hmle : m ≤ ps.length := by omega
  have hz : ∀ us, PP s us → us ≠ [] := by
    intro us hu e
    subst e
    apply h0
    rw [← hu.2, fpolyL_none]
  have hlen : ∀ us, PP s us → ps.length = us.length ∧ m = us.length := by
    intro us hu
    have h1 := (hC us hu (hz us hu)).1
    have h2 := (polyB_iff.1 hu.1).1
    omega
  have huniq : ∀ us vs : TermL, PP s us → PP s vs → us = vs := by
    intro us vs hu hv
    apply List.ext_getElem?
    intro k
    by_cases hk : k < ps.length
    · have hx := List.getElem?_eq_getElem hk
      rw [← (hC us hu (hz us hu)).2 k _ hx, (hC vs hv (hz vs hv)).2 k _ hx]
    · rw [List.getElem?_eq_none (by have := (hlen us hu).1; omega), List.getElem?_eq_none (by have := (hlen vs hv).1; omega)]
  by_cases hex : ∃ us, PP s us
  · obtain ⟨vs, hv⟩ := hex
    obtain ⟨hy1, hy2⟩ := pp_yes hv (fun us hu => huniq us vs hu hv)
    have hcv := hC vs hv (hz vs hv)
    have hlv := hlen vs hv
    rcases h with ⟨_, _, k, x, hk, hx, hn⟩ | ⟨us, hul, hup, h⟩
    · rw [hcv.2 k x hx] at hn
      have := List.getElem?_eq_none_iff.1 hn
      omega
    · have e : us = vs := by
        apply List.ext_getElem?
        intro k
        by_cases hk : k < ps.length
        · have hx := List.getElem?_eq_getElem hk
          rw [← hup k _ (by omega) hx, hcv.2 k _ hx]
        · rw [List.getElem?_eq_none (by omega), List.getElem?_eq_none (by omega)]
      subst e
      rcases h with ⟨rfl, rfl, _⟩ | ⟨_, _, hne⟩
      · exact ⟨hy1, hy2⟩
      · exact absurd hv.2 hne
  · obtain ⟨hy1, hy2⟩ := pp_no hex
    rcases h with ⟨rfl, rfl, _⟩ | ⟨us, hul, hup, h⟩
    · exact ⟨hy1, hy2⟩
    · rcases h with ⟨rfl, rfl, hs⟩ | ⟨rfl, rfl, _⟩
      · exfalso
        cases hP : polyB ts with
        | true => exact hex ⟨ts, hP, hs⟩
        | false =>
          rw [fpolyL_no hP] at hs
          obtain ⟨x, hx, hn⟩ := hE (by rw [← hs]; rfl)
          rw [hup 0 x hm0 hx] at hn
          have := List.getElem?_eq_none_iff.1 hn
          omega
      · exact ⟨hy1, hy2⟩
theorem zero_pp : PP (strOf [48]) [] ∧ ∀ us, PP (strOf [48]) us → us = [] := by
  have hp : PP (strOf [48]) [] := ⟨polyB_yes (by decide) (fun t ht => absurd ht (Nat.not_lt_zero _)), by rw [fpolyL_none]⟩
  refine ⟨hp, fun us hu => ?_⟩
  by_cases h : us = []
  · exact h
  · exfalso
    have hb := sBack hu h
    have hs : Lib.split (strOf [48]).data.toList [44] = [[48]] := by rw [strOf_list]; exact split_end (by decide)
    rw [hs] at hb
    have h1 := hb.2 0 [48] rfl
    have h2 : sPart 0 [48] = none := by
      show (sText 0 _).bind _ = _
      simp only [sText, if_pos, Option.bind_some]
      rw [split_end (tl := []) (by decide)]
      rfl
    rw [h2] at h1
    have := List.getElem?_eq_none_iff.1 h1.symm
    exact h (List.eq_nil_of_length_eq_zero (by omega))

end Go.Proofs.YthgigbihpcelpaaDoor
