/-
  The number of a permutation by its code; levels of permutations with counts: plain. Contracts of l1Factorial, l1Place.
-/
import Derived.Test.YtcpekiangjpppaaCnt
import Derived.Test.YtcpekiangjpppaaLen
namespace Go.Proofs.Ytcpekiangjpppaa
open Go.RowKit
set_option linter.unusedVariables false

def factN : Nat → Nat
  | 0 => 1
  | k + 1 => (k + 1) * factN k
theorem factN_pos : ∀ k, 1 ≤ factN k
  | 0 => Nat.le_refl _
  | k + 1 => Nat.mul_pos (Nat.succ_pos k) (factN_pos k)
theorem factN_le : ∀ k : Nat, k ≤ 7 → factN k ≤ 5040
  | 0, _ | 1, _ | 2, _ | 3, _ | 4, _ | 5, _ | 6, _ | 7, _ => by simp [factN]
  | k + 8, h => by omega

/-- The code as numbers. -/
def codeN (l : List Int) : List Nat := (List.range l.length).map (fun t => cntUp l t l.length)
theorem codeN_len (l : List Int) : (codeN l).length = l.length := by simp [codeN]
theorem codeOf_nums (l : List Int) : codeOf l = numsL (codeN l) := by simp [codeOf, numsL, codeN]
theorem codeN_cons (x : Int) (l : List Int) : codeN (x :: l) = ltc x l :: codeN l := by
  have h := codeOf_cons x l
  rw [codeOf_nums, codeOf_nums] at h
  simp only [numsL] at h
  have h2 : (codeN (x :: l)).map (fun t : Nat => (t : Int)) = (ltc x l :: codeN l).map (fun t : Nat => (t : Int)) := by rw [h]; rfl
  exact (List.map_inj_right (fun a b e => Int.ofNat.inj e)).1 h2
theorem code_small : ∀ (l : List Int) (t c : Nat), (codeN l)[t]? = some c → c + t < l.length
  | [], t, c, h => by simp [codeN] at h
  | x :: l, 0, c, h => by
    rw [codeN_cons] at h
    simp at h
    have : ltc x l ≤ l.length := List.countP_le_length
    simp; omega
  | x :: l, t + 1, c, h => by
    rw [codeN_cons] at h
    have := code_small l t c (by simpa using h)
    simp; omega
theorem ltc_mono {x y : Int} (h : x ≤ y) (l : List Int) : ltc x l ≤ ltc y l := by
  unfold ltc
  apply List.countP_mono_left
  intro z _ hz
  simp at hz ⊢
  omega
theorem code_inj : ∀ {l l' : List Int}, l.Perm l' → codeN l = codeN l' → l = l'
  | [], l', h, _ => by rw [h.symm.eq_nil]
  | x :: a, [], h, _ => absurd h.length_eq (by simp)
  | x :: a, y :: b, h, e => by
    rw [codeN_cons, codeN_cons] at e
    obtain ⟨e1, e2⟩ := List.cons.inj e
    have hxy : x = y := by
      have p1 := ltc_perm (x := x) h
      have p2 := ltc_perm (x := y) h
      rw [ltc_cons, ltc_cons] at p1 p2
      rw [if_neg (show ¬ x < x by omega)] at p1
      rw [if_neg (show ¬ y < y by omega)] at p2
      rcases Int.lt_trichotomy x y with h1 | h1 | h1
      · rw [if_pos h1] at p2
        have := ltc_mono (show x ≤ y by omega) a
        omega
      · exact h1
      · rw [if_pos h1] at p1
        have := ltc_mono (show y ≤ x by omega) b
        omega
    subst hxy
    rw [code_inj (List.Perm.cons_inv h) e2]
def plcUp (c : List Nat) : Nat → Nat
  | 0 => 0
  | j + 1 => plcUp c j * (c.length - j) + c.getD j 0
def plc (l : List Int) : Nat := plcUp (codeN l) l.length
theorem plcUp_le {c : List Nat} (h : ∀ (t x : Nat), c[t]? = some x → x + t < c.length) : ∀ j, j ≤ c.length → (plcUp c j + 1) * factN (c.length - j) ≤ factN c.length
  | 0, _ => by simp [plcUp]
  | j + 1, hj => by
    have ih := plcUp_le h j (by omega)
    have hc := h j (c.getD j 0) (by rw [List.getD_eq_getElem?_getD, List.getElem?_eq_getElem (by omega)]; rfl)
    obtain ⟨d, hd⟩ : ∃ d, c.length - j = d + 1 := ⟨c.length - j - 1, by omega⟩
    rw [show c.length - (j + 1) = d by omega]
    rw [hd] at ih
    refine Nat.le_trans ?_ ih
    rw [plcUp, hd, factN, ← Nat.mul_assoc]
    refine Nat.mul_le_mul_right _ ?_
    rw [Nat.succ_mul]
    omega
theorem plcUp_lt {c : List Nat} (h : ∀ (t x : Nat), c[t]? = some x → x + t < c.length) (j : Nat) (hj : j ≤ c.length) : plcUp c j < factN c.length := by
  have h1 := plcUp_le h j hj
  have h2 := factN_pos (c.length - j)
  have h3 : (plcUp c j + 1) * 1 ≤ (plcUp c j + 1) * factN (c.length - j) := Nat.mul_le_mul_left _ h2
  omega
theorem digit_inj {a a' m r r' : Nat} (h : a * m + r = a' * m + r') (h1 : r < m) (h2 : r' < m) : a = a' ∧ r = r' := by
  rcases Nat.lt_trichotomy a a' with h3 | h3 | h3
  · have : (a + 1) * m ≤ a' * m := Nat.mul_le_mul_right _ h3
    rw [Nat.succ_mul] at this
    omega
  · subst h3; omega
  · have : (a' + 1) * m ≤ a * m := Nat.mul_le_mul_right _ h3
    rw [Nat.succ_mul] at this
    omega
theorem plcUp_inj {c c' : List Nat} (hl : c.length = c'.length) (h : ∀ (t x : Nat), c[t]? = some x → x + t < c.length) (h' : ∀ (t x : Nat), c'[t]? = some x → x + t < c'.length) :
    ∀ j, j ≤ c.length → plcUp c j = plcUp c' j → ∀ t, t < j → c.getD t 0 = c'.getD t 0
  | 0, _, _, t, ht => absurd ht (Nat.not_lt_zero _)
  | j + 1, hj, e, t, ht => by
    have hc := h j (c.getD j 0) (by rw [List.getD_eq_getElem?_getD, List.getElem?_eq_getElem (by omega)]; rfl)
    have hc' := h' j (c'.getD j 0) (by rw [List.getD_eq_getElem?_getD, List.getElem?_eq_getElem (by omega)]; rfl)
    rw [plcUp, plcUp, hl] at e
    obtain ⟨e1, e2⟩ := digit_inj e (by omega) (by omega)
    by_cases h1 : t = j
    · subst h1; exact e2
    · exact plcUp_inj hl h h' j (by omega) e1 t (by omega)
theorem mem_permN {n : Nat} {u : List Int} (h : PermN n u) (x : Int) : x ∈ u ↔ 0 ≤ x ∧ x < (n : Int) := by
  constructor
  · intro hx
    have := (isPermB_iff.1 h.1).2.2.1 x hx
    rw [h.2] at this; exact this
  · rintro ⟨h1, h2⟩
    obtain ⟨i, hi, e⟩ := h.surj (j := x.toNat) (by omega)
    have := (h.get hi).1
    rw [e, Int.toNat_of_nonneg h1] at this
    exact List.mem_of_getElem? this
theorem permN_perm {n : Nat} {u v : List Int} (hu : PermN n u) (hv : PermN n v) : u.Perm v :=
  (List.perm_ext_iff_of_nodup (perm_nodup hu) (perm_nodup hv)).2 fun x => (mem_permN hu x).trans (mem_permN hv x).symm
theorem code_ok (l : List Int) (t x : Nat) (h : (codeN l)[t]? = some x) : x + t < (codeN l).length := by rw [codeN_len]; exact code_small l t x h
theorem plc_lt {n : Nat} {u : List Int} (h : PermN n u) : plc u < factN n := by
  have := plcUp_lt (code_ok u) u.length (by rw [codeN_len]; exact Nat.le_refl _)
  rw [codeN_len, h.2] at this
  rw [plc, h.2]; exact this
theorem plc_inj {n : Nat} {u v : List Int} (hu : PermN n u) (hv : PermN n v) (e : plc u = plc v) : u = v := by
  refine code_inj (permN_perm hu hv) ?_
  have hl : (codeN u).length = (codeN v).length := by rw [codeN_len, codeN_len, hu.2, hv.2]
  rw [plc, plc, hv.2, ← hu.2] at e
  have := plcUp_inj hl (code_ok u) (code_ok v) u.length (by rw [codeN_len]; exact Nat.le_refl _) e
  apply List.ext_getElem?
  intro t
  by_cases ht : t < u.length
  · have h1 := this t ht
    rw [List.getD_eq_getElem?_getD, List.getD_eq_getElem?_getD, List.getElem?_eq_getElem (by rw [codeN_len]; exact ht), List.getElem?_eq_getElem (by rw [← hl, codeN_len]; exact ht)] at h1
    rw [List.getElem?_eq_getElem (by rw [codeN_len]; exact ht), List.getElem?_eq_getElem (by rw [← hl, codeN_len]; exact ht)]
    simpa using h1
  · rw [List.getElem?_eq_none (by rw [codeN_len]; omega), List.getElem?_eq_none (by rw [← hl, codeN_len]; omega)]

/-! Levels. -/
def wsum (n : Nat) : List Nat → ListsL → Nat
  | q :: qs, v :: vs => q * redN n v + wsum n qs vs
  | _, _ => 0
theorem wsum_push {n : Nat} (q : Nat) (v : List Int) : ∀ {qs : List Nat} {vs : ListsL}, qs.length = vs.length → wsum n (qs ++ [q]) (vs ++ [v]) = wsum n qs vs + q * redN n v
  | [], [], _ => by simp [wsum]
  | a :: qs, [], h => by simp at h
  | [], b :: vs, h => by simp at h
  | a :: qs, b :: vs, h => by
    have ih := wsum_push (n := n) q v (qs := qs) (vs := vs) (by simpa using h)
    simp only [List.cons_append, wsum, ih]; omega
theorem wsum_set {n : Nat} (d : Nat) : ∀ {qs : List Nat} {vs : ListsL} {j q : Nat} {v : List Int}, qs[j]? = some q → vs[j]? = some v → wsum n (qs.set j (q + d)) vs = wsum n qs vs + d * redN n v
  | [], _, j, q, v, h, _ => by simp at h
  | a :: qs, [], j, q, v, _, h => by simp at h
  | a :: qs, b :: vs, 0, q, v, h, h' => by
    simp at h h'; subst h h'
    simp only [List.set_cons_zero, wsum, Nat.add_mul]; omega
  | a :: qs, b :: vs, j + 1, q, v, h, h' => by
    have ih := wsum_set (n := n) d (qs := qs) (vs := vs) (j := j) (by simpa using h) (by simpa using h')
    simp only [List.set_cons_succ, wsum, ih]; omega
theorem wsum_ge {n : Nat} : ∀ {qs : List Nat} {vs : ListsL} {j q : Nat} {v : List Int}, qs[j]? = some q → vs[j]? = some v → q * redN n v ≤ wsum n qs vs
  | [], _, j, q, v, h, _ => by simp at h
  | a :: qs, [], j, q, v, _, h => by simp at h
  | a :: qs, b :: vs, 0, q, v, h, h' => by
    simp at h h'; subst h h'
    simp only [wsum]; omega
  | a :: qs, b :: vs, j + 1, q, v, h, h' => by
    have ih := wsum_ge (n := n) (qs := qs) (vs := vs) (j := j) (by simpa using h) (by simpa using h')
    simp only [wsum]; omega
theorem wsum_take {n : Nat} : ∀ {qs : List Nat} {vs : ListsL} {j q : Nat} {v : List Int}, qs[j]? = some q → vs[j]? = some v → wsum n (qs.take (j + 1)) (vs.take (j + 1)) = wsum n (qs.take j) (vs.take j) + q * redN n v
  | [], _, j, q, v, h, _ => by simp at h
  | a :: qs, [], j, q, v, _, h => by simp at h
  | a :: qs, b :: vs, 0, q, v, h, h' => by
    simp at h h'; subst h h'
    simp [wsum]
  | a :: qs, b :: vs, j + 1, q, v, h, h' => by
    have ih := wsum_take (n := n) (qs := qs) (vs := vs) (j := j) (by simpa using h) (by simpa using h')
    simp only [List.take_succ_cons, wsum] at ih ⊢
    omega
theorem wsum_take_le {n : Nat} : ∀ (qs : List Nat) (vs : ListsL) (j : Nat), wsum n (qs.take j) (vs.take j) ≤ wsum n qs vs
  | [], _, j => by simp [wsum]
  | a :: qs, [], j => by simp [wsum]
  | a :: qs, b :: vs, 0 => by simp [wsum]
  | a :: qs, b :: vs, j + 1 => by
    have ih := wsum_take_le (n := n) qs vs j
    simp only [List.take_succ_cons, wsum]; omega
theorem redN_pos {n : Nat} {w : List Int} (h : PermN n w) : 1 ≤ redN n w := redL_pos _ h (by have := lenOf_nonneg w; omega)
/-- The ways down by the first k places. -/
def rpart (n : Nat) (v : List Int) (k : Nat) : Nat := (((List.range k).filter (fun t => decide (v.getD (t + 1) 0 < v.getD t 0))).map (fun t => redN n (swapL v t (t + 1)))).sum
theorem rpart_zero (n : Nat) (v : List Int) : rpart n v 0 = 0 := rfl
theorem rpart_yes {n : Nat} {v : List Int} {k : Nat} (h : v.getD (k + 1) 0 < v.getD k 0) : rpart n v (k + 1) = rpart n v k + redN n (swapL v k (k + 1)) := by
  have : decide (v.getD (k + 1) 0 < v.getD k 0) = true := by simpa using h
  simp only [rpart, List.range_succ, List.filter_append, List.filter_cons, this, if_true, List.filter_nil, List.map_append, List.map_cons, List.map_nil, List.sum_append, List.sum_cons, List.sum_nil, Nat.add_zero]
theorem rpart_no {n : Nat} {v : List Int} {k : Nat} (h : ¬ v.getD (k + 1) 0 < v.getD k 0) : rpart n v (k + 1) = rpart n v k := by
  have : decide (v.getD (k + 1) 0 < v.getD k 0) = false := by simpa using h
  simp only [rpart, List.range_succ, List.filter_append, List.filter_cons, this, List.filter_nil, Bool.false_eq_true, if_false, List.append_nil]
theorem rpart_mono (n : Nat) (v : List Int) : ∀ d k, rpart n v k ≤ rpart n v (k + d)
  | 0, k => Nat.le_refl _
  | d + 1, k => by
    have ih := rpart_mono n v d k
    have : rpart n v (k + d) ≤ rpart n v (k + d + 1) := by
      by_cases h : v.getD (k + d + 1) 0 < v.getD (k + d) 0
      · rw [rpart_yes h]; omega
      · rw [rpart_no h]; exact Nat.le_refl _
    exact Nat.le_trans ih this
theorem rpart_all {n m : Nat} {v : List Int} (h : PermN n v) (hm : lenOf v = ((m + 1 : Nat) : Int)) : rpart n v (n - 1) = redN n v := by
  have hp := (redR_perm h hm).length_eq
  have e : redN n v = (redR n (m + 1) v).length := by rw [redN, hm]; exact hp.symm
  rw [e, redR, List.length_flatMap, rpart]
  show ((rdesc n v).map _).sum = _
  congr 1
  apply List.map_congr_left
  intro k hk
  obtain ⟨h1, h2⟩ := mem_rdesc.1 hk
  have h3 := len_swap_down (l := v) (k := k) (by rw [h.2]; exact h1) h2
  have h4 := swap_perm h (i := k) (j := k + 1) (by omega) h1
  have h5 : lenOf (swapL v k (k + 1)) = (m : Int) := by omega
  rw [List.length_map, (redR_perm h4 h5).length_eq, redN, h5]; rfl

structure LevM (n m : Nat) (ns : ListsL) (qs ats : List Nat) : Prop where
  len : qs.length = ns.length
  perm : ∀ v ∈ ns, PermN n v ∧ lenOf v = (m : Int)
  alen : ats.length = factN n
  at1 : ∀ (j : Nat) v, ns[j]? = some v → ats[plc v]? = some (j + 1)
  at0 : ∀ p q : Nat, ats[p]? = some (q + 1) → ∃ v, ns[q]? = some v ∧ plc v = p
theorem LevM.start (n m : Nat) : LevM n m [] [] (List.replicate (factN n) 0) :=
  ⟨rfl, fun v h => by simp at h, by simp, fun j v h => by simp at h, fun p q h => by rw [List.getElem?_replicate] at h; split at h <;> simp at h⟩
theorem LevM.new {n m : Nat} {ns : ListsL} {qs ats : List Nat} {v : List Int} (h : LevM n m ns qs ats) (hv : PermN n v) (hm : lenOf v = (m : Int)) (h0 : ats[plc v]? = some 0) :
    LevM n m (ns ++ [v]) (qs ++ [0]) (ats.set (plc v) (ns.length + 1)) := by
  have hlt := (List.getElem?_eq_some_iff.1 h0).1
  refine ⟨by simp [h.len], fun u hu => ?_, by simpa using h.alen, fun j u hj => ?_, fun p q hq => ?_⟩
  · rcases List.mem_append.1 hu with hu | hu
    · exact h.perm u hu
    · rw [List.mem_singleton.1 hu]; exact ⟨hv, hm⟩
  · by_cases h1 : j < ns.length
    · rw [List.getElem?_append_left h1] at hj
      have h2 := h.at1 j u hj
      have hne : plc v ≠ plc u := fun e => by rw [← e, h0] at h2; simp at h2
      rw [List.getElem?_set_ne hne]; exact h2
    · rw [List.getElem?_append_right (by omega)] at hj
      obtain ⟨h2, h3⟩ := List.getElem?_eq_some_iff.1 hj
      simp at h2 h3
      subst h3
      rw [List.getElem?_set_self hlt, show j = ns.length by omega]
  · rw [List.getElem?_set] at hq
    by_cases e : plc v = p
    · rw [if_pos e, if_pos (by omega)] at hq
      have : q = ns.length := by simpa using (Option.some.inj hq).symm
      subst this
      exact ⟨v, by simp, e⟩
    · rw [if_neg e] at hq
      obtain ⟨u, hu, hp⟩ := h.at0 p q hq
      exact ⟨u, by rw [List.getElem?_append_left (List.getElem?_eq_some_iff.1 hu).1]; exact hu, hp⟩
theorem LevM.add {n m : Nat} {ns : ListsL} {qs ats : List Nat} (h : LevM n m ns qs ats) (j q : Nat) : LevM n m ns (qs.set j q) ats :=
  ⟨by simpa using h.len, h.perm, h.alen, h.at1, h.at0⟩
theorem LevM.find {n m : Nat} {ns : ListsL} {qs ats : List Nat} {v : List Int} (h : LevM n m ns qs ats) (hv : PermN n v) {j : Nat} (hj : ats[plc v]? = some (j + 1)) : ns[j]? = some v := by
  obtain ⟨u, hu, e⟩ := h.at0 _ _ hj
  rw [plc_inj (h.perm u (List.mem_of_getElem? hu)).1 hv e] at hu
  exact hu
theorem LevM.nodup {n m : Nat} {ns : ListsL} {qs ats : List Nat} (h : LevM n m ns qs ats) : ns.Nodup := by
  rw [List.nodup_iff_pairwise_ne, List.pairwise_iff_getElem]
  intro i j hi hj hij e
  have h1 := h.at1 i _ (List.getElem?_eq_getElem hi)
  have h2 := h.at1 j _ (List.getElem?_eq_getElem hj)
  rw [e, h2] at h1
  simp at h1
  omega
theorem LevM.small {n m : Nat} {ns : ListsL} {qs ats : List Nat} (h : LevM n m ns qs ats) : ns.length ≤ factN n := by
  rcases Nat.lt_or_ge (factN n) ns.length with hlt | hge
  · exfalso
    have hb : ∀ i (hi : i < ns.length), plc ns[i] < factN n := fun i hi => plc_lt (h.perm _ (List.getElem_mem hi)).1
    obtain ⟨i, hi, e⟩ := pigeon ns.length (fun i => plc (ns.getD i [])) (fun i hi => by
        have := hb i hi
        rw [List.getD_eq_getElem?_getD, List.getElem?_eq_getElem hi]
        simp; omega)
      (fun i j hi hj e => by
        rw [List.getD_eq_getElem?_getD, List.getElem?_eq_getElem hi, List.getD_eq_getElem?_getD, List.getElem?_eq_getElem hj] at e
        simp at e
        have h1 := h.at1 i _ (List.getElem?_eq_getElem hi)
        have h2 := h.at1 j _ (List.getElem?_eq_getElem hj)
        rw [e, h2] at h1
        simp at h1
        omega) (ns.length - 1) (by omega)
    rw [List.getD_eq_getElem?_getD, List.getElem?_eq_getElem hi] at e
    have := hb i hi
    simp at e
    omega
  · exact hge
/-- A whole level. -/
structure LevD (n m T : Nat) (ls : ListsL) (qs : List Nat) : Prop where
  len : qs.length = ls.length
  ne : ls ≠ []
  perm : ∀ v ∈ ls, PermN n v ∧ lenOf v = (m : Int)
  nodup : ls.Nodup
  sum : wsum n qs ls = T
theorem LevD.start {n m : Nat} {l : List Int} (h : PermN n l) (hm : lenOf l = (m : Int)) : LevD n m (redN n l) [l] [1] :=
  ⟨rfl, by simp, fun v hv => by rw [List.mem_singleton.1 hv]; exact ⟨h, hm⟩, by simp, by simp [wsum]⟩
theorem LevD.last {n T : Nat} {ls : ListsL} {qs : List Nat} (h : LevD n 0 T ls qs) : qs[0]? = some T := by
  obtain ⟨hl, hne, hp, hn, hs⟩ := h
  match ls, qs, hl, hne with
  | [v], [q], _, _ =>
    have h0 := (hp v (by simp)).2
    have : redN n v = 1 := by rw [redN, show (lenOf v).toNat = 0 by omega]; rfl
    simp [wsum, this] at hs
    simp [hs]
  | v :: u :: ls, qs, _, _ =>
    exfalso
    have e1 := len_zero (hp v (by simp)).1 (by simpa using (hp v (by simp)).2)
    have e2 := len_zero (hp u (by simp)).1 (by simpa using (hp u (by simp)).2)
    rw [e1, e2] at hn
    simp at hn

set_option maxHeartbeats 400000 in
theorem l1Factorial_c (n : Nat) (w : World) (hn : n ≤ 7) :
    Calls Try.prog 49 #[.int .i64 (n : Int)] w fun e w' => e = .returned (.int .i64 (factN n : Int)) ∧ w = w' := by
  go_enter Try.func49, Try.ntmps49
  go_wp2
  go_loop [3, 4] (fun xv iv => ∃ (j : Nat) (x : Int), 2 ≤ j ∧ (j ≤ n + 1 ∨ j = 2) ∧ iv = .int .i64 j ∧ xv = .int .i64 x ∧ Hid (x = (factN (j - 1) : Int))) (fun _ iv => n + 1 - (intOf iv).toNat)
  case atStart => exact ⟨2, 1, Nat.le_refl _, .inr rfl, rfl, rfl, Lib.hid rfl⟩
  case round =>
    obtain ⟨j, x, h2, hj, rfl, rfl, HX⟩ := hrel
    by_cases hlt : j ≤ n
    · obtain ⟨k, rfl⟩ : ∃ k, j = k + 1 := ⟨j - 1, by omega⟩
      obtain ⟨y, hy⟩ : ∃ y : Int, y = ((k + 1 : Nat) : Int) := ⟨_, rfl⟩
      have hf := factN_le (k + 1) (by omega)
      have e1 : x * y = (factN (k + 1) : Int) := by
        rw [HX.out, hy, show factN (k + 1) = (k + 1) * factN k from rfl, Int.mul_comm]
        push_cast
        rfl
      obtain ⟨z, hz⟩ : ∃ z : Int, z = (factN (k + 1) : Int) := ⟨_, rfl⟩
      have hw1 : wrap64 (x * y) = z := by rw [e1, ← hz]; exact IntWalk.wrap64_in z (by omega)
      have HZ := Lib.hid hz
      have HY := Lib.hid hy
      have hyn : y ≤ (n : Int) := by omega
      have hy2 : 0 ≤ y := by omega
      have hy7 : y ≤ 7 := by omega
      clear e1 hf hz
      rw [← hy]
      clear hy
      go_wp2
      go_round
      case rel => exact ⟨k + 2, z, by omega, .inl (by omega), by rw [HY.out]; go_num, by rw [hw1], HZ⟩
      case measure => simp [intOf]; have := HY.out; omega
    · go_wp2
      go_ret
      refine ⟨ret_int ?_, rfl⟩
      rw [HX.out]
      rcases hj with h | h
      · rw [show j - 1 = n by omega]
      · subst h
        match n, hlt with
        | 0, _ => rfl
        | 1, _ => rfl
        | n + 2, h => omega

set_option maxHeartbeats 800000 in
theorem l1Place_c (v : Value) (l : List Int) (w : World) (hv : IntsV w v l) (h7 : l.length ≤ 7) :
    Calls Try.prog 50 #[v] w (GivesN w (plc l : Int)) := by
  have H7 := Lib.hid h7
  clear h7
  go_enter Try.func50, Try.ntmps50
  go_wp2_with fail
  refine (l1Code_c _ _ _ hv).mono ?_
  rintro e w1 ⟨r, rfl, o1, b1⟩
  rw [codeOf_nums] at o1
  obtain ⟨q, ao, b, off, c, rfl, HL, hqc, hcm, ha, hc, hq⟩ := o1.ints.open
  have hql : q = l.length := by rw [HL.out, numsL_len, codeN_len]
  have hq7 : q ≤ 7 := by rw [hql]; exact H7.out
  have HQ := Lib.hid hql
  have HC := Lib.hid hc
  clear hql hc hcm o1
  go_wp2
  go_loop [4, 5] (fun xv iv => ∃ (j : Nat) (x : Int), j ≤ q ∧ iv = .int .i64 j ∧ xv = .int .i64 x ∧ Hid (x = (plcUp (codeN l) j : Int))) (fun _ iv => q - (intOf iv).toNat)
  case atStart => exact ⟨0, 0, Nat.zero_le _, rfl, rfl, Lib.hid rfl⟩
  case round =>
    obtain ⟨j, x, hj, rfl, rfl, HX⟩ := hrel
    by_cases hlt : j < q
    · obtain rfl := ha (by omega)
      have hcl : (codeN l).length = q := by rw [codeN_len, HQ.out]
      obtain ⟨d, hd⟩ : ∃ d : Nat, (codeN l).getD j 0 = d := ⟨_, rfl⟩
      have hcj := HC.out j hlt
      have e0 : (numsL (codeN l)).getD j 0 = (d : Int) := by
        rw [← hd, numsL, List.getD_eq_getElem?_getD, List.getD_eq_getElem?_getD, List.getElem?_map, List.getElem?_eq_getElem (by omega)]; rfl
      rw [e0] at hcj
      have hxb := plcUp_lt (code_ok l) j (by omega)
      have hyb := plcUp_lt (code_ok l) (j + 1) (by omega)
      rw [hcl] at hxb hyb
      have hf := factN_le q hq7
      have hx1 : 0 ≤ x := by rw [HX.out]; omega
      have hx2 : x < 5040 := by rw [HX.out]; omega
      obtain ⟨y, hy⟩ : ∃ y : Int, y = (q : Int) - (j : Int) := ⟨_, rfl⟩
      obtain ⟨z, hz⟩ : ∃ z : Int, z = (plcUp (codeN l) (j + 1) : Int) := ⟨_, rfl⟩
      have e1 : x * y + (d : Int) = z := by
        rw [HX.out, hz, plcUp, hcl, hd, hy]
        have : ((q - j : Nat) : Int) = (q : Int) - (j : Int) := by omega
        push_cast
        rw [← this]
      have hd7 : d ≤ 7 := by
        have := code_ok l j d (by rw [← hd, List.getD_eq_getElem?_getD, List.getElem?_eq_getElem (by omega)]; rfl)
        omega
      have hz1 : 0 ≤ z ∧ z < 5040 := by rw [hz]; omega
      obtain ⟨p, hp⟩ : ∃ p : Int, p = x * y := ⟨_, rfl⟩
      have hpb : -10 ≤ p ∧ p ≤ 5040 := by rw [← hp] at e1; omega
      have hw1 : wrap64 (x * y) = p := by rw [← hp]; exact IntWalk.wrap64_in p (by omega)
      have e2 : p + (d : Int) = z := by rw [hp]; exact e1
      have hw0 : wrap64 ((q : Int) - (j : Int)) = y := by rw [← hy]; exact IntWalk.wrap64_in y (by omega)
      have hw2 : wrap64 (p + (d : Int)) = z := by rw [e2]; exact IntWalk.wrap64_in z (by omega)
      have HZ := Lib.hid hz
      have HW : Hid (wrap64 (x * ((q : Int) - (j : Int))) = p) := Lib.hid (by rw [← hy]; exact hw1)
      have HE2 := Lib.hid e2
      have HWZ : Hid (wrap64 z = z) := Lib.hid (IntWalk.wrap64_in z (by omega))
      clear e1 e2 hp hxb hyb hf e0 hd hz hy hcl
      go_wp2
      go_round
      case rel => exact ⟨j + 1, z, by omega, by go_num, by rw [HW.out, HE2.out, HWZ.out], HZ⟩
      case measure => simp [intOf]; omega
    · have HE : Hid (x = (plc l : Int)) := Lib.hid (by rw [HX.out, plc, ← HQ.out, show j = q by omega])
      go_wp2
      go_ret
      exact ⟨ret_int HE.out, b1⟩

end Go.Proofs.Ytcpekiangjpppaa
