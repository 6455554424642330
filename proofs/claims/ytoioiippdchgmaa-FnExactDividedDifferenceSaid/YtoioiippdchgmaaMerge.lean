/-
  Bottom-up merge sort, plain: rounds, blocks, merges. For any elements and any order.
-/
import Derived.Deep.OwnRows
namespace Go.Proofs.Ytoioiippdchgmaa
set_option linter.unusedVariables false

section
variable {α : Type} (le : α → α → Prop)
structure Order : Prop where
  trans : ∀ x y z, le x y → le y z → le x z
  total : ∀ x y, ¬ le x y → le y x

/-- The places from lo on and before hi stand in order. -/
def Run (a : List α) (lo hi : Nat) : Prop := ∀ s t x y, lo ≤ s → s < t → t < hi → a[s]? = some x → a[t]? = some y → le x y
/-- Each block of z places stands in order. -/
def Runs (a : List α) (z : Nat) : Prop := ∀ s t x y, s < t → s / z = t / z → a[s]? = some x → a[t]? = some y → le x y
theorem Runs.one (a : List α) : Runs le a 1 := fun s t x y h e _ _ => by simp at e; omega
variable {le}
theorem Runs.all {a : List α} {z : Nat} (h : Runs le a z) (hz : a.length ≤ z) : a.Pairwise le := by
  rw [List.pairwise_iff_getElem]
  intro i j hi hj hij
  exact h i j _ _ hij (by rw [Nat.div_eq_of_lt (by omega), Nat.div_eq_of_lt (by omega)]) (List.getElem?_eq_getElem hi) (List.getElem?_eq_getElem hj)
theorem Runs.run {a : List α} {z q at' hi : Nat} (h : Runs le a z) (ha : at' = q * z) (hh : hi ≤ at' + z) : Run le a at' hi := fun s t x y hs hst ht hx hy =>
  h s t x y hst (by
    have hz : 0 < z := by omega
    have e : ∀ u, at' ≤ u → u < hi → u / z = q := fun u h1 h2 => by
      rw [show u = q * z + (u - at') by omega, Nat.mul_comm, Nat.mul_add_div hz, Nat.div_eq_of_lt (by omega)]; rfl
    rw [e s hs (by omega), e t (by omega) ht]) hx hy

structure MergeSt (le : α → α → Prop) (a : List α) (at' mid en i j : Nat) (cur : List α) : Prop where
  b1 : at' ≤ i
  b2 : i ≤ mid
  b3 : mid ≤ j
  b4 : j ≤ en
  b5 : en ≤ a.length
  r1 : Run le a at' mid
  r2 : Run le a mid en
  perm : cur.Perm ((a.take i).drop at' ++ (a.take j).drop mid)
  sorted : cur.Pairwise le
  front : ∀ x ∈ cur, ∀ t y, a[t]? = some y → (i ≤ t ∧ t < mid ∨ j ≤ t ∧ t < en) → le x y
theorem MergeSt.start {a : List α} {at' mid en : Nat} (h1 : at' ≤ mid) (h2 : mid ≤ en) (h3 : en ≤ a.length) (r1 : Run le a at' mid) (r2 : Run le a mid en) : MergeSt le a at' mid en at' mid [] := by
  refine ⟨Nat.le_refl _, h1, Nat.le_refl _, h2, h3, r1, r2, ?_, List.Pairwise.nil, fun x hx => by simp at hx⟩
  have e : ∀ k, ((a.take k).drop k) = [] := fun k => List.drop_eq_nil_of_le (by rw [List.length_take]; omega)
  rw [e, e]; exact List.Perm.refl _
theorem take_drop_succ {a : List α} {lo i : Nat} {x : α} (hx : a[i]? = some x) (h : lo ≤ i) : (a.take (i + 1)).drop lo = (a.take i).drop lo ++ [x] := by
  have hi := (List.getElem?_eq_some_iff.1 hx).1
  rw [List.take_add_one, hx, List.drop_append_of_le_length (by rw [List.length_take]; omega)]; rfl
theorem pairwise_snoc {cur : List α} {x : α} (h : cur.Pairwise le) (hx : ∀ y ∈ cur, le y x) : (cur ++ [x]).Pairwise le :=
  List.pairwise_append.2 ⟨h, List.pairwise_singleton _ _, fun y hy z hz => by rw [List.mem_singleton.1 hz]; exact hx y hy⟩
theorem MergeSt.left (O : Order le) {a : List α} {at' mid en i j : Nat} {cur : List α} {x : α} (h : MergeSt le a at' mid en i j cur) (hi : i < mid) (hx : a[i]? = some x) (hc : en ≤ j ∨ ∀ y, a[j]? = some y → le x y) :
    MergeSt le a at' mid en (i + 1) j (cur ++ [x]) := by
  refine ⟨Nat.le_succ_of_le h.b1, hi, h.b3, h.b4, h.b5, h.r1, h.r2, ?_, pairwise_snoc h.sorted (fun y hy => h.front y hy i x hx (.inl ⟨Nat.le_refl _, hi⟩)), fun z hz t y hy ht => ?_⟩
  · rw [take_drop_succ hx h.b1, List.append_assoc]
    refine (h.perm.append_right [x]).trans ?_
    rw [List.append_assoc]
    exact (List.perm_append_comm).append_left _
  · rcases List.mem_append.1 hz with hz | hz
    · exact h.front z hz t y hy (by omega)
    · rw [List.mem_singleton.1 hz]
      rcases ht with ht | ht
      · exact h.r1 i t x y h.b1 (by omega) ht.2 hx hy
      · rcases hc with hc | hc
        · omega
        · have hjl : j < a.length := by have := h.b5; omega
          have h1 := hc _ (List.getElem?_eq_getElem hjl)
          by_cases e : t = j
          · subst e; exact hc y hy
          · exact O.trans _ _ _ h1 (h.r2 j t _ y h.b3 (by omega) ht.2 (List.getElem?_eq_getElem hjl) hy)
theorem MergeSt.right (O : Order le) {a : List α} {at' mid en i j : Nat} {cur : List α} {x : α} (h : MergeSt le a at' mid en i j cur) (hj : j < en) (hx : a[j]? = some x) (hc : mid ≤ i ∨ ∀ y, a[i]? = some y → ¬ le y x) :
    MergeSt le a at' mid en i (j + 1) (cur ++ [x]) := by
  refine ⟨h.b1, h.b2, Nat.le_succ_of_le h.b3, hj, h.b5, h.r1, h.r2, ?_, pairwise_snoc h.sorted (fun y hy => h.front y hy j x hx (.inr ⟨Nat.le_refl _, hj⟩)), fun z hz t y hy ht => ?_⟩
  · rw [take_drop_succ hx h.b3, ← List.append_assoc]
    exact h.perm.append_right [x]
  · rcases List.mem_append.1 hz with hz | hz
    · exact h.front z hz t y hy (by omega)
    · rw [List.mem_singleton.1 hz]
      rcases ht with ht | ht
      · rcases hc with hc | hc
        · omega
        · have hil : i < a.length := by have := h.b5; have := h.b3; have := h.b4; omega
          have h1 := O.total _ _ (hc _ (List.getElem?_eq_getElem hil))
          by_cases e : t = i
          · subst e; exact O.total _ _ (hc y hy)
          · exact O.trans _ _ _ h1 (h.r1 i t _ y h.b1 (by omega) ht.2 (List.getElem?_eq_getElem hil) hy)
      · exact h.r2 j t x y h.b3 (by omega) ht.2 hx hy
theorem MergeSt.done {a : List α} {at' mid en : Nat} {cur : List α} (h : MergeSt le a at' mid en mid en cur) : cur.Perm ((a.take en).drop at') := by
  refine h.perm.trans ?_
  have h1 := h.b1
  have h3 := h.b3
  have h5 := h.b5
  have e : (a.take en).drop at' = (a.take mid).drop at' ++ (a.take en).drop mid := by
    have : a.take en = a.take mid ++ (a.take en).drop mid := by
      conv => lhs; rw [← List.take_append_drop mid (a.take en), List.take_take, Nat.min_eq_left h3]
    conv => lhs; rw [this]
    rw [List.drop_append_of_le_length (by rw [List.length_take]; omega)]
  rw [e]
theorem MergeSt.len {a : List α} {at' mid en i j : Nat} {cur : List α} (h : MergeSt le a at' mid en i j cur) : cur.length + at' + mid = i + j := by
  have := h.perm.length_eq
  have := h.b1; have := h.b2; have := h.b3; have := h.b4; have := h.b5
  rw [List.length_append, List.length_drop, List.length_drop, List.length_take, List.length_take] at *
  omega

/-- A round that doubles the blocks: as far as at'. -/
structure PassSt (le : α → α → Prop) (a : List α) (z at' : Nat) (nx : List α) : Prop where
  old : Runs le a z
  perm : nx.Perm (a.take at')
  runs : Runs le nx (2 * z)
theorem PassSt.start {a : List α} {z : Nat} (h : Runs le a z) : PassSt le a z 0 [] := ⟨h, by simp, fun s t x y _ _ hx _ => by simp at hx⟩
theorem PassSt.merge {a : List α} {z q at' mid en : Nat} {nx : List α} (h : PassSt le a z at' nx) (ha : at' = q * (2 * z)) (hz : 0 < z) (hl : at' < a.length) (hm : mid = min (at' + z) a.length) (he : en = min (at' + 2 * z) a.length) :
    MergeSt le a at' mid en at' mid [] := by
  refine MergeSt.start (by omega) (by omega) (by omega) (h.old.run (q := 2 * q) (by rw [ha, Nat.mul_comm 2 q, Nat.mul_assoc]) (by omega)) ?_
  by_cases e : at' + z ≤ a.length
  · refine h.old.run (q := 2 * q + 1) ?_ (by omega)
    rw [hm, Nat.min_eq_left e, ha, Nat.add_mul (2 * q) 1 z, Nat.one_mul, Nat.mul_comm 2 q, Nat.mul_assoc]
  · intro s t x y h1 h2 h3 h4 h5
    omega
theorem PassSt.next {a : List α} {z q at' mid en : Nat} {nx cur : List α} (h : PassSt le a z at' nx) (ha : at' = q * (2 * z)) (hz : 0 < z) (hl : at' < a.length) (he : en = min (at' + 2 * z) a.length)
    (hM : MergeSt le a at' mid en mid en cur) : PassSt le a z (at' + 2 * z) (nx ++ cur) := by
  have hp := hM.done
  have hnl : nx.length = at' := by have := h.perm.length_eq; rw [List.length_take] at this; omega
  have htk : a.take (at' + 2 * z) = a.take en := by
    rw [he]
    by_cases e : at' + 2 * z ≤ a.length
    · rw [Nat.min_eq_left e]
    · rw [Nat.min_eq_right (by omega), List.take_of_length_le (by omega), List.take_of_length_le (Nat.le_refl _)]
  have hsp : a.take en = a.take at' ++ (a.take en).drop at' := by
    conv => lhs; rw [← List.take_append_drop at' (a.take en), List.take_take, Nat.min_eq_left (show at' ≤ en by omega)]
  refine ⟨h.old, by rw [htk, hsp]; exact h.perm.append hp, fun s t x y hst e hx hy => ?_⟩
  have hz2 : 0 < 2 * z := by omega
  by_cases h1 : t < at'
  · rw [List.getElem?_append_left (by omega)] at hx hy
    exact h.runs s t x y hst e hx hy
  · have htq : q ≤ t / (2 * z) := by rw [Nat.le_div_iff_mul_le hz2]; omega
    by_cases h2 : s < at'
    · have : s / (2 * z) < q := by rw [Nat.div_lt_iff_lt_mul hz2]; omega
      omega
    · rw [List.getElem?_append_right (by omega)] at hx hy
      obtain ⟨h3, rfl⟩ := List.getElem?_eq_some_iff.1 hx
      obtain ⟨h4, rfl⟩ := List.getElem?_eq_some_iff.1 hy
      exact List.pairwise_iff_getElem.1 hM.sorted _ _ h3 h4 (by omega)
theorem PassSt.done {a : List α} {z at' : Nat} {nx : List α} (h : PassSt le a z at' nx) (hl : a.length ≤ at') : nx.Perm a ∧ Runs le nx (2 * z) := by
  have := h.perm
  rw [List.take_of_length_le hl] at this
  exact ⟨this, h.runs⟩
theorem PassSt.len {a : List α} {z at' : Nat} {nx : List α} (h : PassSt le a z at' nx) : nx.length = min at' a.length := by
  have := h.perm.length_eq; rwa [List.length_take] at this
end

end Go.Proofs.Ytoioiippdchgmaa
