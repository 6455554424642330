/-
  Plain lists: what the functions compute. No program in sight.
-/
import Derived.Deep.OwnRows
namespace Go.Proofs.Ytoioiippdchgmaa
set_option linter.unusedVariables false

/-- x lies from lo to hi. -/
def inB (x lo hi : Int) : Bool := decide (lo ≤ x) && decide (x ≤ hi)
theorem inB_true {x lo hi : Int} (h : inB x lo hi = true) : lo ≤ x ∧ x ≤ hi := by simpa [inB] using h
theorem inB_false {x lo hi : Int} (h : inB x lo hi = false) : x < lo ∨ hi < x := by
  unfold inB at h
  by_cases h1 : lo ≤ x
  · simp [h1] at h; omega
  · omega
theorem inB_mk {x lo hi : Int} (h1 : lo ≤ x) (h2 : x ≤ hi) : inB x lo hi = true := by simp [inB, h1, h2]
theorem inB_not {x lo hi : Int} (h : x < lo ∨ hi < x) : inB x lo hi = false := by
  unfold inB
  rcases h with h | h
  · have : ¬ lo ≤ x := by omega
    simp [this]
  · have : ¬ x ≤ hi := by omega
    simp [this]

def hasB (l : List Int) (x : Int) : Bool := decide (x ∈ l)

/-- The first j numbers are in range and apart. -/
def GoodUp (l : List Int) (j : Nat) : Prop := ∀ t, t < j → ∀ x, l[t]? = some x → 0 ≤ x ∧ x < l.length ∧ x ∉ l.take t

/-- A permutation: from 1 to 7 numbers, each from 0 to less than their number, no two alike. -/
def isPermB (l : List Int) : Bool := decide (1 ≤ l.length) && decide (l.length ≤ 7) && decide (∀ x ∈ l, 0 ≤ x ∧ x < l.length) && decide l.Nodup

theorem isPermB_iff {l : List Int} : isPermB l = true ↔ 1 ≤ l.length ∧ l.length ≤ 7 ∧ (∀ x ∈ l, 0 ≤ x ∧ x < l.length) ∧ l.Nodup := by
  simp only [isPermB, Bool.and_eq_true, decide_eq_true_eq, and_assoc]

theorem nodup_of_goodUp {l : List Int} (h : ∀ t, t < l.length → ∀ x, l[t]? = some x → x ∉ l.take t) : l.Nodup := by
  rw [List.nodup_iff_pairwise_ne, List.pairwise_iff_getElem]
  intro i j hi hj hij e
  refine h j hj _ (List.getElem?_eq_getElem hj) ?_
  rw [← e]
  rw [List.mem_take_iff_getElem]
  exact ⟨i, by omega, rfl⟩

theorem goodUp_of_perm {l : List Int} (h : isPermB l = true) (t : Nat) (x : Int) (hx : l[t]? = some x) : 0 ≤ x ∧ x < l.length ∧ x ∉ l.take t := by
  obtain ⟨_, _, h3, h4⟩ := isPermB_iff.1 h
  have hm : x ∈ l := List.mem_of_getElem? hx
  refine ⟨(h3 x hm).1, (h3 x hm).2, fun hmem => ?_⟩
  obtain ⟨i, hi, e⟩ := List.mem_take_iff_getElem.1 hmem
  obtain ⟨ht, e2⟩ := List.getElem?_eq_some_iff.1 hx
  rw [List.nodup_iff_pairwise_ne, List.pairwise_iff_getElem] at h4
  exact h4 i t (by omega) ht (by omega) (by rw [e, e2])

theorem perm_of_goodUp {l : List Int} (h1 : 1 ≤ l.length) (h7 : l.length ≤ 7) (h : GoodUp l l.length) : isPermB l = true := by
  refine isPermB_iff.2 ⟨h1, h7, fun x hx => ?_, nodup_of_goodUp fun t ht x hx => (h t ht x hx).2.2⟩
  obtain ⟨t, ht, e⟩ := List.mem_iff_getElem.1 hx
  have := h t ht x (by rw [List.getElem?_eq_getElem ht, e])
  exact ⟨this.1, this.2.1⟩

theorem not_perm_len {l : List Int} (h : l.length < 1 ∨ 7 < l.length) : isPermB l = false := by
  cases e : isPermB l with
  | false => rfl
  | true => have := isPermB_iff.1 e; omega

theorem not_perm_at {l : List Int} {t : Nat} {x : Int} (hx : l[t]? = some x) (h : x < 0 ∨ (l.length : Int) ≤ x ∨ x ∈ l.take t) : isPermB l = false := by
  cases e : isPermB l with
  | false => rfl
  | true =>
    have := goodUp_of_perm e t x hx
    rcases h with h | h | h
    · omega
    · omega
    · exact absurd h this.2.2

theorem GoodUp.zero (l : List Int) : GoodUp l 0 := fun t ht => absurd ht (Nat.not_lt_zero _)
theorem GoodUp.step {l : List Int} {j : Nat} (h : GoodUp l j) {x : Int} (hx : l[j]? = some x) (h1 : 0 ≤ x) (h2 : x < l.length) (h3 : x ∉ l.take j) : GoodUp l (j + 1) := by
  intro t ht y hy
  by_cases e : t = j
  · subst e
    rw [hx] at hy
    obtain rfl := Option.some.inj hy
    exact ⟨h1, h2, h3⟩
  · exact h t (by omega) y hy

theorem getElem?_of_getD {l : List Int} {j : Nat} {x : Int} (hx : x = l.getD j 0) (hj : j < l.length) : l[j]? = some x := by
  rw [hx, List.getD_eq_getElem?_getD, List.getElem?_eq_getElem hj]; rfl

/-- 0, 1, .. n - 1. -/
def idL (n : Nat) : List Int := (List.range n).map (fun t : Nat => (t : Int))
theorem idL_len (n : Nat) : (idL n).length = n := by simp [idL]
/-- The identity of n; nothing where n is not from 1 to 7. -/
def identL (n : Int) : List Int := if inB n 1 7 = true then idL n.toNat else []
/-- The longest permutation of n. -/
def longL (n : Int) : List Int := (identL n).reverse

/-- All numbers are places of a list of n. -/
def InR (l : List Int) (n : Nat) : Prop := ∀ x ∈ l, 0 ≤ x ∧ x < (n : Int)
theorem InR.at {l : List Int} {n j : Nat} {y : Int} (h : InR l n) (hy : l[j]? = some y) : ∃ t : Nat, y = (t : Int) ∧ t < n := by
  have := h y (List.mem_of_getElem? hy)
  exact ⟨y.toNat, by omega, by omega⟩
theorem inR_of_perm {l : List Int} (h : isPermB l = true) : InR l l.length := fun x hx => (isPermB_iff.1 h).2.2.1 x hx

end Go.Proofs.Ytoioiippdchgmaa
