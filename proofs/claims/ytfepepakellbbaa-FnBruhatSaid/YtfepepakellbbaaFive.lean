/-
  Plain: permutations of at most five numbers, one by one.
-/
import Derived.Test.YtfepepakellbbaaDraw
import Derived.Test.YtfepepakellbbaaPlay
import Derived.Test.YtfepepakellbbaaDesc
import Derived.Test.YtfepepakellbbaaLen
import Derived.Test.YtfepepakellbbaaComp
import Derived.Test.YtfepepakellbbaaInv
import Derived.Test.YtfepepakellbbaaRev
import Derived.Test.YtfepepakellbbaaSwap
namespace Go.Proofs.Ytfepepakellbbaa
open Go.RowKit
set_option linter.unusedVariables false

def listsOver (m : Nat) : Nat → List (List Int)
  | 0 => [[]]
  | k + 1 => (idL m).flatMap (fun x => (listsOver m k).map (x :: ·))
theorem mem_lists {m : Nat} : ∀ {k : Nat} {l : List Int}, l.length = k → (∀ x ∈ l, x ∈ idL m) → l ∈ listsOver m k
  | 0, l, h, _ => by rw [List.eq_nil_of_length_eq_zero h]; simp [listsOver]
  | k + 1, [], h, _ => by simp at h
  | k + 1, x :: l, h, hm => by
    have ih := mem_lists (m := m) (k := k) (l := l) (by simpa using h) (fun y hy => hm y (by simp [hy]))
    exact List.mem_flatMap.2 ⟨x, hm x (by simp), List.mem_map.2 ⟨l, ih, rfl⟩⟩
def permsOf (n : Nat) : List (List Int) := (listsOver n n).filter isPermB
theorem mem_perms {n : Nat} {l : List Int} (h : PermN n l) : l ∈ permsOf n := by
  obtain ⟨h1, h2⟩ := h
  refine List.mem_filter.2 ⟨mem_lists h2 (fun x hx => ?_), h1⟩
  have := (isPermB_iff.1 h1).2.2.1 x hx
  rw [h2] at this
  simp [idL]
  exact ⟨x.toNat, by omega, by omega⟩
/-- A step down, from a permutation that is not the identity. -/
def redB (n : Nat) (v : List Int) : Bool :=
  (decide (0 < lenOf v) || decide (v = idL n)) && decide (0 ≤ lenOf v) && decide (lenOf v ≤ 10) && (decide (lenOf v ≤ 0) || !(descUp v (n - 1)).isEmpty) &&
    (descUp v (n - 1)).all fun k => decide (0 ≤ k) && decide (k + 2 ≤ (n : Int)) && isPermB (swapL v k.toNat (k.toNat + 1)) && decide (lenOf (swapL v k.toNat (k.toNat + 1)) + 1 = lenOf v) &&
      decide (swapL (swapL v k.toNat (k.toNat + 1)) k.toNat (k.toNat + 1) = v) && decide ((swapL v k.toNat (k.toNat + 1)).getD k.toNat 0 < (swapL v k.toNat (k.toNat + 1)).getD (k.toNat + 1) 0)
theorem red1 : (permsOf 1).all (redB 1) = true := by kernel_rfl
theorem red2 : (permsOf 2).all (redB 2) = true := by kernel_rfl
theorem red3 : (permsOf 3).all (redB 3) = true := by kernel_rfl
theorem red4 : (permsOf 4).all (redB 4) = true := by kernel_rfl
theorem red5 : (permsOf 5).all (redB 5) = true := by kernel_rfl

theorem red_all {n : Nat} (h1 : 1 ≤ n) (h5 : n ≤ 5) {v : List Int} (hv : PermN n v) : redB n v = true := by
  have hm := mem_perms hv
  match n, h1, h5 with
  | 1, _, _ => exact List.all_eq_true.1 red1 v hm
  | 2, _, _ => exact List.all_eq_true.1 red2 v hm
  | 3, _, _ => exact List.all_eq_true.1 red3 v hm
  | 4, _, _ => exact List.all_eq_true.1 red4 v hm
  | 5, _, _ => exact List.all_eq_true.1 red5 v hm
structure RedF (n : Nat) (v : List Int) : Prop where
  id : ¬ 0 < lenOf v → v = idL n
  lo : 0 ≤ lenOf v
  hi : lenOf v ≤ 10
  some : 0 < lenOf v → descUp v (n - 1) ≠ []
  step : ∀ k ∈ descUp v (n - 1), 0 ≤ k ∧ k + 2 ≤ (n : Int) ∧ PermN n (swapL v k.toNat (k.toNat + 1)) ∧ lenOf (swapL v k.toNat (k.toNat + 1)) + 1 = lenOf v ∧
    swapL (swapL v k.toNat (k.toNat + 1)) k.toNat (k.toNat + 1) = v ∧ (swapL v k.toNat (k.toNat + 1)).getD k.toNat 0 < (swapL v k.toNat (k.toNat + 1)).getD (k.toNat + 1) 0
theorem red_facts {n : Nat} (h1 : 1 ≤ n) (h5 : n ≤ 5) {v : List Int} (hv : PermN n v) : RedF n v := by
  have h := red_all h1 h5 hv
  simp only [redB, Bool.and_eq_true, Bool.or_eq_true, decide_eq_true_eq, List.all_eq_true] at h
  obtain ⟨⟨⟨⟨ha, hb⟩, hc⟩, hd⟩, he⟩ := h
  refine ⟨fun hn => ha.resolve_left hn, hb, hc, fun hp hnil => ?_, fun k hk => ?_⟩
  · rcases hd with hd | hd
    · omega
    · rw [hnil] at hd; simp at hd
  · obtain ⟨⟨⟨⟨⟨h1, h2⟩, h3⟩, h4⟩, h5⟩, h6⟩ := he k hk
    exact ⟨h1, h2, ⟨h3, by rw [swapL_len]; exact hv.2⟩, h4, h5, h6⟩

/-- From v on the letters lead to w, each a step up. -/
inductive Up : List Int → List Int → List Int → Prop
  | nil (w : List Int) : Up w [] w
  | cons {v w : List Int} {word : List Int} {k : Nat} : v.getD k 0 < v.getD (k + 1) 0 → Up (swapL v k (k + 1)) word w → Up v ((k : Int) :: word) w

/-- What holds of one permutation. -/
def uB (n : Nat) (u : List Int) : Bool :=
  decide (lenOf (invOf u) = lenOf u) && isPermB (invOf u) && decide ((invOf u).length = n) && decide (thenL (invOf u) u = idL n) && ((List.range n).all fun i => decide ((invOf u).getD (u.getD i 0).toNat 0 = (i : Int))) &&
    decide (lenOf (thenL ((idL n).reverse) u) = (n : Int) * ((n : Int) - 1) / 2 - lenOf u) && decide (thenL u (idL n) = u) &&
    ((List.range (n - 1)).all fun k => decide (lenOf (swapL u k (k + 1)) = lenOf u + 1) || decide (lenOf (swapL u k (k + 1)) = lenOf u - 1))
theorem u1 : (permsOf 1).all (uB 1) = true := by kernel_rfl
theorem u2 : (permsOf 2).all (uB 2) = true := by kernel_rfl
theorem u3 : (permsOf 3).all (uB 3) = true := by kernel_rfl
theorem u4 : (permsOf 4).all (uB 4) = true := by kernel_rfl
theorem u5 : (permsOf 5).all (uB 5) = true := by kernel_rfl
theorem u_all {n : Nat} (h1 : 1 ≤ n) (h5 : n ≤ 5) {v : List Int} (hv : PermN n v) : uB n v = true := by
  have hm := mem_perms hv
  match n, h1, h5 with
  | 1, _, _ => exact List.all_eq_true.1 u1 v hm
  | 2, _, _ => exact List.all_eq_true.1 u2 v hm
  | 3, _, _ => exact List.all_eq_true.1 u3 v hm
  | 4, _, _ => exact List.all_eq_true.1 u4 v hm
  | 5, _, _ => exact List.all_eq_true.1 u5 v hm
structure UF (n : Nat) (u : List Int) : Prop where
  invLen : lenOf (invOf u) = lenOf u
  inv : PermN n (invOf u)
  left : thenL (invOf u) u = idL n
  back : ∀ i, i < n → (invOf u).getD (u.getD i 0).toNat 0 = (i : Int)
  long : lenOf (thenL ((idL n).reverse) u) = (n : Int) * ((n : Int) - 1) / 2 - lenOf u
  idr : thenL u (idL n) = u
  step : ∀ k, k < n - 1 → lenOf (swapL u k (k + 1)) = lenOf u + 1 ∨ lenOf (swapL u k (k + 1)) = lenOf u - 1
theorem u_facts {n : Nat} (h1 : 1 ≤ n) (h5 : n ≤ 5) {v : List Int} (hv : PermN n v) : UF n v := by
  have h := u_all h1 h5 hv
  simp only [uB, Bool.and_eq_true, Bool.or_eq_true, decide_eq_true_eq, List.all_eq_true, List.mem_range] at h
  obtain ⟨⟨⟨⟨⟨⟨⟨a, b⟩, c⟩, d⟩, e⟩, f⟩, g⟩, i⟩ := h
  exact ⟨a, ⟨b, c⟩, d, e, f, g, i⟩
theorem then_len (u v : List Int) : (thenL u v).length = v.length := by simp [thenL]
theorem then_perm {n : Nat} {u v : List Int} (hu : PermN n u) (hv : PermN n v) : PermN n (thenL u v) := by
  obtain ⟨a1, a2, a3, a4⟩ := isPermB_iff.1 hu.1
  obtain ⟨b1, b2, b3, b4⟩ := isPermB_iff.1 hv.1
  have hlu := hu.2
  have hlv := hv.2
  have hl := then_len u v
  refine ⟨isPermB_iff.2 ⟨by omega, by omega, fun x hx => ?_, ?_⟩, by omega⟩
  · simp only [thenL, List.mem_map] at hx
    obtain ⟨y, hy, rfl⟩ := hx
    have := b3 y hy
    have hmem : u.getD y.toNat 0 ∈ u := by
      rw [List.getD_eq_getElem?_getD, List.getElem?_eq_getElem (by omega)]
      exact List.getElem_mem _
    have := a3 _ hmem
    omega
  · unfold thenL
    refine List.Pairwise.map _ (R := fun a b => a ∈ v ∧ b ∈ v ∧ a ≠ b) (fun x y ⟨hx, hy, hne⟩ e => ?_) ?_
    · have hx2 := b3 x hx
      have hy2 := b3 y hy
      apply hne
      have := (List.getElem_inj (xs := u) (i := x.toNat) (j := y.toNat) (h₀ := by omega) (h₁ := by omega) a4).1 (by
        rw [List.getD_eq_getElem?_getD, List.getD_eq_getElem?_getD, List.getElem?_eq_getElem (by omega), List.getElem?_eq_getElem (by omega)] at e
        exact e)
      omega
    · exact List.Pairwise.imp_of_mem (fun hx hy hne => ⟨hx, hy, hne⟩) b4
theorem then_back {n : Nat} {u v : List Int} (hu : UF n u) (hl : u.length = n) (hv : PermN n v) : thenL (invOf u) (thenL u v) = v := by
  obtain ⟨b1, b2, b3, b4⟩ := isPermB_iff.1 hv.1
  unfold thenL
  rw [List.map_map]
  conv => rhs; rw [← List.map_id v]
  apply List.map_congr_left
  intro x hx
  have h := b3 x hx
  rw [hv.2] at h
  have := hu.back x.toNat (by omega)
  simp only [Function.comp_def, id_eq]
  rw [this]
  omega
theorem map_getD (f : Int → Int) (v : List Int) (j : Nat) (hj : j < v.length) : (v.map f).getD j 0 = f (v.getD j 0) := by
  rw [List.getD_eq_getElem?_getD, List.getD_eq_getElem?_getD, List.getElem?_map, List.getElem?_eq_getElem hj]; rfl
theorem then_swap (u v : List Int) (k : Nat) (hk : k + 1 < v.length) : thenL u (swapL v k (k + 1)) = swapL (thenL u v) k (k + 1) := by
  unfold thenL swapL
  rw [List.map_set, List.map_set]
  congr 1
  · congr 1
    exact (map_getD (fun x => u.getD x.toNat 0) v (k + 1) hk).symm
  · exact (map_getD (fun x => u.getD x.toNat 0) v k (by omega)).symm
theorem len_then {n : Nat} (h1 : 1 ≤ n) (h5 : n ≤ 5) {u : List Int} (hu : PermN n u) : ∀ (m : Nat) (v : List Int), PermN n v → lenOf v = (m : Int) → lenOf (thenL u v) ≤ lenOf u + lenOf v ∧ (lenOf u + lenOf v - lenOf (thenL u v)) % 2 = 0
  | 0, v, hv, hm => by
    have hr := red_facts h1 h5 hv
    rw [hr.id (by omega), (u_facts h1 h5 hu).idr]
    have h0 : lenOf (idL n) = 0 := by rw [← hr.id (by omega)]; exact_mod_cast hm
    omega
  | m + 1, v, hv, hm => by
    have hr := red_facts h1 h5 hv
    obtain ⟨k, hk⟩ := List.exists_mem_of_ne_nil _ (hr.some (by omega))
    obtain ⟨s1, s2, s3, s4, s5, s6⟩ := hr.step k hk
    have ih := len_then h1 h5 hu m _ s3 (by omega)
    have hx := then_perm hu s3
    have hst := (u_facts h1 h5 hx).step k.toNat (by omega)
    have e : thenL u v = swapL (thenL u (swapL v k.toNat (k.toNat + 1))) k.toNat (k.toNat + 1) := by
      rw [← then_swap _ _ _ (by rw [s3.2]; omega), s5]
    rw [e]
    omega

end Go.Proofs.Ytfepepakellbbaa
