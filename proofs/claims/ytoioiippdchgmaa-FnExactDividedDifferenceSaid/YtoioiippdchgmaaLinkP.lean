/-
  Keys and exponents: what exchanging, dividing, multiplying does to both. Plain Lean.
-/
import Derived.Test.YtoioiippdchgmaaMonP
import Derived.Test.YtoioiippdchgmaaPoly
import Derived.Test.YtoioiippdchgmaaTimes
import Derived.Test.YtoioiippdchgmaaOpenS
import Derived.Test.YtoioiippdchgmaaTimesS
import Derived.Test.YtoioiippdchgmaaDivS
namespace Go.Proofs.Ytoioiippdchgmaa
open Go.RowKit
set_option linter.unusedVariables false

theorem cutK_key {e : List Int} (h : Exps e) {i : Nat} (hi : i ≤ e.length) : cutK (keyOf e) i = keyOf (e.drop i) := by
  have h1 := keyOf_split e i
  have h2 := keyOf_bnd (e.take i) (fun x hx => h x (List.mem_of_mem_take hx))
  rw [List.length_take, Nat.min_eq_left hi] at h2
  have hp : (0 : Int) < ((128 ^ i : Nat) : Int) := by exact_mod_cast Nat.pow_pos (by decide)
  unfold cutK
  rw [h1, Int.add_mul_ediv_left _ _ (by omega), Int.ediv_eq_zero_of_lt h2.1 h2.2, Int.zero_add]
theorem atK_key {e : List Int} (h : Exps e) {i : Nat} (hi : i < e.length) : atK (keyOf e) i = e.getD i 0 := by
  unfold atK
  rw [cutK_key h (by omega), keyOf_drop hi rfl]
  have h1 := exps_at h hi rfl
  omega
theorem keyOf_set : ∀ (e : List Int) (i : Nat) (r : Int), i < e.length → keyOf (e.set i r) = keyOf e + (r - e.getD i 0) * unitK i
  | [], i, r, h => by simp at h
  | x :: e, 0, r, h => by
    simp only [List.set_cons_zero, keyOf, unitK]
    simp
    omega
  | x :: e, i + 1, r, h => by
    have ih := keyOf_set e i r (by simpa using h)
    simp only [List.set_cons_succ, keyOf, ih]
    have hu : unitK (i + 1) = 128 * unitK i := by unfold unitK; rw [Nat.pow_succ]; push_cast; omega
    rw [hu]
    have hg : (x :: e).getD (i + 1) 0 = e.getD i 0 := by simp
    rw [hg]
    generalize r - e.getD i 0 = d
    generalize unitK i = u
    rw [Int.mul_add, ← Int.mul_assoc 128 d u, Int.mul_comm 128 d, Int.mul_assoc d 128 u]
    omega

/-- The exponents at i and behind it set. -/
def divE (i : Nat) (x : List Int) (s r : Int) : List Int := (x.set (i + 1) s).set i r
theorem divE_len (i : Nat) (x : List Int) (s r : Int) : (divE i x s r).length = x.length := by simp [divE]
theorem divE_exps {i : Nat} {x : List Int} {s r : Int} (h : Exps x) (hs : 0 ≤ s ∧ s ≤ 127) (hr : 0 ≤ r ∧ r ≤ 127) : Exps (divE i x s r) := fun y hy => by
  rcases List.mem_or_eq_of_mem_set hy with hy | rfl
  · rcases List.mem_or_eq_of_mem_set hy with hy | rfl
    · exact h y hy
    · exact hs
  · exact hr
theorem divE_key {i : Nat} {x : List Int} (h : Exps x) (hi : i + 1 < x.length) (s r : Int) : keyOf (divE i x s r) = restK (keyOf x) i + r * unitK i + s * unitK (i + 1) := by
  unfold divE restK
  rw [keyOf_set _ _ _ (by simp; omega), keyOf_set _ _ _ hi, atK_key h (by omega), atK_key h hi]
  have hg : (x.set (i + 1) s).getD i 0 = x.getD i 0 := by
    rw [List.getD_eq_getElem?_getD, List.getElem?_set_ne (by omega), List.getD_eq_getElem?_getD]
  rw [hg]
  generalize x.getD i 0 = a
  generalize x.getD (i + 1) 0 = b
  generalize unitK i = u
  generalize unitK (i + 1) = v
  rw [Int.sub_mul, Int.sub_mul]
  omega

def swapE (i : Nat) (x : List Int) : List Int := (x.set i (x.getD (i + 1) 0)).set (i + 1) (x.getD i 0)
theorem swapE_div {i : Nat} (x : List Int) : swapE i x = divE i x (x.getD i 0) (x.getD (i + 1) 0) := by
  unfold swapE divE
  rw [List.set_comm _ _ (by omega)]
theorem swapE_key {i : Nat} {x : List Int} (h : Exps x) (hi : i + 1 < x.length) : keyOf (swapE i x) = swapK (keyOf x) i := by
  rw [swapE_div, divE_key h hi]
  unfold swapK restK
  rw [atK_key h (by omega), atK_key h hi]
  generalize x.getD i 0 = a
  generalize x.getD (i + 1) 0 = b
  generalize unitK i = u
  generalize unitK (i + 1) = v
  rw [Int.sub_mul, Int.sub_mul]
  omega
def swapT (i : Nat) (S : TermL) : TermL := S.map (fun p => (swapE i p.1, p.2))
theorem swapT_mon {i : Nat} {S : TermL} (h : Good7 S) (hi : i ≤ 5) : (swapT i S).map mon = swapM i (S.map mon) := by
  unfold swapT swapM
  rw [List.map_map, List.map_map]
  refine List.map_congr_left (fun p hp => ?_)
  have h1 := h p hp
  show (keyOf (swapE i p.1), p.2) = (swapK (keyOf p.1) i, p.2)
  rw [swapE_key h1.2 (by rw [h1.1]; omega)]
theorem swapT_good {i : Nat} {S : TermL} (h : Good7 S) (hi : i ≤ 5) : Good7 (swapT i S) := fun t ht => by
  obtain ⟨p, hp, rfl⟩ := List.mem_map.1 ht
  have h1 := h p hp
  show (swapE i p.1).length = 7 ∧ Exps (swapE i p.1)
  rw [swapE_div]
  exact ⟨by rw [divE_len, h1.1], divE_exps h1.2 (exps_at h1.2 (by rw [h1.1]; omega) rfl) (exps_at h1.2 (by rw [h1.1]; omega) rfl)⟩

def divTE (i : Nat) (x : List Int) (low : Int) (n : Nat) (c : Int) (j : Nat) : List Int × Int := (divE i x (low + j) (low + n - 1 - j), c)
def rowDto (i : Nat) (p : List Int × Int) (j : Nat) : TermL :=
  (List.range j).map (divTE i p.1 (lowOf (p.1.getD i 0) (p.1.getD (i + 1) 0)) (divN (p.1.getD i 0) (p.1.getD (i + 1) 0)) (divC (p.1.getD i 0) (p.1.getD (i + 1) 0) p.2))
def rowD (i : Nat) (p : List Int × Int) : TermL := rowDto i p (divN (p.1.getD i 0) (p.1.getD (i + 1) 0))
def divT7 (i : Nat) (S : TermL) : TermL := S.flatMap (rowD i)
theorem rowD_mon {i : Nat} {p : List Int × Int} (h : p.1.length = 7 ∧ Exps p.1) (hi : i ≤ 5) : (rowD i p).map mon = divM i (mon p) := by
  have e1 : atK (keyOf p.1) i = p.1.getD i 0 := atK_key h.2 (by rw [h.1]; omega)
  have e2 : atK (keyOf p.1) (i + 1) = p.1.getD (i + 1) 0 := atK_key h.2 (by rw [h.1]; omega)
  unfold rowD rowDto divM divK mon
  simp only [e1, e2]
  rw [List.map_map]
  refine List.map_congr_left (fun j hj => ?_)
  simp only [Function.comp, divTE, divT]
  rw [divE_key h.2 (by rw [h.1]; omega)]
theorem divT7_mon {i : Nat} {S : TermL} (h : Good7 S) (hi : i ≤ 5) : (divT7 i S).map mon = divAll i (S.map mon) := by
  unfold divT7 divAll
  rw [List.map_flatMap, List.flatMap_map]
  induction S with
  | nil => rfl
  | cons p S ih =>
    rw [List.flatMap_cons, List.flatMap_cons, ih (fun q hq => h q (List.mem_cons_of_mem _ hq)), rowD_mon (h p (List.mem_cons_self ..)) hi]
theorem low_bnd {a b : Int} (ha : 0 ≤ a ∧ a ≤ 127) (hb : 0 ≤ b ∧ b ≤ 127) {j : Nat} (hj : j < divN a b) : (0 ≤ lowOf a b + j ∧ lowOf a b + j ≤ 127) ∧ (0 ≤ lowOf a b + (divN a b : Nat) - 1 - j ∧ lowOf a b + (divN a b : Nat) - 1 - j ≤ 127) := by
  unfold divN at hj ⊢
  unfold lowOf
  split <;> omega
theorem divT7_good {i : Nat} {S : TermL} (h : Good7 S) (hi : i ≤ 5) : Good7 (divT7 i S) := fun t ht => by
  obtain ⟨p, hp, ht⟩ := List.mem_flatMap.1 ht
  obtain ⟨j, hj, rfl⟩ := List.mem_map.1 ht
  have h1 := h p hp
  have ha := exps_at h1.2 (i := i) (by rw [h1.1]; omega) rfl
  have hb := exps_at h1.2 (i := i + 1) (by rw [h1.1]; omega) rfl
  have h2 := low_bnd ha hb (List.mem_range.1 hj)
  exact ⟨by rw [show (divTE i p.1 _ _ _ j).1 = divE i p.1 _ _ from rfl, divE_len, h1.1], divE_exps h1.2 h2.1 h2.2⟩

theorem keyOf_add : ∀ (a b : List Int), a.length = b.length → keyOf (addE a b) = keyOf a + keyOf b
  | [], [], _ => rfl
  | [], _ :: _, h => by simp at h
  | _ :: _, [], h => by simp at h
  | x :: a, y :: b, h => by
    have ih := keyOf_add a b (by simpa using h)
    have e : addE (x :: a) (y :: b) = (x + y) :: addE a b := rfl
    rw [e, keyOf, keyOf, keyOf, ih]; omega
theorem prodT_mon {S T : TermL} (hS : Good7 S) (hT : Good7 T) : (prodT S T).map mon = prodM (S.map mon) (T.map mon) := by
  unfold prodT prodM
  rw [List.map_flatMap, List.flatMap_map]
  induction S with
  | nil => rfl
  | cons p S ih =>
    rw [List.flatMap_cons, List.flatMap_cons, ih (fun q hq => hS q (List.mem_cons_of_mem _ hq))]
    congr 1
    unfold rowT rowM
    rw [List.map_map, List.map_map]
    refine List.map_congr_left (fun q hq => ?_)
    show (keyOf (addE p.1 q.1), p.2 * q.2) = (keyOf p.1 + keyOf q.1, p.2 * q.2)
    rw [keyOf_add _ _ (by rw [(hS p (List.mem_cons_self ..)).1, (hT q hq).1])]
theorem plusT_mon (S T : TermL) (k : Int) : (S ++ T.map (fun p => (p.1, k * p.2))).map mon = S.map mon ++ scaleM k (T.map mon) := by
  unfold scaleM
  rw [List.map_append, List.map_map, List.map_map]; rfl

/-! What a polynomial that is right brings. -/
theorem polyB_terms {ts : TermL} (h : polyB ts = true) : ∀ t ∈ ts, TermOk t.1 t.2 := fun t ht => by
  obtain ⟨j, hj, rfl⟩ := List.getElem_of_mem ht
  exact ((polyB_iff.1 h).2 j hj _ _ (List.getElem?_eq_getElem hj)).1
theorem polyB_good {ts : TermL} (h : polyB ts = true) : Good7 ts := fun t ht => ⟨(polyB_terms h t ht).1, ExpTo.exps (polyB_terms h t ht)⟩
theorem polyB_crow {ts : TermL} (h : polyB ts = true) : Crow ts := fun t ht => coef_bnd (polyB_terms h t ht)
theorem polyB_small {ts : TermL} (h : polyB ts = true) : SmallM (ts.map mon) := fun p hp => by
  obtain ⟨t, ht, rfl⟩ := List.mem_map.1 hp
  exact coef_bnd (polyB_terms h t ht)
theorem polyB_keys {ts : TermL} (h : polyB ts = true) : KeyM (ts.map mon) := fun p hp => by
  obtain ⟨t, ht, rfl⟩ := List.mem_map.1 hp
  have h1 := polyB_good h t ht
  have := keyOf_drop_bnd h1.2 (by rw [h1.1]; exact Nat.le_refl _) 0
  show 0 ≤ keyOf t.1 ∧ keyOf t.1 < 562949953421312
  simpa using this
theorem polyB_len {ts : TermL} (h : polyB ts = true) : ts.length ≤ 600 := (polyB_iff.1 h).1
theorem termOk_low {e : List Int} {c : Int} (h : TermOk e c) : ∀ x ∈ e, 0 ≤ x ∧ x ≤ 24 := fun x hx => by
  obtain ⟨i, hi, rfl⟩ := List.getElem_of_mem hx
  have h1 := h.2.2.2 i (by rw [← h.1]; exact hi)
  rw [List.getD_eq_getElem?_getD, List.getElem?_eq_getElem hi, Option.getD_some] at h1
  exact h1
theorem polyB_sorted {ts : TermL} (h : polyB ts = true) : ts.Pairwise (fun a b => keyOf b.1 < keyOf a.1) := by
  have hp := (polyB_iff.1 h).2
  rw [List.pairwise_iff_getElem]
  intro i j hi hj hij
  have step : ∀ (d : Nat) (t : List Int × Int), ts[i + 1 + d]? = some t → keyOf t.1 < keyOf ts[i].1 := by
    intro d
    induction d with
    | zero =>
      intro t ht
      have hd := (List.getElem?_eq_some_iff.1 ht).1
      exact (hp (i + 1) hd t.1 t.2 ht).2 ts[i].1 ts[i].2 (Nat.succ_pos _) (List.getElem?_eq_getElem hi)
    | succ d ih =>
      intro t ht
      have hd := (List.getElem?_eq_some_iff.1 ht).1
      obtain ⟨s, hs⟩ : ∃ s, ts[i + 1 + d]? = some s := ⟨_, List.getElem?_eq_getElem (by omega)⟩
      have h1 := ih s hs
      have h2 := (hp (i + 1 + (d + 1)) hd t.1 t.2 ht).2 s.1 s.2 (by omega) (by
        rw [show i + 1 + (d + 1) - 1 = i + 1 + d by omega]
        exact hs)
      omega
  refine step (j - (i + 1)) ts[j] ?_
  rw [show i + 1 + (j - (i + 1)) = j by omega]
  exact List.getElem?_eq_getElem hj
theorem polyB_clean {ts : TermL} (h : polyB ts = true) : Clean ts := by
  refine ⟨?_, fun p hp => (polyB_terms h p hp).2.1⟩
  rw [List.nodup_iff_pairwise_ne, List.pairwise_map]
  exact (polyB_sorted h).imp (fun {a b} h e => by rw [e] at h; omega)
theorem polyB_val {ts : TermL} (h : polyB ts = true) (e : List Int) : -1000000 ≤ val ts e ∧ val ts e ≤ 1000000 := by
  by_cases hm : e ∈ ts.map (·.1)
  · obtain ⟨p, hp, rfl⟩ := List.mem_map.1 hm
    rw [val_of_mem (polyB_clean h).nodup hp]
    exact polyB_crow h p hp
  · rw [val_zero_of_not_mem hm]; omega
theorem polyB_sml {ts : TermL} (h : polyB ts = true) (e : List Int) (he : val ts e ≠ 0) : ∀ x ∈ e, 0 ≤ x ∧ x ≤ 24 := by
  by_cases hm : e ∈ ts.map (·.1)
  · obtain ⟨p, hp, rfl⟩ := List.mem_map.1 hm
    exact termOk_low (polyB_terms h p hp)
  · exact absurd (val_zero_of_not_mem hm) he
theorem prodT_good {S T : TermL} (hS : polyB S = true) (hT : polyB T = true) : Good7 (prodT S T) := fun t ht => by
  obtain ⟨p, hp, ht⟩ := List.mem_flatMap.1 ht
  obtain ⟨q, hq, rfl⟩ := List.mem_map.1 ht
  have h1 := polyB_terms hS p hp
  have h2 := polyB_terms hT q hq
  refine ⟨addE_len h1.1 h2.1, fun x hx => ?_⟩
  obtain ⟨i, hi, rfl⟩ := List.getElem_of_mem hx
  have hi2 : i < (addE p.1 q.1).length := hi
  have hi' : i < 7 := by rw [addE_len h1.1 h2.1] at hi2; exact hi2
  have a1 := termOk_low h1 _ (List.getElem_mem (show i < p.1.length by rw [h1.1]; exact hi'))
  have a2 := termOk_low h2 _ (List.getElem_mem (show i < q.1.length by rw [h2.1]; exact hi'))
  simp only [addE, List.getElem_zipWith]
  omega
theorem plusT_good {S T : TermL} {k : Int} (hS : Good7 S) (hT : Good7 T) : Good7 (S ++ T.map (fun p => (p.1, k * p.2))) := fun t ht => by
  rcases List.mem_append.1 ht with ht | ht
  · exact hS t ht
  · obtain ⟨q, hq, rfl⟩ := List.mem_map.1 ht
    exact hT q hq

end Go.Proofs.Ytoioiippdchgmaa
