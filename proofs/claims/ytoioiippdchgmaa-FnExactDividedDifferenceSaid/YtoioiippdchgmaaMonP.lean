/-
  Terms as numbers and terms with lists of exponents. Plain Lean.
-/
import Derived.Test.YtoioiippdchgmaaExpS
import Derived.Test.YtoioiippdchgmaaPolyV
import Derived.Test.YtoioiippdchgmaaMonQ
namespace Go.Proofs.Ytoioiippdchgmaa
set_option linter.unusedVariables false

/-! Terms with lists of exponents. -/
def mon (t : List Int × Int) : Int × Int := (keyOf t.1, t.2)
def unmon (p : Int × Int) : List Int × Int := (digits 7 p.1, p.2)
def Good7 (L : TermL) : Prop := ∀ t ∈ L, t.1.length = 7 ∧ Exps t.1
def gathT (L : TermL) : TermL := (gatM (L.map mon)).map unmon
theorem unmon_mon {t : List Int × Int} (h : t.1.length = 7 ∧ Exps t.1) : unmon (mon t) = t := by
  unfold unmon mon
  have := digits_key t.1 h.2
  rw [h.1] at this
  rw [this]
theorem mon_key {L : TermL} (hL : Good7 L) {p : Int × Int} (h : p ∈ gatM (L.map mon)) : ∃ e : List Int, (e.length = 7 ∧ Exps e) ∧ keyOf e = p.1 ∧ digits 7 p.1 = e := by
  obtain ⟨q, hq, hk⟩ := gatM_key _ p h
  obtain ⟨t, ht, rfl⟩ := List.mem_map.1 hq
  have h1 := hL t ht
  refine ⟨t.1, h1, hk, ?_⟩
  rw [← hk]
  have := digits_key t.1 h1.2
  rw [h1.1] at this
  exact this
theorem gathT_good {L : TermL} (hL : Good7 L) : Good7 (gathT L) := fun t ht => by
  obtain ⟨p, hp, rfl⟩ := List.mem_map.1 ht
  obtain ⟨e, he, _, h2⟩ := mon_key hL hp
  show (digits 7 p.1).length = 7 ∧ Exps (digits 7 p.1)
  rw [h2]; exact he
theorem gathT_mon {L : TermL} (hL : Good7 L) : (gathT L).map mon = gatM (L.map mon) := by
  unfold gathT
  rw [List.map_map]
  conv => rhs; rw [← List.map_id (gatM (L.map mon))]
  refine List.map_congr_left (fun p hp => ?_)
  obtain ⟨e, he, h1, h2⟩ := mon_key hL hp
  show (keyOf (digits 7 p.1), p.2) = p
  rw [h2, h1]
theorem val_mon {L : TermL} (hL : Good7 L) {e : List Int} (he : e.length = 7 ∧ Exps e) : val L e = valM (L.map mon) (keyOf e) := by
  induction L with
  | nil => rfl
  | cons t L ih =>
    have h1 := hL t (List.mem_cons_self ..)
    rw [val, List.map_cons, valM, ih (fun q hq => hL q (List.mem_cons_of_mem _ hq))]
    by_cases h : t.1 = e
    · rw [if_pos h, if_pos (show (mon t).1 = keyOf e by show keyOf t.1 = keyOf e; rw [h])]; rfl
    · rw [if_neg h, if_neg (show ¬ (mon t).1 = keyOf e from fun h2 => h (key_inj h1.2 he.2 (by rw [h1.1, he.1]) h2))]
theorem val_bad {L : TermL} (hL : Good7 L) {e : List Int} (he : ¬ (e.length = 7 ∧ Exps e)) : val L e = 0 := val_zero_of_not_mem (fun hm => by
  obtain ⟨t, ht, rfl⟩ := List.mem_map.1 hm
  exact he (hL t ht))
theorem gathT_val {L : TermL} (hL : Good7 L) (e : List Int) : val (gathT L) e = val L e := by
  by_cases he : e.length = 7 ∧ Exps e
  · rw [val_mon (gathT_good hL) he, val_mon hL he, gathT_mon hL, gatM_val]
  · rw [val_bad (gathT_good hL) he, val_bad hL he]
theorem gathT_sorted {L : TermL} (hL : Good7 L) : (gathT L).Pairwise (fun a b => keyOf b.1 < keyOf a.1) := by
  have h := (gatM_desc (L.map mon)).sorted
  rw [← gathT_mon hL] at h
  exact List.pairwise_map.1 h
theorem gathT_clean {L : TermL} (hL : Good7 L) : Clean (gathT L) := by
  refine ⟨?_, fun t ht => ?_⟩
  · rw [List.nodup_iff_pairwise_ne, List.pairwise_map]
    exact (gathT_sorted hL).imp (fun {a b} h e => by rw [e] at h; omega)
  · obtain ⟨p, hp, rfl⟩ := List.mem_map.1 ht
    exact (gatM_desc _).nonzero p hp
theorem good_E7 {e : List Int} (h : e.length = 7 ∧ Exps e) : E7 e := ⟨h.1, fun x hx => by have := h.2 x hx; omega⟩
theorem Good7.all7 {L : TermL} (h : Good7 L) : All7 L := fun p hp => good_E7 (h p hp)

end Go.Proofs.Ytoioiippdchgmaa
