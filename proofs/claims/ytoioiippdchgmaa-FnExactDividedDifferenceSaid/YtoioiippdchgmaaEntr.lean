/-
  The entries of a map of terms as a list.
-/
import Derived.Test.YtoioiippdchgmaaPlus
namespace Go.Proofs.Ytoioiippdchgmaa
open Go.RowKit Go.Maps Go.WideElems Go.ChangeMaps Go.WideShapes Go.MapKept
set_option linter.unusedVariables false

noncomputable abbrev elI (v : Value) : Option (DataW Unit × List MemPlace) := plainElem Try.prog 3 v
def litP (p : List Int × Int) : Lit × DataW Unit := (litE p.1, .lit (.int .i64 p.2))
theorem entries_list : ∀ (l : List MapEntry), (∀ x ∈ l, ∃ y, rd Try.prog 59 elI x = some y) →
    ∃ L : TermL, L.length = l.length ∧ l.map (rg Try.prog 59 elI) = L.map litP ∧ All7 L
  | [], _ => ⟨[], rfl, rfl, fun p hp => by cases hp⟩
  | x :: l, h => by
    obtain ⟨L, h1, h2, h3⟩ := entries_list l (fun y hy => h y (List.mem_cons_of_mem _ hy))
    obtain ⟨y, hy⟩ := h x (List.mem_cons_self ..)
    obtain ⟨e, he, hk⟩ := Try.keyE_inv (rd_key hy)
    obtain ⟨z, hz, hzd⟩ := rd_val hy
    obtain ⟨c, hc, hz2, _⟩ := plainElem_int_inv Try.underlying3 hz
    have hkl : y.1 = litE e := by
      have h4 := rd_key hy
      rw [hk, Try.keyE_mk he] at h4
      exact (Option.some.inj h4).symm
    refine ⟨(e, c) :: L, by simp [h1], ?_, fun p hp => ?_⟩
    · rw [List.map_cons, List.map_cons, h2, rg_of hy]
      congr 1
      refine Prod.ext hkl ?_
      rw [hzd, hz2]; rfl
    · rcases List.mem_cons.1 hp with rfl | hp
      · exact he
      · exact h3 p hp
theorem OwnE.list {w : World} {b n : Nat} {D : DataW Unit} {F : List Int → Int} (h : OwnE w b n D) (hF : HoldsF D F) :
    ∃ L : TermL, Clean L ∧ All7 L ∧ L.length = Maps.size D ∧ ∀ e, E7 e → val L e = F e := by
  obtain ⟨es, clock, hb, Fi, hs, rfl⟩ := h
  obtain ⟨L, h1, h2, h3⟩ := entries_list es.toList Fi.reads
  have hap := Maps.fit_apart Try.keyE Fi
  have hris := Maps.fit_rising Try.keyE Fi
  rw [h2] at hap hris hF ⊢
  have hnd : (L.map (·.1)).Nodup := by
    rw [List.nodup_iff_pairwise_ne, List.pairwise_map]
    rw [List.pairwise_map] at hap
    exact hap.imp (fun {p q} hpq e => hpq (by show litE p.1 = litE q.1; rw [e]))
  have hat : ∀ p ∈ L, F p.1 = p.2 := fun p hp => by
    have h4 := (atKey_sorted (L.map litP) hris (litE p.1) (litE_key _)).2 (litP p) (List.mem_map.2 ⟨p, hp, rfl⟩) rfl
    have h5 := hF.at_ p.1 (h3 p hp)
    rw [h4] at h5
    injection (DataW.lit.inj h5) with _ h6
    exact h6.symm
  have hhas : ∀ p ∈ L, F p.1 ≠ 0 := fun p hp => by
    have h4 := hF.has p.1 (h3 p hp)
    have : Maps.has (DataW.map ((L.map litP).foldr DataW.insert [])) (litE p.1) = true :=
      List.any_eq_true.2 ⟨litP p, mem_sorted.2 (List.mem_map.2 ⟨p, hp, rfl⟩), WideAt.sameKey_self (litE_key _)⟩
    rw [this] at h4
    exact of_decide_eq_true h4.symm
  refine ⟨L, ⟨hnd, fun p hp => by rw [← hat p hp]; exact hhas p hp⟩, h3, ?_, fun e he => ?_⟩
  · simp [Maps.size, length_sorted]
  · by_cases hm : e ∈ L.map (·.1)
    · obtain ⟨p, hp, rfl⟩ := List.mem_map.1 hm
      rw [val_of_mem hnd hp, hat p hp]
    · rw [val_zero_of_not_mem hm]
      by_cases h0 : F e = 0
      · exact h0.symm
      · have h4 := hF.has e he
        rw [decide_eq_true h0] at h4
        obtain ⟨q, hq, hqk⟩ := List.any_eq_true.1 h4
        obtain ⟨p, hp, rfl⟩ := List.mem_map.1 (mem_sorted.1 hq)
        exact absurd (List.mem_map.2 ⟨p, hp, litE_inj (h3 p hp) he (WideAt.sameKey_eq hqk)⟩) hm

end Go.Proofs.Ytoioiippdchgmaa
