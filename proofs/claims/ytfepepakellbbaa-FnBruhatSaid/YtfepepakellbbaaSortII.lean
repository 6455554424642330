/-
  slices.SortFunc over rows of lists of ints.
-/
import Derived.Test.YtfepepakellbbaaLexC
import Derived.Test.YtfepepakellbbaaPushII
namespace Go.Proofs.Ytfepepakellbbaa
open Go.RowKit Go.Lib Go.Sort Go.Shelf
set_option linter.unusedVariables false

section
variable {α : Type} [Inhabited α] {enc : α → Value}
theorem heap_sortW {w : World} {g n : Nat} {os : Array Obj} {cur : Array Value} {e : TypeId} {fr : Nat × Nat} (d : Array α) (hb : w.heap[g]? = some (.cells cur e fr)) :
    (sortWorld enc w g 0 n d os).heap[g]? = some (.cells (putCells enc 0 d cur) e fr) := by
  have hg : g < w.heap.size := (Array.getElem?_eq_some_iff.1 hb).1
  unfold sortWorld
  rw [heap_grow_old _ _ (by simpa using hg)]
  simp [putRow, mapBlock, Sort.ahead, Array.getElem?_modify, hb, onCells]
theorem sortW_grown {w : World} {g n : Nat} {os : Array Obj} (d : Array α) : w.grownBy (sortWorld enc w g 0 n d os) (some g) := by
  refine ⟨rfl, rfl, rfl, by simp [sortWorld], fun k hk hne => ?_⟩
  unfold sortWorld
  rw [heap_grow_old _ _ (by simpa using hk)]
  have : g ≠ k := fun e => hne (by rw [e])
  simp [putRow, mapBlock, Sort.ahead, Array.getElem?_modify, this]
theorem take_putCellsA (cur : Array Value) (d : Array α) (h : d.size ≤ cur.size) : (putCells enc 0 d cur).toList.take d.size = d.toList.map enc := by
  apply List.ext_getElem?
  intro j
  by_cases hj : j < d.size
  · rw [List.getElem?_take_of_lt hj, Array.getElem?_toList]
    simp [putCells, hj, show j < cur.size by omega]
  · rw [List.getElem?_take_eq_none (by omega), List.getElem?_eq_none (by simp; omega)]
theorem perm_of_permIn {d d' : Array α} {n : Nat} (hd : d.size = n) (hp : PermIn 0 n d d') : d'.toList.Perm d.toList := by
  subst hd
  have h := hp.2.2
  rwa [show d'.extract 0 d.size = d' by rw [← hp.1]; simp, show d.extract 0 d.size = d by simp] at h
theorem sortW_row {e : TypeId} {B g m cap n : Nat} {w : World} {us : List Value} {os : Array Obj} (d : Array α) (h : OwnL e id B w (.slice (some ⟨g, 0, none⟩) m cap) us) (hd : d.size = m) :
    OwnL e id B (sortWorld enc w g 0 n d os) (.slice (some ⟨g, 0, none⟩) m cap) (d.toList.map enc) := by
  have hm := h.eqLen
  rcases h.1.2 with ⟨h0, _⟩ | ⟨g', cap', cur, h0, hB, hb, hnc, hcm, hcs, htk⟩
  · cases h0
  · cases h0
    have hl : (d.toList.map enc).length = us.length := by simp; omega
    refine ⟨⟨by simp, .inr ⟨g, cap, _, ?_, hB, heap_sortW d hb, ?_, hcm, by simp [putCells, hcs], ?_⟩⟩, by rw [hl]; exact h.2⟩
    · rw [hl, hm]
    · rw [hl]; exact hnc
    · rw [hl, Nat.mul_one, ← hm, ← hd, List.map_id]
      exact take_putCellsA cur d (by rw [hcs, hd, hm]; omega)
end

def SortedII (B : Nat) (v : Value) (ls : ListsL) (w : World) (e : Ending) (w' : World) : Prop :=
  e = .returned (.tuple #[]) ∧ ∃ us' ls', RowII B w'.heap.size w' v us' ls' ∧ ls'.Perm ls ∧ ls'.Pairwise (fun a b => lexLt b a = false) ∧ Below B w w'

theorem OwnI.oneCell {B : Nat} {w : World} {v : Value} {l : List Int} (h : OwnI B w v l) : v.oneCell' = true := by
  rcases h.1.2 with ⟨rfl, _⟩ | ⟨g, cap, cur, rfl, _⟩ <;> rfl

theorem sortRows_c (B hi : Nat) (v : Value) (us : List Value) (ls : ListsL) (w : World) (hR : RowII B hi w v us ls) (hB : B ≤ w.heap.size) :
    Calls Try.prog 48 #[v, .func (.func 49) #[] #[]] w (SortedII B v ls w) := by
  have hlen := hR.len
  by_cases h0 : us.length = 0
  · have e1 : us = [] := List.eq_nil_of_length_eq_zero h0
    have e2 : ls = [] := List.eq_nil_of_length_eq_zero (by omega)
    obtain ⟨ao, c, hv, _, _⟩ := hR.row.shape
    rw [h0] at hv
    subst hv
    refine (Try.slices_SortFunc_none (α := Nat) ao c _ w).mono ?_
    rintro e w' ⟨rfl, rfl⟩
    exact ⟨rfl, us, ls, hR.raise (Nat.le_refl _) hR.size (Nat.le_refl _), List.Perm.refl _, by subst e2; exact List.Pairwise.nil, Below.refl _ _⟩
  · obtain ⟨ao, cap, hv, hcap, hne⟩ := hR.row.shape
    obtain ⟨g, rfl⟩ := hne (fun e => h0 (by rw [e]; rfl))
    subst hv
    obtain ⟨m, hm⟩ : ∃ m, us.length = m + 1 := ⟨us.length - 1, by omega⟩
    have hml : ls.length = m + 1 := by omega
    have hblk := hR.row.block g rfl
    let enc : Fin (m + 1) → Value := fun i => us.getD i.val (.slice none 0 0)
    let lf : Fin (m + 1) → List Int := fun i => ls.getD i.val []
    let cf : Fin (m + 1) → Fin (m + 1) → Int := fun i j => cmpL (lf i) (lf j)
    let d : Array (Fin (m + 1)) := Array.ofFn id
    have hds : d.size = m + 1 := by simp [d]
    have hue : ∀ i : Fin (m + 1), us[i.val]? = some (enc i) := fun i => by
      have h := i.isLt
      simp only [enc, List.getD_eq_getElem?_getD]
      rw [List.getElem?_eq_getElem (by omega)]; rfl
    have hle : ∀ i : Fin (m + 1), ls[i.val]? = some (lf i) := fun i => by
      have h := i.isLt
      simp only [lf, List.getD_eq_getElem?_getD]
      rw [List.getElem?_eq_getElem (by omega)]; rfl
    have hown : ∀ i : Fin (m + 1), OwnI B w (enc i) (lf i) := fun i => hR.parts.own i.val _ _ (hue i) (hle i)
    have hclr : ∀ i : Fin (m + 1), ∀ k, (enc i).ownBlock = some k → k ≠ g := fun i k hk e => hR.clear i.val _ (hue i) k hk (by rw [e]; rfl)
    have hkeep : ∀ (i : Fin (m + 1)) (n : Nat) (dk : Array (Fin (m + 1))) (os : Array Obj), OwnI B (sortWorld enc w g 0 n dk os) (enc i) (lf i) := fun i n dk os =>
      (hown i).grown (sortW_grown dk) (by
        cases hq : (enc i).ownBlock with
        | none => exact .inl rfl
        | some k => exact .inr fun e => hclr i k hq (Option.some.inj e))
    have hO : SWO (ltOf cf) := {
      irrefl := fun x => lexLt_irrefl (lf x)
      trans := fun x y z h1 h2 => lexLt_trans (a := lf x) (b := lf y) (c := lf z) h1 h2
      ntrans := fun x y z h1 h2 => lexLt_ntrans (a := lf x) (b := lf y) (c := lf z) h1 h2 }
    have hcmp : CmpLays1 Try.prog 49 #[] enc cf g 0 d.size w := fun n os dk _ x y => by
      refine (compare_c (enc x) (enc y) (lf x) (lf y) _ (hkeep x n dk os).ints (hkeep y n dk os).ints).mono ?_
      rintro e w' ⟨rfl, rfl⟩
      exact ⟨rfl, 0, #[], by rw [grow_empty]; rfl⟩
    have hdj : ∀ j, j < m + 1 → ∀ h : j < m + 1, d[j]! = ⟨j, h⟩ := fun j _ h => by
      rw [getElem!_pos d j (by rw [hds]; exact h)]; simp [d]
    have hH : Holds enc w g 0 d := fun j hj => by
      have hj' : j < m + 1 := by rw [← hds]; exact hj
      rw [hdj j hj' hj', Nat.zero_add]
      exact ⟨hR.row.cellAt (hue ⟨j, hj'⟩), hR.row.free j⟩
    have key := Try.slices_SortFunc (α := Fin (m + 1)) enc (fun x => (hown x).oneCell) cf hO 49 #[] g 0 cap d w (enters_of Try.func49 (by kernel_rfl) rfl) hcmp hH hblk.2 (by rw [hds, ← hm]; have := hR.row.2; omega)
    rw [hds] at key
    have hR' := hR
    rw [hm] at hR' ⊢
    refine key.mono ?_
    rintro e w' ⟨rfl, d', n, os, hp, hs, rfl⟩
    have hd's : d'.size = m + 1 := hp.1.trans hds
    have hperm : d'.toList.Perm d.toList := perm_of_permIn hds hp
    have hdg : ∀ (j : Nat) (h : j < d.toList.length), (d.toList[j]).val = j := fun j h => by
      rw [Array.getElem_toList, Array.getElem_ofFn]; rfl
    have hnd : d'.toList.Nodup := by
      rw [hperm.nodup_iff, List.nodup_iff_pairwise_ne, List.pairwise_iff_getElem]
      intro i j hi hj hij e
      have e2 := congrArg Fin.val e
      rw [hdg i hi, hdg j hj] at e2
      omega
    have hdtl : d.toList.length = m + 1 := by rw [Array.length_toList, hds]
    have hdl : d.toList.map lf = ls := by
      apply List.ext_getElem?
      intro j
      by_cases hj : j < m + 1
      · have hj' : j < d.toList.length := by rw [hdtl]; exact hj
        rw [List.getElem?_map, List.getElem?_eq_getElem hj', Option.map_some, ← hle, hdg j hj']
      · rw [List.getElem?_eq_none (by rw [List.length_map, hdtl]; omega), List.getElem?_eq_none (by omega)]
    have hgu : ∀ (j : Nat) u, (d'.toList.map enc)[j]? = some u → ∃ i : Fin (m + 1), d'.toList[j]? = some i ∧ u = enc i := fun j u h => by
      rw [List.getElem?_map] at h
      cases hx : d'.toList[j]? with
      | none => rw [hx] at h; simp at h
      | some i => rw [hx] at h; exact ⟨i, rfl, (Option.some.inj h).symm⟩
    have hsz : w.heap.size ≤ (sortWorld enc w g 0 n d' os).heap.size := (sortW_grown d').size
    have hrow := sortW_row (enc := enc) (n := n) (os := os) d' hR'.row hd's
    have hps : (d'.toList.map lf).Perm ls := by rw [← hdl]; exact hperm.map lf
    refine ⟨rfl, d'.toList.map enc, d'.toList.map lf, ⟨hrow, ⟨by simp, fun j u l hu hl => ?_, fun i j u u' hij hu hu' => ?_⟩, fun j u hu k hk => ?_, fun k hk => (hrow.block k hk).2, fun j u hu k hk => ?_, Nat.le_refl _, ?_⟩, hps, ?_, ?_⟩
    · obtain ⟨i, hi, rfl⟩ := hgu j u hu
      rw [List.getElem?_map, hi] at hl
      obtain rfl := Option.some.inj hl
      exact hkeep i n d' os
    · obtain ⟨a, ha, rfl⟩ := hgu i u hu
      obtain ⟨b, hb, rfl⟩ := hgu j u' hu'
      have hab : a.val ≠ b.val := fun e => by
        have e2 : a = b := Fin.ext e
        subst e2
        obtain ⟨h1, h2⟩ := List.getElem?_eq_some_iff.1 ha
        obtain ⟨h3, h4⟩ := List.getElem?_eq_some_iff.1 hb
        exact hij ((List.getElem_inj (h₀ := h1) (h₁ := h3) hnd).1 (h2.trans h4.symm))
      exact hR.parts.apart a.val b.val _ _ hab (hue a) (hue b)
    · obtain ⟨i, _, rfl⟩ := hgu j u hu
      exact hR.clear i.val _ (hue i) k hk
    · obtain ⟨i, _, rfl⟩ := hgu j u hu
      exact Nat.lt_of_lt_of_le ((hown i).block k hk).2 hsz
    · rw [iiLen_perm hps]; exact hR.bound
    · rw [List.pairwise_iff_getElem]
      intro i j hi hj hij
      simp only [List.length_map, Array.length_toList, hd's] at hi hj
      have := hs i j (Nat.zero_le _) hij hj
      rw [getElem!_pos d' i (by omega), getElem!_pos d' j (by omega)] at this
      simp only [List.getElem_map, Array.getElem_toList]
      exact this
    · exact (Below.refl _ _).grown (sortW_grown d') hB (fun k hk => by cases hk; exact hblk.1)

end Go.Proofs.Ytfepepakellbbaa
