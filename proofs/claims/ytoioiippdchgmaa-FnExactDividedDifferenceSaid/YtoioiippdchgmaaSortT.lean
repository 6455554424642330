/-
  slices.SortFunc over terms (rows of two cells).
-/
import Derived.Test.YtoioiippdchgmaaCmpT
namespace Go.Proofs.Ytoioiippdchgmaa
open Go.RowKit Go.Lib Go.Sort Go.Shelf
set_option linter.unusedVariables false

section
variable {α : Type} [Inhabited α]
theorem heap_sortWid {w : World} {g n : Nat} {os : Array Obj} {cur : Array Value} {e : TypeId} {fr : Nat × Nat} (d : Array Value) (hb : w.heap[g]? = some (.cells cur e fr)) :
    (sortWorld id w g 0 n d os).heap[g]? = some (.cells (putCells id 0 d cur) e fr) := by
  have hg : g < w.heap.size := (Array.getElem?_eq_some_iff.1 hb).1
  unfold sortWorld
  rw [heap_grow_old _ _ (by simpa using hg)]
  simp [putRow, mapBlock, Sort.ahead, Array.getElem?_modify, hb, onCells]
theorem sortWid_grown {w : World} {g n : Nat} {os : Array Obj} (d : Array Value) : w.grownBy (sortWorld id w g 0 n d os) (some g) := by
  refine ⟨rfl, rfl, rfl, by simp [sortWorld], fun k hk hne => ?_⟩
  unfold sortWorld
  rw [heap_grow_old _ _ (by simpa using hk)]
  have : g ≠ k := fun e => hne (by rw [e])
  simp [putRow, mapBlock, Sort.ahead, Array.getElem?_modify, this]
theorem sortK_eq (enc : α → List Value) (k : Nat) (w : World) (g n : Nat) (d : Array α) (os : Array Obj) : sortWorldK enc k w g 0 n d os = sortWorld id w g 0 n (flatK enc k d) os := rfl
theorem take_putId (cur d : Array Value) (h : d.size ≤ cur.size) : (putCells id 0 d cur).toList.take d.size = d.toList := by
  apply List.ext_getElem?
  intro j
  by_cases hj : j < d.size
  · rw [List.getElem?_take_of_lt hj, Array.getElem?_toList]
    simp [putCells, hj, show j < cur.size by omega]
  · rw [List.getElem?_take_eq_none (by omega), List.getElem?_eq_none (by simp; omega)]
theorem perm_of_permInT {d d' : Array α} {n : Nat} (hd : d.size = n) (hp : PermIn 0 n d d') : d'.toList.Perm d.toList := by
  subst hd
  have h := hp.2.2
  rwa [show d'.extract 0 d.size = d' by rw [← hp.1]; simp, show d.extract 0 d.size = d by simp] at h
theorem flat_two (f0 f1 : α → Value) (d : Array α) : (flatK (fun x => [f0 x, f1 x]) 2 d).toList = two f0 f1 d.toList := by
  apply List.ext_getElem
  · rw [two_len]; simp
  · intro t h1 h2
    have ht : t < d.size * 2 := by simpa using h1
    have hj : t / 2 < d.size := by omega
    have hg := get_flatK (fun x => [f0 x, f1 x]) 2 d t ht
    rw [getElem!_pos _ t (by simpa using ht)] at hg
    rw [Array.getElem_toList, hg, getElem!_pos d (t / 2) hj]
    obtain ⟨g0, g1⟩ := two_get f0 f1 d.toList (t / 2) d[t / 2] (by simp [hj])
    have h3 : (two f0 f1 d.toList)[t]? = some (two f0 f1 d.toList)[t] := List.getElem?_eq_getElem h2
    rcases Nat.mod_two_eq_zero_or_one t with h | h
    · have e : t / 2 * 2 = t := by omega
      rw [e, h3] at g0
      rw [Option.some.inj g0, h]; rfl
    · have e : t / 2 * 2 + 1 = t := by omega
      rw [e, h3] at g1
      rw [Option.some.inj g1, h]; rfl
theorem sortT_row {β : Type} {e : TypeId} {B g m cap n : Nat} {w : World} {f0 f1 : β → Value} {us : List β} {os : Array Obj} (rf : α → β) (d : Array α) (h : OwnT e f0 f1 B w (.slice (some ⟨g, 0, none⟩) m cap) us) (hd : d.size = m) :
    OwnT e f0 f1 B (sortWorldK (fun x => [f0 (rf x), f1 (rf x)]) 2 w g 0 n d os) (.slice (some ⟨g, 0, none⟩) m cap) (d.toList.map rf) := by
  have hm := h.eqLen
  rcases h.1.2 with ⟨h0, _⟩ | ⟨g', cap', cur, h0, hB, hb, hnc, hcm, hcs, htk⟩
  · cases h0
  · cases h0
    have hl : (d.toList.map rf).length = us.length := by simp; omega
    rw [sortK_eq]
    refine ⟨⟨by rw [two_len], .inr ⟨g, cap, _, ?_, hB, heap_sortWid _ hb, ?_, hcm, by simp [putCells, hcs], ?_⟩⟩, by rw [hl]; exact h.2⟩
    · rw [hl, hm]
    · rw [hl]; exact hnc
    · have hs : (flatK (fun x => [f0 (rf x), f1 (rf x)]) 2 d).size = d.size * 2 := by simp
      have := take_putId cur (flatK (fun x => [f0 (rf x), f1 (rf x)]) 2 d) (by rw [hs, hcs, hd, hm]; exact Nat.mul_le_mul_right _ (by omega))
      rw [hs, hd, hm] at this
      rw [hl, this, flat_two (fun x => f0 (rf x)) (fun x => f1 (rf x))]
      simp [two, List.flatMap_map]
end

theorem tLen_perm {a b : TermL} (h : a.Perm b) : tLen a = tLen b := by
  induction h with
  | nil => rfl
  | cons x _ ih => simp only [tLen, ih]
  | swap x y l => simp only [tLen]; omega
  | trans _ _ h1 h2 => exact h1.trans h2
theorem OwnI.oneCellT {B : Nat} {w : World} {v : Value} {l : List Int} (h : OwnI B w v l) : v.oneCell' = true := by
  rcases h.1.2 with ⟨rfl, _⟩ | ⟨g, cap, cur, rfl, _⟩ <;> rfl
def SortedT (B : Nat) (v : Value) (ts : TermL) (w : World) (e : Ending) (w' : World) : Prop :=
  e = .returned (.tuple #[]) ∧ ∃ ts', AtT B w'.heap.size w' v ts' ∧ ts'.Perm ts ∧ ts'.Pairwise (fun a b => keyOf b.1 ≤ keyOf a.1) ∧ Below B w w'

theorem sortTerms_c (B hi : Nat) (v : Value) (rs : List (Value × Int)) (ts : TermL) (w : World) (hR : RowT B hi w v rs ts) (hB : B ≤ w.heap.size) (hE : ∀ t ∈ ts, t.1.length = 7 ∧ Exps t.1) :
    Calls Try.prog 50 #[v, .func (.func 51) #[] #[]] w (SortedT B v ts w) := by
  have hlen := hR.len
  by_cases h0 : rs.length = 0
  · have e1 : rs = [] := List.eq_nil_of_length_eq_zero h0
    have e2 : ts = [] := List.eq_nil_of_length_eq_zero (by omega)
    obtain ⟨ao, c, hv, _, _⟩ := hR.row.shape
    rw [h0] at hv
    subst hv
    refine (Try.slices_SortFunc_none ao c _ w).mono ?_
    rintro e w' ⟨rfl, rfl⟩
    exact ⟨rfl, ts, ⟨rs, hR.raise (Nat.le_refl _) hR.size (Nat.le_refl _)⟩, List.Perm.refl _, by subst e2; exact List.Pairwise.nil, Below.refl _ _⟩
  · obtain ⟨ao, cap, hv, hcap, hcm, hne⟩ := hR.row.shape
    obtain ⟨g, rfl⟩ := hne (fun e => h0 (by rw [e]; rfl))
    subst hv
    obtain ⟨m, hm⟩ : ∃ m, rs.length = m + 1 := ⟨rs.length - 1, by omega⟩
    have hml : ts.length = m + 1 := by omega
    have hblk := hR.row.block g rfl
    let rf : Fin (m + 1) → Value × Int := fun i => rs.getD i.val (.slice none 0 0, 0)
    let tf : Fin (m + 1) → List Int × Int := fun i => ts.getD i.val ([], 0)
    let enc : Fin (m + 1) → List Value := fun i => [tf0 (rf i), tf1 (rf i)]
    let cf : Fin (m + 1) → Fin (m + 1) → Int := fun i j => byOf (tf i).1 (tf j).1 7
    let d : Array (Fin (m + 1)) := Array.ofFn id
    have hds : d.size = m + 1 := by simp [d]
    have hre : ∀ i : Fin (m + 1), rs[i.val]? = some (rf i) := fun i => by
      have h := i.isLt
      simp only [rf, List.getD_eq_getElem?_getD]
      rw [List.getElem?_eq_getElem (by omega)]; rfl
    have hte : ∀ i : Fin (m + 1), ts[i.val]? = some (tf i) := fun i => by
      have h := i.isLt
      simp only [tf, List.getD_eq_getElem?_getD]
      rw [List.getElem?_eq_getElem (by omega)]; rfl
    have hue : ∀ i : Fin (m + 1), (rs.map Prod.fst)[i.val]? = some (rf i).1 := fun i => by rw [List.getElem?_map, hre i]; rfl
    have hown : ∀ i : Fin (m + 1), OwnI B w (rf i).1 (tf i).1 := fun i => hR.parts.own i.val _ _ (hue i) (by rw [List.getElem?_map, hte i]; rfl)
    have hco : ∀ i : Fin (m + 1), (rf i).2 = (tf i).2 := fun i => by
      have h2 : (rs.map Prod.snd)[i.val]? = (ts.map Prod.snd)[i.val]? := by rw [hR.coefs]
      rw [List.getElem?_map, List.getElem?_map, hre i, hte i] at h2
      simpa using h2
    have hEt : ∀ i : Fin (m + 1), (tf i).1.length = 7 ∧ Exps (tf i).1 := fun i => hE _ (List.mem_of_getElem? (hte i))
    have hclr : ∀ i : Fin (m + 1), ∀ k, (rf i).1.ownBlock = some k → k ≠ g := fun i k hk e => hR.clear i.val _ (hue i) k hk (by rw [e]; rfl)
    have hgr : ∀ (n : Nat) (dk : Array (Fin (m + 1))) (os : Array Obj), w.grownBy (sortWorldK enc 2 w g 0 n dk os) (some g) := fun n dk os => by rw [sortK_eq]; exact sortWid_grown _
    have hkeep : ∀ (i : Fin (m + 1)) (n : Nat) (dk : Array (Fin (m + 1))) (os : Array Obj), OwnI B (sortWorldK enc 2 w g 0 n dk os) (rf i).1 (tf i).1 := fun i n dk os =>
      (hown i).grown (hgr n dk os) (by
        cases hq : (rf i).1.ownBlock with
        | none => exact .inl rfl
        | some k => exact .inr fun e => hclr i k hq (Option.some.inj e))
    have hlt : ∀ x y, ltOf cf x y = decide (keyOf (tf y).1 < keyOf (tf x).1) := fun x y => by
      have h := (byOf_sign (hEt x).2 (hEt y).2 ((hEt x).1.trans (hEt y).1.symm) 7 (by rw [(hEt x).1]; exact Nat.le_refl _) (by rw [List.drop_eq_nil_of_le (by rw [(hEt x).1]; exact Nat.le_refl _), List.drop_eq_nil_of_le (by rw [(hEt y).1]; exact Nat.le_refl _)])).1
      unfold ltOf
      exact decide_eq_decide.2 h
    have hO : SWO (ltOf cf) := {
      irrefl := fun x => by rw [hlt]; exact decide_eq_false (by omega)
      trans := fun x y z h1 h2 => by rw [hlt] at h1 h2 ⊢; have := of_decide_eq_true h1; have := of_decide_eq_true h2; exact decide_eq_true (by omega)
      ntrans := fun x y z h1 h2 => by rw [hlt] at h1 h2 ⊢; have := of_decide_eq_false h1; have := of_decide_eq_false h2; exact decide_eq_false (by omega) }
    have hcmp : CmpLays Try.prog 51 #[] enc 2 cf g 0 d.size w := fun n os dk _ x y =>
      closeT_c (rf x).1 (rf y).1 (tf x).1 (tf y).1 (rf x).2 (rf y).2 _ (hkeep x n dk os).ints (hkeep y n dk os).ints (hEt x).1 (hEt y).1 (hEt x).2 (hEt y).2
    have hdj : ∀ j, ∀ h : j < m + 1, d[j]! = ⟨j, h⟩ := fun j h => by
      rw [getElem!_pos d j (by rw [hds]; exact h)]; simp [d]
    have hH : HoldsK enc 2 w g 0 d := fun t ht => by
      have ht' : t < d.size * 2 := by simpa using ht
      have hj : t / 2 < m + 1 := by omega
      rw [get_flatK enc 2 d t ht', hdj _ hj, Nat.zero_add]
      refine ⟨?_, hR.row.free t⟩
      rcases Nat.mod_two_eq_zero_or_one t with h | h
      · have := hR.row.cell0 (hre ⟨t / 2, hj⟩)
        rw [h]
        rwa [show t / 2 * 2 = t by omega] at this
      · have := hR.row.cell1 (hre ⟨t / 2, hj⟩)
        rw [h]
        rwa [show t / 2 * 2 + 1 = t by omega] at this
    have key := Try.slices_SortFunc_T (α := Fin (m + 1)) enc (fun x => rfl) (fun x v hv => by
        rcases List.mem_cons.1 hv with rfl | hv
        · exact (hown x).oneCellT
        · rw [List.mem_singleton.1 hv]; rfl) cf hO 51 #[] g 0 cap d w (enters_of Try.func51 (by kernel_rfl) rfl) hcmp hH hblk.2 (by rw [hds, ← hm]; have := hR.row.2; omega)
    rw [hds] at key
    have hR' := hR
    rw [hm] at hR' ⊢
    refine key.mono ?_
    rintro e w' ⟨rfl, d', n, os, hp, hs, rfl⟩
    have hd's : d'.size = m + 1 := hp.1.trans hds
    have hperm : d'.toList.Perm d.toList := perm_of_permInT hds hp
    have hdg : ∀ (j : Nat) (h : j < d.toList.length), (d.toList[j]).val = j := fun j h => by
      rw [Array.getElem_toList, Array.getElem_ofFn]; rfl
    have hnd : d'.toList.Nodup := by
      rw [hperm.nodup_iff, List.nodup_iff_pairwise_ne, List.pairwise_iff_getElem]
      intro i j hi hj hij e
      have e2 := congrArg Fin.val e
      rw [hdg i hi, hdg j hj] at e2
      omega
    have hdtl : d.toList.length = m + 1 := by rw [Array.length_toList, hds]
    have hdl : d.toList.map tf = ts := by
      apply List.ext_getElem?
      intro j
      by_cases hj : j < m + 1
      · have hj' : j < d.toList.length := by rw [hdtl]; exact hj
        rw [List.getElem?_map, List.getElem?_eq_getElem hj', Option.map_some, ← hte, hdg j hj']
      · rw [List.getElem?_eq_none (by rw [List.length_map, hdtl]; omega), List.getElem?_eq_none (by omega)]
    have hgu : ∀ (j : Nat) u, ((d'.toList.map rf).map Prod.fst)[j]? = some u → ∃ i : Fin (m + 1), d'.toList[j]? = some i ∧ u = (rf i).1 := fun j u h => by
      rw [List.getElem?_map, List.getElem?_map] at h
      cases hx : d'.toList[j]? with
      | none => rw [hx] at h; simp at h
      | some i => rw [hx] at h; exact ⟨i, rfl, (Option.some.inj h).symm⟩
    have hsz : w.heap.size ≤ (sortWorldK enc 2 w g 0 n d' os).heap.size := (hgr n d' os).size
    have hrow : OwnT 46 tf0 tf1 B (sortWorldK enc 2 w g 0 n d' os) (.slice (some ⟨g, 0, none⟩) (m + 1) cap) (d'.toList.map rf) := sortT_row (n := n) (os := os) rf d' hR'.row hd's
    have hps : (d'.toList.map tf).Perm ts := by rw [← hdl]; exact hperm.map tf
    refine ⟨rfl, d'.toList.map tf, ⟨d'.toList.map rf, hrow, ⟨by simp, fun j u l hu hl => ?_, fun i j u u' hij hu hu' => ?_⟩, ?_, fun j u hu k hk => ?_, fun k hk => (hrow.block k hk).2, fun j u hu k hk => ?_, Nat.le_refl _, ?_⟩, hps, ?_, ?_⟩
    · obtain ⟨i, hi, rfl⟩ := hgu j u hu
      rw [List.getElem?_map, List.getElem?_map, hi] at hl
      obtain rfl := Option.some.inj hl
      exact hkeep i n d' os
    · obtain ⟨a, ha, rfl⟩ := hgu i u hu
      obtain ⟨b, hb, rfl⟩ := hgu j u' hu'
      have hab : a.val ≠ b.val := fun e => by
        have e2 : a = b := Fin.ext e
        subst e2
        obtain ⟨h1, h2⟩ := List.getElem?_eq_some_iff.1 ha
        obtain ⟨h3, h4⟩ := List.getElem?_eq_some_iff.1 hb
        exact hij ((List.getElem_inj (h₀ := h1) (h₁ := h3) hnd).1 (h2.trans h4.symm))
      exact hR.parts.apart a.val b.val _ _ hab (hue a) (hue b)
    · rw [List.map_map, List.map_map]
      exact List.map_congr_left fun i _ => hco i
    · obtain ⟨i, _, rfl⟩ := hgu j u hu
      exact hR.clear i.val _ (hue i) k hk
    · obtain ⟨i, _, rfl⟩ := hgu j u hu
      exact Nat.lt_of_lt_of_le ((hown i).block k hk).2 hsz
    · rw [tLen_perm hps]; exact hR.bound
    · rw [List.pairwise_iff_getElem]
      intro i j hi hj hij
      simp only [List.length_map, Array.length_toList, hd's] at hi hj
      have := hs i j (Nat.zero_le _) hij hj
      rw [getElem!_pos d' i (by omega), getElem!_pos d' j (by omega), hlt] at this
      simp only [List.getElem_map, Array.getElem_toList]
      have := of_decide_eq_false this
      omega
    · exact (Below.refl _ _).grown (hgr n d' os) hB (fun k hk => by cases hk; exact hblk.1)

end Go.Proofs.Ytoioiippdchgmaa
