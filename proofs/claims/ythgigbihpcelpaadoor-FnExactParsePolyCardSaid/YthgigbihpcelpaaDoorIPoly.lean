/-
  Contracts: ParsePoly of the program.
-/
import Derived.Test.YthgigbihpcelpaaDoorPPoly
namespace Go.Proofs.YthgigbihpcelpaaDoor
open Go.RowKit
set_option linter.unusedVariables false

theorem cut_len (x : List UInt8) (c : UInt8) : (Lib.cut x [c]).1.length ≤ x.length ∧ (Lib.cut x [c]).2.1.length ≤ x.length := by
  unfold Lib.cut
  split
  · simp only [List.length_take, List.length_drop]; omega
  · simp
theorem cutS_c (x : List UInt8) (m : Int) (w : World) (hs : x.length ≤ 1048576) (hm : w.cell? ⟨0, 0, none⟩ = some (.int .i64 m)) :
    Calls Tryd.prog 20 #[.string (strOf x), .string ⟨#[58]⟩] w fun e w' => e = .returned (.tuple #[.string (strOf (Lib.cut x [58]).1), .string (strOf (Lib.cut x [58]).2.1), .bool (Lib.cut x [58]).2.2]) ∧ Below w.heap.size w w' := by
  have h := Tryd.strings_Cut (strOf x) ⟨#[58]⟩ m w (by rw [strOf_size]; omega) hm
  rw [strOf_list, show (⟨#[58]⟩ : ByteArray).data.toList = [58] from rfl] at h
  exact h.mono fun e w' ⟨h1, n, h2⟩ => ⟨h1, h2 ▸ below_drewN (Below.refl _ _) n⟩

set_option maxRecDepth 4000 in
set_option maxHeartbeats 1200000 in
theorem iPPoly_c (s : ByteArray) (m0 : Int) (w : World) (hs : s.size ≤ 1048576) (hm : w.cell? ⟨0, 0, none⟩ = some (.int .i64 m0)) :
    Calls Tryd.prog 11 #[.string s] w (GivesTB w (ppL s) (ppB s)) := by
  have HM := Lib.hid hm
  have B0 := (Below.refl w.heap.size w).alloc (Nat.le_refl _) (Obj.cells #[] 39)
  have hO0 := OwnP.lit w
  clear hm
  by_cases h0 : s.toList = [48]
  · have e0 : s = strOf [48] := toList_inj (h0.trans (strOf_toList _).symm)
    have hp := pp_yes zero_pp.1 zero_pp.2
    rw [← e0] at hp
    have HB := Lib.hid hp.1
    have HL := Lib.hid hp.2
    have h0b : (s.toList == [48]) = true := beq_iff_eq.2 h0
    clear hp e0
    go_enter Tryd.func11, Tryd.ntmps11
    go_wp2_with fail
    go_ret2
    rw [HB.out, HL.out]
    exact ⟨_, rfl, hO0, B0⟩
  · obtain ⟨ps, hps⟩ : ∃ ps, ps = Lib.split s.data.toList [44, 32] := ⟨_, rfl⟩
    obtain ⟨n, hn⟩ : ∃ n, n = ps.length := ⟨_, rfl⟩
    have hne0 : s ≠ strOf [48] := fun e => h0 (by rw [e, strOf_toList])
    have hdl : s.data.toList.length = s.size := rfl
    have hpos : 0 < ps.length := by
      rw [hps]
      exact List.length_pos_iff.2 (split_nonemptyS s.data.toList [44, 32])
    have HS : Hid (∀ ts b, ParseRes iPart ps n s ts b → ppB s = b ∧ ppL s = ts) := Lib.hid (fun ts b h =>
      res_eq (fun ts ht h0 => by rw [hps]; exact iBack ht h0) (.inr hn) hne0 hpos (fun hz => by
        have hl : s.data.toList = [] := List.eq_nil_of_length_eq_zero (by rw [hdl]; exact hz)
        refine ⟨[], by rw [hps, hl]; rfl, ?_⟩
        have hc : Lib.cut ([] : List UInt8) [58] = ([], [], false) := rfl
        unfold iPart
        rw [hc]
        refine if_neg fun h => ?_
        have h1 := numOk_iff.1 h.1
        have h2 : atOf (strOf []) < (strOf []).size := h1.1
        have h3 : (strOf []).size = 0 := rfl
        have h4 := at_zero h3
        omega) h)
    have HPL : Hid (∀ x ∈ ps, x.length ≤ 1048576) := Lib.hid (fun x hx => Nat.le_trans (split_part_len (by rw [← hps]; exact hx)) hs)
    have hpl2 : ps.length ≤ 1048578 := by
      rw [hps]
      have h1 := Lib.splitB_length_le (strOf [44, 32]) 0 (Lib.count s.data.toList [44, 32]) s
      have h2 := congrArg List.length (Lib.splitB_data (strOf [44, 32]) 0 (Lib.count s.data.toList [44, 32]) s)
      rw [List.length_map, strOf_list] at h2
      have h5 := Lib.count_le s.data.toList [44, 32]
      unfold Lib.split
      omega
    have h0b : (s.toList == [48]) = false := beq_eq_false_iff_ne.2 h0
    have HNp := Lib.hid hn
    have hn2 : n ≤ 1048578 := by omega
    have hn1 : 0 < n := by omega
    clear hne0 hdl hpos hpl2 hn
    go_enter Tryd.func11, Tryd.ntmps11
    go_wp2_with fail
    refine (iSplit_c s [44, 32] m0 _ (by simp) hs ((B0.cell (World.block_lt_of_cell? _ _ HM.out)).trans HM.out)).mono ?_
    rw [← hps]
    clear hps
    rintro e w1 ⟨r, rfl, o1, b1⟩
    have F1 := below_step B0 b1 B0.size
    have hO1 := hO0.kept b1
    clear hO0 B0
    obtain ⟨ao, c, rfl, hc, hg⟩ := o1.shape
    rw [← HNp.out] at o1 hc ⊢
    obtain ⟨g, rfl⟩ := hg (fun e => by have := HNp.out; rw [e] at this; simp at this; omega)
    clear hg
    go_wp2_with fail
    go_loopw [4, 21] (fun ov iv wr => ∃ (k : Nat) (us : TermL), k ≤ n ∧ iv = .int .i64 k ∧ OwnP w.heap.size wr ov us ∧ Hid (us.length = k ∧ ∀ j x, j < k → ps[j]? = some x → iPart j x = us[j]?) ∧ tLen us ≤ 8 * k ∧ OwnL 9 strV 0 wr (.slice (some ⟨g, 0, none⟩) n c) ps ∧ Below w.heap.size w wr) (fun _ iv _ => n - (intOf iv).toNat)
    case atStart => exact ⟨0, [], Nat.zero_le _, rfl, hO1, Lib.hid ⟨rfl, fun j x hj => absurd hj (Nat.not_lt_zero _)⟩, Nat.le_refl _, o1.mono (Nat.zero_le _), F1⟩
    case round =>
      obtain ⟨k, us, hk, rfl, hO, HU, htl, hP, hB⟩ := hrel
      clear hO1 o1
      by_cases hlt : k < n
      · obtain ⟨x, hx⟩ : ∃ x, ps[k]? = some x := ⟨_, List.getElem?_eq_getElem (by rw [← HNp.out]; omega)⟩
        have k1 := hP.cellAt hx
        simp only [strV] at k1
        have HX := Lib.hid hx
        have hxl := HPL.out x (List.mem_of_getElem? hx)
        have hj0 : (0 : Int) ≤ (k : Int) := Int.natCast_nonneg _
        have hj1 : (k : Int) < (n : Int) := by omega
        obtain ⟨hca, hcb⟩ := cut_len x 58
        have hcc := cutS_c x m0 wr hxl ((hB.cell (World.block_lt_of_cell? _ _ HM.out)).trans HM.out)
        have hip : iPart k x = termOf (Lib.cut x [58]).1 (Lib.cut x [58]).2.1 := rfl
        clear hx
        generalize (Lib.cut x [58]).1 = a at hca hcc hip
        generalize (Lib.cut x [58]).2.1 = b at hcb hcc hip
        generalize (Lib.cut x [58]).2.2 = fl at hcc
        have HTO := Lib.hid hip
        have HCC := Lib.hid hcc
        have has : (strOf a).size ≤ 1048576 := by rw [strOf_size]; omega
        have hbs : (strOf b).size ≤ 1048576 := by rw [strOf_size]; omega
        clear hip hcc hca hcb hxl
        go_wp2_with fail
        refine HCC.out.mono ?_
        rintro e w2 ⟨rfl, b2⟩
        have F2 := below_step hB b2 hB.size
        clear HCC k1
        go_wp2_with fail
        refine (iParseInt_c (strOf a) w2 has).mono ?_
        rintro e w3 ⟨v, rfl, hv, b3⟩
        have F3 := below_step F2 b3 F2.size
        go_wp2_with fail
        refine (iPInts_c (strOf b) m0 w3 hbs ((F3.cell (World.block_lt_of_cell? _ _ HM.out)).trans HM.out)).mono ?_
        rintro e w4 ⟨r4, rfl, o4, b4⟩
        have F4 := below_step F3 b4 F3.size
        have G3 := below_step b2 b3 b2.size
        have G4 := below_step G3 b4 G3.size
        have oE := o4.mono G3.size
        clear o4
        have hok' : numOk (strOf a) = true → v = numV (strOf a) := hv
        clear hv
        cases hok : numOk (strOf a) with
        | false =>
          obtain ⟨h1, h2⟩ := HS.out _ _ (.inl ⟨rfl, rfl, k, x, by omega, HX.out, by rw [HTO.out]; exact if_neg (by rw [hok]; simp)⟩)
          have HB := Lib.hid h1
          have HL := Lib.hid h2
          clear h1 h2
          go_wp2_with fail
          go_ret2
          rw [HB.out, HL.out]
          exact ⟨_, rfl, OwnP.nil _ _, F4⟩
        | true =>
          cases hfine : numsB (strOf b) with
          | false =>
            obtain ⟨h1, h2⟩ := HS.out _ _ (.inl ⟨rfl, rfl, k, x, by omega, HX.out, by rw [HTO.out]; exact if_neg (by rw [hfine]; simp)⟩)
            have HB := Lib.hid h1
            have HL := Lib.hid h2
            clear h1 h2
            go_wp2_with fail
            go_ret2
            rw [HB.out, HL.out]
            exact ⟨_, rfl, OwnP.nil _ _, F4⟩
          | true =>
            obtain ⟨E, hE⟩ : ∃ E, E = numsL (strOf b) := ⟨_, rfl⟩
            rw [← hE] at oE
            have HEE := Lib.hid hE
            clear hE
            obtain ⟨eo, ec, rfl, hec⟩ := ownI_shape oE
            by_cases h7 : 7 < E.length
            · obtain ⟨h1, h2⟩ := HS.out _ _ (.inl ⟨rfl, rfl, k, x, by omega, HX.out, by rw [HTO.out]; exact if_neg (by rw [← HEE.out]; intro h; omega)⟩)
              have HB := Lib.hid h1
              have HL := Lib.hid h2
              have h7i : (7 : Int) < (E.length : Int) := by omega
              clear h1 h2
              go_wp2_with fail
              go_ret2
              rw [HB.out, HL.out]
              exact ⟨_, rfl, OwnP.nil _ _, F4⟩
            · obtain rfl := hok' hok
              obtain ⟨z, hz⟩ : ∃ z, 7 = E.length + z := ⟨7 - E.length, by omega⟩
              have HTE2 : Hid (iPart k x = some (E ++ List.replicate z 0, numV (strOf a))) := Lib.hid (by
                rw [HTO.out, show z = 7 - E.length by omega, HEE.out]; exact if_pos ⟨hok, hfine, by rw [← HEE.out]; omega⟩)
              have h7i : ¬ (7 : Int) < (E.length : Int) := by omega
              have hsub : IntKind.i64.wrap (7 - (E.length : Int)) = (z : Int) := (IntWalk.i64_in _ (by omega)).trans (by omega)
              have hsm : E.length + z ≤ 1000 := by omega
              have hszE := F4.size
              have hEl : (E ++ List.replicate z 0).length = 7 := by simp; omega
              clear HEE HTO hz
              generalize numV (strOf a) = vc at HTE2
              have hszG := G4.size
              go_wp2_with (at_builtin; refine wpList_addZeros w4 rfl _ _ rfl oE rfl rfl hsm hszG ?_)
              intro v5 w5 hO5 hb5
              have G5 := G4.trans hb5
              have F5 := F4.trans (hb5.mono hB.size)
              obtain ⟨ao5, c5, rfl, hc5⟩ := ownI_shape hO5
              rw [hEl] at hO5 hc5 ⊢
              have hlt8 : tLen (us ++ [(E ++ List.replicate z 0, vc)]) ≤ 8 * (k + 1) := by rw [tLen_append]; simp only [tLen]; rw [hEl]; omega
              have hltb : tLen (us ++ [(E ++ List.replicate z 0, vc)]) ≤ 1099511627776 := by omega
              have HU2 : Hid ((us ++ [(E ++ List.replicate z 0, vc)]).length = k + 1 ∧ ∀ j x, j < k + 1 → ps[j]? = some x → iPart j x = (us ++ [(E ++ List.replicate z 0, vc)])[j]?) := Lib.hid (parse_step HU.out HX.out HTE2.out)
              have hP2 := hP.kept G5
              have hO2 := hO.kept G5
              have hap := rowsT_apart hP2 hO2
              have hszB := hB.size
              clear hO2 hP hEl hsub
              generalize E ++ List.replicate z 0 = Ez at hO5 hlt8 hltb HU2 HTE2
              have HLT8 := Lib.hid hlt8
              clear hlt8 htl
              go_wp2_with (at_builtin; refine wpList_pushT w5 rfl _ _ rfl hO G5 hO5 hszB rfl rfl rfl hltb ?_)
              intro v' w6 hO6 hb6 hg6
              have hP6 := hP2.grown hg6 hap
              have hB6 := F5.trans hb6
              have hB6h := Lib.hid hB6
              clear hO hP2 hO5 hltb oE hg6 hap hb6 hszB hB6 has hbs h7i h7 hok hfine hok' hec hc5 hsm hszE hszG
              go_wp2
              go_roundw
              case rel => exact ⟨k + 1, _, by omega, by go_num, hO6, HU2, HLT8.out, hP6, hB6h.out⟩
              case measure => simp [intOf] <;> omega
      · obtain rfl : k = n := by omega
        obtain ⟨G, hG⟩ : ∃ G, G = strOf (fpolyL us) := ⟨_, rfl⟩
        by_cases heq : G.toList = s.toList
        · obtain ⟨h1, h2⟩ := HS.out _ _ (.inr ⟨us, HU.out.1, HU.out.2, .inl ⟨rfl, rfl, by rw [← hG]; exact toList_inj heq⟩⟩)
          have HB := Lib.hid h1
          have HL := Lib.hid h2
          have hneb : (G.toList == s.toList) = true := beq_iff_eq.2 heq
          clear h1 h2
          have HG := Lib.hid hG
          clear hG
          go_wp2_with fail
          refine (iFPoly_c _ _ _ hO.terms).mono ?_
          rw [← HG.out]
          rintro e w5 ⟨rfl, b5⟩
          have F5 := below_step hB b5 hB.size
          have hO5 := hO.kept b5
          go_wp2_with fail
          go_ret2
          rw [HB.out, HL.out]
          exact ⟨_, rfl, hO5, F5⟩
        · obtain ⟨h1, h2⟩ := HS.out _ _ (.inr ⟨us, HU.out.1, HU.out.2, .inr ⟨rfl, rfl, by rw [← hG]; exact fun e => heq (by rw [e])⟩⟩)
          have HB := Lib.hid h1
          have HL := Lib.hid h2
          have hneb : (G.toList == s.toList) = false := beq_eq_false_iff_ne.2 heq
          clear h1 h2
          have HG := Lib.hid hG
          clear hG
          go_wp2_with fail
          refine (iFPoly_c _ _ _ hO.terms).mono ?_
          rw [← HG.out]
          rintro e w5 ⟨rfl, b5⟩
          have F5 := below_step hB b5 hB.size
          go_wp2_with fail
          go_ret2
          rw [HB.out, HL.out]
          exact ⟨_, rfl, OwnP.nil _ _, F5⟩

end Go.Proofs.YthgigbihpcelpaaDoor
