/-
  Contracts: ParsePoly.
-/
import Derived.Test.YthgigbihpcelpaaDoorBack
import Derived.Test.YthgigbihpcelpaaDoorZeros
namespace Go.Proofs.YthgigbihpcelpaaDoor
open Go.RowKit
set_option linter.unusedVariables false

theorem ownI_shape {B : Nat} {w : World} {v : Value} {l : List Int} (h : OwnI B w v l) : ∃ ao c, v = .slice ao l.length c ∧ l.length ≤ c := by
  rcases h.1.2 with ⟨rfl, h0⟩ | ⟨g, cap, cur, rfl, hb, hg, hnc, _⟩
  · exact ⟨none, 0, by rw [h0], by omega⟩
  · exact ⟨_, cap, rfl, hnc⟩
theorem sTwo_no {ls : List (List UInt8)} (h : ¬ ls.length = 2) : sTwo ls = none := by
  match ls, h with
  | [], _ => rfl
  | [_], _ => rfl
  | [_, _], h => exact absurd rfl h
  | _ :: _ :: _ :: _, _ => rfl
theorem parse_step {part : Nat → List UInt8 → Option (List Int × Int)} {ps : List (List UInt8)} {us : TermL} {k : Nat} {x : List UInt8} {t : List Int × Int} (h : us.length = k ∧ ∀ j x, j < k → ps[j]? = some x → part j x = us[j]?)
    (hx : ps[k]? = some x) (ht : part k x = some t) : (us ++ [t]).length = k + 1 ∧ ∀ j x, j < k + 1 → ps[j]? = some x → part j x = (us ++ [t])[j]? := by
  refine ⟨by simp [h.1], fun j y hj hy => ?_⟩
  by_cases e : j = k
  · subst e
    rw [hx] at hy
    obtain rfl := Option.some.inj hy
    rw [List.getElem?_append_right (by omega), h.1, Nat.sub_self]
    exact ht
  · rw [List.getElem?_append_left (by omega)]
    exact h.2 j y (by omega) hy
def lenOfV : Value → Nat
  | .slice _ n _ => n
  | _ => 0
theorem rowsT_apart {B B' : Nat} {w : World} {u v : Value} {ls : List (List UInt8)} {ts : TermL} (h : OwnL 9 strV B w u ls) (h' : OwnP B' w v ts) : u.ownBlock = none ∨ u.ownBlock ≠ v.ownBlock := by
  obtain ⟨rs, h'⟩ := h'
  rcases h.1.2 with ⟨rfl, _⟩ | ⟨g, cap, cur, rfl, _, hg, _⟩
  · exact .inl rfl
  · refine .inr fun e => ?_
    rcases h'.row.1.2 with ⟨rfl, _⟩ | ⟨g', cap', cur', rfl, _, hg', _⟩
    · simp [Value.ownBlock] at e
    · simp [Value.ownBlock] at e
      subst e
      rw [hg] at hg'
      simp at hg'

set_option maxRecDepth 4000 in
set_option maxHeartbeats 1200000 in
theorem sPPoly_c (s : ByteArray) (w : World) (hs : s.size ≤ 1048576) :
    Calls Tryd.prog 10 #[.string s] w (GivesTB w (ppL s) (ppB s)) := by
  by_cases h0 : s.toList = [48]
  · have e0 : s = strOf [48] := toList_inj (h0.trans (strOf_toList _).symm)
    have hp := pp_yes zero_pp.1 zero_pp.2
    rw [← e0] at hp
    have HB := Lib.hid hp.1
    have HL := Lib.hid hp.2
    have h0b : (s.toList == [48]) = true := beq_iff_eq.2 h0
    clear hp e0
    go_enter Tryd.func10, Tryd.ntmps10
    go_wp2_with fail
    go_ret2
    rw [HB.out, HL.out]
    exact ⟨_, rfl, OwnP.lit w, (Below.refl _ _).alloc (Nat.le_refl _) _⟩
  · obtain ⟨ps, hps⟩ : ∃ ps, ps = Lib.split s.data.toList [44] := ⟨_, rfl⟩
    obtain ⟨n, hn⟩ : ∃ n, n = ps.length := ⟨_, rfl⟩
    obtain ⟨m, hm⟩ : ∃ m, m = min n 601 := ⟨_, rfl⟩
    have hne0 : s ≠ strOf [48] := fun e => h0 (by rw [e, strOf_toList])
    have hdl : s.data.toList.length = s.size := rfl
    have hpos : 0 < ps.length := by
      rw [hps]
      exact List.length_pos_iff.2 (fun e => by
        have := split_nonempty s.data.toList 44
        exact this e)
    have HS : Hid (∀ ts b, ParseRes sPart ps m s ts b → ppB s = b ∧ ppL s = ts) := Lib.hid (fun ts b h =>
      res_eq (fun ts ht h0 => by rw [hps]; exact sBack ht h0) (.inl (by rw [hm, hn])) hne0 hpos (fun hz => by
        have hl : s.data.toList = [] := List.eq_nil_of_length_eq_zero (by rw [hdl]; exact hz)
        refine ⟨[], by rw [hps, hl]; rfl, ?_⟩
        show (sText 0 []).bind _ = _
        simp only [sText, if_pos, Option.bind_some]
        rfl) h)
    have HPL : Hid (∀ x ∈ ps, x.length ≤ 1048576) := Lib.hid (fun x hx => Nat.le_trans (split_part_len (by rw [← hps]; exact hx)) hs)
    have hpl2 : ps.length ≤ 1048578 := by rw [hps]; exact Nat.le_trans (split_len_le _ _) (by omega)
    have h0b : (s.toList == [48]) = false := beq_eq_false_iff_ne.2 h0
    have HNp := Lib.hid hn
    have hn2 : n ≤ 1048578 := by omega
    have hn1 : 0 < n := by omega
    have hm1 : m ≤ n := by omega
    have hm2 : m ≤ 601 := by omega
    have hm3 : m = n ∨ m = 601 := by omega
    have B0 := (Below.refl w.heap.size w).alloc (Nat.le_refl _) (Obj.cells #[] 39)
    have hO0 := OwnP.lit w
    clear hne0 hdl hpos hpl2 hm hn
    go_enter Tryd.func10, Tryd.ntmps10
    go_wp2_with fail
    refine (sSplit_c s 44 44 _ rfl hs).mono ?_
    rw [← hps]
    clear hps
    rintro e w1 ⟨r, rfl, o1, b1⟩
    have F1 := below_step B0 b1 B0.size
    have hO1 := hO0.kept b1
    clear hO0 B0
    obtain ⟨ao, c, rfl, hc, hg⟩ := o1.shape
    rw [← HNp.out] at o1 hc ⊢
    obtain ⟨g, rfl⟩ := hg (fun e => by have := HNp.out; rw [e] at this; simp at this; omega)
    clear hg
    go_wp2_with fail
    go_loopw [4, 6] (fun ov iv wr => ∃ (k : Nat) (us : TermL), k ≤ m ∧ iv = .int .i64 k ∧ OwnP w.heap.size wr ov us ∧ Hid (us.length = k ∧ ∀ j x, j < k → ps[j]? = some x → sPart j x = us[j]?) ∧ tLen us ≤ 8 * k ∧ OwnL 9 strV 0 wr (.slice (some ⟨g, 0, none⟩) n c) ps ∧ Below w.heap.size w wr) (fun _ iv _ => m - (intOf iv).toNat)
    case atStart => exact ⟨0, [], Nat.zero_le _, rfl, hO1, Lib.hid ⟨rfl, fun j x hj => absurd hj (Nat.not_lt_zero _)⟩, Nat.le_refl _, o1.mono (Nat.zero_le _), F1⟩
    case round =>
      obtain ⟨k, us, hk, rfl, hO, HU, htl, hP, hB⟩ := hrel
      clear hO1 o1
      by_cases hlt : k < m
      · obtain ⟨x, hx⟩ : ∃ x, ps[k]? = some x := ⟨_, List.getElem?_eq_getElem (by rw [← HNp.out]; omega)⟩
        have k1 := hP.cellAt hx
        simp only [strV] at k1
        have HX := Lib.hid hx
        have hxl := HPL.out x (List.mem_of_getElem? hx)
        have hj0 : (0 : Int) ≤ (k : Int) := Int.natCast_nonneg _
        have hj1 : (k : Int) < (n : Int) := by omega
        have hj6 : (k : Int) ≤ 600 := by omega
        clear hx
        by_cases hk0 : k = 0
        · obtain ⟨t0, ht0⟩ : ∃ t0, t0 = x := ⟨_, rfl⟩
          have HT0 : Hid (sText 0 x = some t0) := Lib.hid (by rw [ht0]; rfl)
          have HT0L : Hid (t0.length ≤ 1048576) := Lib.hid (by rw [ht0]; exact hxl)
          subst hk0
          rw [← ht0] at k1
          clear ht0
          go_wp2_with fail
          -- the part's text is t0: HT0 : Hid (sText k x = some t0); the string at hand is strOf t0
          have ht0s : (strOf t0).size ≤ 1048576 := by rw [strOf_size]; exact HT0L.out
          obtain ⟨ls2, hls2⟩ : ∃ ls2, ls2 = Lib.split t0 [58] := ⟨_, rfl⟩
          have HSP : Hid (sPart 0 x = sTwo ls2) := Lib.hid (by rw [hls2]; unfold sPart; rw [HT0.out]; rfl)
          have HPL2 : Hid (∀ y ∈ ls2, (strOf y).size ≤ 1048576) := Lib.hid (fun y hy => by
            rw [strOf_size]; have := split_part_len (by rw [← hls2]; exact hy); exact Nat.le_trans this HT0L.out)
          refine (sSplit_c (strOf t0) 58 58 wr rfl ht0s).mono ?_
          rw [strOf_list, ← hls2]
          clear hls2
          rintro e w2 ⟨r2, rfl, o2, b2⟩
          have F2 := below_step hB b2 hB.size
          obtain ⟨ao2, c2, rfl, hc2, hg2⟩ := o2.shape
          by_cases hlen2 : ls2.length = 2
          · match ls2, hlen2 with
            | [a, b], _ =>
              obtain ⟨g2, rfl⟩ := hg2 (by simp)
              have ka := o2.cellAt (j := 0) (x := a) rfl
              have kb := o2.cellAt (j := 1) (x := b) rfl
              simp only [strV] at ka kb
              have has := HPL2.out a (by simp)
              have hbs := HPL2.out b (by simp)
              have hl22 : (((2 : Nat) : Int) != 2) = false := by decide
              have hTO : sTwo [a, b] = termOf a b := rfl
              have HTO : Hid (sPart 0 x = termOf a b) := Lib.hid (HSP.out.trans hTO)
              clear HPL2 HSP hg2 hTO
              go_wp2_with fail
              refine (sNumber_c (strOf a) w2 has).mono ?_
              rintro e w3 ⟨v, rfl, hv, b3⟩
              have F3 := below_step F2 b3 F2.size
              have kb3 := (b3.cell (World.block_lt_of_cell? _ _ kb)).trans kb
              clear ka kb
              go_wp2_with fail
              refine (sPInts_c (strOf b) w3 hbs).mono ?_
              rintro e w4 ⟨r4, rfl, o4, b4⟩
              have F4 := below_step F3 b4 F3.size
              have G2 : Below wr.heap.size wr w2 := b2
              have G3 := below_step G2 b3 G2.size
              have G4 := below_step G3 b4 G3.size
              have oE := o4.mono G3.size
              clear o4 kb3
              have hok' : numOk (strOf a) = true → v = numV (strOf a) := hv
              clear hv
              cases hok : numOk (strOf a) with
              | false =>
                obtain ⟨h1, h2⟩ := HS.out _ _ (.inl ⟨rfl, rfl, 0, x, by omega, HX.out, by rw [HTO.out]; exact if_neg (by rw [hok]; simp)⟩)
                have HB := Lib.hid h1
                have HL := Lib.hid h2
                clear h1 h2
                go_wp2_with fail
                go_ret2
                rw [HB.out, HL.out]
                exact ⟨_, rfl, OwnP.nil _ _, F4⟩
              | true =>
                cases hfine : numsB (strOf b) with
                | false =>
                  obtain ⟨h1, h2⟩ := HS.out _ _ (.inl ⟨rfl, rfl, 0, x, by omega, HX.out, by rw [HTO.out]; exact if_neg (by rw [hfine]; simp)⟩)
                  have HB := Lib.hid h1
                  have HL := Lib.hid h2
                  clear h1 h2
                  go_wp2_with fail
                  go_ret2
                  rw [HB.out, HL.out]
                  exact ⟨_, rfl, OwnP.nil _ _, F4⟩
                | true =>
                  obtain ⟨E, hE⟩ : ∃ E, E = numsL (strOf b) := ⟨_, rfl⟩
                  rw [← hE] at oE
                  have HEE := Lib.hid hE
                  clear hE
                  obtain ⟨eo, ec, rfl, hec⟩ := ownI_shape oE
                  by_cases h7 : 7 < E.length
                  · obtain ⟨h1, h2⟩ := HS.out _ _ (.inl ⟨rfl, rfl, 0, x, by omega, HX.out, by rw [HTO.out]; exact if_neg (by rw [← HEE.out]; intro h; omega)⟩)
                    have HB := Lib.hid h1
                    have HL := Lib.hid h2
                    have h7i : (7 : Int) < (E.length : Int) := by omega
                    clear h1 h2
                    go_wp2_with fail
                    go_ret2
                    rw [HB.out, HL.out]
                    exact ⟨_, rfl, OwnP.nil _ _, F4⟩
                  · obtain rfl := hok' hok
                    have HTE : Hid (sPart 0 x = some (E ++ List.replicate (7 - E.length) 0, numV (strOf a))) := Lib.hid (by
                      rw [HTO.out, HEE.out]; exact if_pos ⟨hok, hfine, by rw [← HEE.out]; omega⟩)
                    have h7i : ¬ (7 : Int) < (E.length : Int) := by omega
                    clear HEE HTO
                    generalize numV (strOf a) = vc at HTE
                    go_wp2_with fail
                    obtain ⟨wo, rfl⟩ : ∃ wo : World, wo = wr := ⟨_, rfl⟩
                    go_loopw [11] (fun xv wr => ∃ (z : Nat) (ao : Option Addr) (c : Nat), xv = .slice ao (E.length + z) c ∧ E.length + z ≤ 7 ∧ OwnI wo.heap.size wr xv (E ++ List.replicate z 0) ∧ Below wo.heap.size wo wr ∧ Below w.heap.size w wr) (fun xv _ => 7 - (lenOfV xv))
                    case atStart => exact ⟨0, eo, ec, rfl, by omega, by simpa using oE, G4, F4⟩
                    case round =>
                      obtain ⟨z, ao', c', rfl, hz7, hOE, hGq, hBq⟩ := hrel
                      clear oE
                      have hsz := hGq.size
                      by_cases hz : E.length + z < 7
                      · have hlenE : (E ++ List.replicate z 0).length + 1 ≤ 1099511627776 := by simp; omega
                        have hzi : ((E.length + z : Nat) : Int) < 7 := by omega
                        have hzi2 : (E.length : Int) + (z : Int) < 7 := by omega
                        have HZ : Hid (E ++ List.replicate z 0 ++ [0] = E ++ List.replicate (z + 1) 0) := Lib.hid (by rw [List.append_assoc, List.replicate_succ'])
                        generalize hEz : E ++ List.replicate z 0 = Ez at hOE hlenE HZ
                        clear hEz
                        go_wp2_with (at_builtin; refine wpList_push wr rfl _ _ rfl hOE rfl rfl hlenE hsz ?_)
                        intro v' w6 hO' hb6 _ _
                        have hG6 := hGq.trans hb6
                        have hB6 := hBq.trans (hb6.mono hB.size)
                        rw [HZ.out] at hO'
                        obtain ⟨ao6, c6, rfl, hc6⟩ := ownI_shape hO'
                        rw [List.length_append, List.length_replicate] at hO' hc6 ⊢
                        clear hOE hGq hBq hlenE
                        go_wp2
                        go_roundw
                        case rel => exact ⟨z + 1, ao6, c6, rfl, by omega, hO', hG6, hB6⟩
                        case measure => simp [lenOfV]; omega
                      · have hzi : ¬ ((E.length + z : Nat) : Int) < 7 := by omega
                        have hzi2 : ¬ (E.length : Int) + (z : Int) < 7 := by omega
                        have HTE2 : Hid (sPart 0 x = some (E ++ List.replicate z 0, vc)) := Lib.hid (by rw [HTE.out, show 7 - E.length = z by omega])
                        have hEl : (E ++ List.replicate z 0).length = 7 := by simp; omega
                        have hlt8 : tLen (us ++ [(E ++ List.replicate z 0, vc)]) ≤ 8 * (0 + 1) := by rw [tLen_append]; simp only [tLen]; rw [hEl]; omega
                        have hltb : tLen (us ++ [(E ++ List.replicate z 0, vc)]) ≤ 1099511627776 := by omega
                        have HU2 : Hid ((us ++ [(E ++ List.replicate z 0, vc)]).length = 0 + 1 ∧ ∀ j x, j < 0 + 1 → ps[j]? = some x → sPart j x = (us ++ [(E ++ List.replicate z 0, vc)])[j]?) := Lib.hid (parse_step HU.out HX.out HTE2.out)
                        have hP2 := hP.kept hGq
                        have hO2 := hO.kept hGq
                        have hap := rowsT_apart hP2 hO2
                        have hszB := hB.size
                        clear hO2 hP HTE hEl
                        generalize E ++ List.replicate z 0 = Ez at hOE hlt8 hltb HU2 HTE2
                        have HLT8 := Lib.hid hlt8
                        clear hlt8 htl
                        go_wp2_with (at_builtin; refine wpList_pushT wr rfl _ _ rfl hO hGq hOE hszB rfl rfl rfl hltb ?_)
                        intro v' w6 hO6 hb6 hg6
                        have hP6 := hP2.grown hg6 hap
                        have hB6 := hBq.trans hb6
                        clear hO hP2 hOE hltb ht0s has hbs hxl hz hzi hzi2 h7i h7 hl22 hok hfine hok' hec hc2
                        have hB6h := Lib.hid hB6
                        clear hg6 hap hb6 hszB hB6 hBq hGq hB b2 b3 b4 F2 F3 F4 G2 G3 G4 b1 F1
                        go_wp2
                        go_roundw
                        case rel => exact ⟨0 + 1, _, by omega, by go_num, hO6, HU2, HLT8.out, hP6, hB6h.out⟩
                        case measure => simp [intOf] <;> omega
          · have hn2i : ((ls2.length : Int) != 2) = true := by simp; omega
            obtain ⟨h1, h2⟩ := HS.out _ _ (.inl ⟨rfl, rfl, 0, x, by omega, HX.out, by rw [HSP.out]; exact sTwo_no hlen2⟩)
            have HB := Lib.hid h1
            have HL := Lib.hid h2
            clear h1 h2 hlen2
            go_wp2_with fail
            go_ret2
            rw [HB.out, HL.out]
            exact ⟨_, rfl, OwnP.nil _ _, F2⟩
        · have hkp : (0 : Int) < (k : Int) := by omega
          cases x with
          | nil =>
            obtain ⟨h1, h2⟩ := HS.out _ _ (.inl ⟨rfl, rfl, k, [], by omega, HX.out, by unfold sPart sText; rw [if_neg hk0]; rfl⟩)
            have HB := Lib.hid h1
            have HL := Lib.hid h2
            have hsz0 : (strOf []).size = 0 := rfl
            clear h1 h2
            go_wp2_with fail
            go_ret2
            rw [HB.out, HL.out]
            exact ⟨_, rfl, OwnP.nil _ _, hB⟩
          | cons bb t0 =>
            obtain ⟨X, hXe⟩ : ∃ X, X = strOf (bb :: t0) := ⟨_, rfl⟩
            have hszx : X.size = t0.length + 1 := by rw [hXe, strOf_size]; rfl
            have hsp : 0 < X.size := by omega
            have hX0 : X[0] = bb := by simp only [hXe]; rfl
            have hszz : ¬ (X.size : Int) = 0 := by omega
            have hszb : ((X.size : Int) == 0) = false := beq_eq_false_iff_ne.2 hszz
            rw [← hXe] at k1
            by_cases h32 : bb = 32
            · have hx0 : (X[0].toNat : Int) = 32 := by rw [hX0, h32]; rfl
              have hxb : ((X[0].toNat : Int) != 32) = false := by rw [hx0]; rfl
              have hex : X.extract 1 X.size = strOf t0 := by
                rw [extract_str X 1 _ (by omega), hszx, hXe, strOf_list]
                simp
              have h1s : (1 : Int) ≤ (X.size : Int) := by omega
              have HT0 : Hid (sText k (bb :: t0) = some t0) := Lib.hid (by unfold sText; rw [if_neg hk0]; simp [h32])
              have HT0L : Hid (t0.length ≤ 1048576) := Lib.hid (by simp only [List.length_cons] at hxl; omega)
              clear hXe hX0 h32 hszx
              obtain ⟨x, hxx⟩ : ∃ x, x = bb :: t0 := ⟨_, rfl⟩
              rw [← hxx] at HT0 HX
              clear hxx hxl
              go_wp2_with fail
              -- the part's text is t0: HT0 : Hid (sText k x = some t0); the string at hand is strOf t0
              have ht0s : (strOf t0).size ≤ 1048576 := by rw [strOf_size]; exact HT0L.out
              obtain ⟨ls2, hls2⟩ : ∃ ls2, ls2 = Lib.split t0 [58] := ⟨_, rfl⟩
              have HSP : Hid (sPart k x = sTwo ls2) := Lib.hid (by rw [hls2]; unfold sPart; rw [HT0.out]; rfl)
              have HPL2 : Hid (∀ y ∈ ls2, (strOf y).size ≤ 1048576) := Lib.hid (fun y hy => by
                rw [strOf_size]; have := split_part_len (by rw [← hls2]; exact hy); exact Nat.le_trans this HT0L.out)
              refine (sSplit_c (strOf t0) 58 58 wr rfl ht0s).mono ?_
              rw [strOf_list, ← hls2]
              clear hls2
              rintro e w2 ⟨r2, rfl, o2, b2⟩
              have F2 := below_step hB b2 hB.size
              obtain ⟨ao2, c2, rfl, hc2, hg2⟩ := o2.shape
              by_cases hlen2 : ls2.length = 2
              · match ls2, hlen2 with
                | [a, b], _ =>
                  obtain ⟨g2, rfl⟩ := hg2 (by simp)
                  have ka := o2.cellAt (j := 0) (x := a) rfl
                  have kb := o2.cellAt (j := 1) (x := b) rfl
                  simp only [strV] at ka kb
                  have has := HPL2.out a (by simp)
                  have hbs := HPL2.out b (by simp)
                  have hl22 : (((2 : Nat) : Int) != 2) = false := by decide
                  have hTO : sTwo [a, b] = termOf a b := rfl
                  have HTO : Hid (sPart k x = termOf a b) := Lib.hid (HSP.out.trans hTO)
                  clear HPL2 HSP hg2 hTO
                  go_wp2_with fail
                  refine (sNumber_c (strOf a) w2 has).mono ?_
                  rintro e w3 ⟨v, rfl, hv, b3⟩
                  have F3 := below_step F2 b3 F2.size
                  have kb3 := (b3.cell (World.block_lt_of_cell? _ _ kb)).trans kb
                  clear ka kb
                  go_wp2_with fail
                  refine (sPInts_c (strOf b) w3 hbs).mono ?_
                  rintro e w4 ⟨r4, rfl, o4, b4⟩
                  have F4 := below_step F3 b4 F3.size
                  have G2 : Below wr.heap.size wr w2 := b2
                  have G3 := below_step G2 b3 G2.size
                  have G4 := below_step G3 b4 G3.size
                  have oE := o4.mono G3.size
                  clear o4 kb3
                  have hok' : numOk (strOf a) = true → v = numV (strOf a) := hv
                  clear hv
                  cases hok : numOk (strOf a) with
                  | false =>
                    obtain ⟨h1, h2⟩ := HS.out _ _ (.inl ⟨rfl, rfl, k, x, by omega, HX.out, by rw [HTO.out]; exact if_neg (by rw [hok]; simp)⟩)
                    have HB := Lib.hid h1
                    have HL := Lib.hid h2
                    clear h1 h2
                    go_wp2_with fail
                    go_ret2
                    rw [HB.out, HL.out]
                    exact ⟨_, rfl, OwnP.nil _ _, F4⟩
                  | true =>
                    cases hfine : numsB (strOf b) with
                    | false =>
                      obtain ⟨h1, h2⟩ := HS.out _ _ (.inl ⟨rfl, rfl, k, x, by omega, HX.out, by rw [HTO.out]; exact if_neg (by rw [hfine]; simp)⟩)
                      have HB := Lib.hid h1
                      have HL := Lib.hid h2
                      clear h1 h2
                      go_wp2_with fail
                      go_ret2
                      rw [HB.out, HL.out]
                      exact ⟨_, rfl, OwnP.nil _ _, F4⟩
                    | true =>
                      obtain ⟨E, hE⟩ : ∃ E, E = numsL (strOf b) := ⟨_, rfl⟩
                      rw [← hE] at oE
                      have HEE := Lib.hid hE
                      clear hE
                      obtain ⟨eo, ec, rfl, hec⟩ := ownI_shape oE
                      by_cases h7 : 7 < E.length
                      · obtain ⟨h1, h2⟩ := HS.out _ _ (.inl ⟨rfl, rfl, k, x, by omega, HX.out, by rw [HTO.out]; exact if_neg (by rw [← HEE.out]; intro h; omega)⟩)
                        have HB := Lib.hid h1
                        have HL := Lib.hid h2
                        have h7i : (7 : Int) < (E.length : Int) := by omega
                        clear h1 h2
                        go_wp2_with fail
                        go_ret2
                        rw [HB.out, HL.out]
                        exact ⟨_, rfl, OwnP.nil _ _, F4⟩
                      · obtain rfl := hok' hok
                        have HTE : Hid (sPart k x = some (E ++ List.replicate (7 - E.length) 0, numV (strOf a))) := Lib.hid (by
                          rw [HTO.out, HEE.out]; exact if_pos ⟨hok, hfine, by rw [← HEE.out]; omega⟩)
                        have h7i : ¬ (7 : Int) < (E.length : Int) := by omega
                        clear HEE HTO
                        generalize numV (strOf a) = vc at HTE
                        go_wp2_with fail
                        obtain ⟨wo, rfl⟩ : ∃ wo : World, wo = wr := ⟨_, rfl⟩
                        go_loopw [11] (fun xv wr => ∃ (z : Nat) (ao : Option Addr) (c : Nat), xv = .slice ao (E.length + z) c ∧ E.length + z ≤ 7 ∧ OwnI wo.heap.size wr xv (E ++ List.replicate z 0) ∧ Below wo.heap.size wo wr ∧ Below w.heap.size w wr) (fun xv _ => 7 - (lenOfV xv))
                        case atStart => exact ⟨0, eo, ec, rfl, by omega, by simpa using oE, G4, F4⟩
                        case round =>
                          obtain ⟨z, ao', c', rfl, hz7, hOE, hGq, hBq⟩ := hrel
                          clear oE
                          have hsz := hGq.size
                          by_cases hz : E.length + z < 7
                          · have hlenE : (E ++ List.replicate z 0).length + 1 ≤ 1099511627776 := by simp; omega
                            have hzi : ((E.length + z : Nat) : Int) < 7 := by omega
                            have hzi2 : (E.length : Int) + (z : Int) < 7 := by omega
                            have HZ : Hid (E ++ List.replicate z 0 ++ [0] = E ++ List.replicate (z + 1) 0) := Lib.hid (by rw [List.append_assoc, List.replicate_succ'])
                            generalize hEz : E ++ List.replicate z 0 = Ez at hOE hlenE HZ
                            clear hEz
                            go_wp2_with (at_builtin; refine wpList_push wr rfl _ _ rfl hOE rfl rfl hlenE hsz ?_)
                            intro v' w6 hO' hb6 _ _
                            have hG6 := hGq.trans hb6
                            have hB6 := hBq.trans (hb6.mono hB.size)
                            rw [HZ.out] at hO'
                            obtain ⟨ao6, c6, rfl, hc6⟩ := ownI_shape hO'
                            rw [List.length_append, List.length_replicate] at hO' hc6 ⊢
                            clear hOE hGq hBq hlenE
                            go_wp2
                            go_roundw
                            case rel => exact ⟨z + 1, ao6, c6, rfl, by omega, hO', hG6, hB6⟩
                            case measure => simp [lenOfV]; omega
                          · have hzi : ¬ ((E.length + z : Nat) : Int) < 7 := by omega
                            have hzi2 : ¬ (E.length : Int) + (z : Int) < 7 := by omega
                            have HTE2 : Hid (sPart k x = some (E ++ List.replicate z 0, vc)) := Lib.hid (by rw [HTE.out, show 7 - E.length = z by omega])
                            have hEl : (E ++ List.replicate z 0).length = 7 := by simp; omega
                            have hlt8 : tLen (us ++ [(E ++ List.replicate z 0, vc)]) ≤ 8 * (k + 1) := by rw [tLen_append]; simp only [tLen]; rw [hEl]; omega
                            have hltb : tLen (us ++ [(E ++ List.replicate z 0, vc)]) ≤ 1099511627776 := by omega
                            have HU2 : Hid ((us ++ [(E ++ List.replicate z 0, vc)]).length = k + 1 ∧ ∀ j x, j < k + 1 → ps[j]? = some x → sPart j x = (us ++ [(E ++ List.replicate z 0, vc)])[j]?) := Lib.hid (parse_step HU.out HX.out HTE2.out)
                            have hP2 := hP.kept hGq
                            have hO2 := hO.kept hGq
                            have hap := rowsT_apart hP2 hO2
                            have hszB := hB.size
                            clear hO2 hP HTE hEl
                            generalize E ++ List.replicate z 0 = Ez at hOE hlt8 hltb HU2 HTE2
                            have HLT8 := Lib.hid hlt8
                            clear hlt8 htl
                            go_wp2_with (at_builtin; refine wpList_pushT wr rfl _ _ rfl hO hGq hOE hszB rfl rfl rfl hltb ?_)
                            intro v' w6 hO6 hb6 hg6
                            have hP6 := hP2.grown hg6 hap
                            have hB6 := hBq.trans hb6
                            clear hO hP2 hOE hltb ht0s has hbs hz hzi hzi2 h7i h7 hl22 hok hfine hok' hec hc2
                            have hB6h := Lib.hid hB6
                            clear hg6 hap hb6 hszB hB6 hBq hGq hB b2 b3 b4 F2 F3 F4 G2 G3 G4 b1 F1
                            go_wp2
                            go_roundw
                            case rel => exact ⟨k + 1, _, by omega, by go_num, hO6, HU2, HLT8.out, hP6, hB6h.out⟩
                            case measure => simp [intOf] <;> omega
              · have hn2i : ((ls2.length : Int) != 2) = true := by simp; omega
                obtain ⟨h1, h2⟩ := HS.out _ _ (.inl ⟨rfl, rfl, k, x, by omega, HX.out, by rw [HSP.out]; exact sTwo_no hlen2⟩)
                have HB := Lib.hid h1
                have HL := Lib.hid h2
                clear h1 h2 hlen2
                go_wp2_with fail
                go_ret2
                rw [HB.out, HL.out]
                exact ⟨_, rfl, OwnP.nil _ _, F2⟩
            · have hx0 : ¬ (X[0].toNat : Int) = 32 := fun e => h32 (by rw [← hX0]; exact UInt8.toNat_inj.1 (show X[0].toNat = 32 by exact_mod_cast e))
              have hxb : ((X[0].toNat : Int) != 32) = true := by simp [hx0]
              obtain ⟨h1, h2⟩ := HS.out _ _ (.inl ⟨rfl, rfl, k, _, by omega, HX.out, by unfold sPart sText; rw [if_neg hk0]; simp [h32]⟩)
              have HB := Lib.hid h1
              have HL := Lib.hid h2
              clear h1 h2 hXe hX0 h32
              go_wp2_with fail
              go_ret2
              rw [HB.out, HL.out]
              exact ⟨_, rfl, OwnP.nil _ _, hB⟩
      · obtain rfl : k = m := by omega
        have hend : ¬ (k : Int) < (n : Int) ∨ ¬ (k : Int) ≤ 600 := by omega
        have hendb : (decide ((k : Int) < (n : Int)) && decide ((k : Int) ≤ 600)) = false := by
          rcases hend with h | h
          · simp [h]
          · simp [h]
        obtain ⟨G, hG⟩ : ∃ G, G = strOf (fpolyL us) := ⟨_, rfl⟩
        have hcF := sFPoly_c
        by_cases heq : G.toList = s.toList
        · obtain ⟨h1, h2⟩ := HS.out _ _ (.inr ⟨us, HU.out.1, HU.out.2, .inl ⟨rfl, rfl, by rw [← hG]; exact toList_inj heq⟩⟩)
          have HB := Lib.hid h1
          have HL := Lib.hid h2
          have hneb : (G.toList != s.toList) = false := by simp [heq]
          clear h1 h2 hcF
          have HG := Lib.hid hG
          clear hG
          rcases Nat.lt_or_ge k n with hkn | hkn
          · have hk6 : ¬ (k : Int) ≤ 600 := by omega
            have hkn2 : (k : Int) < (n : Int) := by omega
            go_wp2_with fail
            refine (sFPoly_c _ _ _ hO.terms).mono ?_
            rw [← HG.out]
            rintro e w5 ⟨rfl, b5⟩
            have F5 := below_step hB b5 hB.size
            have hO5 := hO.kept b5
            go_wp2_with fail
            go_ret2
            rw [HB.out, HL.out]
            exact ⟨_, rfl, hO5, F5⟩
          · have hkn2 : ¬ (k : Int) < (n : Int) := by omega
            go_wp2_with fail
            refine (sFPoly_c _ _ _ hO.terms).mono ?_
            rw [← HG.out]
            rintro e w5 ⟨rfl, b5⟩
            have F5 := below_step hB b5 hB.size
            have hO5 := hO.kept b5
            go_wp2_with fail
            go_ret2
            rw [HB.out, HL.out]
            exact ⟨_, rfl, hO5, F5⟩
        · obtain ⟨h1, h2⟩ := HS.out _ _ (.inr ⟨us, HU.out.1, HU.out.2, .inr ⟨rfl, rfl, by rw [← hG]; exact fun e => heq (by rw [e])⟩⟩)
          have HB := Lib.hid h1
          have HL := Lib.hid h2
          have hneb : (G.toList == s.toList) = false := beq_eq_false_iff_ne.2 heq
          clear h1 h2 hcF
          have HG := Lib.hid hG
          clear hG
          rcases Nat.lt_or_ge k n with hkn | hkn
          · have hk6 : ¬ (k : Int) ≤ 600 := by omega
            have hkn2 : (k : Int) < (n : Int) := by omega
            go_wp2_with fail
            refine (sFPoly_c _ _ _ hO.terms).mono ?_
            rw [← HG.out]
            rintro e w5 ⟨rfl, b5⟩
            have F5 := below_step hB b5 hB.size
            go_wp2_with fail
            go_ret2
            rw [HB.out, HL.out]
            exact ⟨_, rfl, OwnP.nil _ _, F5⟩
          · have hkn2 : ¬ (k : Int) < (n : Int) := by omega
            go_wp2_with fail
            refine (sFPoly_c _ _ _ hO.terms).mono ?_
            rw [← HG.out]
            rintro e w5 ⟨rfl, b5⟩
            have F5 := below_step hB b5 hB.size
            go_wp2_with fail
            go_ret2
            rw [HB.out, HL.out]
            exact ⟨_, rfl, OwnP.nil _ _, F5⟩

end Go.Proofs.YthgigbihpcelpaaDoor
