/-
  Contracts: FormatPoly.
-/
import Derived.Test.YthgigbihpcelpaaDoorFInts
import Derived.Test.YthgigbihpcelpaaDoorDeg
import Derived.Test.YthgigbihpcelpaaDoorTrim
import Derived.Test.YthgigbihpcelpaaDoorPushT
namespace Go.Proofs.YthgigbihpcelpaaDoor
open Go.RowKit
set_option linter.unusedVariables false

/-- How much of the list is left without the zeros at its end: of the first k numbers. -/
def lastNZ (l : List Int) : Nat → Nat
  | 0 => 0
  | k + 1 => if l.getD k 0 = 0 then lastNZ l k else k + 1
theorem lastNZ_zero {l : List Int} {k : Nat} {x : Int} (hx : x = l.getD k 0) (h : x = 0) : lastNZ l (k + 1) = lastNZ l k := if_pos (hx ▸ h)
theorem lastNZ_stop {l : List Int} {k : Nat} {x : Int} (hx : x = l.getD k 0) (h : x ≠ 0) : lastNZ l (k + 1) = k + 1 := if_neg (hx ▸ h)
theorem lastNZ_le (l : List Int) : ∀ k, lastNZ l k ≤ k
  | 0 => Nat.le_refl _
  | k + 1 => by have := lastNZ_le l k; unfold lastNZ; split <;> omega
def shortL (l : List Int) : List Int := l.take (lastNZ l l.length)
def termText (t : List Int × Int) : List UInt8 := fmtInt t.2 ++ [58] ++ fiL (shortL t.1)
def fpAt (ts : TermL) (j : Nat) : List UInt8 := termText (ts.getD j ([], 0))
noncomputable def fpolyL (ts : TermL) : List UInt8 := if polyB ts = true then (if ts = [] then [48] else joinUp (fpAt ts) [44, 32] ts.length) else []
theorem fpolyL_no {ts : TermL} (h : polyB ts = false) : fpolyL ts = [] := if_neg (by rw [h]; simp)
theorem fpolyL_none : fpolyL [] = [48] := by
  have h : polyB [] = true := polyB_yes (by decide) (fun t ht => absurd ht (Nat.not_lt_zero _))
  unfold fpolyL; rw [if_pos h, if_pos rfl]
theorem fpolyL_yes {ts : TermL} (h : polyB ts = true) (h0 : ts ≠ []) : fpolyL ts = joinUp (fpAt ts) [44, 32] ts.length := by
  unfold fpolyL; rw [if_pos h, if_neg h0]
theorem termText_len {ts : TermL} (h : polyB ts = true) (j : Nat) : (fpAt ts j).length ≤ 300 := by
  rw [fpAt, termText, List.length_append, List.length_append]
  have h1 := fmtInt_len (ts.getD j ([], 0)).2
  have h2 := fi_len (shortL (ts.getD j ([], 0)).1) (shortL (ts.getD j ([], 0)).1).length
  have h3 : (shortL (ts.getD j ([], 0)).1).length ≤ 7 := by
    rw [shortL, List.length_take]
    by_cases hj : j < ts.length
    · have := (polyB_all h j (ts.getD j ([], 0)).1 (ts.getD j ([], 0)).2 (by rw [List.getD_eq_getElem?_getD, List.getElem?_eq_getElem hj]; rfl)).1
      omega
    · rw [List.getD_eq_getElem?_getD, List.getElem?_eq_none (by omega)]; simp
  unfold fiL
  simp only [List.length_singleton]
  omega
theorem fpoly_len {ts : TermL} (h : polyB ts = true) (j : Nat) : (joinUp (fpAt ts) [44, 32] j).length ≤ 302 * j := joinUp_len (a := 300) (b := 2) (fun j => termText_len h j) (by simp) j
theorem exps_i64 {e : List Int} {c : Int} (h : TermOk e c) (k : Nat) : I64L (e.take k) := by
  intro x hx
  have := termOk_small h x (List.mem_of_mem_take hx)
  omega

set_option maxHeartbeats 3200000 in
theorem sFPoly_c (v : Value) (ts : TermL) (w : World) (hv : TermsV w v ts) :
    Calls Tryd.prog 19 #[v] w (GivesS w (strOf (fpolyL ts))) := by
  obtain ⟨n, ao, b, c, rfl, HL, hnc, hcm, ha, hc, hn⟩ := hv.open
  have HC := Lib.hid hc
  clear hc hcm
  cases hP : polyB ts with
  | false =>
    have HR := Lib.hid (fpolyL_no hP)
    go_enter Tryd.func19, Tryd.ntmps19
    go_wp2_with fail
    refine (sPolyOk_c _ _ _ hv).mono ?_
    rw [hP]
    rintro e w1 ⟨rfl, b1⟩
    go_wp2_with fail
    go_ret
    rw [HR.out]
    exact ⟨rfl, b1⟩
  | true =>
    by_cases hn0 : n = 0
    · subst hn0
      have h0 : ts = [] := List.eq_nil_of_length_eq_zero HL.out.symm
      have HR := Lib.hid (show fpolyL ts = [48] by rw [h0, fpolyL_none])
      clear h0
      go_enter Tryd.func19, Tryd.ntmps19
      go_wp2_with fail
      refine (sPolyOk_c _ _ _ hv).mono ?_
      rw [hP]
      rintro e w1 ⟨rfl, b1⟩
      go_wp2_with fail
      go_ret
      rw [HR.out]
      exact ⟨rfl, b1⟩
    · have HP := Lib.hid (polyB_all hP)
      have HR := Lib.hid (fpolyL_yes hP (fun h => hn0 (by rw [HL.out, h]; rfl)))
      have HLEN := Lib.hid (fpoly_len hP)
      have hn6 : n ≤ 600 := by rw [HL.out]; exact (polyB_iff.1 hP).1
      have hne : ((n : Int) == 0) = false := by simp; omega
      obtain rfl := ha (by omega)
      go_enter Tryd.func19, Tryd.ntmps19
      go_wp2_with fail
      refine (sPolyOk_c _ _ _ hv).mono ?_
      rw [hP]
      rintro e w1 ⟨rfl, b1⟩
      clear hP
      go_wp2_with fail
      go_loopw [3, 4] (fun sv iv wr => ∃ (j : Nat), j ≤ n ∧ iv = .int .i64 j ∧ sv = .string (strOf (joinUp (fpAt ts) [44, 32] j)) ∧ Below w.heap.size w wr) (fun _ iv _ => n - (intOf iv).toNat)
      case atStart => exact ⟨0, Nat.zero_le _, rfl, rfl, b1⟩
      case round =>
        obtain ⟨j, hj, rfl, rfl, hB⟩ := hrel
        clear hne
        by_cases hlt : j < n
        · obtain ⟨x, hx⟩ : ∃ x, ts[j]? = some x := ⟨_, List.getElem?_eq_getElem (by rw [← HL.out]; exact hlt)⟩
          obtain ⟨e, d⟩ := x
          obtain ⟨q, h1, h2, hq⟩ := HC.out j e d hx
          have k1 := (hB.cell (World.block_lt_of_cell? _ _ h1)).trans h1
          have k2 := (hB.cell (World.block_lt_of_cell? _ _ h2)).trans h2
          have HO := Lib.hid (HP.out j e d hx)
          obtain ⟨en, eo, eb, eoff, ec, rfl, HE, hec, hem, hea, hecell, _⟩ := hq.open
          have HEC := Lib.hid hecell
          obtain rfl : en = 7 := HE.out.trans HO.out.1
          obtain rfl := hea (by omega)
          have HT : Hid (fpAt ts j = fmtInt d ++ [58] ++ fiL (e.take (lastNZ e 7))) := Lib.hid (by
            rw [fpAt, List.getD_eq_getElem?_getD, hx]
            show termText (e, d) = _
            rw [termText, shortL, ← HE.out])
          have hj0 : (0 : Int) ≤ (j : Int) := Int.natCast_nonneg _
          have hj1 : (j : Int) < (n : Int) := by omega
          have hd1 : -9223372036854775808 ≤ d := by have := inB_true HO.out.2.2.1; omega
          have hd2 : d ≤ 9223372036854775807 := by have := inB_true HO.out.2.2.1; omega
          clear h1 h2 hx hecell hem hea
          go_wp2_with fail
          go_loop [5] (fun qv => ∃ q : Nat, q ≤ 7 ∧ qv = .int .i64 q ∧ Hid (lastNZ e 7 = lastNZ e q)) (fun qv => (intOf qv).toNat)
          case atStart => exact ⟨7, Nat.le_refl _, rfl, Lib.hid rfl⟩
          case round =>
            obtain ⟨q, hq7, rfl, HQ⟩ := hrel
            have hstop : (q = 0 ∨ ∃ p x, q = p + 1 ∧ x = e.getD p 0 ∧ x ≠ 0) ∨ (∃ p, q = p + 1 ∧ e.getD p 0 = 0) := by
              cases q with
              | zero => exact .inl (.inl rfl)
              | succ p =>
                by_cases h : e.getD p 0 = 0
                · exact .inr ⟨p, rfl, h⟩
                · exact .inl (.inr ⟨p, _, rfl, rfl, h⟩)
            rcases hstop with hs | ⟨p, rfl, hp0⟩
            · rcases hs with rfl | ⟨p, x, rfl, hx, hx0⟩
              · have HQL : Hid (lastNZ e 7 = 0) := Lib.hid HQ.out
                by_cases hjz : j = 0
                · have hjn : ¬ (0 : Int) < (j : Int) := by omega
                  have HJ : Hid (joinUp (fpAt ts) [44, 32] (j + 1) = [] ++ fpAt ts j) := Lib.hid (by rw [hjz]; rfl)
                  have hPsz : (strOf (joinUp (fpAt ts) [44, 32] j)).size ≤ 300000 := by rw [strOf_size, hjz]; simp [joinUp]
                  have HPP : Hid (strOf (joinUp (fpAt ts) [44, 32] j) = strOf []) := Lib.hid (by rw [hjz]; rfl)
                  clear hjz
                  generalize strOf (joinUp (fpAt ts) [44, 32] j) = P at hPsz HPP ⊢
                  go_wp2_with fail
                  have HG : Hid (lastNZ e 7 = 0) := HQL
                  have hcut := hq.cut rfl 0 (by rw [← HE.out]; omega)
                  have hcc : (0 : Int) ≤ (ec : Int) := by omega
                  have HX4 := Lib.hid (exps_i64 HO.out 0)
                  obtain ⟨F, hF⟩ : ∃ F, F = strOf (fmtInt d) := ⟨_, rfl⟩
                  obtain ⟨G, hG⟩ : ∃ G, G = strOf (fiL (e.take 0)) := ⟨_, rfl⟩
                  have hFs : F.size ≤ 26 := by rw [hF, strOf_size]; exact fmtInt_len d
                  have hGs : G.size ≤ 189 := by rw [hG, strOf_size]; have := fi_len (e.take 0) (e.take 0).length; have h7 : (e.take 0).length ≤ 7 := by rw [List.length_take, ← HE.out]; omega
                                                unfold fiL; omega
                  have hPs : P.size ≤ 300000 := hPsz
                  have HN : Hid (P ++ F ++ ⟨#[58]⟩ ++ G = strOf (joinUp (fpAt ts) [44, 32] (j + 1))) := Lib.hid (by
                    rw [HJ.out, HT.out, HG.out, hF, hG, HPP.out]
                    rw [show (⟨#[58]⟩ : ByteArray) = strOf [58] from rfl, strOf_append, strOf_append, strOf_append]
                    simp [List.append_assoc])
                  have cF : Hid (∀ W, Calls Tryd.prog 23 #[.int .i64 d] W (GivesS W F)) := Lib.hid (fun W => by rw [hF]; exact sFmt_c _ _ hd1 hd2)
                  have cG : Hid (∀ W, Below w.heap.size w W → Calls Tryd.prog 28 #[.slice (some ⟨eb, eoff, none⟩) 0 ec] W (GivesS W G)) := Lib.hid (fun W hW => by rw [hG]; exact sFInts_c _ _ _ (hcut.kept hW) HX4.out)
                  have hs1 : ¬ 9223372036854775807 < P.size + F.size := by omega
                  have hs2 : ¬ 9223372036854775807 < P.size + F.size + 1 := by omega
                  have hs3 : ¬ 9223372036854775807 < P.size + F.size + 1 + G.size := by omega
                  clear hF hG hFs hGs hPs hPsz hcut
                  try go_wp2_with fail
                  go_region_held3 (fun w' => Below w.heap.size w w' ∧ w'.cell? ⟨b, j * 2, none⟩ = some (.slice (some ⟨eb, eoff, none⟩) 7 ec) ∧ w'.cell? ⟨b, j * 2 + 1, none⟩ = some (.int .i64 d))
                    (first
                      | exact keep2_drew hB k1 k2
                      | exact keep2_call b1' (by assumption) (Nat.le_refl _)
                      | exact keep2_call b2' (by assumption) (Nat.le_refl _))
                    (first
                      | (go_at_call 23; refine (cF.out _).mono ?_; rintro e1 w1' ⟨rfl, b1'⟩)
                      | (go_at_call 28; refine (cG.out _ (held2_below (by assumption))).mono ?_; rintro e2 w2' ⟨rfl, b2'⟩))
                  all_goals
                    have FF := held2_below (p := ⟨b, j * 2, none⟩) (q := ⟨b, j * 2 + 1, none⟩) (x := .slice (some ⟨eb, eoff, none⟩) 7 ec) (y := .int .i64 d) (B := w.heap.size) (w := w) (by assumption)
                    go_wp2_with fail
                    rw [HN.out]
                    go_roundw
                    case rel => exact ⟨j + 1, by omega, by go_num, rfl, FF⟩
                    case measure => simp [intOf]; omega
                · have hjn : (0 : Int) < (j : Int) := by omega
                  have HJ : Hid (joinUp (fpAt ts) [44, 32] (j + 1) = (joinUp (fpAt ts) [44, 32] j ++ [44, 32]) ++ fpAt ts j) := Lib.hid (joinUp_succ _ _ hjz)
                  have HS0 := Lib.hid (show (strOf (joinUp (fpAt ts) [44, 32] j)).size + 2 ≤ 300000 by rw [strOf_size]; have := HLEN.out j; omega)
                  have HPP0 : Hid (strOf (joinUp (fpAt ts) [44, 32] j) ++ ⟨#[44, 32]⟩ = strOf (joinUp (fpAt ts) [44, 32] j ++ [44, 32])) := Lib.hid (strOf_append _ [44, 32])
                  clear hjz
                  generalize strOf (joinUp (fpAt ts) [44, 32] j) = P0 at HS0 HPP0 ⊢
                  obtain ⟨P, hPe⟩ : ∃ P, P = P0 ++ (⟨#[44, 32]⟩ : ByteArray) := ⟨_, rfl⟩
                  have HPE := Lib.hid hPe
                  have hPsz : P.size ≤ 300000 := by rw [hPe, ByteArray.size_append]; exact HS0.out
                  have HPP : Hid (P = strOf (joinUp (fpAt ts) [44, 32] j ++ [44, 32])) := Lib.hid (by rw [hPe]; exact HPP0.out)
                  clear hPe
                  go_wp2_with fail
                  case isTrue hbad => have := HS0.out; omega
                  rw [← HPE.out]
                  have HG : Hid (lastNZ e 7 = 0) := HQL
                  have hcut := hq.cut rfl 0 (by rw [← HE.out]; omega)
                  have hcc : (0 : Int) ≤ (ec : Int) := by omega
                  have HX4 := Lib.hid (exps_i64 HO.out 0)
                  obtain ⟨F, hF⟩ : ∃ F, F = strOf (fmtInt d) := ⟨_, rfl⟩
                  obtain ⟨G, hG⟩ : ∃ G, G = strOf (fiL (e.take 0)) := ⟨_, rfl⟩
                  have hFs : F.size ≤ 26 := by rw [hF, strOf_size]; exact fmtInt_len d
                  have hGs : G.size ≤ 189 := by rw [hG, strOf_size]; have := fi_len (e.take 0) (e.take 0).length; have h7 : (e.take 0).length ≤ 7 := by rw [List.length_take, ← HE.out]; omega
                                                unfold fiL; omega
                  have hPs : P.size ≤ 300000 := hPsz
                  have HN : Hid (P ++ F ++ ⟨#[58]⟩ ++ G = strOf (joinUp (fpAt ts) [44, 32] (j + 1))) := Lib.hid (by
                    rw [HJ.out, HT.out, HG.out, hF, hG, HPP.out]
                    rw [show (⟨#[58]⟩ : ByteArray) = strOf [58] from rfl, strOf_append, strOf_append, strOf_append]
                    simp [List.append_assoc])
                  have cF : Hid (∀ W, Calls Tryd.prog 23 #[.int .i64 d] W (GivesS W F)) := Lib.hid (fun W => by rw [hF]; exact sFmt_c _ _ hd1 hd2)
                  have cG : Hid (∀ W, Below w.heap.size w W → Calls Tryd.prog 28 #[.slice (some ⟨eb, eoff, none⟩) 0 ec] W (GivesS W G)) := Lib.hid (fun W hW => by rw [hG]; exact sFInts_c _ _ _ (hcut.kept hW) HX4.out)
                  have hs1 : ¬ 9223372036854775807 < P.size + F.size := by omega
                  have hs2 : ¬ 9223372036854775807 < P.size + F.size + 1 := by omega
                  have hs3 : ¬ 9223372036854775807 < P.size + F.size + 1 + G.size := by omega
                  clear hF hG hFs hGs hPs hPsz hcut
                  try go_wp2_with fail
                  go_region_held3 (fun w' => Below w.heap.size w w' ∧ w'.cell? ⟨b, j * 2, none⟩ = some (.slice (some ⟨eb, eoff, none⟩) 7 ec) ∧ w'.cell? ⟨b, j * 2 + 1, none⟩ = some (.int .i64 d))
                    (first
                      | exact keep2_drew hB k1 k2
                      | exact keep2_call b1' (by assumption) (Nat.le_refl _)
                      | exact keep2_call b2' (by assumption) (Nat.le_refl _))
                    (first
                      | (go_at_call 23; refine (cF.out _).mono ?_; rintro e1 w1' ⟨rfl, b1'⟩)
                      | (go_at_call 28; refine (cG.out _ (held2_below (by assumption))).mono ?_; rintro e2 w2' ⟨rfl, b2'⟩))
                  all_goals
                    have FF := held2_below (p := ⟨b, j * 2, none⟩) (q := ⟨b, j * 2 + 1, none⟩) (x := .slice (some ⟨eb, eoff, none⟩) 7 ec) (y := .int .i64 d) (B := w.heap.size) (w := w) (by assumption)
                    go_wp2_with fail
                    rw [HN.out]
                    go_roundw
                    case rel => exact ⟨j + 1, by omega, by go_num, rfl, FF⟩
                    case measure => simp [intOf]; omega
              · have HQL : Hid (lastNZ e 7 = p + 1) := Lib.hid (HQ.out.trans (lastNZ_stop hx hx0))
                have hEc := (HEC.out p (by omega)).trans (by rw [← hx])
                have k3 := (hB.cell (World.block_lt_of_cell? _ _ hEc)).trans hEc
                have hw1 : IntKind.i64.wrap ((p : Int) + 1 - 1) = (p : Int) := (IntWalk.i64_in _ (by omega)).trans (by omega)
                have hp00 : (0 : Int) ≤ (p : Int) := Int.natCast_nonneg _
                have hp1 : (p : Int) < 7 := by omega
                have hxb : (x == 0) = false := by simpa using hx0
                have hq0 : (0 : Int) ≤ (p : Int) + 1 := by omega
                clear hEc hx hx0
                by_cases hjz : j = 0
                · have hjn : ¬ (0 : Int) < (j : Int) := by omega
                  have HJ : Hid (joinUp (fpAt ts) [44, 32] (j + 1) = [] ++ fpAt ts j) := Lib.hid (by rw [hjz]; rfl)
                  have hPsz : (strOf (joinUp (fpAt ts) [44, 32] j)).size ≤ 300000 := by rw [strOf_size, hjz]; simp [joinUp]
                  have HPP : Hid (strOf (joinUp (fpAt ts) [44, 32] j) = strOf []) := Lib.hid (by rw [hjz]; rfl)
                  clear hjz
                  generalize strOf (joinUp (fpAt ts) [44, 32] j) = P at hPsz HPP ⊢
                  go_wp2_with fail
                  have HG : Hid (lastNZ e 7 = (p + 1)) := HQL
                  have hcut := hq.cut rfl (p + 1) (by rw [← HE.out]; omega)
                  have hcc : ((p : Int) + 1) ≤ (ec : Int) := by omega
                  have HX4 := Lib.hid (exps_i64 HO.out (p + 1))
                  obtain ⟨F, hF⟩ : ∃ F, F = strOf (fmtInt d) := ⟨_, rfl⟩
                  obtain ⟨G, hG⟩ : ∃ G, G = strOf (fiL (e.take (p + 1))) := ⟨_, rfl⟩
                  have hFs : F.size ≤ 26 := by rw [hF, strOf_size]; exact fmtInt_len d
                  have hGs : G.size ≤ 189 := by rw [hG, strOf_size]; have := fi_len (e.take (p + 1)) (e.take (p + 1)).length; have h7 : (e.take (p + 1)).length ≤ 7 := by rw [List.length_take, ← HE.out]; omega
                                                unfold fiL; omega
                  have hPs : P.size ≤ 300000 := hPsz
                  have HN : Hid (P ++ F ++ ⟨#[58]⟩ ++ G = strOf (joinUp (fpAt ts) [44, 32] (j + 1))) := Lib.hid (by
                    rw [HJ.out, HT.out, HG.out, hF, hG, HPP.out]
                    rw [show (⟨#[58]⟩ : ByteArray) = strOf [58] from rfl, strOf_append, strOf_append, strOf_append]
                    simp [List.append_assoc])
                  have cF : Hid (∀ W, Calls Tryd.prog 23 #[.int .i64 d] W (GivesS W F)) := Lib.hid (fun W => by rw [hF]; exact sFmt_c _ _ hd1 hd2)
                  have cG : Hid (∀ W, Below w.heap.size w W → Calls Tryd.prog 28 #[.slice (some ⟨eb, eoff, none⟩) (p + 1) ec] W (GivesS W G)) := Lib.hid (fun W hW => by rw [hG]; exact sFInts_c _ _ _ (hcut.kept hW) HX4.out)
                  have hs1 : ¬ 9223372036854775807 < P.size + F.size := by omega
                  have hs2 : ¬ 9223372036854775807 < P.size + F.size + 1 := by omega
                  have hs3 : ¬ 9223372036854775807 < P.size + F.size + 1 + G.size := by omega
                  clear hF hG hFs hGs hPs hPsz hcut
                  try go_wp2_with fail
                  go_region_held3 (fun w' => Below w.heap.size w w' ∧ w'.cell? ⟨b, j * 2, none⟩ = some (.slice (some ⟨eb, eoff, none⟩) 7 ec) ∧ w'.cell? ⟨b, j * 2 + 1, none⟩ = some (.int .i64 d))
                    (first
                      | exact keep2_drew hB k1 k2
                      | exact keep2_call b1' (by assumption) (Nat.le_refl _)
                      | exact keep2_call b2' (by assumption) (Nat.le_refl _))
                    (first
                      | (go_at_call 23; refine (cF.out _).mono ?_; rintro e1 w1' ⟨rfl, b1'⟩)
                      | (go_at_call 28; refine (cG.out _ (held2_below (by assumption))).mono ?_; rintro e2 w2' ⟨rfl, b2'⟩))
                  all_goals
                    have FF := held2_below (p := ⟨b, j * 2, none⟩) (q := ⟨b, j * 2 + 1, none⟩) (x := .slice (some ⟨eb, eoff, none⟩) 7 ec) (y := .int .i64 d) (B := w.heap.size) (w := w) (by assumption)
                    go_wp2_with fail
                    rw [HN.out]
                    go_roundw
                    case rel => exact ⟨j + 1, by omega, by go_num, rfl, FF⟩
                    case measure => simp [intOf]; omega
                · have hjn : (0 : Int) < (j : Int) := by omega
                  have HJ : Hid (joinUp (fpAt ts) [44, 32] (j + 1) = (joinUp (fpAt ts) [44, 32] j ++ [44, 32]) ++ fpAt ts j) := Lib.hid (joinUp_succ _ _ hjz)
                  have HS0 := Lib.hid (show (strOf (joinUp (fpAt ts) [44, 32] j)).size + 2 ≤ 300000 by rw [strOf_size]; have := HLEN.out j; omega)
                  have HPP0 : Hid (strOf (joinUp (fpAt ts) [44, 32] j) ++ ⟨#[44, 32]⟩ = strOf (joinUp (fpAt ts) [44, 32] j ++ [44, 32])) := Lib.hid (strOf_append _ [44, 32])
                  clear hjz
                  generalize strOf (joinUp (fpAt ts) [44, 32] j) = P0 at HS0 HPP0 ⊢
                  obtain ⟨P, hPe⟩ : ∃ P, P = P0 ++ (⟨#[44, 32]⟩ : ByteArray) := ⟨_, rfl⟩
                  have HPE := Lib.hid hPe
                  have hPsz : P.size ≤ 300000 := by rw [hPe, ByteArray.size_append]; exact HS0.out
                  have HPP : Hid (P = strOf (joinUp (fpAt ts) [44, 32] j ++ [44, 32])) := Lib.hid (by rw [hPe]; exact HPP0.out)
                  clear hPe
                  go_wp2_with fail
                  case isTrue hbad => have := HS0.out; omega
                  rw [← HPE.out]
                  have HG : Hid (lastNZ e 7 = (p + 1)) := HQL
                  have hcut := hq.cut rfl (p + 1) (by rw [← HE.out]; omega)
                  have hcc : ((p : Int) + 1) ≤ (ec : Int) := by omega
                  have HX4 := Lib.hid (exps_i64 HO.out (p + 1))
                  obtain ⟨F, hF⟩ : ∃ F, F = strOf (fmtInt d) := ⟨_, rfl⟩
                  obtain ⟨G, hG⟩ : ∃ G, G = strOf (fiL (e.take (p + 1))) := ⟨_, rfl⟩
                  have hFs : F.size ≤ 26 := by rw [hF, strOf_size]; exact fmtInt_len d
                  have hGs : G.size ≤ 189 := by rw [hG, strOf_size]; have := fi_len (e.take (p + 1)) (e.take (p + 1)).length; have h7 : (e.take (p + 1)).length ≤ 7 := by rw [List.length_take, ← HE.out]; omega
                                                unfold fiL; omega
                  have hPs : P.size ≤ 300000 := hPsz
                  have HN : Hid (P ++ F ++ ⟨#[58]⟩ ++ G = strOf (joinUp (fpAt ts) [44, 32] (j + 1))) := Lib.hid (by
                    rw [HJ.out, HT.out, HG.out, hF, hG, HPP.out]
                    rw [show (⟨#[58]⟩ : ByteArray) = strOf [58] from rfl, strOf_append, strOf_append, strOf_append]
                    simp [List.append_assoc])
                  have cF : Hid (∀ W, Calls Tryd.prog 23 #[.int .i64 d] W (GivesS W F)) := Lib.hid (fun W => by rw [hF]; exact sFmt_c _ _ hd1 hd2)
                  have cG : Hid (∀ W, Below w.heap.size w W → Calls Tryd.prog 28 #[.slice (some ⟨eb, eoff, none⟩) (p + 1) ec] W (GivesS W G)) := Lib.hid (fun W hW => by rw [hG]; exact sFInts_c _ _ _ (hcut.kept hW) HX4.out)
                  have hs1 : ¬ 9223372036854775807 < P.size + F.size := by omega
                  have hs2 : ¬ 9223372036854775807 < P.size + F.size + 1 := by omega
                  have hs3 : ¬ 9223372036854775807 < P.size + F.size + 1 + G.size := by omega
                  clear hF hG hFs hGs hPs hPsz hcut
                  try go_wp2_with fail
                  go_region_held3 (fun w' => Below w.heap.size w w' ∧ w'.cell? ⟨b, j * 2, none⟩ = some (.slice (some ⟨eb, eoff, none⟩) 7 ec) ∧ w'.cell? ⟨b, j * 2 + 1, none⟩ = some (.int .i64 d))
                    (first
                      | exact keep2_drew hB k1 k2
                      | exact keep2_call b1' (by assumption) (Nat.le_refl _)
                      | exact keep2_call b2' (by assumption) (Nat.le_refl _))
                    (first
                      | (go_at_call 23; refine (cF.out _).mono ?_; rintro e1 w1' ⟨rfl, b1'⟩)
                      | (go_at_call 28; refine (cG.out _ (held2_below (by assumption))).mono ?_; rintro e2 w2' ⟨rfl, b2'⟩))
                  all_goals
                    have FF := held2_below (p := ⟨b, j * 2, none⟩) (q := ⟨b, j * 2 + 1, none⟩) (x := .slice (some ⟨eb, eoff, none⟩) 7 ec) (y := .int .i64 d) (B := w.heap.size) (w := w) (by assumption)
                    go_wp2_with fail
                    rw [HN.out]
                    go_roundw
                    case rel => exact ⟨j + 1, by omega, by go_num, rfl, FF⟩
                    case measure => simp [intOf]; omega
            · have hEc := (HEC.out p (by omega)).trans (by rw [hp0])
              have k3 := (hB.cell (World.block_lt_of_cell? _ _ hEc)).trans hEc
              have HQ' : Hid (lastNZ e 7 = lastNZ e p) := Lib.hid (by rw [HQ.out]; exact lastNZ_zero hp0.symm rfl)
              have hw1 : IntKind.i64.wrap ((p : Int) + 1 - 1) = (p : Int) := (IntWalk.i64_in _ (by omega)).trans (by omega)
              have hp00 : (0 : Int) ≤ (p : Int) := Int.natCast_nonneg _
              have hp1 : (p : Int) < 7 := by omega
              clear hEc hp0
              go_wp2_with fail
              go_round
              case rel => exact ⟨p, by omega, by go_num, HQ'⟩
              case measure => simp [intOf] <;> omega
        · obtain rfl : j = n := by omega
          go_wp2_with fail
          go_ret
          rw [HR.out, ← HL.out]
          exact ⟨rfl, hB⟩

theorem shortened_c (v : Value) (l : List Int) (w : World) (hv : IntsV w v l) :
    Calls Tryd.prog 32 #[v] w fun e w' => ∃ r, e = .returned r ∧ IntsV w r (shortL l) ∧ w = w' := by
  have hv0 := hv
  obtain ⟨n, ao, b, off, c, rfl, HL, hnc, hcm, ha, hc, hn⟩ := hv.open
  have HC := Lib.hid hc
  clear hc hcm hv
  go_enter Tryd.func32, Tryd.ntmps32
  go_wp2
  go_loop [3] (fun qv => ∃ q : Nat, q ≤ n ∧ qv = .int .i64 q ∧ Hid (lastNZ l n = lastNZ l q)) (fun qv => (intOf qv).toNat)
  case atStart => exact ⟨n, Nat.le_refl _, rfl, Lib.hid rfl⟩
  case round =>
    obtain ⟨q, hq7, rfl, HQ⟩ := hrel
    cases q with
    | zero =>
      have hcut := hv0.cut rfl 0 (Nat.zero_le _)
      have HG : Hid (shortL l = l.take 0) := Lib.hid (by rw [shortL, ← HL.out, HQ.out]; rfl)
      have hcc : (0 : Int) ≤ (c : Int) := by omega
      go_wp2
      go_ret
      exact ⟨_, rfl, by rw [HG.out]; exact hcut, rfl⟩
    | succ p =>
      obtain rfl := ha (by omega)
      obtain ⟨x, hx⟩ : ∃ x, x = l.getD p 0 := ⟨_, rfl⟩
      have k3 := (HC.out p (by omega)).trans (by rw [← hx])
      have hw1 : IntKind.i64.wrap ((p : Int) + 1 - 1) = (p : Int) := (IntWalk.i64_in _ (by omega)).trans (by omega)
      have hp00 : (0 : Int) ≤ (p : Int) := Int.natCast_nonneg _
      have hp1 : (p : Int) < (n : Int) := by omega
      by_cases hx0 : x = 0
      · have HQ' : Hid (lastNZ l n = lastNZ l p) := Lib.hid (HQ.out.trans (lastNZ_zero hx hx0))
        subst hx0
        clear hx
        go_wp2
        go_round
        case rel => exact ⟨p, by omega, by go_num, HQ'⟩
        case measure => simp [intOf] <;> omega
      · have hxb : (x == 0) = false := by simpa using hx0
        have hcut := hv0.cut rfl (p + 1) (by rw [← HL.out]; omega)
        have HG : Hid (shortL l = l.take (p + 1)) := Lib.hid (by rw [shortL, ← HL.out, HQ.out, lastNZ_stop hx hx0])
        have hcc : (p : Int) + 1 ≤ (c : Int) := by omega
        have hq0 : (0 : Int) ≤ (p : Int) + 1 := by omega
        clear hx hx0
        go_wp2
        go_ret
        exact ⟨_, rfl, by rw [HG.out]; exact hcut, rfl⟩

/-- In a region that draws its order: a text is appended. -/
theorem step_pushS {ops : Array Oper} {o : Oper} {a : Act} {w0 W : World} {K : Act → World → Prop} {Q : Exit → Act → World → Prop} {E : Prop}
    (hw : Region.wanted o (yielded ops a.tmps) = true) (s x : Operand)
    (ho : o.op = .call { callee := .builtin .append, args := #[s, x], argTypes := #[33, 33] })
    {B : Nat} {v : Value} {ls : List (List UInt8)} {y : List UInt8} {t : ByteArray} (hown : OwnL 9 strV B w0 v ls) (hb : Below w0.heap.size w0 W) (ht : t = strOf y) (hB : B ≤ w0.heap.size)
    (hs : a.eval s = v) (hx : a.eval x = .slice (some ⟨W.heap.size, 0, none⟩) 1 1) (hlen : ls.length + 1 ≤ 1099511627776)
    (h : ∀ v' w', OwnL 9 strV B w' v' (ls ++ [y]) → Below B (W.alloc (.cells #[.string t] 9)) w' →
      (∀ (p : Addr) (z : Value), v.ownBlock ≠ some p.block → (W.alloc (.cells #[.string t] 9)).cell? p = some z → w'.cell? p = some z) → K (a.put o.dst v') w') :
    if Region.wanted o (yielded ops a.tmps) = true then Oper.wp Tryd.prog o a (W.alloc (.cells #[.string t] 9)) K Q else E := by
  subst ht
  have hR := hown.kept hb
  obtain ⟨i0, hi, hz0, hz, hz2⟩ := info_parts Tryd.infoStr
  have hBW : B ≤ W.heap.size := Nat.le_trans hB hb.size
  rw [if_pos hw]
  refine wp_append_lies _ s x 33 ho B 9 i0 (.string ⟨#[]⟩) 1 16 Tryd.underlying33 hi hz0 hz hz2 rfl (by decide) v ls.length (ls.map strV) hs (hR.1.alloc _)
    ⟨W.heap.size, 0, none⟩ 1 1 [.string (strOf y)] hx rfl ?_ ?_ (by decide) ?_ ?_ ?_ (W.heap.size + 1) (by simp) ?_
  · intro j u hj
    match j, hj with
    | 0, hj => simp at hj; subst hj; simp [Addr.add]
  · intro u hu; simp at hu; subst hu; rfl
  · unfold maxLen; omega
  · omega
  · simp; omega
  · intro g cap w' hown' hgrow hat hlt
    have hbb : Below B (W.alloc (.cells #[.string (strOf y)] 9)) w' := (Below.refl _ _).grown hgrow (by simp; omega) (fun k hk => (hR.block k hk).1)
    refine h _ w' ⟨?_, by simpa using hlen⟩ hbb (fun p z hp hz => ?_)
    · rw [List.length_append, List.map_append]
      exact hown'
    · rw [World.cell?_of_block (hgrow.block p.block (World.block_lt_of_cell? _ _ hz) (fun e => hp e.symm))]; exact hz
theorem OwnL.ne {α : Type} {e : TypeId} {f : α → Value} {B : Nat} {w : World} {v : Value} {l : List α} (h : OwnL e f B w v l) (k : Nat) (hk : k < B ∨ w.heap.size ≤ k) : v.ownBlock ≠ some k := fun e => by
  have := h.block k e
  omega

set_option maxHeartbeats 3200000 in
theorem iFPoly_c (v : Value) (ts : TermL) (w : World) (hv : TermsV w v ts) :
    Calls Tryd.prog 21 #[v] w (GivesS w (strOf (fpolyL ts))) := by
  obtain ⟨n, ao, b, c, rfl, HL, hnc, hcm, ha, hc, hn⟩ := hv.open
  have HC := Lib.hid hc
  clear hc hcm
  cases hP : polyB ts with
  | false =>
    have HR := Lib.hid (fpolyL_no hP)
    go_enter Tryd.func21, Tryd.ntmps21
    go_wp2_with fail
    refine (iPolyOk_c _ _ _ hv).mono ?_
    rw [hP]
    rintro e w1 ⟨rfl, b1⟩
    go_wp2_with fail
    go_ret
    rw [HR.out]
    exact ⟨rfl, b1⟩
  | true =>
    by_cases hn0 : n = 0
    · subst hn0
      have h0 : ts = [] := List.eq_nil_of_length_eq_zero HL.out.symm
      have HR := Lib.hid (show fpolyL ts = [48] by rw [h0, fpolyL_none])
      clear h0
      go_enter Tryd.func21, Tryd.ntmps21
      go_wp2_with fail
      refine (iPolyOk_c _ _ _ hv).mono ?_
      rw [hP]
      rintro e w1 ⟨rfl, b1⟩
      go_wp2_with fail
      go_ret
      rw [HR.out]
      exact ⟨rfl, b1⟩
    · have HP := Lib.hid (polyB_all hP)
      have HR := Lib.hid (fpolyL_yes hP (fun h => hn0 (by rw [HL.out, h]; rfl)))
      have HLEN := Lib.hid (fpoly_len hP)
      have hn6 : n ≤ 600 := by rw [HL.out]; exact (polyB_iff.1 hP).1
      have hne : ((n : Int) == 0) = false := by simp; omega
      obtain rfl := ha (by omega)
      go_enter Tryd.func21, Tryd.ntmps21
      go_wp2_with fail
      refine (iPolyOk_c _ _ _ hv).mono ?_
      rw [hP]
      rintro e w1 ⟨rfl, b1⟩
      clear hP
      go_wp2_with fail
      go_loopw [3, 15] (fun sv iv wr => ∃ (j : Nat), j ≤ n ∧ iv = .int .i64 j ∧ OwnL 9 strV w.heap.size wr sv ((List.range j).map (fpAt ts)) ∧ Below w.heap.size w wr) (fun _ iv _ => n - (intOf iv).toNat)
      case atStart => exact ⟨0, Nat.zero_le _, rfl, (OwnL.lit _ _ w1).mono b1.size, b1.alloc b1.size _⟩
      case round =>
        obtain ⟨j, hj, rfl, hO, hB⟩ := hrel
        clear hne
        by_cases hlt : j < n
        · obtain ⟨x, hx⟩ : ∃ x, ts[j]? = some x := ⟨_, List.getElem?_eq_getElem (by rw [← HL.out]; exact hlt)⟩
          obtain ⟨e, d⟩ := x
          obtain ⟨q, h1, h2, hq⟩ := HC.out j e d hx
          have k1 := (hB.cell (World.block_lt_of_cell? _ _ h1)).trans h1
          have k2 := (hB.cell (World.block_lt_of_cell? _ _ h2)).trans h2
          have HO := Lib.hid (HP.out j e d hx)
          obtain ⟨qo, qn, qc, rfl⟩ := hq.shape
          have HT : Hid (fpAt ts j = fmtInt d ++ [58] ++ fiL (shortL e)) := Lib.hid (by
            rw [fpAt, List.getD_eq_getElem?_getD, hx]
            rfl)
          have hj0 : (0 : Int) ≤ (j : Int) := Int.natCast_nonneg _
          have hj1 : (j : Int) < (n : Int) := by omega
          have hd1 : -9223372036854775808 ≤ d := by have := inB_true HO.out.2.2.1; omega
          have hd2 : d ≤ 9223372036854775807 := by have := inB_true HO.out.2.2.1; omega
          have FB := hB.alloc hB.size (Obj.cells #[.slice qo qn qc, .int .i64 d] 39)
          have c1 : (wr.alloc (Obj.cells #[.slice qo qn qc, .int .i64 d] 39)).cell? ⟨wr.heap.size, 0, none⟩ = some (.slice qo qn qc) := by simp
          have c2 : (wr.alloc (Obj.cells #[.slice qo qn qc, .int .i64 d] 39)).cell? ⟨wr.heap.size, 1, none⟩ = some (.int .i64 d) := by simp
          have hne := hO.ne wr.heap.size (.inr (Nat.le_refl _))
          have hOD := (hO.kept ((Below.refl _ _).alloc (Nat.le_refl _) (Obj.cells #[.slice qo qn qc, .int .i64 d] 39))).drew
          have hqD := (hq.kept FB).drew
          have hsz := FB.size
          have HX4 := Lib.hid (exps_i64 HO.out (lastNZ e e.length))
          obtain ⟨F, hF⟩ : ∃ F, F = strOf (fmtInt d) := ⟨_, rfl⟩
          obtain ⟨G, hG⟩ : ∃ G, G = strOf (fiL (shortL e)) := ⟨_, rfl⟩
          have hFs : F.size ≤ 26 := by rw [hF, strOf_size]; exact fmtInt_len d
          have hGs : G.size ≤ 189 := by
            rw [hG, strOf_size]
            have := fi_len (shortL e) (shortL e).length
            have h7 : (shortL e).length ≤ 7 := by rw [shortL, List.length_take, HO.out.1]; omega
            unfold fiL; omega
          have HN : Hid (F ++ ⟨#[58]⟩ ++ G = strOf (fpAt ts j)) := Lib.hid (by
            rw [HT.out, hF, hG]
            rw [show (⟨#[58]⟩ : ByteArray) = strOf [58] from rfl, strOf_append, strOf_append])
          have HL2 : Hid ((List.range j).map (fpAt ts) ++ [fpAt ts j] = (List.range (j + 1)).map (fpAt ts)) := Lib.hid (by rw [List.range_succ, List.map_append]; rfl)
          have hlen : ((List.range j).map (fpAt ts)).length + 1 ≤ 1099511627776 := by simp; omega
          have cF : Hid (∀ W, Calls Tryd.prog 26 #[.int .i64 d] W fun e w' => e = .returned (.string F) ∧ W = w') := Lib.hid (fun W => by rw [hF]; exact iFmt_c _ _ hd1 hd2)
          have cG : Hid (∀ W v, IntsV W v (shortL e) → Calls Tryd.prog 31 #[v] W (GivesS W G)) := Lib.hid (fun W v hW => by rw [hG]; exact iFInts_c _ _ _ hW HX4.out)
          have hs1 : ¬ 9223372036854775807 < F.size + 1 := by omega
          have hs2 : ¬ 9223372036854775807 < F.size + 1 + G.size := by omega
          clear hF hG hFs hGs h1 h2 hx hO
          go_wp2_with fail
          go_region_held3 (fun w' => Below w.heap.size w w' ∧ w'.cell? ⟨wr.heap.size, 0, none⟩ = some (.slice qo qn qc) ∧ w'.cell? ⟨wr.heap.size, 1, none⟩ = some (.int .i64 d))
            (first
              | exact keep2_drew FB c1 c2
              | assumption
              | exact keep2_call b2 (by assumption) (Nat.le_refl _)
              | exact keep2_push b3 hk3 (by assumption) hne hne
              | exact keep2_alloc _ (by assumption) (Nat.le_refl _))
            (first
              | (refine step_pushS (by rfl) _ _ (by rfl) hOD b2 HN.out hsz (by rfl) (by rfl) hlen ?_; intro v3 w3 o3 b3 hk3)
              | (go_at_call 26; refine (cF.out _).mono ?_; rintro e1 w1' ⟨rfl, rfl⟩)
              | (go_at_call 32; refine (shortened_c _ _ _ hqD).mono ?_; rintro e1 w1' ⟨r, rfl, hr, rfl⟩)
              | (go_at_call 31; refine (cG.out _ _ hr).mono ?_; rintro e2 w2 ⟨rfl, b2⟩))
          all_goals
            have FF := held2_below (p := ⟨wr.heap.size, 0, none⟩) (q := ⟨wr.heap.size, 1, none⟩) (x := .slice qo qn qc) (y := .int .i64 d) (B := w.heap.size) (w := w) (W := w3) (by assumption)
            go_wp2_with fail
            go_roundw
            case rel => exact ⟨j + 1, by omega, by go_num, by rw [← HL2.out]; exact o3, FF⟩
            case measure => simp [intOf]; omega
        · obtain rfl : j = n := by omega
          have HJ : Hid (Lib.join ((List.range j).map (fpAt ts)) [44, 32] = fpolyL ts) := Lib.hid (by rw [← joinUp_join, HR.out, ← HL.out])
          have hlen : (Lib.join ((List.range j).map (fpAt ts)) [44, 32]).length ≤ 140737488355328 := by
            rw [← joinUp_join]; have := HLEN.out j; omega
          go_wp2_with fail
          refine (join_c _ _ [44, 32] _ _ hO hlen).mono ?_
          rintro e w2 ⟨rfl, b2⟩
          have F2 := below_step hB b2 hB.size
          go_wp2_with fail
          go_ret
          rw [HJ.out]
          exact ⟨rfl, F2⟩

end Go.Proofs.YthgigbihpcelpaaDoor
