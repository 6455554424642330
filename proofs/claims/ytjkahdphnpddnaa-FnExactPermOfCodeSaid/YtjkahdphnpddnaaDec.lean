/-
  Contracts: PermOfCode.
-/
import Derived.Test.YtjkahdphnpddnaaDel
import Derived.Test.YtjkahdphnpddnaaIdent
import Derived.Test.YtjkahdphnpddnaaPerm
namespace Go.Proofs.Ytjkahdphnpddnaa
open Go.RowKit
set_option linter.unusedVariables false

/-- What is left and what has been taken, behind k numbers of the code. -/
def decUp (c : List Int) : Nat → List Int × List Int
  | 0 => ([], idL c.length)
  | k + 1 => ((decUp c k).1 ++ [(decUp c k).2.getD (c.getD k 0).toNat 0], (decUp c k).2.eraseIdx (c.getD k 0).toNat)
def outUp (c : List Int) (k : Nat) : List Int := (decUp c k).1
def restUp (c : List Int) (k : Nat) : List Int := (decUp c k).2
def CodeTo (c : List Int) (k : Nat) : Prop := ∀ t, t < k → 0 ≤ c.getD t 0 ∧ c.getD t 0 + (t : Int) + 1 ≤ (c.length : Int)
def codeB (c : List Int) : Bool := inB (c.length : Int) 1 7 && (List.range c.length).all (fun t => inB (c.getD t 0) 0 ((c.length : Int) - 1 - (t : Int)))
def decL (c : List Int) : List Int := if codeB c = true then outUp c c.length else []
theorem codeB_yes {c : List Int} (h1 : inB (c.length : Int) 1 7 = true) (h : CodeTo c c.length) : codeB c = true := by
  simp only [codeB, h1, Bool.true_and, List.all_eq_true, List.mem_range]
  intro t ht
  have := h t ht
  exact inB_mk (by omega) (by omega)
theorem codeB_len {c : List Int} (h1 : inB (c.length : Int) 1 7 = false) : codeB c = false := by simp [codeB, h1]
theorem codeB_no {c : List Int} {k : Nat} {x : Int} (hk : k < c.length) (hx : x = c.getD k 0) (h : x < 0 ∨ (c.length : Int) ≤ x + (k : Int)) : codeB c = false := by
  cases e : codeB c with
  | false => rfl
  | true =>
    simp only [codeB, Bool.and_eq_true, List.all_eq_true, List.mem_range] at e
    have := inB_true (e.2 k hk)
    rw [← hx] at this
    omega
theorem CodeTo.step {c : List Int} {k : Nat} {x : Int} (h : CodeTo c k) (hx : x = c.getD k 0) (h0 : 0 ≤ x) (h1 : x + (k : Int) + 1 ≤ (c.length : Int)) : CodeTo c (k + 1) := by
  intro t ht
  by_cases e : t = k
  · subst e; rw [← hx]; exact ⟨h0, h1⟩
  · exact h t (by omega)
theorem outUp_zero (c : List Int) : outUp c 0 = [] := rfl
theorem restUp_zero (c : List Int) : restUp c 0 = idL c.length := rfl
theorem outUp_step {c : List Int} {k : Nat} {x : Int} (hx : x = c.getD k 0) : outUp c (k + 1) = outUp c k ++ [(restUp c k).getD x.toNat 0] := by subst hx; rfl
theorem restUp_step {c : List Int} {k : Nat} {x : Int} (hx : x = c.getD k 0) : restUp c (k + 1) = (restUp c k).eraseIdx x.toNat := by subst hx; rfl
theorem outUp_len (c : List Int) : ∀ k, (outUp c k).length = k
  | 0 => rfl
  | k + 1 => by rw [outUp_step rfl, List.length_append, outUp_len c k]; rfl
theorem restUp_len {c : List Int} : ∀ k, k ≤ c.length → CodeTo c k → (restUp c k).length = c.length - k
  | 0, _, _ => by rw [restUp_zero, idL_len]; omega
  | k + 1, hk, h => by
    have ih := restUp_len k (by omega) (fun t ht => h t (by omega))
    have := h k (by omega)
    rw [restUp_step rfl, List.length_eraseIdx, if_pos (by omega)]
    omega
/-- The values that have not been taken. -/
def freeL (o : List Int) (m : Nat) : List Int := (idL m).filter (fun x => !hasB o x)
theorem freeL_yes {o : List Int} {v : Nat} (h : hasB o (v : Int) = true) : freeL o (v + 1) = freeL o v := by
  simp [freeL, idL_succ, List.filter_append, h]
theorem freeL_no {o : List Int} {v : Nat} (h : hasB o (v : Int) = false) : freeL o (v + 1) = freeL o v ++ [(v : Int)] := by
  simp [freeL, idL_succ, List.filter_append, h]
theorem freeL_pre (o : List Int) (v : Nat) : ∀ d, ∃ s, freeL o (v + d) = freeL o v ++ s
  | 0 => ⟨[], by simp⟩
  | d + 1 => by
    obtain ⟨s, hs⟩ := freeL_pre o v d
    cases h : hasB o ((v + d : Nat) : Int) with
    | true => exact ⟨s, by rw [← Nat.add_assoc, freeL_yes h, hs]⟩
    | false => exact ⟨s ++ [((v + d : Nat) : Int)], by rw [← Nat.add_assoc, freeL_no h, hs, List.append_assoc]⟩
theorem freeL_at {o : List Int} {v n : Nat} (hv : v < n) (h : hasB o (v : Int) = false) : (freeL o n).getD (freeL o v).length 0 = (v : Int) := by
  obtain ⟨s, hs⟩ := freeL_pre o (v + 1) (n - (v + 1))
  rw [show v + 1 + (n - (v + 1)) = n by omega, freeL_no h] at hs
  rw [hs]
  simp [List.getD_eq_getElem?_getD]
theorem idL_nodup (m : Nat) : (idL m).Nodup := by
  induction m with
  | zero => exact List.nodup_nil
  | succ m ih =>
    rw [idL_succ, List.nodup_append]
    refine ⟨ih, by simp, ?_⟩
    intro a ha b hb
    simp [idL] at ha hb
    omega
theorem eraseIdx_filter : ∀ (l : List Int) (i : Nat), i < l.length → l.Nodup → l.eraseIdx i = l.filter (fun y => decide (y ≠ l.getD i 0))
  | [], i, h, _ => by simp at h
  | a :: l, 0, _, hn => by
    have ha := (List.nodup_cons.1 hn).1
    simp only [List.eraseIdx_cons_zero, List.getD_cons_zero]
    rw [List.filter_cons_of_neg (by simp), List.filter_eq_self.2]
    intro y hy
    have : y ≠ a := fun e => ha (by rw [← e]; exact hy)
    simpa using this
  | a :: l, i + 1, h, hn => by
    have ha := (List.nodup_cons.1 hn).1
    have hi : i < l.length := by simpa using h
    rw [List.eraseIdx_cons_succ, List.getD_cons_succ, eraseIdx_filter l i hi (List.nodup_cons.1 hn).2, List.filter_cons_of_pos]
    have : l.getD i 0 ∈ l := by
      rw [List.getD_eq_getElem?_getD, List.getElem?_eq_getElem hi]; exact List.getElem_mem hi
    have h2 : a ≠ l.getD i 0 := fun e => ha (by rw [e]; exact this)
    exact decide_eq_true h2
theorem restUp_free {c : List Int} : ∀ k, k ≤ c.length → CodeTo c k → restUp c k = freeL (outUp c k) c.length
  | 0, _, _ => by
    rw [restUp_zero, outUp_zero, freeL, List.filter_eq_self.2]
    intro a _; rfl
  | k + 1, hk, h => by
    have ih := restUp_free k (by omega) (fun t ht => h t (by omega))
    have hl := restUp_len k (by omega) (fun t ht => h t (by omega))
    have := h k (by omega)
    have hlt : (c.getD k 0).toNat < (restUp c k).length := by omega
    have hnd : (restUp c k).Nodup := by rw [ih]; exact (idL_nodup _).filter _
    rw [restUp_step rfl, outUp_step rfl, eraseIdx_filter _ _ hlt hnd]
    generalize (restUp c k).getD (c.getD k 0).toNat 0 = z
    rw [ih, freeL, freeL, List.filter_filter]
    congr 1
    funext y
    by_cases h1 : y = z <;> by_cases h2 : y ∈ outUp c k <;> simp [hasB, h1, h2]

/-- What is found at the place v. -/
theorem out_pick {c : List Int} {k v : Nat} {x : Int} (hk : k < c.length) (hg : CodeTo c k) (hx : x = c.getD k 0) (hv : v < c.length) (hh : hasB (outUp c k) (v : Int) = false) (he : x = ((freeL (outUp c k) v).length : Int)) :
    outUp c k ++ [(v : Int)] = outUp c (k + 1) := by
  rw [outUp_step hx, restUp_free k (by omega) hg, he, Int.toNat_natCast, freeL_at hv hh]
theorem free_all {c : List Int} {k : Nat} {x : Int} (hk : k < c.length) (hg : CodeTo c (k + 1)) (hx : x = c.getD k 0) : x < ((freeL (outUp c k) c.length).length : Int) := by
  have := hg k (by omega)
  rw [← restUp_free k (by omega) (fun t ht => hg t (by omega)), restUp_len k (by omega) (fun t ht => hg t (by omega))]
  omega

set_option maxHeartbeats 1600000 in
theorem l1Decode_c (v : Value) (l : List Int) (w : World) (hv : IntsV w v l) (hg : CodeTo l l.length) (h7 : l.length ≤ 7) :
    Calls Try.prog 59 #[v] w (GivesI w (outUp l l.length)) := by
  obtain ⟨n, ao, b, off, c, rfl, HL, hnc, hcm, ha, hc, hn⟩ := hv.open
  have hn7 : n ≤ 7 := by rw [HL.out]; exact h7
  have HG := Lib.hid hg
  have B0 := (Below.refl w.heap.size w).alloc (Nat.le_refl _) (Obj.cells #[] 3)
  have O0 := OwnI.lit w
  clear hcm hn hg h7 hv
  go_enter Try.func59, Try.ntmps59
  go_wp2
  go_loopw [3, 4] (fun v i wr => ∃ j : Nat, j ≤ n ∧ i = .int .i64 j ∧ OwnI w.heap.size wr v (outUp l j) ∧ Below w.heap.size w wr) (fun _ i _ => n - (intOf i).toNat)
  case atStart => exact ⟨0, Nat.zero_le _, rfl, outUp_zero l ▸ O0, B0⟩
  case round =>
    obtain ⟨j, hj, rfl, hO, hB⟩ := hrel
    clear O0 B0
    by_cases hlt : j < n
    · obtain rfl := ha (by omega)
      obtain ⟨x, hx⟩ : ∃ x, x = l.getD j 0 := ⟨_, rfl⟩
      have hcx : wr.cell? ⟨b, off + j, none⟩ = some (.int .i64 x) := by
        rw [hx, hB.cell (p := ⟨b, off + j, none⟩) (World.block_lt_of_cell? _ _ (hc j (by omega)))]; exact hc j (by omega)
      have HX := Lib.hid hx
      have hx0 := HG.out j (by rw [← HL.out]; exact hlt)
      rw [← hx, ← HL.out] at hx0
      clear hc hx ha
      obtain ⟨wo, rfl⟩ : ∃ wo : World, wo = wr := ⟨_, rfl⟩
      have hltB : decide ((j : Int) < (n : Int)) = true := by simpa using hlt
      go_wp2
      go_loopw [3, 5, 6] (fun ov lf vv wr => ∃ (k : Nat) (y : Int), k ≤ n ∧ vv = .int .i64 k ∧ lf = .int .i64 y ∧ 0 ≤ y ∧ y ≤ 7 ∧ Hid (x = y + ((freeL (outUp l j) k).length : Int)) ∧ OwnI w.heap.size wr ov (outUp l j) ∧ Below w.heap.size w wr) (fun _ _ vv _ => n - (intOf vv).toNat)
      case atStart => exact ⟨0, x, Nat.zero_le _, rfl, rfl, by omega, by omega, Lib.hid (by simp [freeL, idL]), hO, hB⟩
      case round =>
        obtain ⟨k, y, hk, rfl, rfl, hy0, hy7, HF, hOk, hBk⟩ := hrel
        clear hO hB
        by_cases hkn : k < n
        · cases hb : hasB (outUp l j) (k : Int) with
          | true =>
            have HE := Lib.hid (freeL_yes hb)
            have HF' : Hid (x = y + ((freeL (outUp l j) (k + 1)).length : Int)) := Lib.hid (by rw [HE.out]; exact HF.out)
            go_wp2_with fail
            refine (l1Has_c _ _ _ _ hOk.ints).mono ?_
            rintro e w1 ⟨rfl, rfl⟩
            go_wp2
            go_roundw
            case rel => exact ⟨k + 1, y, by omega, by go_num, rfl, hy0, hy7, HF', hOk, hBk⟩
            case measure => simp [intOf]; omega
          | false =>
            have HE := Lib.hid (freeL_no hb)
            by_cases hy : y = 0
            · subst hy
              have e := Lib.hid (out_pick (by rw [← HL.out]; exact hlt) (fun t ht => HG.out t (by rw [← HL.out]; omega)) HX.out (by rw [← HL.out]; exact hkn) hb (by rw [HF.out]; omega))
              have hlen : (outUp l j).length + 1 ≤ 1099511627776 := by rw [outUp_len]; omega
              have hsz := hBk.size
              go_wp2_with fail
              refine (l1Has_c _ _ _ _ hOk.ints).mono ?_
              rintro e2 w1 ⟨rfl, rfl⟩
              go_wp2_with (at_builtin; refine wpList_push wr rfl _ _ rfl hOk rfl rfl hlen hsz ?_)
              intro v' w3 hO' hb1 _ _
              have hB' := hBk.trans hb1
              rw [e.out] at hO'
              clear hOk hBk
              go_wp2
              go_roundw
              case rel => exact ⟨j + 1, by omega, by go_num, hO', hB'⟩
              case measure => simp [intOf]; omega
            · have HF' : Hid (x = (y - 1) + ((freeL (outUp l j) (k + 1)).length : Int)) := Lib.hid (by rw [HE.out, HF.out, List.length_append]; simp; omega)
              have hyb : (y == 0) = false := by simpa using hy
              have hw : IntKind.i64.wrap (y - 1) = y - 1 := IntWalk.i64_in _ (by omega)
              go_wp2_with fail
              refine (l1Has_c _ _ _ _ hOk.ints).mono ?_
              rintro e2 w1 ⟨rfl, rfl⟩
              go_wp2
              go_roundw
              case rel => exact ⟨k + 1, y - 1, by omega, by go_num, by first | rfl | rw [hw], by omega, by omega, HF', hOk, hBk⟩
              case measure => simp [intOf]; omega
        · exfalso
          obtain rfl : k = n := by omega
          have := free_all (c := l) (k := j) (by rw [← HL.out]; exact hlt) (fun t ht => HG.out t (by rw [← HL.out]; omega)) HX.out
          have h2 := HF.out
          rw [HL.out] at h2
          omega
    · obtain rfl : j = n := by omega
      go_wp2
      go_ret
      exact ⟨_, rfl, by rw [← HL.out]; exact hO, hB⟩

theorem decL_no {c : List Int} (h : codeB c = false) : decL c = [] := by simp [decL, h]
theorem decL_yes {c : List Int} (h : codeB c = true) : decL c = outUp c c.length := by simp [decL, h]

set_option maxHeartbeats 1600000 in
theorem sDec_c (v : Value) (l : List Int) (w : World) (hv : IntsV w v l) :
    Calls Try.prog 35 #[v] w (GivesI w (decL l)) := by
  have hv0 := hv
  obtain ⟨n, ao, b, off, c, rfl, HL, hnc, hcm, ha, hc, hn⟩ := hv.open
  have hn2 : n ≤ 1099511627776 := hn
  clear hcm hn
  cases hin : inB (n : Int) 1 7 with
  | false =>
    have HR := Lib.hid (decL_no (codeB_len (c := l) (by rw [← HL.out]; exact hin)))
    go_enter Try.func35, Try.ntmps35
    go_wp2_with fail
    refine (l1In_c _ _ _ _).mono ?_
    rintro e w1 ⟨rfl, rfl⟩
    go_wp2_with fail
    go_ret
    rw [HR.out]
    exact ⟨_, rfl, OwnI.nil _ _, Below.refl _ _⟩
  | true =>
    have h17 := inB_true hin
    have hn7 : n ≤ 7 := by omega
    have HI := Lib.hid hin
    go_enter Try.func35, Try.ntmps35
    go_wp2_with fail
    refine (l1In_c _ _ _ _).mono ?_
    rintro e w1 ⟨rfl, rfl⟩
    go_wp2_with fail
    clear hin h17
    go_loopw [3] (fun i wr => ∃ j : Nat, j ≤ n ∧ i = .int .i64 j ∧ Hid (CodeTo l j) ∧ Below w.heap.size w wr) (fun i _ => n - (intOf i).toNat)
    case atStart => exact ⟨0, Nat.zero_le _, rfl, Lib.hid (fun t ht => absurd ht (Nat.not_lt_zero _)), Below.refl _ _⟩
    case round =>
      obtain ⟨j, hj, rfl, HG, hB⟩ := hrel
      by_cases hlt : j < n
      · obtain rfl := ha (by omega)
        obtain ⟨x, hx⟩ : ∃ x, x = l.getD j 0 := ⟨_, rfl⟩
        have hcx : wr.cell? ⟨b, off + j, none⟩ = some (.int .i64 x) := by
          rw [hx, hB.cell (p := ⟨b, off + j, none⟩) (World.block_lt_of_cell? _ _ (hc j (by omega)))]; exact hc j (by omega)
        have HX := Lib.hid hx
        have hlen : (n : Int) - 1 - (j : Int) ≤ 7 ∧ 0 ≤ (n : Int) - 1 - (j : Int) := by omega
        have hw1 : IntKind.i64.wrap ((n : Int) - 1) = (n : Int) - 1 := IntWalk.i64_in _ (by omega)
        have hw2 : IntKind.i64.wrap ((n : Int) - 1 - (j : Int)) = (n : Int) - 1 - (j : Int) := IntWalk.i64_in _ (by omega)
        clear hc ha hx
        cases hb : inB x 0 ((n : Int) - 1 - (j : Int)) with
        | false =>
          have HR := Lib.hid (decL_no (codeB_no (c := l) (k := j) (by rw [← HL.out]; exact hlt) HX.out (by have := inB_false hb; rw [← HL.out]; omega)))
          go_wp2_with fail
          refine (l1In_c _ _ _ _).mono ?_
          rintro e w1 ⟨rfl, rfl⟩
          clear hw1 hw2
          go_wp2_with fail
          go_ret
          rw [HR.out]
          exact ⟨_, rfl, OwnI.nil _ _, hB⟩
        | true =>
          have HG' : Hid (CodeTo l (j + 1)) := Lib.hid (HG.out.step HX.out (inB_true hb).1 (by have := (inB_true hb).2; rw [← HL.out]; omega))
          go_wp2_with fail
          refine (l1In_c _ _ _ _).mono ?_
          rintro e w1 ⟨rfl, rfl⟩
          clear hw1 hw2
          go_wp2_with fail
          go_roundw
          case rel => exact ⟨j + 1, by omega, by go_num, HG', hB⟩
          case measure => simp [intOf]; omega
      · obtain rfl : j = n := by omega
        have hG : CodeTo l l.length := by rw [← HL.out]; exact HG.out
        have HR := Lib.hid (decL_yes (codeB_yes (c := l) (by rw [← HL.out]; exact HI.out) hG))
        clear hc ha
        go_wp2_with fail
        refine (l1Decode_c _ l _ (hv0.kept hB) hG (by rw [← HL.out]; exact hn7)).mono ?_
        rintro e w1 ⟨r, rfl, o1, b1⟩
        go_wp2_with fail
        go_ret
        exact ⟨_, rfl, by rw [HR.out]; exact o1.mono hB.size, below_step hB b1 hB.size⟩

set_option maxHeartbeats 1600000 in
theorem iDec_c (v : Value) (l : List Int) (w : World) (hv : IntsV w v l) :
    Calls Try.prog 36 #[v] w (GivesI w (decL l)) := by
  have hv0 := hv
  obtain ⟨n, ao, b, off, c, rfl, HL, hnc, hcm, ha, hc, hn⟩ := hv.open
  clear hcm hn
  go_enter Try.func36, Try.ntmps36
  go_wp2_with fail
  refine (iIdent_all _ _).mono ?_
  rintro e w1 ⟨r, rfl, o1, b1, hcase⟩
  rcases hcase with ⟨hin, rfl⟩ | ⟨hin, rfl⟩
  · have HR := Lib.hid (decL_no (codeB_len (c := l) (by rw [← HL.out]; exact hin)))
    clear hin hc ha
    have hnl := fun wx => Lib.run_eql_slice_nil (P := Try.prog) wx 22 3 none 0 0 0 0 Try.underlying22
    go_wp2_with fail
    go_ret
    rw [HR.out]
    exact ⟨_, rfl, OwnI.nil _ _, b1⟩
  · have h17 := inB_true hin
    have hn7 : n ≤ 7 := by omega
    have HI := Lib.hid hin
    rw [identL_in hin] at o1
    have A1 := o1.at
    have hR0 := restUp_zero l
    rw [← HL.out] at hR0
    rw [← hR0] at A1
    have B1 := b1.alloc b1.size (Obj.cells #[] 3)
    have A2 := A1.below ((Below.refl w1.heap.size w1).alloc (Nat.le_refl _) (Obj.cells #[] 3)) (Nat.le_refl _)
    have O0 := OwnI.lit w1
    have hhi := b1.size
    obtain ⟨hi, hhe⟩ : ∃ hi, hi = w1.heap.size := ⟨_, rfl⟩
    have HH := Lib.hid hhe
    rw [← hhe] at A2 O0 hhi
    have hnl := fun wx => Lib.run_eql_slice_nil (P := Try.prog) wx 22 3 (some ⟨w.heap.size, 0, none⟩) (n : Int).toNat (n : Int).toNat 0 0 Try.underlying22
    rw [Int.toNat_natCast] at hnl
    clear hin h17 o1 A1 b1 hR0 hhe
    go_wp2_with fail
    clear hnl
    go_loopw [3, 4, 15] (fun rv ov i wr => ∃ j : Nat, j ≤ n ∧ i = .int .i64 j ∧ Hid (CodeTo l j) ∧ AtI w.heap.size hi wr rv (restUp l j) ∧ OwnI hi wr ov (outUp l j) ∧ Below w.heap.size w wr) (fun _ _ i _ => n - (intOf i).toNat)
    case atStart => exact ⟨0, Nat.zero_le _, rfl, Lib.hid (fun t ht => absurd ht (Nat.not_lt_zero _)), by simpa using A2, by rw [← HH.out]; exact outUp_zero l ▸ O0, B1⟩
    case round =>
      obtain ⟨j, hj, rfl, HG, hA, hO, hB⟩ := hrel
      clear A2 O0 B1
      by_cases hlt : j < n
      · obtain rfl := ha (by omega)
        obtain ⟨x, hx⟩ : ∃ x, x = l.getD j 0 := ⟨_, rfl⟩
        have hcx : wr.cell? ⟨b, off + j, none⟩ = some (.int .i64 x) := by
          rw [hx, hB.cell (p := ⟨b, off + j, none⟩) (World.block_lt_of_cell? _ _ (hc j (by omega)))]; exact hc j (by omega)
        have HX := Lib.hid hx
        have hrl := restUp_len (c := l) j (by rw [← HL.out]; exact hj) HG.out
        rw [← HL.out] at hrl
        obtain ⟨g, cap, rfl, hgB, hgw, hgc, _⟩ := hA.1.row (by rw [hrl]; omega)
        have HRL := Lib.hid hrl
        rw [hrl] at hA hgc ⊢
        clear hc ha hx
        have hjn : ((n - j : Nat) : Int) = (n : Int) - (j : Int) := by omega
        by_cases hx0 : x < 0
        · have HR := Lib.hid (decL_no (codeB_no (c := l) (k := j) (by rw [← HL.out]; exact hlt) HX.out (.inl hx0)))
          go_wp2_with fail
          go_ret
          rw [HR.out]
          exact ⟨_, rfl, OwnI.nil _ _, hB⟩
        · by_cases hxn : (n : Int) - (j : Int) ≤ x
          · have HR := Lib.hid (decL_no (codeB_no (c := l) (k := j) (by rw [← HL.out]; exact hlt) HX.out (.inr (by rw [← HL.out]; omega))))
            go_wp2_with fail
            go_ret
            rw [HR.out]
            exact ⟨_, rfl, OwnI.nil _ _, hB⟩
          · obtain ⟨k, rfl⟩ : ∃ k : Nat, x = (k : Int) := ⟨x.toNat, by omega⟩
            have hkn : k < n - j := by omega
            have e1 := outUp_step HX.out
            have e2 := restUp_step HX.out
            rw [Int.toNat_natCast] at e1 e2
            have E1 := Lib.hid e1
            have E2 := Lib.hid e2
            have HG' : Hid (CodeTo l (j + 1)) := Lib.hid (HG.out.step HX.out (by omega) (by rw [← HL.out]; omega))
            have hy := hA.1.cellAt k (by rw [HRL.out]; exact hkn)
            obtain ⟨y, hyy⟩ : ∃ y, y = (restUp l j).getD k 0 := ⟨_, rfl⟩
            rw [← hyy] at hy
            have HY := Lib.hid hyy
            have hlen : (outUp l j).length + 1 ≤ 1099511627776 := by rw [outUp_len]; omega
            have hsz := hA.2.2
            have hkn2 : (k : Int) < (n : Int) - (j : Int) := by omega
            clear e1 e2 hyy hxn hx0
            go_wp2_with (at_builtin; refine wpList_push wr rfl _ _ rfl hO rfl rfl hlen hsz ?_)
            intro v' w3 hO' hb1 _ _
            have hA3 := hA.below hb1 (Nat.le_refl _)
            have hB3 := hB.trans (hb1.mono hhi)
            rw [HY.out, ← E1.out] at hO'
            clear hO hA hB hy
            go_wp2_with fail
            refine (delete_c _ _ _ _ _ _ hA3 (by rw [HRL.out]; exact hkn)).mono ?_
            rintro e w4 ⟨r, rfl, hA4, hOn⟩
            rw [← E2.out] at hA4
            have hO4 := (hO'.at.only hOn (.inr (Nat.le_refl _))).1
            have hB4 := hB3.trans (hOn.below (Nat.le_refl _) hB3.size)
            clear hA3 hO' hB3
            go_wp2_with fail
            go_roundw
            case rel => exact ⟨j + 1, by omega, by go_num, HG', hA4, hO4, hB4⟩
            case measure => simp [intOf]; omega
      · obtain rfl : j = n := by omega
        go_wp2_with fail
        go_ret
        have HR := decL_yes (codeB_yes (c := l) (by rw [← HL.out]; exact HI.out) (by rw [← HL.out]; exact HG.out))
        rw [HR, ← HL.out]
        exact ⟨_, rfl, hO.mono hhi, hB⟩

end Go.Proofs.Ytjkahdphnpddnaa
