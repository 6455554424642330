/-
  Contracts: PermOfCode.
-/
import Derived.Test.YtfepepakellbbaaDel
import Derived.Test.YtfepepakellbbaaIdent
import Derived.Test.YtfepepakellbbaaPerm
namespace Go.Proofs.Ytfepepakellbbaa
open Go.RowKit
set_option linter.unusedVariables false

/-- What is left and what has been taken, behind k numbers of the code. -/
def decUp (c : List Int) : Nat → List Int × List Int
  | 0 => ([], idL c.length)
  | k + 1 => ((decUp c k).1 ++ [(decUp c k).2.getD (c.getD k 0).toNat 0], (decUp c k).2.eraseIdx (c.getD k 0).toNat)
def outUp (c : List Int) (k : Nat) : List Int := (decUp c k).1
def restUp (c : List Int) (k : Nat) : List Int := (decUp c k).2
def CodeTo (c : List Int) (k : Nat) : Prop := ∀ t, t < k → 0 ≤ c.getD t 0 ∧ c.getD t 0 + (t : Int) + 1 ≤ (c.length : Int)
def codeB (c : List Int) : Bool := inB (c.length : Int) 1 7 && (List.range c.length).all (fun t => inB (c.getD t 0) 0 ((c.length : Int) - 1 - (t : Int)))
def decL (c : List Int) : List Int := if codeB c = true then outUp c c.length else []
theorem codeB_yes {c : List Int} (h1 : inB (c.length : Int) 1 7 = true) (h : CodeTo c c.length) : codeB c = true := by
  simp only [codeB, h1, Bool.true_and, List.all_eq_true, List.mem_range]
  intro t ht
  have := h t ht
  exact inB_mk (by omega) (by omega)
theorem codeB_len {c : List Int} (h1 : inB (c.length : Int) 1 7 = false) : codeB c = false := by simp [codeB, h1]
theorem codeB_no {c : List Int} {k : Nat} {x : Int} (hk : k < c.length) (hx : x = c.getD k 0) (h : x < 0 ∨ (c.length : Int) ≤ x + (k : Int)) : codeB c = false := by
  cases e : codeB c with
  | false => rfl
  | true =>
    simp only [codeB, Bool.and_eq_true, List.all_eq_true, List.mem_range] at e
    have := inB_true (e.2 k hk)
    rw [← hx] at this
    omega
theorem CodeTo.step {c : List Int} {k : Nat} {x : Int} (h : CodeTo c k) (hx : x = c.getD k 0) (h0 : 0 ≤ x) (h1 : x + (k : Int) + 1 ≤ (c.length : Int)) : CodeTo c (k + 1) := by
  intro t ht
  by_cases e : t = k
  · subst e; rw [← hx]; exact ⟨h0, h1⟩
  · exact h t (by omega)
theorem outUp_zero (c : List Int) : outUp c 0 = [] := rfl
theorem restUp_zero (c : List Int) : restUp c 0 = idL c.length := rfl
theorem outUp_step {c : List Int} {k : Nat} {x : Int} (hx : x = c.getD k 0) : outUp c (k + 1) = outUp c k ++ [(restUp c k).getD x.toNat 0] := by subst hx; rfl
theorem restUp_step {c : List Int} {k : Nat} {x : Int} (hx : x = c.getD k 0) : restUp c (k + 1) = (restUp c k).eraseIdx x.toNat := by subst hx; rfl
theorem outUp_len (c : List Int) : ∀ k, (outUp c k).length = k
  | 0 => rfl
  | k + 1 => by rw [outUp_step rfl, List.length_append, outUp_len c k]; rfl
theorem restUp_len {c : List Int} : ∀ k, k ≤ c.length → CodeTo c k → (restUp c k).length = c.length - k
  | 0, _, _ => by rw [restUp_zero, idL_len]; omega
  | k + 1, hk, h => by
    have ih := restUp_len k (by omega) (fun t ht => h t (by omega))
    have := h k (by omega)
    rw [restUp_step rfl, List.length_eraseIdx, if_pos (by omega)]
    omega
/-- The values that have not been taken. -/
def freeL (o : List Int) (m : Nat) : List Int := (idL m).filter (fun x => !hasB o x)
theorem freeL_yes {o : List Int} {v : Nat} (h : hasB o (v : Int) = true) : freeL o (v + 1) = freeL o v := by
  simp [freeL, idL_succ, List.filter_append, h]
theorem freeL_no {o : List Int} {v : Nat} (h : hasB o (v : Int) = false) : freeL o (v + 1) = freeL o v ++ [(v : Int)] := by
  simp [freeL, idL_succ, List.filter_append, h]
theorem freeL_pre (o : List Int) (v : Nat) : ∀ d, ∃ s, freeL o (v + d) = freeL o v ++ s
  | 0 => ⟨[], by simp⟩
  | d + 1 => by
    obtain ⟨s, hs⟩ := freeL_pre o v d
    cases h : hasB o ((v + d : Nat) : Int) with
    | true => exact ⟨s, by rw [← Nat.add_assoc, freeL_yes h, hs]⟩
    | false => exact ⟨s ++ [((v + d : Nat) : Int)], by rw [← Nat.add_assoc, freeL_no h, hs, List.append_assoc]⟩
theorem freeL_at {o : List Int} {v n : Nat} (hv : v < n) (h : hasB o (v : Int) = false) : (freeL o n).getD (freeL o v).length 0 = (v : Int) := by
  obtain ⟨s, hs⟩ := freeL_pre o (v + 1) (n - (v + 1))
  rw [show v + 1 + (n - (v + 1)) = n by omega, freeL_no h] at hs
  rw [hs]
  simp [List.getD_eq_getElem?_getD]
theorem idL_nodup (m : Nat) : (idL m).Nodup := by
  induction m with
  | zero => exact List.nodup_nil
  | succ m ih =>
    rw [idL_succ, List.nodup_append]
    refine ⟨ih, by simp, ?_⟩
    intro a ha b hb
    simp [idL] at ha hb
    omega
theorem eraseIdx_filter : ∀ (l : List Int) (i : Nat), i < l.length → l.Nodup → l.eraseIdx i = l.filter (fun y => decide (y ≠ l.getD i 0))
  | [], i, h, _ => by simp at h
  | a :: l, 0, _, hn => by
    have ha := (List.nodup_cons.1 hn).1
    simp only [List.eraseIdx_cons_zero, List.getD_cons_zero]
    rw [List.filter_cons_of_neg (by simp), List.filter_eq_self.2]
    intro y hy
    have : y ≠ a := fun e => ha (by rw [← e]; exact hy)
    simpa using this
  | a :: l, i + 1, h, hn => by
    have ha := (List.nodup_cons.1 hn).1
    have hi : i < l.length := by simpa using h
    rw [List.eraseIdx_cons_succ, List.getD_cons_succ, eraseIdx_filter l i hi (List.nodup_cons.1 hn).2, List.filter_cons_of_pos]
    have : l.getD i 0 ∈ l := by
      rw [List.getD_eq_getElem?_getD, List.getElem?_eq_getElem hi]; exact List.getElem_mem hi
    have h2 : a ≠ l.getD i 0 := fun e => ha (by rw [e]; exact this)
    exact decide_eq_true h2
theorem restUp_free {c : List Int} : ∀ k, k ≤ c.length → CodeTo c k → restUp c k = freeL (outUp c k) c.length
  | 0, _, _ => by
    rw [restUp_zero, outUp_zero, freeL, List.filter_eq_self.2]
    intro a _; rfl
  | k + 1, hk, h => by
    have ih := restUp_free k (by omega) (fun t ht => h t (by omega))
    have hl := restUp_len k (by omega) (fun t ht => h t (by omega))
    have := h k (by omega)
    have hlt : (c.getD k 0).toNat < (restUp c k).length := by omega
    have hnd : (restUp c k).Nodup := by rw [ih]; exact (idL_nodup _).filter _
    rw [restUp_step rfl, outUp_step rfl, eraseIdx_filter _ _ hlt hnd]
    generalize (restUp c k).getD (c.getD k 0).toNat 0 = z
    rw [ih, freeL, freeL, List.filter_filter]
    congr 1
    funext y
    by_cases h1 : y = z <;> by_cases h2 : y ∈ outUp c k <;> simp [hasB, h1, h2]

/-- What is found at the place v. -/
theorem out_pick {c : List Int} {k v : Nat} {x : Int} (hk : k < c.length) (hg : CodeTo c k) (hx : x = c.getD k 0) (hv : v < c.length) (hh : hasB (outUp c k) (v : Int) = false) (he : x = ((freeL (outUp c k) v).length : Int)) :
    outUp c k ++ [(v : Int)] = outUp c (k + 1) := by
  rw [outUp_step hx, restUp_free k (by omega) hg, he, Int.toNat_natCast, freeL_at hv hh]
theorem free_all {c : List Int} {k : Nat} {x : Int} (hk : k < c.length) (hg : CodeTo c (k + 1)) (hx : x = c.getD k 0) : x < ((freeL (outUp c k) c.length).length : Int) := by
  have := hg k (by omega)
  rw [← restUp_free k (by omega) (fun t ht => hg t (by omega)), restUp_len k (by omega) (fun t ht => hg t (by omega))]
  omega

set_option maxHeartbeats 1600000 in
theorem l1Decode_c (v : Value) (l : List Int) (w : World) (hv : IntsV w v l) (hg : CodeTo l l.length) (h7 : l.length ≤ 7) :
    Calls Try.prog 66 #[v] w (GivesI w (outUp l l.length)) := by
  obtain ⟨n, ao, b, off, c, rfl, HL, hnc, hcm, ha, hc, hn⟩ := hv.open
  have hn7 : n ≤ 7 := by rw [HL.out]; exact h7
  have HG := Lib.hid hg
  have B0 := (Below.refl w.heap.size w).alloc (Nat.le_refl _) (Obj.cells #[] 3)
  have O0 := OwnI.lit w
  clear hcm hn hg h7 hv
  go_enter Try.func66, Try.ntmps66
  go_wp2
  go_loopw [3, 4] (fun v i wr => ∃ j : Nat, j ≤ n ∧ i = .int .i64 j ∧ OwnI w.heap.size wr v (outUp l j) ∧ Below w.heap.size w wr) (fun _ i _ => n - (intOf i).toNat)
  case atStart => exact ⟨0, Nat.zero_le _, rfl, outUp_zero l ▸ O0, B0⟩
  case round =>
    obtain ⟨j, hj, rfl, hO, hB⟩ := hrel
    clear O0 B0
    by_cases hlt : j < n
    · obtain rfl := ha (by omega)
      obtain ⟨x, hx⟩ : ∃ x, x = l.getD j 0 := ⟨_, rfl⟩
      have hcx : wr.cell? ⟨b, off + j, none⟩ = some (.int .i64 x) := by
        rw [hx, hB.cell (p := ⟨b, off + j, none⟩) (World.block_lt_of_cell? _ _ (hc j (by omega)))]; exact hc j (by omega)
      have HX := Lib.hid hx
      have hx0 := HG.out j (by rw [← HL.out]; exact hlt)
      rw [← hx, ← HL.out] at hx0
      clear hc hx ha
      obtain ⟨wo, rfl⟩ : ∃ wo : World, wo = wr := ⟨_, rfl⟩
      have hltB : decide ((j : Int) < (n : Int)) = true := by simpa using hlt
      go_wp2
      go_loopw [3, 5, 6] (fun ov lf vv wr => ∃ (k : Nat) (y : Int), k ≤ n ∧ vv = .int .i64 k ∧ lf = .int .i64 y ∧ 0 ≤ y ∧ y ≤ 7 ∧ Hid (x = y + ((freeL (outUp l j) k).length : Int)) ∧ OwnI w.heap.size wr ov (outUp l j) ∧ Below w.heap.size w wr) (fun _ _ vv _ => n - (intOf vv).toNat)
      case atStart => exact ⟨0, x, Nat.zero_le _, rfl, rfl, by omega, by omega, Lib.hid (by simp [freeL, idL]), hO, hB⟩
      case round =>
        obtain ⟨k, y, hk, rfl, rfl, hy0, hy7, HF, hOk, hBk⟩ := hrel
        clear hO hB
        by_cases hkn : k < n
        · cases hb : hasB (outUp l j) (k : Int) with
          | true =>
            have HE := Lib.hid (freeL_yes hb)
            have HF' : Hid (x = y + ((freeL (outUp l j) (k + 1)).length : Int)) := Lib.hid (by rw [HE.out]; exact HF.out)
            go_wp2_with fail
            refine (l1Has_c _ _ _ _ hOk.ints).mono ?_
            rintro e w1 ⟨rfl, rfl⟩
            go_wp2
            go_roundw
            case rel => exact ⟨k + 1, y, by omega, by go_num, rfl, hy0, hy7, HF', hOk, hBk⟩
            case measure => simp [intOf]; omega
          | false =>
            have HE := Lib.hid (freeL_no hb)
            by_cases hy : y = 0
            · subst hy
              have e := Lib.hid (out_pick (by rw [← HL.out]; exact hlt) (fun t ht => HG.out t (by rw [← HL.out]; omega)) HX.out (by rw [← HL.out]; exact hkn) hb (by rw [HF.out]; omega))
              have hlen : (outUp l j).length + 1 ≤ 1099511627776 := by rw [outUp_len]; omega
              have hsz := hBk.size
              go_wp2_with fail
              refine (l1Has_c _ _ _ _ hOk.ints).mono ?_
              rintro e2 w1 ⟨rfl, rfl⟩
              go_wp2_with (at_builtin; refine wpList_push wr rfl _ _ rfl hOk rfl rfl hlen hsz ?_)
              intro v' w3 hO' hb1 _ _
              have hB' := hBk.trans hb1
              rw [e.out] at hO'
              clear hOk hBk
              go_wp2
              go_roundw
              case rel => exact ⟨j + 1, by omega, by go_num, hO', hB'⟩
              case measure => simp [intOf]; omega
            · have HF' : Hid (x = (y - 1) + ((freeL (outUp l j) (k + 1)).length : Int)) := Lib.hid (by rw [HE.out, HF.out, List.length_append]; simp; omega)
              have hyb : (y == 0) = false := by simpa using hy
              have hw : IntKind.i64.wrap (y - 1) = y - 1 := IntWalk.i64_in _ (by omega)
              go_wp2_with fail
              refine (l1Has_c _ _ _ _ hOk.ints).mono ?_
              rintro e2 w1 ⟨rfl, rfl⟩
              go_wp2
              go_roundw
              case rel => exact ⟨k + 1, y - 1, by omega, by go_num, by first | rfl | rw [hw], by omega, by omega, HF', hOk, hBk⟩
              case measure => simp [intOf]; omega
        · exfalso
          obtain rfl : k = n := by omega
          have := free_all (c := l) (k := j) (by rw [← HL.out]; exact hlt) (fun t ht => HG.out t (by rw [← HL.out]; omega)) HX.out
          have h2 := HF.out
          rw [HL.out] at h2
          omega
    · obtain rfl : j = n := by omega
      go_wp2
      go_ret
      exact ⟨_, rfl, by rw [← HL.out]; exact hO, hB⟩

theorem decL_no {c : List Int} (h : codeB c = false) : decL c = [] := by simp [decL, h]
theorem decL_yes {c : List Int} (h : codeB c = true) : decL c = outUp c c.length := by simp [decL, h]

end Go.Proofs.Ytfepepakellbbaa
