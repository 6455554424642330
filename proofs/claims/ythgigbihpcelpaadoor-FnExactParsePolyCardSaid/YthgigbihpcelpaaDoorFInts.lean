/-
  Contracts: FormatInts.
-/
import Derived.Test.YthgigbihpcelpaaDoorFmtS
import Derived.Test.YthgigbihpcelpaaDoorOwn
import Derived.Test.YthgigbihpcelpaaDoorBase
import Derived.Test.YthgigbihpcelpaaDoorPure
import Derived.Test.YthgigbihpcelpaaDoorShelf
import Derived.Lib.Join
namespace Go.Proofs.YthgigbihpcelpaaDoor
open Go.RowKit
set_option linter.unusedVariables false

theorem Tryd.infoStr : (Tryd.prog.info? 9).map (fun i => (i.zero, i.size, i.bytes)) = some (some (.string ⟨#[]⟩), 1, 16) := by kernel_rfl
def strV (l : List UInt8) : Value := .string (strOf l)
/-- The texts of the first j numbers, a blank between two. -/
def joinUp (f : Nat → List UInt8) (sep : List UInt8) : Nat → List UInt8
  | 0 => []
  | 1 => f 0
  | j + 2 => joinUp f sep (j + 1) ++ sep ++ f (j + 1)
theorem joinUp_succ (f : Nat → List UInt8) (sep : List UInt8) : ∀ {j : Nat}, j ≠ 0 → joinUp f sep (j + 1) = joinUp f sep j ++ sep ++ f j
  | 0, h => absurd rfl h
  | j + 1, _ => rfl
theorem joinTail_snoc (sep : List UInt8) (r : List (List UInt8)) (y : List UInt8) : Lib.joinTail sep (r ++ [y]) = Lib.joinTail sep r ++ sep ++ y := by
  simp [Lib.joinTail]
theorem joinUp_join (f : Nat → List UInt8) (sep : List UInt8) : ∀ j, joinUp f sep j = Lib.join ((List.range j).map f) sep
  | 0 => rfl
  | 1 => by simp [joinUp, Lib.join_one]
  | j + 2 => by
    have ih := joinUp_join f sep (j + 1)
    obtain ⟨x, r, hr⟩ : ∃ x r, (List.range (j + 1)).map f = x :: r := ⟨f 0, (List.range j).map (fun i => f (i + 1)), by rw [List.range_succ_eq_map]; simp⟩
    have e2 : List.range (j + 2) = List.range (j + 1) ++ [j + 1] := List.range_succ
    rw [joinUp, ih, e2, List.map_append, hr, List.map_singleton, List.cons_append, Lib.join_cons, Lib.join_cons, joinTail_snoc]
    simp [List.append_assoc]
theorem joinUp_len {f : Nat → List UInt8} {sep : List UInt8} {a b : Nat} (hf : ∀ j, (f j).length ≤ a) (hs : sep.length ≤ b) : ∀ j, (joinUp f sep j).length ≤ (a + b) * j
  | 0 => by simp [joinUp]
  | 1 => by have := hf 0; simp [joinUp]; omega
  | j + 2 => by
    have ih := joinUp_len hf hs (j + 1)
    have := hf (j + 1)
    simp only [joinUp, List.length_append]
    have e : (a + b) * (j + 2) = (a + b) * (j + 1) + (a + b) := by rw [show j + 2 = (j + 1) + 1 from rfl, Nat.mul_succ]
    omega
theorem join_c (v : Value) (ls : List (List UInt8)) (sep : List UInt8) (B : Nat) (w : World) (h : OwnL 9 strV B w v ls) (hlen : (Lib.join ls sep).length ≤ 140737488355328) :
    Calls Tryd.prog 33 #[v, .string (strOf sep)] w (GivesS w (strOf (Lib.join ls sep))) := by
  obtain ⟨ao, c, rfl, hc, hg⟩ := h.shape
  have hmap : (ls.map strOf).map (fun x => x.data.toList) = ls := by rw [List.map_map]; simp [Function.comp_def, strOf]
  have hs : (strOf sep).data.toList = sep := by simp [strOf]
  by_cases h0 : ls = []
  · subst h0
    exact (Tryd.strings_Join_none ao c (strOf sep) w).mono fun e w' ⟨h1, h2⟩ => ⟨h1, h2 ▸ Below.refl _ _⟩
  · obtain ⟨g, rfl⟩ := hg h0
    have hn : 0 < ls.length := List.length_pos_iff.2 h0
    have hcell : ∀ (j : Nat) x, (ls.map strOf)[j]? = some x → w.cell? ⟨g, 0 + j, none⟩ = some (.string x) := by
      intro j x hx
      rw [List.getElem?_map] at hx
      cases hl : ls[j]? with
      | none => rw [hl] at hx; simp at hx
      | some y =>
        rw [hl] at hx
        simp at hx
        subst hx
        rw [Nat.zero_add]
        exact h.cellAt hl
    have hcl := World.block_lt_of_cell? _ _ (hcell 0 _ (List.getElem?_eq_getElem (by simpa using hn)))
    have := Tryd.strings_Join g 0 c (ls.map strOf) (strOf sep) w hcell hcl (by have := h.2; simp; omega) (by simpa using hc) (by rw [hmap, hs]; exact hlen)
    rw [hmap, hs, List.length_map] at this
    exact this

/-- The number at j, as text. -/
def fAt (l : List Int) (j : Nat) : List UInt8 := fmtInt (l.getD j 0)
def fiL (l : List Int) : List UInt8 := joinUp (fAt l) [32] l.length
theorem fi_len (l : List Int) (j : Nat) : (joinUp (fAt l) [32] j).length ≤ 27 * j := joinUp_len (a := 26) (b := 1) (fun j => fmtInt_len _) (by simp) j

set_option maxHeartbeats 800000 in
theorem sFInts_c (v : Value) (l : List Int) (w : World) (hv : IntsV w v l) (hr : I64L l) :
    Calls Tryd.prog 28 #[v] w (GivesS w (strOf (fiL l))) := by
  obtain ⟨n, ao, b, off, c, rfl, HL, hnc, hcm, ha, hc, hn⟩ := hv.open
  have HC := Lib.hid hc
  have HRR := Lib.hid hr
  clear hc hcm hr
  go_enter Tryd.func28, Tryd.ntmps28
  go_wp2_with fail
  go_loopw [3, 4] (fun sv iv wr => ∃ (j : Nat), j ≤ n ∧ iv = .int .i64 j ∧ sv = .string (strOf (joinUp (fAt l) [32] j)) ∧ Below w.heap.size w wr) (fun _ iv _ => n - (intOf iv).toNat)
  case atStart => exact ⟨0, Nat.zero_le _, rfl, rfl, Below.refl _ _⟩
  case round =>
    obtain ⟨j, hj, rfl, rfl, hB⟩ := hrel
    by_cases hlt : j < n
    · obtain rfl := ha (by omega)
      obtain ⟨x, hx⟩ : ∃ x, x = l.getD j 0 := ⟨_, rfl⟩
      have k1 := (hB.cell (World.block_lt_of_cell? _ _ (HC.out j hlt))).trans ((HC.out j hlt).trans (by rw [← hx]))
      have hxr := HRR.out x (List.mem_of_getElem? (getElem?_of_getD hx (by rw [← HL.out]; exact hlt)))
      have HX : Hid (fAt l j = fmtInt x) := Lib.hid (by rw [fAt, ← hx])
      have hlen := fi_len l j
      have hlx := fmtInt_len x
      clear hx
      by_cases hj0 : j = 0
      · subst hj0
        have hsum : ((strOf []).size : Int) + ((strOf (fmtInt x)).size : Int) ≤ 9223372036854775807 := by
          rw [strOf_size, strOf_size]; simp only [List.length_nil]; omega
        have HN : Hid (strOf [] ++ strOf (fmtInt x) = strOf (joinUp (fAt l) [32] 1)) := Lib.hid (by rw [strOf_append]; simp [joinUp, HX.out])
        have k1 : wr.cell? ⟨b, off, none⟩ = some (.int .i64 x) := k1
        rw [show joinUp (fAt l) [32] 0 = [] from rfl]
        go_wp2_with fail
        refine (sFmt_c _ _ hxr.1 hxr.2).mono ?_
        rintro e w1 ⟨rfl, b1⟩
        have F1 := below_step hB b1 hB.size
        go_wp2_with fail
        rw [HN.out]
        go_roundw
        case rel => exact ⟨1, by omega, by go_num, rfl, F1⟩
        case measure => simp [intOf]; omega
      · have hjp : (0 : Int) < (j : Int) := by omega
        have hjq : (j : Int) < (n : Int) := by omega
        have HS0 := Lib.hid (show (strOf (joinUp (fAt l) [32] j)).size + 1 ≤ 9223372036854775807 by rw [strOf_size]; omega)
        have e1 : strOf (joinUp (fAt l) [32] j) ++ ⟨#[32]⟩ = strOf (joinUp (fAt l) [32] j ++ [32]) := strOf_append _ [32]
        have hsum : ((strOf (joinUp (fAt l) [32] j ++ [32])).size : Int) + ((strOf (fmtInt x)).size : Int) ≤ 9223372036854775807 := by
          rw [strOf_size, strOf_size, List.length_append]; simp only [List.length_singleton]; omega
        have HN : Hid (strOf (joinUp (fAt l) [32] j ++ [32]) ++ strOf (fmtInt x) = strOf (joinUp (fAt l) [32] (j + 1))) := Lib.hid (by rw [strOf_append]; rw [joinUp_succ _ _ hj0, HX.out])
        have E1 := Lib.hid e1
        clear e1
        generalize joinUp (fAt l) [32] j = pre at HS0 E1 hsum HN ⊢
        go_wp2_with fail
        case isTrue hbad => have := HS0.out; omega
        refine (sFmt_c _ _ hxr.1 hxr.2).mono ?_
        rintro e w1 ⟨rfl, b1⟩
        have F1 := below_step hB b1 hB.size
        rw [E1.out]
        go_wp2_with fail
        rw [HN.out]
        go_roundw
        case rel => exact ⟨j + 1, by omega, by go_num, rfl, F1⟩
        case measure => simp [intOf]; omega
    · obtain rfl : j = n := by omega
      go_wp2_with fail
      go_ret
      rw [fiL, ← HL.out]
      exact ⟨rfl, hB⟩

set_option maxHeartbeats 800000 in
theorem iFInts_c (v : Value) (l : List Int) (w : World) (hv : IntsV w v l) (hr : I64L l) :
    Calls Tryd.prog 31 #[v] w (GivesS w (strOf (fiL l))) := by
  obtain ⟨n, ao, b, off, c, rfl, HL, hnc, hcm, ha, hc, hn⟩ := hv.open
  have HC := Lib.hid hc
  have HRR := Lib.hid hr
  clear hc hcm hr
  go_enter Tryd.func31, Tryd.ntmps31
  go_wp2_with fail
  go_loopw [3, 9] (fun sv iv wr => ∃ (j : Nat), j ≤ n ∧ iv = .int .i64 j ∧ OwnL 9 strV w.heap.size wr sv ((List.range j).map (fAt l)) ∧ Below w.heap.size w wr) (fun _ iv _ => n - (intOf iv).toNat)
  case atStart => exact ⟨0, Nat.zero_le _, rfl, OwnL.lit _ _ w, (Below.refl _ _).alloc (Nat.le_refl _) _⟩
  case round =>
    obtain ⟨j, hj, rfl, hO, hB⟩ := hrel
    by_cases hlt : j < n
    · obtain rfl := ha (by omega)
      obtain ⟨x, hx⟩ : ∃ x, x = l.getD j 0 := ⟨_, rfl⟩
      have k1 := (hB.cell (World.block_lt_of_cell? _ _ (HC.out j hlt))).trans ((HC.out j hlt).trans (by rw [← hx]))
      have hxr := HRR.out x (List.mem_of_getElem? (getElem?_of_getD hx (by rw [← HL.out]; exact hlt)))
      have HX : Hid (Value.string (strOf (fmtInt x)) = strV (fAt l j)) := Lib.hid (by rw [fAt, ← hx]; rfl)
      have HN : Hid ((List.range j).map (fAt l) ++ [fAt l j] = (List.range (j + 1)).map (fAt l)) := Lib.hid (by rw [List.range_succ, List.map_append]; rfl)
      have hlen : ((List.range j).map (fAt l)).length + 1 ≤ 1099511627776 := by simp; omega
      have hsz := hB.size
      clear hx
      go_wp2_with fail
      refine (iFmt_c _ _ hxr.1 hxr.2).mono ?_
      rintro e w1 ⟨rfl, rfl⟩
      go_wp2_with (at_builtin; refine wpList_pushL wr rfl _ _ rfl Tryd.underlying33 Tryd.infoStr rfl (by decide) hO HX.out rfl rfl rfl hlen hsz ?_)
      intro v' w3 hO' hb1 _ _
      have hB' := hB.trans hb1
      rw [HN.out] at hO'
      clear hO hB hlen
      go_wp2
      go_roundw
      case rel => exact ⟨j + 1, by omega, by go_num, hO', hB'⟩
      case measure => simp [intOf]; omega
    · obtain rfl : j = n := by omega
      have HJ : Hid (Lib.join ((List.range j).map (fAt l)) [32] = fiL l) := Lib.hid (by rw [← joinUp_join, fiL, ← HL.out])
      have hlen : (Lib.join ((List.range j).map (fAt l)) [32]).length ≤ 140737488355328 := by
        rw [← joinUp_join]; have := fi_len l j; omega
      go_wp2_with fail
      refine (join_c _ _ [32] _ _ hO hlen).mono ?_
      rintro e w2 ⟨rfl, b2⟩
      have F2 := below_step hB b2 hB.size
      go_wp2_with fail
      go_ret
      rw [HJ.out]
      exact ⟨rfl, F2⟩

end Go.Proofs.YthgigbihpcelpaaDoor
