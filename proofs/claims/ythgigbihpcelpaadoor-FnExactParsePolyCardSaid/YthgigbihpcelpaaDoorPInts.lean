/-
  Contracts: ParseInts.
-/
import Derived.Test.YthgigbihpcelpaaDoorSplit
namespace Go.Proofs.YthgigbihpcelpaaDoor
open Go.RowKit
set_option linter.unusedVariables false

noncomputable def numsB (s : ByteArray) : Bool := if s.toList = [] then true else (Lib.split s.data.toList [32]).all (fun x => numOk (strOf x))
noncomputable def numsL (s : ByteArray) : List Int := if s.toList = [] then [] else if numsB s = true then (Lib.split s.data.toList [32]).map (fun x => numV (strOf x)) else []
def numsUp (ls : List (List UInt8)) (j : Nat) : List Int := (ls.take j).map (fun x => numV (strOf x))
theorem numsUp_len (ls : List (List UInt8)) (j : Nat) : (numsUp ls j).length ≤ j := by simp [numsUp]; omega
theorem rows_apart {B B' : Nat} {w : World} {u v : Value} {ls : List (List UInt8)} {l : List Int} (h : OwnL 9 strV B w u ls) (h' : OwnI B' w v l) : u.ownBlock = none ∨ u.ownBlock ≠ v.ownBlock := by
  rcases h.1.2 with ⟨rfl, _⟩ | ⟨g, cap, cur, rfl, _, hg, _⟩
  · exact .inl rfl
  · refine .inr fun e => ?_
    rcases h'.1.2 with ⟨rfl, _⟩ | ⟨g', cap', cur', rfl, _, hg', _⟩
    · simp [Value.ownBlock] at e
    · simp [Value.ownBlock] at e
      subst e
      rw [hg] at hg'
      simp at hg'
theorem nums_none {s : ByteArray} (h : s.toList = []) : numsB s = true ∧ numsL s = [] := ⟨if_pos h, if_pos h⟩
theorem nums_some {s : ByteArray} {ls : List (List UInt8)} (h : ¬ s.toList = []) (hl : ls = Lib.split s.data.toList [32]) :
    (∀ x ∈ ls, numOk (strOf x) = false → numsB s = false ∧ numsL s = []) ∧ ((∀ x ∈ ls, numOk (strOf x) = true) → numsB s = true ∧ numsL s = ls.map (fun x => numV (strOf x))) := by
  subst hl
  constructor
  · intro x hx hf
    have hb : numsB s = false := by
      unfold numsB
      rw [if_neg h]
      exact List.all_eq_false.2 ⟨x, hx, by rw [hf]; simp⟩
    exact ⟨hb, by unfold numsL; rw [if_neg h, if_neg (by rw [hb]; simp)]⟩
  · intro ha
    have hb : numsB s = true := by
      unfold numsB
      rw [if_neg h]
      exact List.all_eq_true.2 ha
    exact ⟨hb, by unfold numsL; rw [if_neg h, if_pos hb]⟩

set_option maxHeartbeats 1600000 in
theorem sPInts_c (s : ByteArray) (w : World) (hs : s.size ≤ 1048576) :
    Calls Tryd.prog 5 #[.string s] w (GivesIB w (numsL s) (numsB s)) := by
  have B0 := (Below.refl w.heap.size w).alloc (Nat.le_refl _) (Obj.cells #[] 3)
  have hO0 : OwnI w.heap.size (w.alloc (Obj.cells #[] 3)) (.slice (some ⟨w.heap.size, 0, none⟩) 0 0) [] := OwnI.lit w
  by_cases h0 : s.toList = []
  · have HB := Lib.hid (nums_none h0).1
    have HL := Lib.hid (nums_none h0).2
    have h0b : (s.toList == []) = true := beq_iff_eq.2 h0
    go_enter Tryd.func5, Tryd.ntmps5
    go_wp2_with fail
    go_ret2
    rw [HB.out, HL.out]
    exact ⟨_, rfl, hO0, B0⟩
  · obtain ⟨ls, hls⟩ : ∃ ls, ls = Lib.split s.data.toList [32] := ⟨_, rfl⟩
    have HNB := Lib.hid (nums_some h0 hls)
    have HPL : Hid (∀ x ∈ ls, (strOf x).size ≤ 1048576) := Lib.hid (fun x hx => by
      rw [strOf_size]; have := split_part_len (by rw [← hls]; exact hx); exact Nat.le_trans this hs)
    have h0b : (s.toList == []) = false := beq_eq_false_iff_ne.2 h0
    have hlsl : ls.length ≤ 1048578 := by rw [hls]; exact Nat.le_trans (split_len_le _ _) (by have : s.data.toList.length = s.size := rfl; omega)
    go_enter Tryd.func5, Tryd.ntmps5
    go_wp2_with fail
    refine (sSplit_c s 32 32 _ rfl hs).mono ?_
    rw [← hls]
    clear hls
    rintro e w1 ⟨r, rfl, o1, b1⟩
    have F1 := below_step B0 b1 B0.size
    have hO1 := hO0.kept b1
    clear hO0 B0
    obtain ⟨ao, c, rfl, hc, hg⟩ := o1.shape
    obtain ⟨n, hn⟩ : ∃ n, n = ls.length := ⟨_, rfl⟩
    rw [← hn] at o1 hc ⊢
    have HN := Lib.hid hn
    have hn2 : n ≤ 1048578 := by omega
    clear hlsl hn
    go_wp2_with fail
    go_loopw [4, 6] (fun ov iv wr => ∃ j : Nat, j ≤ n ∧ iv = .int .i64 j ∧ OwnI w.heap.size wr ov (numsUp ls j) ∧ Hid (∀ x ∈ ls.take j, numOk (strOf x) = true) ∧ OwnL 9 strV 0 wr (.slice ao n c) ls ∧ Below w.heap.size w wr) (fun _ iv _ => n - (intOf iv).toNat)
    case atStart => exact ⟨0, Nat.zero_le _, rfl, hO1, Lib.hid (fun x hx => by simp at hx), o1.mono (Nat.zero_le _), F1⟩
    case round =>
      obtain ⟨j, hj, rfl, hO, HK, hP, hB⟩ := hrel
      clear hO1 o1
      by_cases hlt : j < n
      · obtain ⟨x, hx⟩ : ∃ x, ls[j]? = some x := ⟨_, List.getElem?_eq_getElem (by rw [← HN.out]; exact hlt)⟩
        obtain ⟨g, rfl⟩ := hg (fun e => by have := HN.out; rw [e] at this; simp at this; omega)
        have k1 := hP.cellAt hx
        simp only [strV] at k1
        have HX := Lib.hid hx
        have hxs := HPL.out x (List.mem_of_getElem? hx)
        have hj0 : (0 : Int) ≤ (j : Int) := Int.natCast_nonneg _
        have hj1 : (j : Int) < (n : Int) := by omega
        have hlen : (numsUp ls j).length + 1 ≤ 1099511627776 := by have := numsUp_len ls j; omega
        clear hx
        cases hok : numOk (strOf x) with
        | false =>
          have HB := Lib.hid (HNB.out.1 x (List.mem_of_getElem? HX.out) hok).1
          have HL := Lib.hid (HNB.out.1 x (List.mem_of_getElem? HX.out) hok).2
          go_wp2_with fail
          refine (sNumber_c _ _ hxs).mono ?_
          rintro e w2 ⟨v, rfl, hv, b2⟩
          rw [hok]
          have F2 := below_step hB b2 hB.size
          go_wp2_with fail
          go_ret2
          rw [HB.out, HL.out]
          exact ⟨_, rfl, OwnI.nil _ _, F2⟩
        | true =>
          have HK' : Hid (∀ y ∈ ls.take (j + 1), numOk (strOf y) = true) := Lib.hid (fun y hy => by
            rw [List.take_add_one, HX.out] at hy
            rcases List.mem_append.1 hy with h | h
            · exact HK.out y h
            · simp at h; subst h; exact hok)
          have HM : Hid (numsUp ls j ++ [numV (strOf x)] = numsUp ls (j + 1)) := Lib.hid (by
            rw [numsUp, numsUp, List.take_add_one, HX.out, List.map_append]; rfl)
          go_wp2_with fail
          refine (sNumber_c _ _ hxs).mono ?_
          rintro e w2 ⟨v, rfl, hv, b2⟩
          obtain rfl := hv hok
          rw [hok]
          have F2 := below_step hB b2 hB.size
          have hP2 := hP.kept b2
          have hO2 := hO.kept b2
          have hsz := F2.size
          clear hO hB hP k1
          generalize numV (strOf x) = xv at HM hv
          go_wp2_with (at_builtin; refine wpList_push w2 rfl _ _ rfl hO2 rfl rfl hlen hsz ?_)
          intro v' w3 hO' hb3 hg3 _
          have F3 := F2.trans hb3
          have hP3 := hP2.grown hg3 (rows_apart hP2 hO2)
          rw [HM.out] at hO'
          clear hO2 hP2 hlen
          go_wp2
          go_roundw
          case rel => exact ⟨j + 1, by omega, by go_num, hO', HK', hP3, F3⟩
          case measure => simp [intOf]; omega
      · obtain rfl : j = n := by omega
        have HB := Lib.hid (HNB.out.2 (fun x hx => HK.out x (by rw [show ls.take j = ls by rw [HN.out, List.take_length]]; exact hx))).1
        have HL := Lib.hid (HNB.out.2 (fun x hx => HK.out x (by rw [show ls.take j = ls by rw [HN.out, List.take_length]]; exact hx))).2
        go_wp2_with fail
        go_ret2
        rw [HB.out, HL.out]
        refine ⟨_, rfl, ?_, hB⟩
        rw [numsUp, show ls.take j = ls by rw [HN.out, List.take_length]] at hO
        exact hO

set_option maxHeartbeats 1600000 in
theorem iPInts_c (s : ByteArray) (m : Int) (w : World) (hs : s.size ≤ 1048576) (hm : w.cell? ⟨0, 0, none⟩ = some (.int .i64 m)) :
    Calls Tryd.prog 6 #[.string s] w (GivesIB w (numsL s) (numsB s)) := by
  have B0 := (Below.refl w.heap.size w).alloc (Nat.le_refl _) (Obj.cells #[] 3)
  have hO0 : OwnI w.heap.size (w.alloc (Obj.cells #[] 3)) (.slice (some ⟨w.heap.size, 0, none⟩) 0 0) [] := OwnI.lit w
  by_cases h0 : s.toList = []
  · have HB := Lib.hid (nums_none h0).1
    have HL := Lib.hid (nums_none h0).2
    have h0b : (s.toList == []) = true := beq_iff_eq.2 h0
    go_enter Tryd.func6, Tryd.ntmps6
    go_wp2_with fail
    go_ret2
    rw [HB.out, HL.out]
    exact ⟨_, rfl, hO0, B0⟩
  · obtain ⟨ls, hls⟩ : ∃ ls, ls = Lib.split s.data.toList [32] := ⟨_, rfl⟩
    have HNB := Lib.hid (nums_some h0 hls)
    have HPL : Hid (∀ x ∈ ls, (strOf x).size ≤ 1048576) := Lib.hid (fun x hx => by
      rw [strOf_size]; have := split_part_len (by rw [← hls]; exact hx); exact Nat.le_trans this hs)
    have h0b : (s.toList == []) = false := beq_eq_false_iff_ne.2 h0
    have hlsl : ls.length ≤ 1048578 := by rw [hls]; exact Nat.le_trans (split_len_le _ _) (by have : s.data.toList.length = s.size := rfl; omega)
    go_enter Tryd.func6, Tryd.ntmps6
    go_wp2_with fail
    refine (iSplit_c s [32] m _ (by simp) hs ((B0.cell (World.block_lt_of_cell? _ _ hm)).trans hm)).mono ?_
    rw [← hls]
    clear hls
    rintro e w1 ⟨r, rfl, o1, b1⟩
    have F1 := below_step B0 b1 B0.size
    have hO1 := hO0.kept b1
    clear hO0 B0
    obtain ⟨ao, c, rfl, hc, hg⟩ := o1.shape
    obtain ⟨n, hn⟩ : ∃ n, n = ls.length := ⟨_, rfl⟩
    rw [← hn] at o1 hc ⊢
    have HN := Lib.hid hn
    have hn2 : n ≤ 1048578 := by omega
    clear hlsl hn
    go_wp2_with fail
    go_loopw [4, 16] (fun ov iv wr => ∃ j : Nat, j ≤ n ∧ iv = .int .i64 j ∧ OwnI w.heap.size wr ov (numsUp ls j) ∧ Hid (∀ x ∈ ls.take j, numOk (strOf x) = true) ∧ OwnL 9 strV 0 wr (.slice ao n c) ls ∧ Below w.heap.size w wr) (fun _ iv _ => n - (intOf iv).toNat)
    case atStart => exact ⟨0, Nat.zero_le _, rfl, hO1, Lib.hid (fun x hx => by simp at hx), o1.mono (Nat.zero_le _), F1⟩
    case round =>
      obtain ⟨j, hj, rfl, hO, HK, hP, hB⟩ := hrel
      clear hO1 o1
      by_cases hlt : j < n
      · obtain ⟨x, hx⟩ : ∃ x, ls[j]? = some x := ⟨_, List.getElem?_eq_getElem (by rw [← HN.out]; exact hlt)⟩
        obtain ⟨g, rfl⟩ := hg (fun e => by have := HN.out; rw [e] at this; simp at this; omega)
        have k1 := hP.cellAt hx
        simp only [strV] at k1
        have HX := Lib.hid hx
        have hxs := HPL.out x (List.mem_of_getElem? hx)
        have hj0 : (0 : Int) ≤ (j : Int) := Int.natCast_nonneg _
        have hj1 : (j : Int) < (n : Int) := by omega
        have hlen : (numsUp ls j).length + 1 ≤ 1099511627776 := by have := numsUp_len ls j; omega
        clear hx
        cases hok : numOk (strOf x) with
        | false =>
          have HB := Lib.hid (HNB.out.1 x (List.mem_of_getElem? HX.out) hok).1
          have HL := Lib.hid (HNB.out.1 x (List.mem_of_getElem? HX.out) hok).2
          go_wp2_with fail
          refine (iParseInt_c _ _ hxs).mono ?_
          rintro e w2 ⟨v, rfl, hv, b2⟩
          rw [hok]
          have F2 := below_step hB b2 hB.size
          go_wp2_with fail
          go_ret2
          rw [HB.out, HL.out]
          exact ⟨_, rfl, OwnI.nil _ _, F2⟩
        | true =>
          have HK' : Hid (∀ y ∈ ls.take (j + 1), numOk (strOf y) = true) := Lib.hid (fun y hy => by
            rw [List.take_add_one, HX.out] at hy
            rcases List.mem_append.1 hy with h | h
            · exact HK.out y h
            · simp at h; subst h; exact hok)
          have HM : Hid (numsUp ls j ++ [numV (strOf x)] = numsUp ls (j + 1)) := Lib.hid (by
            rw [numsUp, numsUp, List.take_add_one, HX.out, List.map_append]; rfl)
          go_wp2_with fail
          refine (iParseInt_c _ _ hxs).mono ?_
          rintro e w2 ⟨v, rfl, hv, b2⟩
          obtain rfl := hv hok
          rw [hok]
          have F2 := below_step hB b2 hB.size
          have hP2 := hP.kept b2
          have hO2 := hO.kept b2
          have hsz := F2.size
          clear hO hB hP k1
          generalize numV (strOf x) = xv at HM hv
          go_wp2_with (at_builtin; refine wpList_push w2 rfl _ _ rfl hO2 rfl rfl hlen hsz ?_)
          intro v' w3 hO' hb3 hg3 _
          have F3 := F2.trans hb3
          have hP3 := hP2.grown hg3 (rows_apart hP2 hO2)
          rw [HM.out] at hO'
          clear hO2 hP2 hlen
          go_wp2
          go_roundw
          case rel => exact ⟨j + 1, by omega, by go_num, hO', HK', hP3, F3⟩
          case measure => simp [intOf]; omega
      · obtain rfl : j = n := by omega
        have HB := Lib.hid (HNB.out.2 (fun x hx => HK.out x (by rw [show ls.take j = ls by rw [HN.out, List.take_length]]; exact hx))).1
        have HL := Lib.hid (HNB.out.2 (fun x hx => HK.out x (by rw [show ls.take j = ls by rw [HN.out, List.take_length]]; exact hx))).2
        go_wp2_with fail
        go_ret2
        rw [HB.out, HL.out]
        refine ⟨_, rfl, ?_, hB⟩
        rw [numsUp, show ls.take j = ls by rw [HN.out, List.take_length]] at hO
        exact hO

end Go.Proofs.YthgigbihpcelpaaDoor
