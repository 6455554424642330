/-
  Contracts: TrimPerm, EmbedPerm.
-/
import Derived.Test.YtfepepakellbbaaExt
import Derived.Test.YtfepepakellbbaaIdent
import Derived.Test.YtfepepakellbbaaPermI
namespace Go.Proofs.Ytfepepakellbbaa
open Go.RowKit
set_option linter.unusedVariables false

/-- How many places are left of k: those at the end at which i stands at i fall. -/
def trimN (l : List Int) : Nat → Nat
  | 0 => 0
  | 1 => 1
  | k + 2 => if l.getD (k + 1) 0 = ((k + 1 : Nat) : Int) then trimN l (k + 1) else k + 2
def trimOf (l : List Int) : List Int := l.take (trimN l l.length)
def trimL (l : List Int) : List Int := if isPermB l = true then trimOf l else []
theorem trimN_le (l : List Int) : ∀ k, trimN l k ≤ k
  | 0 => Nat.le_refl _
  | 1 => Nat.le_refl _
  | k + 2 => by
    have := trimN_le l (k + 1)
    simp only [trimN]; split <;> omega
theorem trimN_yes {l : List Int} {k : Nat} (hk : 1 ≤ k) (h : l.getD k 0 = (k : Int)) : trimN l (k + 1) = trimN l k := by
  obtain ⟨j, rfl⟩ : ∃ j, k = j + 1 := ⟨k - 1, by omega⟩
  simp only [trimN]; rw [if_pos h]
theorem trimN_no {l : List Int} {k : Nat} (hk : 1 ≤ k) (h : l.getD k 0 ≠ (k : Int)) : trimN l (k + 1) = k + 1 := by
  obtain ⟨j, rfl⟩ : ∃ j, k = j + 1 := ⟨k - 1, by omega⟩
  simp only [trimN]; rw [if_neg h]

/-- The beginning of a slice, once more by its parts. -/
theorem IntsV.cut {w : World} {v : Value} {l : List Int} (h : IntsV w v l) {ao : Option Addr} {n c : Nat} (hv : v = .slice ao n c) (k : Nat) (hk : k ≤ l.length) : IntsV w (.slice ao k c) (l.take k) := by
  obtain ⟨ao', b, off, c', e, h1, h2, h3, h4, h5⟩ := h
  rw [hv] at e
  simp only [Value.slice.injEq] at e
  obtain ⟨rfl, rfl, rfl⟩ := e
  have e2 : (l.take k).length = k := by rw [List.length_take]; omega
  refine ⟨ao, b, off, c, by rw [e2], by omega, h2, h3, fun j hj => ?_, by omega⟩
  rw [e2] at hj
  rw [h4 j (by omega)]
  simp [List.getD_eq_getElem?_getD, hj]

set_option maxHeartbeats 800000 in
theorem iTrim_c (v : Value) (l : List Int) (w : World) (hv : IntsV w v l) :
    Calls Try.prog 26 #[v] w (GivesI w (trimL l)) := by
  cases hp : isPermB l with
  | false =>
    have HR : Hid (trimL l = []) := Lib.hid (by simp [trimL, hp])
    go_enter Try.func26, Try.ntmps26
    go_wp2_with fail
    refine (iIsPerm_c _ _ _ hv).mono ?_
    rintro e w1 ⟨rfl, b1⟩
    go_wp2_with fail
    go_ret
    rw [HR.out]
    exact ⟨_, rfl, OwnI.nil _ _, b1⟩
  | true =>
    have HR : Hid (trimL l = trimOf l) := Lib.hid (by simp [trimL, hp])
    obtain ⟨n, ao, b, off, c, rfl, HL, hnc, hcm, ha, hc, hn⟩ := hv.open
    have hn1 : 1 ≤ n := by rw [HL.out]; exact (isPermB_iff.1 hp).1
    have hn7 : n ≤ 7 := by rw [HL.out]; exact (isPermB_iff.1 hp).2.1
    obtain rfl := ha (by omega)
    clear hcm ha
    go_enter Try.func26, Try.ntmps26
    go_wp2_with fail
    refine (iIsPerm_c _ _ _ hv).mono ?_
    rintro e w0 ⟨rfl, b0⟩
    have hv0 := hv.kept b0
    have hc0 : ∀ j, j < n → w0.cell? ⟨b, off + j, none⟩ = some (.int .i64 (l.getD j 0)) := fun j hj => by
      rw [b0.cell (p := ⟨b, off + j, none⟩) (World.block_lt_of_cell? _ _ (hc j hj))]; exact hc j hj
    have HC := Lib.hid hc0
    clear hc hc0
    go_wp2_with fail
    go_loop [3] (fun i => ∃ k : Nat, 1 ≤ k ∧ k ≤ n ∧ i = .int .i64 k ∧ Hid (trimN l k = trimN l n)) (fun i => (intOf i).toNat)
    case atStart => exact ⟨n, hn1, Nat.le_refl _, rfl, Lib.hid rfl⟩
    case round =>
      obtain ⟨k, hk1, hkn, rfl, HK⟩ := hrel
      by_cases hlt : 1 < k
      · obtain ⟨j, rfl⟩ : ∃ j : Nat, k = j + 1 := ⟨k - 1, by omega⟩
        have hcj := HC.out j (by omega)
        obtain ⟨x, hx⟩ : ∃ x, x = l.getD j 0 := ⟨_, rfl⟩
        rw [← hx] at hcj
        have HX := Lib.hid hx
        clear hx
        by_cases he : x = (j : Int)
        · have HK' : Hid (trimN l j = trimN l n) := Lib.hid (by rw [← HK.out, trimN_yes (by omega) (by rw [← HX.out]; exact he)])
          subst he
          have hb : ((j : Int) == (j : Int)) = true := by simp
          go_wp2
          go_round
          case rel => exact ⟨j, by omega, by omega, by go_num, HK'⟩
          case measure => simp [intOf] <;> omega
        · have HT : Hid (trimN l l.length = j + 1) := Lib.hid (by rw [← HL.out, ← HK.out, trimN_no (by omega) (by rw [← HX.out]; exact he)])
          have hb : (x == (j : Int)) = false := by simpa using he
          have hcut := hv0.cut rfl (j + 1) (by rw [← HL.out]; omega)
          have hcc : (j : Int) + 1 ≤ (c : Int) := by omega
          clear he
          go_wp2_with fail
          refine (cloneI_c _ _ _ hcut).mono ?_
          rintro e w1 ⟨r, rfl, o1, b1⟩
          have F1 := below_step b0 b1 b0.size
          go_wp2_with fail
          go_ret
          exact ⟨_, rfl, by rw [HR.out, trimOf, HT.out]; exact o1.mono b0.size, F1⟩
      · obtain rfl : k = 1 := by omega
        have HT : Hid (trimN l l.length = 1) := Lib.hid (by rw [← HL.out, ← HK.out]; rfl)
        have hcut := hv0.cut rfl 1 (by rw [← HL.out]; omega)
        have hcc : (1 : Int) ≤ (c : Int) := by omega
        go_wp2_with fail
        refine (cloneI_c _ _ _ hcut).mono ?_
        rintro e w1 ⟨r, rfl, o1, b1⟩
        have F1 := below_step b0 b1 b0.size
        go_wp2_with fail
        go_ret
        exact ⟨_, rfl, by rw [HR.out, trimOf, HT.out]; exact o1.mono b0.size, F1⟩

/-- Places that are not moved are added, up to n. -/
def embedL (l : List Int) (n : Int) : List Int := if isPermB l = true ∧ inB n l.length 7 = true then l ++ (idL n.toNat).drop l.length else []
theorem embedL_no {l : List Int} {n : Int} (h : isPermB l = false ∨ inB n l.length 7 = false) : embedL l n = [] := by
  rw [embedL, if_neg]
  rintro ⟨h1, h2⟩
  rcases h with h | h <;> simp_all
/-- l, with places added up to m. -/
def growL (l : List Int) (m : Nat) : List Int := l ++ (idL m).drop l.length
theorem growL_start {l : List Int} : growL l l.length = l := by simp [growL, idL]
theorem growL_len {l : List Int} {m : Nat} (h : l.length ≤ m) : (growL l m).length = m := by simp [growL, idL]; omega
theorem growL_succ {l : List Int} {m : Nat} (h : l.length ≤ m) : growL l m ++ [(m : Int)] = growL l (m + 1) := by
  rw [growL, growL, idL_succ, List.drop_append_of_le_length (by rw [idL_len]; exact h), List.append_assoc]

set_option maxHeartbeats 800000 in
theorem iEmbed_c (v : Value) (l : List Int) (n : Int) (w : World) (hv : IntsV w v l) :
    Calls Try.prog 27 #[v, .int .i64 n] w (GivesI w (embedL l n)) := by
  obtain ⟨m, ao, b, off, c, rfl, HL, hnc, hcm, ha, hc, hn⟩ := hv.open
  clear hcm ha hc
  cases hp : isPermB l with
  | false =>
    have HR := Lib.hid (embedL_no (l := l) (n := n) (.inl hp))
    go_enter Try.func27, Try.ntmps27
    go_wp2_with fail
    refine (iIsPerm_c _ _ _ hv).mono ?_
    rintro e w1 ⟨rfl, b1⟩
    go_wp2_with fail
    go_ret
    rw [HR.out]
    exact ⟨_, rfl, OwnI.nil _ _, b1⟩
  | true =>
    by_cases h1 : n < (m : Int)
    · have HR := Lib.hid (embedL_no (l := l) (n := n) (.inr (inB_not (.inl (by rw [← HL.out]; exact h1)))))
      go_enter Try.func27, Try.ntmps27
      go_wp2_with fail
      refine (iIsPerm_c _ _ _ hv).mono ?_
      rintro e w1 ⟨rfl, b1⟩
      go_wp2_with fail
      go_ret
      rw [HR.out]
      exact ⟨_, rfl, OwnI.nil _ _, b1⟩
    by_cases h2 : 7 < n
    · have HR := Lib.hid (embedL_no (l := l) (n := n) (.inr (inB_not (.inr h2))))
      go_enter Try.func27, Try.ntmps27
      go_wp2_with fail
      refine (iIsPerm_c _ _ _ hv).mono ?_
      rintro e w1 ⟨rfl, b1⟩
      go_wp2_with fail
      go_ret
      rw [HR.out]
      exact ⟨_, rfl, OwnI.nil _ _, b1⟩
    · have hm1 : 1 ≤ m := by rw [HL.out]; exact (isPermB_iff.1 hp).1
      obtain ⟨k, rfl⟩ : ∃ k : Nat, n = (k : Int) := ⟨n.toNat, by omega⟩
      have HR : Hid (embedL l (k : Int) = l ++ (idL k).drop m) := Lib.hid (by rw [embedL, if_pos ⟨hp, inB_mk (by rw [← HL.out]; omega) (by omega)⟩, Int.toNat_natCast, ← HL.out])
      have hin := inB_mk (x := (k : Int)) (lo := 1) (hi := 7) (by omega) (by omega)
      have HI : Hid (identL (k : Int) = idL k) := Lib.hid (identL_in hin)
      go_enter Try.func27, Try.ntmps27
      go_wp2_with fail
      refine (iIsPerm_c _ _ _ hv).mono ?_
      rintro e w1 ⟨rfl, b1⟩
      go_wp2_with fail
      refine (cloneI_c _ _ _ (hv.kept b1)).mono ?_
      rintro e w2 ⟨r, rfl, o2, b2⟩
      have F2 := below_step b1 b2 b1.size
      have o2' := o2.mono b1.size
      clear o2
      go_wp2_with fail
      refine (iIdent_all _ _).mono ?_
      rintro e w3 ⟨r3, rfl, o3, b3, hs3⟩
      have F3 := below_step F2 b3 F2.size
      have o4 := o2'.kept b3
      rcases hs3 with ⟨hx, _⟩ | ⟨_, rfl⟩
      · rw [hx] at hin; exact absurd hin (by simp)
      rw [HI.out] at o3
      rw [Int.toNat_natCast] at o3 ⊢
      have hcell : ∀ j, j < k → w3.cell? ⟨w2.heap.size, j, none⟩ = some (.int .i64 (j : Int)) := fun j hj => by
        have := o3.cellAt j (by rw [idL_len]; exact hj)
        rw [this]; simp [idL, List.getD_eq_getElem?_getD, hj]
      have hsrc : IntsV w3 (.slice (if k = m then some ⟨w2.heap.size, 0, none⟩ else some ⟨w2.heap.size, m, none⟩) (k - m) (k - m)) ((idL k).drop m) := by
        refine ⟨_, w2.heap.size, m, k - m, by rw [List.length_drop, idL_len], by rw [List.length_drop, idL_len]; omega, by unfold maxLen; omega, fun h => by rw [if_neg (by omega)], fun j hj => ?_, by rw [List.length_drop, idL_len]; omega⟩
        rw [List.length_drop, idL_len] at hj
        rw [hcell (m + j) (by omega)]
        simp [idL, List.getD_eq_getElem?_getD, show m + j < k by omega]
      have hlen : l.length + ((idL k).drop m).length ≤ 1099511627776 := by rw [List.length_drop, idL_len, ← HL.out]; omega
      have hmk : (m : Int) ≤ (k : Int) := by omega
      clear hcell o3 o2' b1 b2 b3 hin
      by_cases hkm : k = m
      · subst hkm
        rw [if_pos rfl, Nat.sub_self] at hsrc
        go_wp2_with (at_builtin; refine wpList_extend w3 rfl _ _ rfl o4 hsrc rfl rfl hlen F3.size ?_)
        intro v' w4 hO' hb1 _
        have F4 := F3.trans hb1
        clear hsrc o4
        go_wp2
        go_ret
        rw [HR.out]
        exact ⟨_, rfl, hO', F4⟩
      · rw [if_neg hkm] at hsrc
        go_wp2_with (at_builtin; refine wpList_extend w3 rfl _ _ rfl o4 hsrc rfl rfl hlen F3.size ?_)
        intro v' w4 hO' hb1 _
        have F4 := F3.trans hb1
        clear hsrc o4
        go_wp2
        go_ret
        rw [HR.out]
        exact ⟨_, rfl, hO', F4⟩

end Go.Proofs.Ytfepepakellbbaa
