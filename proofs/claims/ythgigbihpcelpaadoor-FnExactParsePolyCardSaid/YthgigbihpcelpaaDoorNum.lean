/-
  Contracts: l1Number, parseInt: a number out of its text.
-/
import Derived.Test.YthgigbihpcelpaaDoorFmtS
import Derived.Test.YthgigbihpcelpaaDoorGives
import Derived.Test.YthgigbihpcelpaaDoorShelf
namespace Go.Proofs.YthgigbihpcelpaaDoor
open Go.RowKit
set_option linter.unusedVariables false

theorem wf_byte' (b : UInt8) : 0 ≤ (b.toNat : Int) ∧ (b.toNat : Int) < 256 := by
  have := b.toNat_lt; omega
def atOf (s : ByteArray) : Nat := if s.data.toList[0]? = some 45 then 1 else 0
def restOf (s : ByteArray) : List UInt8 := s.data.toList.drop (atOf s)
def decL (l : List UInt8) : Int := l.foldl (fun n b => 10 * n + ((b.toNat : Int) - 48)) 0
def DigTo (l : List UInt8) (j : Nat) : Prop := ∀ (t : Nat) (b : UInt8), t < j → l[t]? = some b → 48 ≤ b.toNat ∧ b.toNat ≤ 57
def numV (s : ByteArray) : Int := if atOf s = 1 then -decL (restOf s) else decL (restOf s)
def NumOk (s : ByteArray) : Prop := atOf s < s.size ∧ s.size ≤ atOf s + 9 ∧ DigTo (restOf s) (restOf s).length ∧ strOf (fmtInt (numV s)) = s
noncomputable def numOk (s : ByteArray) : Bool := @decide (NumOk s) (Classical.propDecidable _)
theorem numOk_no {s : ByteArray} (h : ¬ NumOk s) : numOk s = false := by unfold numOk; exact @decide_eq_false _ (Classical.propDecidable _) h
theorem numOk_iff {s : ByteArray} : numOk s = true ↔ NumOk s := by unfold numOk; exact @decide_eq_true_iff _ (Classical.propDecidable _)
theorem toList_data (s : ByteArray) : s.toList = s.data.toList := by
  have := strOf_toList s.data.toList
  have e : strOf s.data.toList = s := by simp [strOf]
  rwa [e] at this
theorem toList_inj {a b : ByteArray} (h : a.toList = b.toList) : a = b := by
  rw [toList_data, toList_data] at h
  exact ByteArray.ext (Array.toList_inj.1 h)
theorem numOk_end {s : ByteArray} (h1 : atOf s < s.size) (h2 : s.size ≤ atOf s + 9) (h3 : DigTo (restOf s) (restOf s).length) : numOk s = ((strOf (fmtInt (numV s))).toList == s.toList) := by
  cases h : ((strOf (fmtInt (numV s))).toList == s.toList) with
  | true => exact numOk_iff.2 ⟨h1, h2, h3, toList_inj (beq_iff_eq.1 h)⟩
  | false => exact numOk_no (fun hn => by
      have h2 := hn.2.2.2
      rw [h2] at h
      simp at h)
theorem rest_len (s : ByteArray) : (restOf s).length = s.size - atOf s := by
  have : s.data.toList.length = s.size := rfl
  rw [restOf, List.length_drop, this]
theorem rest_get {s : ByteArray} {j : Nat} (h : atOf s + j < s.size) : (restOf s)[j]? = some s[atOf s + j] := by
  have h' : atOf s + j < s.data.toList.length := h
  rw [restOf, List.getElem?_drop, List.getElem?_eq_getElem h']
  rfl
theorem rest_get' {s : ByteArray} {i : Nat} (ha : atOf s ≤ i) (h : i < s.size) : (restOf s)[i - atOf s]? = some s[i] := by
  have := rest_get (s := s) (j := i - atOf s) (by omega)
  rw [this]
  congr 2
  omega
theorem decL_step {l : List UInt8} {j : Nat} {b : UInt8} (h : l[j]? = some b) : decL (l.take (j + 1)) = 10 * decL (l.take j) + ((b.toNat : Int) - 48) := by
  rw [List.take_add_one, h, decL, List.foldl_append]; rfl
theorem DigTo.step {l : List UInt8} {j : Nat} {b : UInt8} (h : DigTo l j) (hb : l[j]? = some b) (h1 : 48 ≤ b.toNat) (h2 : b.toNat ≤ 57) : DigTo l (j + 1) := by
  intro t c ht hc
  by_cases e : t = j
  · subst e; rw [hb] at hc; obtain rfl := Option.some.inj hc; exact ⟨h1, h2⟩
  · exact h t c (by omega) hc
theorem decL_bound {l : List UInt8} : ∀ {j : Nat}, DigTo l j → j ≤ l.length → 0 ≤ decL (l.take j) ∧ decL (l.take j) + 1 ≤ ((10 ^ j : Nat) : Int)
  | 0, _, _ => by simp [decL]
  | j + 1, h, hj => by
    have ih := decL_bound (j := j) (fun t b ht hb => h t b (by omega) hb) (by omega)
    have hb := List.getElem?_eq_getElem (l := l) (i := j) (by omega)
    have hd := h j _ (Nat.lt_succ_self _) hb
    rw [decL_step hb, Nat.pow_succ]
    omega
theorem decL_small {l : List UInt8} {j : Nat} (h : DigTo l j) (hj : j ≤ l.length) (h8 : j ≤ 9) : 0 ≤ decL (l.take j) ∧ decL (l.take j) ≤ 999999999 := by
  have h1 := decL_bound h hj
  have h2 : (10 ^ j : Nat) ≤ 10 ^ 9 := Nat.pow_le_pow_right (by omega) h8
  have h3 : (10 ^ 9 : Nat) = 1000000000 := by decide
  omega
theorem at_zero {s : ByteArray} (h : s.size = 0) : atOf s = 0 := by
  have : s.data.toList = [] := List.eq_nil_of_length_eq_zero h
  simp [atOf, this]
theorem at_one {s : ByteArray} (h0 : 0 < s.size) (h : s[0] = 45) : atOf s = 1 := by
  have h' : 0 < s.data.toList.length := h0
  have : s.data.toList[0]? = some 45 := by rw [List.getElem?_eq_getElem h']; exact congrArg some h
  simp [atOf, this]
theorem at_not {s : ByteArray} (h0 : 0 < s.size) (h : s[0] ≠ 45) : atOf s = 0 := by
  have h' : 0 < s.data.toList.length := h0
  have e : s.data.toList[0]? = some s[0] := by rw [List.getElem?_eq_getElem h']; rfl
  simp [atOf, e, h]

def GivesNum (w : World) (s : ByteArray) (e : Ending) (w' : World) : Prop :=
  ∃ v, e = .returned (.tuple #[.int .i64 v, .bool (numOk s)]) ∧ (numOk s = true → v = numV s) ∧ Below w.heap.size w w'
theorem givesNum_no {w w' : World} {s : ByteArray} {v : Int} (h : numOk s = false) (hb : Below w.heap.size w w') : GivesNum w s (.returned (.tuple #[.int .i64 v, .bool false])) w' :=
  ⟨v, by rw [h], fun h2 => by rw [h] at h2; simp at h2, hb⟩
theorem numV_range {s : ByteArray} (h : NumOk s) : -999999999 ≤ numV s ∧ numV s ≤ 999999999 := by
  obtain ⟨h1, h2, h3, _⟩ := h
  have hl := rest_len s
  have := decL_small (l := restOf s) (j := (restOf s).length) h3 (Nat.le_refl _) (by omega)
  rw [List.take_length] at this
  unfold numV; split <;> omega

set_option maxHeartbeats 3200000 in
/-- From where the sign, if any, is read. -/
theorem sNumber_c (s : ByteArray) (w : World) (hs : s.size ≤ 1048576) :
    Calls Tryd.prog 16 #[.string s] w (GivesNum w s) := by
  by_cases h0 : s.size = 0
  · have hA := at_zero h0
    have HN := Lib.hid (numOk_no (s := s) (fun h => by have := h.1; omega))
    clear hA
    go_enter Tryd.func16, Tryd.ntmps16
    go_wp2
    go_ret2
    exact givesNum_no HN.out (Below.refl _ _)
  · have hp : 0 < s.size := by omega
    have hb0 := wf_byte' s[0]
    by_cases h45 : s[0] = 45
    · have HA := Lib.hid (at_one hp h45)
      have h45' : (s[0].toNat : Int) = 45 := by rw [h45]; rfl
      by_cases h1 : s.size = 1
      · have HN := Lib.hid (numOk_no (s := s) (fun h => by have := h.1; rw [HA.out] at this; omega))
        clear h45
        go_enter Tryd.func16, Tryd.ntmps16
        go_wp2
        go_ret2
        exact givesNum_no HN.out (Below.refl _ _)
      · by_cases h9 : 1 + 9 < s.size
        · have HN := Lib.hid (numOk_no (s := s) (fun h => by have := h.2.1; rw [HA.out] at this; omega))
          clear h45
          go_enter Tryd.func16, Tryd.ntmps16
          go_wp2
          go_ret2
          exact givesNum_no HN.out (Below.refl _ _)
        · have HL : Hid ((restOf s).length = s.size - 1) := Lib.hid (by rw [rest_len, HA.out])
          have hsb : ((s.size : Int) == 1) = false := beq_eq_false_iff_ne.2 (by omega)
          have hsd : ¬ 1 + 9 < (s.size : Int) := by omega
          clear h45
          go_enter Tryd.func16, Tryd.ntmps16
          go_wp2
          go_loop [5, 6] (fun nv iv => ∃ (i : Nat) (n : Int), 1 ≤ i ∧ i ≤ s.size ∧ iv = .int .i64 i ∧ nv = .int .i64 n ∧ Hid (n = decL ((restOf s).take (i - 1))) ∧ Hid (DigTo (restOf s) (i - 1)) ∧ 0 ≤ n ∧ n ≤ 999999999) (fun _ iv => s.size - (intOf iv).toNat)
          case atStart => exact ⟨1, 0, Nat.le_refl _, by omega, rfl, rfl, Lib.hid rfl, Lib.hid (fun t b ht => absurd ht (by omega)), by decide, by decide⟩
          case round =>
            obtain ⟨i, n, hi1, hi2, rfl, rfl, HV, HD, hn0, hn9⟩ := hrel
            by_cases hlt : i < s.size
            · have HB := Lib.hid (rest_get' (s := s) (i := i) (by rw [HA.out]; exact hi1) hlt)
              have hb := wf_byte' s[i]
              by_cases hlo : (s[i].toNat : Int) < 48
              · have HN := Lib.hid (numOk_no (s := s) (fun h => by
                  have h3 := h.2.2.1 (i - atOf s) s[i] (by rw [rest_len]; have := HA.out; omega) HB.out
                  omega))
                go_wp2
                go_ret2
                exact givesNum_no HN.out (Below.refl _ _)
              · by_cases hhi : 57 < (s[i].toNat : Int)
                · have HN := Lib.hid (numOk_no (s := s) (fun h => by
                    have h3 := h.2.2.1 (i - atOf s) s[i] (by rw [rest_len]; have := HA.out; omega) HB.out
                    omega))
                  go_wp2
                  go_ret2
                  exact givesNum_no HN.out (Below.refl _ _)
                · have HB' : Hid ((restOf s)[i - 1]? = some s[i]) := Lib.hid (by have := HB.out; rw [HA.out] at this; exact this)
                  have HD' : Hid (DigTo (restOf s) (i + 1 - 1)) := Lib.hid (by rw [show i + 1 - 1 = i - 1 + 1 by omega]; exact HD.out.step HB'.out (by omega) (by omega))
                  have HV' : Hid (10 * n + ((s[i].toNat : Int) - 48) = decL ((restOf s).take (i + 1 - 1))) := Lib.hid (by rw [show i + 1 - 1 = i - 1 + 1 by omega, decL_step HB'.out, HV.out])
                  have hs2 := decL_small HD'.out (by rw [HL.out]; omega) (by omega)
                  rw [← HV'.out] at hs2
                  have hw8 : IntKind.u8.wrap ((s[i].toNat : Int) - 48) = (s[i].toNat : Int) - 48 := IntWalk.u8_in _ (by omega)
                  go_wp2
                  go_round
                  case rel => exact ⟨i + 1, 10 * n + ((s[i].toNat : Int) - 48), by omega, by omega, by go_num, rfl, HV', HD', hs2.1, hs2.2⟩
                  case measure => simp [intOf]; omega
            · obtain rfl : i = s.size := by omega
              have HZ : Hid (numV s = (-n)) := Lib.hid (by
                rw [numV, HA.out, HV.out, ← HL.out, List.take_length]
                rfl)
              have HE : Hid (numOk s = ((strOf (fmtInt (-n))).toList == s.toList)) := Lib.hid (by
                rw [← HZ.out]
                exact numOk_end (by rw [HA.out]; omega) (by rw [HA.out]; omega) (by rw [HL.out]; exact HD.out))
              go_wp2_with fail
              refine (sFmt_c _ _ (by omega) (by omega)).mono ?_
              rintro e w1 ⟨rfl, b1⟩
              go_wp2_with fail
              go_ret2
              exact ⟨_, by rw [HE.out]; rfl, fun _ => HZ.out.symm, b1⟩
    · have HA := Lib.hid (at_not hp h45)
      have h45' : ¬ ((s[0].toNat : Int) = 45) := fun e => h45 (UInt8.toNat_inj.1 (show s[0].toNat = 45 by exact_mod_cast e))
      by_cases h1 : s.size = 0
      · have HN := Lib.hid (numOk_no (s := s) (fun h => by have := h.1; rw [HA.out] at this; omega))
        clear h45
        go_enter Tryd.func16, Tryd.ntmps16
        go_wp2
        go_ret2
        exact givesNum_no HN.out (Below.refl _ _)
      · by_cases h9 : 0 + 9 < s.size
        · have HN := Lib.hid (numOk_no (s := s) (fun h => by have := h.2.1; rw [HA.out] at this; omega))
          clear h45
          go_enter Tryd.func16, Tryd.ntmps16
          go_wp2
          go_ret2
          exact givesNum_no HN.out (Below.refl _ _)
        · have HL : Hid ((restOf s).length = s.size - 0) := Lib.hid (by rw [rest_len, HA.out])
          have hsb : ((s.size : Int) == 0) = false := beq_eq_false_iff_ne.2 (by omega)
          have hsd : ¬ 0 + 9 < (s.size : Int) := by omega
          clear h45
          go_enter Tryd.func16, Tryd.ntmps16
          go_wp2
          go_loop [5, 6] (fun nv iv => ∃ (i : Nat) (n : Int), 0 ≤ i ∧ i ≤ s.size ∧ iv = .int .i64 i ∧ nv = .int .i64 n ∧ Hid (n = decL ((restOf s).take (i - 0))) ∧ Hid (DigTo (restOf s) (i - 0)) ∧ 0 ≤ n ∧ n ≤ 999999999) (fun _ iv => s.size - (intOf iv).toNat)
          case atStart => exact ⟨0, 0, Nat.le_refl _, by omega, rfl, rfl, Lib.hid rfl, Lib.hid (fun t b ht => absurd ht (by omega)), by decide, by decide⟩
          case round =>
            obtain ⟨i, n, hi1, hi2, rfl, rfl, HV, HD, hn0, hn9⟩ := hrel
            by_cases hlt : i < s.size
            · have HB := Lib.hid (rest_get' (s := s) (i := i) (by rw [HA.out]; exact hi1) hlt)
              have hb := wf_byte' s[i]
              by_cases hlo : (s[i].toNat : Int) < 48
              · have HN := Lib.hid (numOk_no (s := s) (fun h => by
                  have h3 := h.2.2.1 (i - atOf s) s[i] (by rw [rest_len]; have := HA.out; omega) HB.out
                  omega))
                go_wp2
                go_ret2
                exact givesNum_no HN.out (Below.refl _ _)
              · by_cases hhi : 57 < (s[i].toNat : Int)
                · have HN := Lib.hid (numOk_no (s := s) (fun h => by
                    have h3 := h.2.2.1 (i - atOf s) s[i] (by rw [rest_len]; have := HA.out; omega) HB.out
                    omega))
                  go_wp2
                  go_ret2
                  exact givesNum_no HN.out (Below.refl _ _)
                · have HB' : Hid ((restOf s)[i - 0]? = some s[i]) := Lib.hid (by have := HB.out; rw [HA.out] at this; exact this)
                  have HD' : Hid (DigTo (restOf s) (i + 1 - 0)) := Lib.hid (by rw [show i + 1 - 0 = i - 0 + 1 by omega]; exact HD.out.step HB'.out (by omega) (by omega))
                  have HV' : Hid (10 * n + ((s[i].toNat : Int) - 48) = decL ((restOf s).take (i + 1 - 0))) := Lib.hid (by rw [show i + 1 - 0 = i - 0 + 1 by omega, decL_step HB'.out, HV.out])
                  have hs2 := decL_small HD'.out (by rw [HL.out]; omega) (by omega)
                  rw [← HV'.out] at hs2
                  have hw8 : IntKind.u8.wrap ((s[i].toNat : Int) - 48) = (s[i].toNat : Int) - 48 := IntWalk.u8_in _ (by omega)
                  go_wp2
                  go_round
                  case rel => exact ⟨i + 1, 10 * n + ((s[i].toNat : Int) - 48), by omega, by omega, by go_num, rfl, HV', HD', hs2.1, hs2.2⟩
                  case measure => simp [intOf]; omega
            · obtain rfl : i = s.size := by omega
              have HZ : Hid (numV s = n) := Lib.hid (by
                rw [numV, HA.out, HV.out, ← HL.out, List.take_length]
                rfl)
              have HE : Hid (numOk s = ((strOf (fmtInt n)).toList == s.toList)) := Lib.hid (by
                rw [← HZ.out]
                exact numOk_end (by rw [HA.out]; omega) (by rw [HA.out]; omega) (by rw [HL.out]; exact HD.out))
              go_wp2_with fail
              refine (sFmt_c _ _ (by omega) (by omega)).mono ?_
              rintro e w1 ⟨rfl, b1⟩
              go_wp2_with fail
              go_ret2
              exact ⟨_, by rw [HE.out]; rfl, fun _ => HZ.out.symm, b1⟩

theorem trim_eq (s : ByteArray) : Lib.trimPrefix s.data.toList [45] = restOf s := by
  unfold Lib.trimPrefix Lib.hasPrefix restOf atOf
  cases h : s.data.toList with
  | nil => simp [List.isPrefixOf]
  | cons x xs =>
    by_cases hx : x = 45
    · subst hx; simp [List.isPrefixOf]
    · simp [List.isPrefixOf, hx, Ne.symm hx]
theorem trimP_c (s : ByteArray) (w : World) : Calls Tryd.prog 25 #[.string s, .string ⟨#[45]⟩] w fun e w' => e = .returned (.string (strOf (restOf s))) ∧ w' = w := by
  have h := Tryd.strings_TrimPrefix s ⟨#[45]⟩ w
  rw [show (⟨#[45]⟩ : ByteArray).data.toList = [45] from rfl, trim_eq] at h
  exact h
theorem strOf_get {l : List UInt8} {j : Nat} (h : j < (strOf l).size) : l[j]? = some (strOf l)[j] := by
  have h' : j < l.length := by rw [strOf_size] at h; exact h
  rw [List.getElem?_eq_getElem h']
  rfl
theorem empty_toList (l : List UInt8) : (strOf l).toList = [] ↔ l = [] := by rw [strOf_toList]

set_option maxHeartbeats 3200000 in
theorem iParseInt_c (s : ByteArray) (w : World) (hs : s.size ≤ 1048576) :
    Calls Tryd.prog 18 #[.string s] w (GivesNum w s) := by
  obtain ⟨T, hT⟩ : ∃ T, T = strOf (restOf s) := ⟨_, rfl⟩
  have hTs : T.size = s.size - atOf s := by rw [hT, strOf_size, rest_len]
  have hA1 : atOf s ≤ 1 := by unfold atOf; split <;> omega
  have hcall := trimP_c s w
  rw [← hT] at hcall
  have HT := Lib.hid hT
  have HCALL := Lib.hid hcall
  clear hT hcall
  by_cases h1 : T.size = 0
  · have HN := Lib.hid (numOk_no (s := s) (fun h => by have := h.1; omega))
    have hTl : T.toList = [] := by
      have h2 : restOf s = [] := List.eq_nil_of_length_eq_zero (by rw [rest_len]; omega)
      rw [HT.out, h2, strOf_toList]
    go_enter Tryd.func18, Tryd.ntmps18
    go_wp2_with fail
    refine HCALL.out.mono ?_
    rintro e w1 ⟨rfl, rfl⟩
    go_wp2_with fail
    go_ret2
    exact givesNum_no HN.out (Below.refl _ _)
  · have hTl : ¬ T.toList = [] := by
      rw [HT.out, strOf_toList]
      intro e
      have := rest_len s
      rw [e] at this
      simp only [List.length_nil] at this
      omega
    have hTb : (T.toList == []) = false := beq_eq_false_iff_ne.2 hTl
    by_cases h9 : 9 < T.size
    · have HN := Lib.hid (numOk_no (s := s) (fun h => by have := h.2.1; omega))
      go_enter Tryd.func18, Tryd.ntmps18
      go_wp2_with fail
      refine HCALL.out.mono ?_
      rintro e w1 ⟨rfl, rfl⟩
      go_wp2_with fail
      go_ret2
      exact givesNum_no HN.out (Below.refl _ _)
    · have hTi : ¬ 9 < (T.size : Int) := by omega
      go_enter Tryd.func18, Tryd.ntmps18
      go_wp2_with fail
      refine HCALL.out.mono ?_
      rintro e w1 ⟨rfl, rfl⟩
      go_wp2_with fail
      clear HCALL
      go_loop [5, 18] (fun nv iv => ∃ (i : Nat) (n : Int), i ≤ T.size ∧ iv = .int .i64 i ∧ nv = .int .i64 n ∧ Hid (n = decL ((restOf s).take i)) ∧ Hid (DigTo (restOf s) i) ∧ 0 ≤ n ∧ n ≤ 999999999) (fun _ iv => T.size - (intOf iv).toNat)
      case atStart => exact ⟨0, 0, by omega, rfl, rfl, Lib.hid rfl, Lib.hid (fun t b ht => absurd ht (by omega)), by decide, by decide⟩
      case round =>
        obtain ⟨i, n, hi2, rfl, rfl, HV, HD, hn0, hn9⟩ := hrel
        by_cases hlt : i < T.size
        · obtain ⟨b, hbT⟩ : ∃ b, b = T[i] := ⟨_, rfl⟩
          have HB : Hid ((restOf s)[i]? = some T[i]) := Lib.hid (by
            have h := strOf_get (l := restOf s) (j := i) (by rw [← HT.out]; exact hlt)
            rw [h]
            congr 1
            simp only [HT.out])
          have hb := wf_byte' T[i]
          by_cases hlo : (T[i].toNat : Int) < 48
          · have HN := Lib.hid (numOk_no (s := s) (fun h => by
              have h3 := h.2.2.1 i T[i] (by rw [rest_len]; omega) HB.out
              omega))
            go_wp2
            go_ret2
            exact givesNum_no HN.out (Below.refl _ _)
          · by_cases hhi : 57 < (T[i].toNat : Int)
            · have HN := Lib.hid (numOk_no (s := s) (fun h => by
                have h3 := h.2.2.1 i T[i] (by rw [rest_len]; omega) HB.out
                omega))
              go_wp2
              go_ret2
              exact givesNum_no HN.out (Below.refl _ _)
            · have HD' : Hid (DigTo (restOf s) (i + 1)) := Lib.hid (HD.out.step HB.out (by omega) (by omega))
              have HV' : Hid (10 * n + ((T[i].toNat : Int) - 48) = decL ((restOf s).take (i + 1))) := Lib.hid (by rw [decL_step HB.out, HV.out])
              have hs2 := decL_small HD'.out (by rw [rest_len]; omega) (by omega)
              rw [← HV'.out] at hs2
              have hw8 : IntKind.u8.wrap ((T[i].toNat : Int) - 48) = (T[i].toNat : Int) - 48 := IntWalk.u8_in _ (by omega)
              clear hbT
              go_wp2
              go_round
              case rel => exact ⟨i + 1, 10 * n + ((T[i].toNat : Int) - 48), by omega, by go_num, rfl, HV', HD', hs2.1, hs2.2⟩
              case measure => simp [intOf]; omega
        · obtain rfl : i = T.size := by omega
          by_cases hA : atOf s = 1
          · have HZ : Hid (numV s = -n) := Lib.hid (by
              rw [numV, if_pos hA, HV.out, hTs, ← rest_len, List.take_length])
            have HE : Hid (numOk s = ((strOf (fmtInt (-n))).toList == s.toList)) := Lib.hid (by
              rw [← HZ.out]
              exact numOk_end (by omega) (by omega) (by rw [rest_len, ← hTs]; exact HD.out))
            have hlt2 : (T.size : Int) < (s.size : Int) := by omega
            go_wp2_with fail
            refine (iFmt_c _ _ (by omega) (by omega)).mono ?_
            rintro e w2 ⟨rfl, rfl⟩
            go_wp2_with fail
            go_ret2
            exact ⟨_, by rw [HE.out]; rfl, fun _ => HZ.out.symm, Below.refl _ _⟩
          · have HZ : Hid (numV s = n) := Lib.hid (by
              rw [numV, if_neg hA, HV.out, hTs, ← rest_len, List.take_length])
            have HE : Hid (numOk s = ((strOf (fmtInt n)).toList == s.toList)) := Lib.hid (by
              rw [← HZ.out]
              exact numOk_end (by omega) (by omega) (by rw [rest_len, ← hTs]; exact HD.out))
            have hlt2 : ¬ (T.size : Int) < (s.size : Int) := by omega
            go_wp2_with fail
            refine (iFmt_c _ _ (by omega) (by omega)).mono ?_
            rintro e w2 ⟨rfl, rfl⟩
            go_wp2_with fail
            go_ret2
            exact ⟨_, by rw [HE.out]; rfl, fun _ => HZ.out.symm, Below.refl _ _⟩

end Go.Proofs.YthgigbihpcelpaaDoor
