/-
  Contracts: words, WordPerm, DemazurePerm.
-/
import Derived.Test.YtfepepakellbbaaSwap
import Derived.Test.YtfepepakellbbaaIdent
namespace Go.Proofs.Ytfepepakellbbaa
open Go.RowKit
set_option linter.unusedVariables false

/-- Each number is that of a swap of n. -/
def inWord (n : Int) (word : List Int) : Bool := decide (∀ k ∈ word, 0 ≤ k ∧ k ≤ n - 2)
def wordB (n : Int) (word : List Int) : Bool := inB n 1 7 && decide (word.length ≤ 60) && inWord n word
theorem wordB_no {n : Int} {word : List Int} (h : inB n 1 7 = false ∨ 60 < word.length ∨ inWord n word = false) : wordB n word = false := by
  unfold wordB
  rcases h with h | h | h
  · simp [h]
  · have : decide (word.length ≤ 60) = false := by simpa using h
    simp [this]
  · simp [h]
theorem inWord_bad {n : Int} {word : List Int} {j : Nat} {k : Int} (hk : word[j]? = some k) (h : k < 0 ∨ n - 2 < k) : inWord n word = false := by
  simp only [inWord, decide_eq_false_iff_not]
  intro hall
  have := hall k (List.mem_of_getElem? hk)
  omega
/-- The first j numbers are right. -/
def WordUp (n : Int) (word : List Int) (j : Nat) : Prop := ∀ t, t < j → ∀ k, word[t]? = some k → 0 ≤ k ∧ k ≤ n - 2
theorem WordUp.zero (n : Int) (word : List Int) : WordUp n word 0 := fun t ht => absurd ht (Nat.not_lt_zero _)
theorem WordUp.step {n : Int} {word : List Int} {j : Nat} (h : WordUp n word j) {k : Int} (hk : word[j]? = some k) (h1 : 0 ≤ k) (h2 : k ≤ n - 2) : WordUp n word (j + 1) := by
  intro t ht y hy
  by_cases e : t = j
  · subst e
    rw [hk] at hy
    obtain rfl := Option.some.inj hy
    exact ⟨h1, h2⟩
  · exact h t (by omega) y hy
theorem WordUp.done {n : Int} {word : List Int} (h : WordUp n word word.length) : inWord n word = true := by
  simp only [inWord, decide_eq_true_eq]
  intro k hk
  obtain ⟨t, ht, e⟩ := List.mem_iff_getElem.1 hk
  exact h t ht k (by rw [List.getElem?_eq_getElem ht, e])

set_option maxHeartbeats 1600000 in
theorem isWord_c (n : Int) (v : Value) (l : List Int) (w : World) (hv : IntsV w v l) :
    Calls Try.prog 61 #[.int .i64 n, v] w fun e w' => e = .returned (.bool (wordB n l)) ∧ w = w' := by
  obtain ⟨m, ao, b, off, c, rfl, HL, hnc, hcm, ha, hc, hn⟩ := hv.open
  clear hcm
  cases hin : inB n 1 7 with
  | false =>
    have HR := Lib.hid (wordB_no (word := l) (.inl hin))
    go_enter Try.func61, Try.ntmps61
    go_wp2_with fail
    go_loop [9] (fun i => ∃ j : Nat, j ≤ m ∧ i = .int .i64 j) (fun i => m - (intOf i).toNat)
    case atStart => exact ⟨0, Nat.zero_le _, rfl⟩
    case round =>
      obtain ⟨j, hj, rfl⟩ := hrel
      by_cases hlt : j < m
      · obtain rfl := ha (by omega)
        have hcj := hc j hlt
        obtain ⟨k, hk⟩ : ∃ k, k = l.getD j 0 := ⟨_, rfl⟩
        rw [← hk] at hcj
        clear hc ha hk hin
        by_cases hk0 : k < 0
        · go_wp2
          go_ret
          exact ⟨ret_bool HR.out.symm, rfl⟩
        · go_wp2
          · go_ret
            exact ⟨ret_bool HR.out.symm, rfl⟩
          · go_round
            case rel => exact ⟨j + 1, by omega, by go_num⟩
            case measure => simp [intOf]; omega
      · clear hc ha
        go_wp2_with (go_at_call 62; refine (isSize_c _ _).mono ?_; rintro e w' ⟨rfl, rfl⟩)
        go_ret
        exact ⟨ret_bool HR.out.symm, rfl⟩
  | true =>
    have hb := inB_true hin
    have HI := Lib.hid hin
    go_enter Try.func61, Try.ntmps61
    go_wp2_with fail
    go_loop [9] (fun i => ∃ j : Nat, j ≤ m ∧ i = .int .i64 j ∧ Hid (WordUp n l j)) (fun i => m - (intOf i).toNat)
    case atStart => exact ⟨0, Nat.zero_le _, rfl, Lib.hid (WordUp.zero _ _)⟩
    case round =>
      obtain ⟨j, hj, rfl, HU⟩ := hrel
      by_cases hlt : j < m
      · obtain rfl := ha (by omega)
        have hcj := hc j hlt
        obtain ⟨k, hk⟩ : ∃ k, k = l.getD j 0 := ⟨_, rfl⟩
        rw [← hk] at hcj
        have HX := Lib.hid (getElem?_of_getD hk (by rw [← HL.out]; exact hlt))
        clear hc ha hk
        by_cases hk0 : k < 0
        · have HR := Lib.hid (wordB_no (n := n) (word := l) (.inr (.inr (inWord_bad HX.out (.inl hk0)))))
          go_wp2
          go_ret
          exact ⟨ret_bool HR.out.symm, rfl⟩
        · by_cases hk1 : n - 2 < k
          · have HR := Lib.hid (wordB_no (n := n) (word := l) (.inr (.inr (inWord_bad HX.out (.inr hk1)))))
            go_wp2
            go_ret
            exact ⟨ret_bool HR.out.symm, rfl⟩
          · have HU' := Lib.hid (HU.out.step HX.out (by omega) (by omega))
            go_wp2
            go_round
            case rel => exact ⟨j + 1, by omega, by go_num, HU'⟩
            case measure => simp [intOf]; omega
      · obtain rfl : j = m := by omega
        clear hc ha
        by_cases h60 : j ≤ 60
        · have HR : Hid (wordB n l = true) := Lib.hid (by
            have h1 : decide (l.length ≤ 60) = true := by rw [decide_eq_true_eq, ← HL.out]; omega
            rw [wordB, HI.out, h1, (WordUp.done (by rw [← HL.out]; exact HU.out))]; rfl)
          go_wp2_with (go_at_call 62; refine (isSize_c _ _).mono ?_; rintro e w' ⟨rfl, rfl⟩)
          go_ret
          exact ⟨ret_bool (by rw [HR.out]; simp; omega), rfl⟩
        · have HR := Lib.hid (wordB_no (n := n) (word := l) (.inr (.inl (by rw [← HL.out]; omega))))
          go_wp2_with (go_at_call 62; refine (isSize_c _ _).mono ?_; rintro e w' ⟨rfl, rfl⟩)
          go_ret
          exact ⟨ret_bool (by rw [HR.out]; simp; omega), rfl⟩

end Go.Proofs.Ytfepepakellbbaa
