/-
  Contracts: l1In, l1Has, IsPerm of the reference and of the program.
-/
import Derived.Test.YtoioiippdchgmaaGives
import Derived.Test.YtoioiippdchgmaaPure
import Derived.Deep.OwnRows
namespace Go.Proofs.Ytoioiippdchgmaa
open Go.RowKit
set_option linter.unusedVariables false

theorem l1In_c (x lo hi : Int) (w : World) :
    Calls Try.prog 22 #[.int .i64 x, .int .i64 lo, .int .i64 hi] w fun e w' => e = .returned (.bool (inB x lo hi)) ∧ w = w' := by
  by_cases h1 : lo ≤ x
  · by_cases h2 : x ≤ hi
    · go_enter Try.func22, Try.ntmps22
      go_wp2
      go_ret
      exact ⟨ret_bool (by simp [inB, h1, h2]), rfl⟩
    · have h2' : hi < x := by omega
      go_enter Try.func22, Try.ntmps22
      go_wp2
      go_ret
      exact ⟨ret_bool (by rw [inB_not (.inr h2')]), rfl⟩
  · have h1' : x < lo := by omega
    go_enter Try.func22, Try.ntmps22
    go_wp2
    go_ret
    exact ⟨ret_bool (by rw [inB_not (.inl h1')]), rfl⟩

theorem mem_take_succ {l : List Int} {j : Nat} {x y : Int} (hy : l[j]? = some y) : x ∈ l.take (j + 1) ↔ x ∈ l.take j ∨ x = y := by
  rw [List.take_add_one, hy]
  simp

/-- The beginning of a slice. -/
theorem IntsV.take {w : World} {ao : Option Addr} {b off n c : Nat} {l : List Int} (hl : n = l.length) (hcm : c ≤ maxLen) (hnc : n ≤ c) (ha : 0 < c → ao = some ⟨b, off, none⟩)
    (hc : ∀ j, j < n → w.cell? ⟨b, off + j, none⟩ = some (.int .i64 (l.getD j 0))) (hn : n ≤ 1099511627776) (i : Nat) (hi : i ≤ n) : IntsV w (.slice ao i c) (l.take i) := by
  have e : (l.take i).length = i := by rw [List.length_take]; omega
  refine ⟨ao, b, off, c, by rw [e], by omega, hcm, ha, fun j hj => ?_, by omega⟩
  rw [e] at hj
  rw [hc j (by omega)]
  simp [List.getD_eq_getElem?_getD, hj]

theorem hasB_true {l : List Int} {x : Int} (h : hasB l x = true) : x ∈ l := by simpa [hasB] using h
theorem hasB_false {l : List Int} {x : Int} (h : hasB l x = false) : x ∉ l := by simpa [hasB] using h

end Go.Proofs.Ytoioiippdchgmaa
