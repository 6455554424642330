/-
  Contracts: ConstantPoly.
-/
import Derived.Test.YtdbfpagfikdclaaTerm
import Derived.Test.YtdbfpagfikdclaaPerm
namespace Go.Proofs.Ytdbfpagfikdclaa
open Go.RowKit
set_option linter.unusedVariables false

/-- A row of one term. -/
theorem OwnP.one {B : Nat} {w : World} {ao : Option Addr} {n cap : Nat} {e : List Int} (c : Int) (h : OwnI B w (.slice ao n cap) e) (hB : B ≤ w.heap.size) (hl : e.length < 1099511627776) :
    OwnP B (w.alloc (.cells #[.slice ao n cap, .int .i64 c] 48)) (.slice (some ⟨w.heap.size, 0, none⟩) 1 1) [(e, c)] := by
  have hb := (Below.refl w.heap.size w).alloc (Nat.le_refl _) (Obj.cells #[.slice ao n cap, .int .i64 c] 48)
  have hlt : ∀ k, (Value.slice ao n cap).ownBlock = some k → B ≤ k ∧ k < w.heap.size := h.block
  refine ⟨[(.slice ao n cap, c)], ⟨?_, by simp⟩, ?_, rfl, ?_, ?_, ?_, Nat.le_refl _, ?_⟩
  · have := World.ownsRow_lit (base := B) (e := 48) (size := 2) w #[.slice ao n cap, .int .i64 c] 1 hB (by decide) rfl
    simpa [two, tf0, tf1] using this
  · exact (Parts.nil _ _).push (h.kept hb) (fun j u hu => by simp at hu)
  · intro j u hu k hk e'
    match j, hu with
    | 0, hu =>
      simp at hu; subst hu
      have := (hlt k hk).2
      simp [Value.ownBlock] at e'
      omega
  · intro k hk
    simp [Value.ownBlock] at hk
    simp; omega
  · intro j u hu k hk
    match j, hu with
    | 0, hu =>
      simp at hu; subst hu
      have := (hlt k hk).2
      simp; omega
  · simp only [tLen]; omega

def constL (k : Int) : TermL := if k = 0 ∨ inB k (-1000000) 1000000 = false then [] else [(List.replicate 7 0, k)]
theorem constL_no {k : Int} (h : k = 0 ∨ inB k (-1000000) 1000000 = false) : constL k = [] := if_pos h
theorem constL_yes {k : Int} (h : k ≠ 0) (h2 : inB k (-1000000) 1000000 = true) : constL k = [(List.replicate 7 0, k)] := if_neg (by simp [h, h2])

set_option maxHeartbeats 800000 in
theorem sConst_c (k : Int) (w : World) : Calls Try.prog 31 #[.int .i64 k] w (GivesT w (constL k)) := by
  by_cases h0 : k = 0
  · have HR := Lib.hid (constL_no (.inl h0))
    subst h0
    go_enter Try.func31, Try.ntmps31
    go_wp2
    go_ret
    rw [HR.out]
    exact ⟨_, rfl, OwnP.nil _ _, Below.refl _ _⟩
  · have hk0 : (k == 0) = false := by simpa using h0
    cases hin : inB k (-1000000) 1000000 with
    | false =>
      have HR := Lib.hid (constL_no (.inr hin))
      go_enter Try.func31, Try.ntmps31
      go_wp2_with fail
      refine (l1In_c _ _ _ _).mono ?_
      rintro e w1 ⟨rfl, rfl⟩
      go_wp2_with fail
      go_ret
      rw [HR.out]
      exact ⟨_, rfl, OwnP.nil _ _, Below.refl _ _⟩
    | true =>
      have HR := Lib.hid (constL_yes h0 hin)
      go_enter Try.func31, Try.ntmps31
      go_wp2_with fail
      refine (l1In_c _ _ _ _).mono ?_
      rintro e w1 ⟨rfl, rfl⟩
      go_wp2_with (at_make; refine wpList_zeros _ rfl _ _ rfl 7 rfl rfl (by decide) ?_)
      intro w1 hO hB
      go_wp2
      go_ret
      rw [HR.out]
      refine ⟨_, rfl, ?_, ?_⟩
      · exact OwnP.one k hO hB.size (by simp)
      · exact hB.alloc hB.size _

set_option maxHeartbeats 800000 in
theorem iConst_c (k : Int) (w : World) : Calls Try.prog 32 #[.int .i64 k] w (GivesT w (constL k)) := by
  by_cases h0 : k = 0
  · have HR := Lib.hid (constL_no (.inl h0))
    subst h0
    go_enter Try.func32, Try.ntmps32
    go_wp2
    go_ret
    rw [HR.out]
    exact ⟨_, rfl, OwnP.nil _ _, Below.refl _ _⟩
  · have hk0 : (k == 0) = false := by simpa using h0
    by_cases h1 : k < -1000000
    · have HR := Lib.hid (constL_no (.inr (inB_not (.inl h1))))
      go_enter Try.func32, Try.ntmps32
      go_wp2_with fail
      go_ret
      rw [HR.out]
      exact ⟨_, rfl, OwnP.nil _ _, Below.refl _ _⟩
    · by_cases h2 : 1000000 < k
      · have HR := Lib.hid (constL_no (.inr (inB_not (.inr h2))))
        go_enter Try.func32, Try.ntmps32
        go_wp2_with fail
        go_ret
        rw [HR.out]
        exact ⟨_, rfl, OwnP.nil _ _, Below.refl _ _⟩
      · have HR := Lib.hid (constL_yes h0 (inB_mk (by omega) (by omega)))
        go_enter Try.func32, Try.ntmps32
        go_wp2_with (at_make; refine wpList_zeros _ rfl _ _ rfl 7 rfl rfl (by decide) ?_)
        intro w1 hO hB
        go_wp2
        go_ret
        rw [HR.out]
        refine ⟨_, rfl, ?_, ?_⟩
        · exact OwnP.one k hO hB.size (by simp)
        · exact hB.alloc hB.size _

end Go.Proofs.Ytdbfpagfikdclaa
