/-
  Contracts: what the laws draw: reduced words, two permutations.
-/
import Derived.Test.YtcpekiangjpppaaFive
import Derived.Test.YtcpekiangjpppaaExt
namespace Go.Proofs.Ytcpekiangjpppaa
open Go.RowKit
set_option linter.unusedVariables false

/-- A way up to w, letter by letter. -/
def WayTo (n : Nat) (v : List Int) (word : List Int) (w : List Int) : Prop := Up v word w ∧ (∀ k ∈ word, 0 ≤ k ∧ k + 2 ≤ (n : Int))

def sliceLen : Value → Nat
  | .slice _ n _ => n
  | _ => 0
theorem own_shape {B : Nat} {w : World} {v : Value} {l : List Int} (h : OwnI B w v l) : ∃ ao c, v = .slice ao l.length c ∧ l.length ≤ c := by
  rcases h.1.2 with ⟨rfl, h0⟩ | ⟨g, cap, cur, rfl, hb, hg, hnc, _⟩
  · exact ⟨none, 0, by rw [h0], by omega⟩
  · exact ⟨_, cap, rfl, hnc⟩
theorem own_one (w : World) (k : Int) : OwnI w.heap.size (w.alloc (Obj.cells #[.int .i64 k] 3)) (.slice (some ⟨w.heap.size, 0, none⟩) 1 1) [k] :=
  ⟨by simpa using World.ownsRow_lit (base := w.heap.size) (e := 3) (size := 1) w #[.int .i64 k] 1 (Nat.le_refl _) (by decide) rfl, by simp⟩

theorem swap_perm {n : Nat} {l : List Int} {i j : Nat} (h : PermN n l) (hi : i < n) (hj : j < n) : PermN n (swapL l i j) := by
  obtain ⟨a1, a2, a3, a4⟩ := isPermB_iff.1 h.1
  have hl := h.2
  have hp : (swapL l i j).Perm l := by
    have e1 : l.getD j 0 = l[j]'(by omega) := by rw [List.getD_eq_getElem?_getD, List.getElem?_eq_getElem (by omega)]; rfl
    have e2 : l.getD i 0 = l[i]'(by omega) := by rw [List.getD_eq_getElem?_getD, List.getElem?_eq_getElem (by omega)]; rfl
    unfold swapL
    rw [e1, e2]
    exact List.set_set_perm (by omega) (by omega)
  refine ⟨isPermB_iff.2 ⟨by rw [swapL_len]; exact a1, by rw [swapL_len]; exact a2, fun x hx => by rw [swapL_len]; exact a3 x (hp.mem_iff.1 hx), hp.nodup_iff.2 a4⟩, by rw [swapL_len]; exact hl⟩
theorem id_perm {n : Nat} (h1 : 1 ≤ n) (h7 : n ≤ 7) : PermN n (idL n) := by
  refine ⟨isPermB_iff.2 ⟨by rw [idL_len]; exact h1, by rw [idL_len]; exact h7, fun x hx => ?_, idL_nodup n⟩, idL_len n⟩
  simp [idL] at hx
  obtain ⟨a, ha, rfl⟩ := hx
  rw [idL_len]; omega
def Letters (n : Nat) (word : List Int) : Prop := ∀ k ∈ word, 0 ≤ k ∧ k + 2 ≤ (n : Int)
theorem play_perm {n : Nat} (h1 : 1 ≤ n) (h7 : n ≤ 7) (all : Bool) {word : List Int} (h : Letters n word) : ∀ j, j ≤ word.length → PermN n (playUp all word n j)
  | 0, _ => id_perm h1 h7
  | j + 1, hj => by
    have ih := play_perm h1 h7 all h j (by omega)
    have hk := h (word.getD j 0) (List.mem_of_getElem? (getElem?_of_getD rfl (by omega)))
    unfold playUp
    split
    · exact swap_perm ih (by omega) (by omega)
    · exact ih
theorem letters_word {n : Nat} (h1 : 1 ≤ n) (h7 : n ≤ 7) {word : List Int} (h : Letters n word) (hl : word.length ≤ 60) : wordB (n : Int) word = true := by
  unfold wordB inWord
  rw [inB_mk (by omega) (by omega), decide_eq_true hl]
  simp only [Bool.true_and, decide_eq_true_eq]
  intro k hk
  have := h k hk
  omega

def GivesTwo (w : World) (e : Ending) (w' : World) : Prop :=
  ∃ r1 r2 n u v, e = .returned (.tuple #[r1, r2]) ∧ 1 ≤ n ∧ n ≤ 5 ∧ PermN n u ∧ PermN n v ∧ IntsV w' r1 u ∧ IntsV w' r2 v ∧ Below w.heap.size w w'

end Go.Proofs.Ytcpekiangjpppaa
