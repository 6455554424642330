/-
  Rows of terms as they come in, and what the law reckons of their size.
-/
import Derived.Test.YtoioiippdchgmaaToTS
namespace Go.Proofs.Ytoioiippdchgmaa
open Go.RowKit
set_option linter.unusedVariables false

/-- What the walk is told of a slice of terms that came in. -/
def TermsR (w : World) (a : Option Addr) (n c : Nat) (ts : TermL) : Prop :=
  n = ts.length ∧ n ≤ c ∧ c ≤ maxLen ∧ ∃ b off, (0 < n → a = some ⟨b, off, none⟩) ∧
    ∀ j e k, ts[j]? = some (e, k) → ∃ a' n' c' z, w.cell? ⟨b, off + j * 2, none⟩ = some (.slice a' n' c') ∧ w.cell? ⟨b, off + j * 2 + 1, none⟩ = some (.int .i64 k) ∧
      IsRow .i64 w a' n' c' z ∧ e = z.take n' ∧ (Lit.int .i64 k).wf = true
theorem IsRow.kept {k : IntKind} {w w' : World} {a : Option Addr} {len cap : Nat} {zs : List Int} (h : IsRow k w a len cap zs) (hb : Below w.heap.size w w') : IsRow k w' a len cap zs := by
  rcases h with h | ⟨x, h0, h1, h2, h3, h4, h5⟩
  · exact .inl h
  · exact .inr ⟨x, h0, h1, h2, h3, fun i hi => (hb.cell (World.block_lt_of_cell? _ _ (h4 i hi))).trans (h4 i hi), h5⟩
theorem TermsR.kept {w w' : World} {a : Option Addr} {n c : Nat} {ts : TermL} (h : TermsR w a n c ts) (hb : Below w.heap.size w w') : TermsR w' a n c ts := by
  obtain ⟨h1, h2, h3, b, off, h4, h5⟩ := h
  refine ⟨h1, h2, h3, b, off, h4, fun j e k ht => ?_⟩
  obtain ⟨a', n', c', z, q1, q2, q3, q4, q5⟩ := h5 j e k ht
  exact ⟨a', n', c', z, (hb.cell (World.block_lt_of_cell? _ _ q1)).trans q1, (hb.cell (World.block_lt_of_cell? _ _ q2)).trans q2, q3.kept hb, q4, q5⟩
theorem IsRow.len {k : IntKind} {w : World} {a : Option Addr} {len cap : Nat} {zs : List Int} (h : IsRow k w a len cap zs) : (zs.take len).length = len ∧ len ≤ cap ∧ cap ≤ maxLen := by
  rcases h with ⟨_, rfl, rfl, rfl⟩ | ⟨_, _, h1, h2, h3, _⟩
  · exact ⟨rfl, Nat.le_refl _, Nat.zero_le _⟩
  · refine ⟨?_, h1, h2⟩
    rw [List.length_take]; omega
/-- The numbers fit into 64 bits. -/
def I64T (ts : TermL) : Prop := ∀ (j : Nat) (e : List Int) (k : Int), ts[j]? = some (e, k) → I64L e ∧ -9223372036854775808 ≤ k ∧ k ≤ 9223372036854775807
theorem TermsR.terms {w : World} {a : Option Addr} {n c : Nat} {ts : TermL} (h : TermsR w a n c ts) (hl : tLen ts ≤ 1048576) : TermsA w (.slice a n c) ts ∧ I64T ts := by
  obtain ⟨h1, h2, h3, b, off, h4, h5⟩ := h
  refine ⟨⟨n, a, b, off, c, rfl, h1, h2, h3, h4, fun j e k ht => ?_, by omega⟩, ?_⟩
  · obtain ⟨a', n', c', z, q1, q2, q3, q4, q5⟩ := h5 j e k ht
    have := tLen_get ts j (e, k) ht
    have hn : n' ≤ 1099511627776 := by rw [q4, q3.len.1] at this; omega
    exact ⟨_, q1, q2, by rw [q4]; exact (q3.ints hn).1⟩
  · intro j e k ht
    obtain ⟨a', n', c', z, q1, q2, q3, q4, q5⟩ := h5 j e k ht
    have := tLen_get ts j (e, k) ht
    have hn : n' ≤ 1099511627776 := by rw [q4, q3.len.1] at this; omega
    exact ⟨by rw [q4]; exact (q3.ints hn).2, wf_bounds q5⟩

def GivesSz (w : World) (k : Int) (ts : TermL) (e : Ending) (w' : World) : Prop :=
  ∃ r, e = .returned (.int .i64 r) ∧ Below w.heap.size w w' ∧ (r = -1 ∨ (0 ≤ r ∧ r = k - (tLen ts : Int)))

set_option maxHeartbeats 1600000 in
theorem szTermS_c (a : Option Addr) (n c : Nat) (ts : TermL) (k : Int) (w : World) (hv : TermsR w a n c ts) (hk0 : 0 ≤ k) (hk : k ≤ 1048576) :
    Calls Try.prog 7 #[.slice a n c, .int .i64 k] w (GivesSz w k ts) := by
  obtain ⟨hL, hnc, hcm, b, off, ha, hc⟩ := hv
  have HL := Lib.hid hL
  have HC := Lib.hid hc
  have hn63 : n ≤ 9223372036854775807 := by unfold maxLen at hcm; omega
  clear hc hcm hL
  have hw1 : IntKind.i64.wrap (k - (n : Int)) = k - (n : Int) := IntWalk.i64_in _ (by omega)
  by_cases hkn : k - (n : Int) < 0
  · go_enter Try.func7, Try.ntmps7
    go_wp2
    go_ret
    exact ⟨-1, rfl, Below.refl _ _, .inl rfl⟩
  · go_enter Try.func7, Try.ntmps7
    go_wp2_with fail
    go_loopw [1, 5] (fun kv iv wr => ∃ (j : Nat) (r : Int), j ≤ n ∧ iv = .int .i64 j ∧ kv = .int .i64 r ∧ 0 ≤ r ∧ r ≤ 1048576 ∧ Hid (r = k - (n : Int) + (j : Int) - (tLen (ts.take j) : Int)) ∧ Below w.heap.size w wr) (fun _ iv _ => n - (intOf iv).toNat)
    case atStart => exact ⟨0, k - (n : Int), Nat.zero_le _, rfl, rfl, by omega, by omega, Lib.hid (by simp [tLen]), Below.refl _ _⟩
    case round =>
      obtain ⟨j, r, hj, rfl, rfl, hr0, hr1, HR, hBj⟩ := hrel
      clear hw1
      by_cases hlt : j < n
      · obtain rfl := ha (by omega)
        obtain ⟨x, hx⟩ : ∃ x, ts[j]? = some x := ⟨_, List.getElem?_eq_getElem (by rw [← HL.out]; exact hlt)⟩
        obtain ⟨e, d⟩ := x
        obtain ⟨a', n', c', z, q1, q2, q3, q4, q5⟩ := HC.out j e d hx
        have k1 := (hBj.cell (World.block_lt_of_cell? _ _ q1)).trans q1
        have k2 := (hBj.cell (World.block_lt_of_cell? _ _ q2)).trans q2
        obtain ⟨z1, z2, z3⟩ := q3.len
        have hn' : n' ≤ 9223372036854775807 := by unfold maxLen at z3; omega
        have HS := Lib.hid (tLen_take_succ hx)
        have HE := Lib.hid (show e.length = n' by rw [q4]; exact z1)
        have hj0 : (0 : Int) ≤ (j : Int) := Int.natCast_nonneg _
        have hj1 : (j : Int) < (n : Int) := by omega
        have hw2 : IntKind.i64.wrap (r - (n' : Int)) = r - (n' : Int) := IntWalk.i64_in _ (by omega)
        have F2 := hBj.alloc hBj.size (Obj.cells #[.slice a' n' c', .int .i64 d] 39)
        clear q1 q2 q3 q4 q5 z1 z2 z3 hx
        by_cases hneg : r - (n' : Int) < 0
        · go_wp2
          go_ret
          exact ⟨-1, rfl, F2, .inl rfl⟩
        · have HR' : Hid (r - (n' : Int) = k - (n : Int) + ((j + 1 : Nat) : Int) - (tLen (ts.take (j + 1)) : Int)) := Lib.hid (by
            have h1 := HR.out
            have h2 := HS.out
            have h3 := HE.out
            rw [h3] at h2
            rw [h2]
            omega)
          go_wp2
          go_roundw
          case rel => exact ⟨j + 1, r - (n' : Int), by omega, by go_num, rfl, by omega, by omega, HR', F2⟩
          case measure => simp [intOf]; omega
      · obtain rfl : j = n := by omega
        go_wp2
        go_ret
        refine ⟨r, rfl, hBj, .inr ⟨hr0, ?_⟩⟩
        have h1 := HR.out
        rw [show j = ts.length from HL.out, List.take_length] at h1
        omega

end Go.Proofs.Ytoioiippdchgmaa
