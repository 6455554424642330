/-
  Rows of terms: what the law's own functions do with them.
-/
import Derived.Test.YtfepepakellbbaaParts
import Derived.Test.YtfepepakellbbaaBase
import Derived.Test.YtfepepakellbbaaPush
import Derived.WalkKit
import Derived.Deep.RegionHeld3
namespace Go.Proofs.Ytfepepakellbbaa
open Go.RowKit
set_option linter.unusedVariables false

abbrev TermL := List (List Int × Int)
def tf0 (x : Value × Int) : Value := x.1
def tf1 (x : Value × Int) : Value := .int .i64 x.2
/-- How many marks a list of terms takes. -/
def tLen : TermL → Nat
  | [] => 0
  | t :: ts => t.1.length + 1 + tLen ts
theorem tLen_append : ∀ (a b : TermL), tLen (a ++ b) = tLen a + tLen b
  | [], b => by simp [tLen]
  | t :: a, b => by simp only [List.cons_append, tLen, tLen_append a b]; omega
theorem tLen_ge : ∀ (a : TermL), a.length ≤ tLen a
  | [] => Nat.le_refl _
  | t :: a => by have := tLen_ge a; simp only [List.length_cons, tLen]; omega
theorem tLen_get : ∀ (a : TermL) (j : Nat) (t : List Int × Int), a[j]? = some t → t.1.length ≤ tLen a
  | [], j, t, h => by simp at h
  | x :: a, 0, t, h => by simp at h; subst h; simp only [tLen]; omega
  | x :: a, j + 1, t, h => by have := tLen_get a j t (by simpa using h); simp only [tLen]; omega

section
variable {lo hi : Nat} {w w' : World} {v : Value} {rs : List (Value × Int)} {ts : TermL}
end

theorem IntsV.shape {w : World} {v : Value} {l : List Int} (h : IntsV w v l) : ∃ ao n c, v = .slice ao n c := by
  obtain ⟨ao, b, off, c, rfl, _⟩ := h
  exact ⟨_, _, _, rfl⟩

theorem below_drewT {B : Nat} {w W : World} (h : Below B w W) : Below B w W.drew := ⟨h.os, h.tape, h.output, h.size, h.block⟩

def MarksT : Int → TermL → TermL
  | _, [] => []
  | k, t :: ts => (Marks k t.1.length, k + (t.1.length : Int)) :: MarksT (k + (t.1.length : Int) + 1) ts
theorem MarksT.get : ∀ (k : Int) (ts : TermL) (j : Nat) (e : List Int) (c : Int), ts[j]? = some (e, c) →
    (MarksT k ts)[j]? = some (Marks (k + (tLen (ts.take j) : Int)) e.length, k + (tLen (ts.take j) : Int) + (e.length : Int))
  | k, [], j, e, c, h => by simp at h
  | k, t :: ts, 0, e, c, h => by simp at h; subst h; simp [MarksT, tLen]
  | k, t :: ts, j + 1, e, c, h => by
    have ih := MarksT.get (k + (t.1.length : Int) + 1) ts j e c (by simpa using h)
    simp only [MarksT, List.getElem?_cons_succ, List.take_succ_cons, tLen]
    rw [ih]
    have e1 : k + (t.1.length : Int) + 1 + (tLen (ts.take j) : Int) = k + ((t.1.length + 1 + tLen (ts.take j) : Nat) : Int) := by omega
    rw [e1]
theorem MarksT.len : ∀ (k : Int) (ts : TermL), (MarksT k ts).length = ts.length
  | _, [] => rfl
  | k, t :: ts => by simp only [MarksT, List.length_cons, MarksT.len]
theorem tLen_take_succ {ts : TermL} {j : Nat} {e : List Int} {c : Int} (h : ts[j]? = some (e, c)) : tLen (ts.take (j + 1)) = tLen (ts.take j) + e.length + 1 := by
  rw [List.take_add_one, h, tLen_append]; simp [tLen]; omega
theorem tLen_take_le (ts : TermL) (j : Nat) : tLen (ts.take j) ≤ tLen ts := by
  have := tLen_append (ts.take j) (ts.drop j)
  rw [List.take_append_drop] at this
  omega
theorem tLen_set : ∀ (ts : TermL) (j : Nat) (e e' : List Int) (c c' : Int), ts[j]? = some (e, c) → e'.length = e.length → tLen (ts.set j (e', c')) = tLen ts
  | [], j, e, e', c, c', h, _ => by simp at h
  | t :: ts, 0, e, e', c, c', h, hl => by simp at h; subst h; simp [tLen, hl]
  | t :: ts, j + 1, e, e', c, c', h, hl => by
    have := tLen_set ts j e e' c c' (by simpa using h) hl
    simp only [List.set_cons_succ, tLen, this]
/-- The first j elements are marked. -/
def markAt (k : Int) (ts : TermL) (j : Nat) : TermL := (MarksT k ts).take j ++ ts.drop j
theorem markAt_zero (k : Int) (ts : TermL) : markAt k ts 0 = ts := by simp [markAt]
theorem markAt_all (k : Int) (ts : TermL) : markAt k ts ts.length = MarksT k ts := by
  rw [markAt, List.drop_length, List.append_nil, List.take_of_length_le (by rw [MarksT.len]; exact Nat.le_refl _)]
theorem markAt_get {k : Int} {ts : TermL} {j : Nat} {x : List Int × Int} (h : ts[j]? = some x) : (markAt k ts j)[j]? = some x := by
  have hj := (List.getElem?_eq_some_iff.1 h).1
  have hl : ((MarksT k ts).take j).length = j := by rw [List.length_take, MarksT.len]; omega
  rw [markAt, List.getElem?_append_right (by omega), hl, Nat.sub_self, List.getElem?_drop]
  simpa using h
theorem markAt_step {k : Int} {ts : TermL} {j : Nat} {e : List Int} {c : Int} (h : ts[j]? = some (e, c)) :
    (markAt k ts j).set j (Marks (k + (tLen (ts.take j) : Int)) e.length, k + (tLen (ts.take j) : Int) + (e.length : Int)) = markAt k ts (j + 1) := by
  have hj := (List.getElem?_eq_some_iff.1 h).1
  have hl : ((MarksT k ts).take j).length = j := by rw [List.length_take, MarksT.len]; omega
  rw [markAt, markAt, List.set_append_right _ _ (by omega), hl, Nat.sub_self, List.take_add_one, MarksT.get k ts j e c h, List.drop_eq_getElem_cons hj, List.set_cons_zero]
  simp

section
variable {lo hi : Nat} {w w' : World} {v : Value} {rs : List (Value × Int)} {ts : TermL}
end

end Go.Proofs.Ytfepepakellbbaa
