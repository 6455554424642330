/-
  What AddPolys, MulPolys, DividedDifference give. Plain Lean.
-/
import Derived.Test.YtoioiippdchgmaaSwapI
import Derived.Test.YtoioiippdchgmaaDivI
namespace Go.Proofs.Ytoioiippdchgmaa
set_option linter.unusedVariables false

noncomputable def addOk (f : TermL) (k : Int) (g : TermL) : Bool := polyB f && polyB g && decide (-1000 ≤ k ∧ k ≤ 1000)
def addT (f : TermL) (k : Int) (g : TermL) : TermL := f ++ g.map (fun p => (p.1, k * p.2))
noncomputable def addL (f : TermL) (k : Int) (g : TermL) : TermL := if addOk f k g = true then shutL (gathT (addT f k g)) else []
noncomputable def addB (f : TermL) (k : Int) (g : TermL) : Bool := addOk f k g && polyB (gathT (addT f k g))
theorem add_no {f g : TermL} {k : Int} (h : addOk f k g = false) : addL f k g = [] ∧ addB f k g = false := by
  unfold addL addB
  rw [h]; exact ⟨rfl, rfl⟩
theorem add_yes {f g : TermL} {k : Int} (h : addOk f k g = true) : addL f k g = shutL (gathT (addT f k g)) ∧ addB f k g = polyB (gathT (addT f k g)) := by
  unfold addL addB
  rw [h]; exact ⟨rfl, rfl⟩
noncomputable def mulOk (f g : TermL) : Bool := polyB f && polyB g
noncomputable def mulL (f g : TermL) : TermL := if mulOk f g = true then shutL (gathT (prodT f g)) else []
noncomputable def mulB (f g : TermL) : Bool := mulOk f g && polyB (gathT (prodT f g))
theorem mul_no {f g : TermL} (h : mulOk f g = false) : mulL f g = [] ∧ mulB f g = false := by
  unfold mulL mulB
  rw [h]; exact ⟨rfl, rfl⟩
theorem mul_yes {f g : TermL} (h : mulOk f g = true) : mulL f g = shutL (gathT (prodT f g)) ∧ mulB f g = polyB (gathT (prodT f g)) := by
  unfold mulL mulB
  rw [h]; exact ⟨rfl, rfl⟩
noncomputable def ddOk (f : TermL) (i : Int) : Bool := polyB f && varB i
noncomputable def ddL (f : TermL) (i : Int) : TermL := if ddOk f i = true then shutL (gathT (divT7 i.toNat f)) else []
noncomputable def ddB (f : TermL) (i : Int) : Bool := ddOk f i && polyB (gathT (divT7 i.toNat f))
theorem dd_no {f : TermL} {i : Int} (h : ddOk f i = false) : ddL f i = [] ∧ ddB f i = false := by
  unfold ddL ddB
  rw [h]; exact ⟨rfl, rfl⟩
theorem dd_yes {f : TermL} {k : Nat} (h : ddOk f (k : Int) = true) : ddL f (k : Int) = shutL (gathT (divT7 k f)) ∧ ddB f (k : Int) = polyB (gathT (divT7 k f)) := by
  unfold ddL ddB
  rw [h, Int.toNat_natCast]; exact ⟨rfl, rfl⟩
theorem varB_nat {i : Int} (h : varB i = true) : ∃ k : Nat, i = (k : Int) ∧ k ≤ 5 := by
  have := of_decide_eq_true (show decide (0 ≤ i ∧ i ≤ 5) = true from h)
  exact ⟨i.toNat, by omega, by omega⟩
theorem varB_in (i : Int) : inB i 0 5 = varB i := by
  unfold inB varB
  by_cases h1 : 0 ≤ i <;> by_cases h2 : i ≤ 5 <;> simp [h1, h2]
theorem polyB_sm {ts : TermL} (h : polyB ts = true) (e : List Int) (he : val ts e ≠ 0) : Sml e := fun x hx => by have := polyB_sml h e he x hx; omega

end Go.Proofs.Ytoioiippdchgmaa
