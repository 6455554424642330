/-
  The comparison of two terms that closed sorts by.
-/
import Derived.Test.YtoioiippdchgmaaKey
import Derived.Test.YtoioiippdchgmaaShelf
import Derived.Test.YtoioiippdchgmaaTerm
namespace Go.Proofs.Ytoioiippdchgmaa
open Go.RowKit Go.Lib Go.Sort Go.Shelf
set_option linter.unusedVariables false

set_option maxHeartbeats 800000 in
theorem closeT_c (u u' : Value) (l l' : List Int) (c c' : Int) (w : World) (hv : IntsV w u l) (hu : IntsV w u' l') (hl : l.length = 7) (hm : l'.length = 7) (hE : Exps l) (hF : Exps l') :
    Calls Try.prog 51 #[.agg #[u, .int .i64 c], .agg #[u', .int .i64 c']] w fun e w' => e = .returned (.int .i64 (byOf l l' 7)) ∧ ∃ q os', w' = grow (w.drewN q) os' := by
  obtain ⟨ao, n, cc, rfl⟩ := hv.shape
  obtain ⟨bo, n', cc', rfl⟩ := hu.shape
  have B1 := ((Below.refl w.heap.size w).alloc (Nat.le_refl _) (Obj.cells #[.slice ao n cc, .int .i64 c] 46)).alloc (by simp) (Obj.cells #[.slice bo n' cc', .int .i64 c'] 46)
  have hv2 := hv.kept B1
  have hu2 := hu.kept B1
  have hc := byTerms_q _ _ l l' _ hv2 hu2 hl hm hE hF
  generalize byOf l l' 7 = r at hc ⊢
  clear hv hu hv2 hu2 B1
  go_enter Try.func51, Try.ntmps51
  go_wp2_with (go_at_call 48; refine hc.mono ?_; rintro e w' ⟨rfl, q, rfl⟩)
  go_ret
  refine ⟨rfl, q, #[Obj.cells #[.slice ao n cc, .int .i64 c] 46, Obj.cells #[.slice bo n' cc', .int .i64 c'] 46], ?_⟩
  rw [alloc_eq_grow, alloc_eq_grow, grow_grow]
  rfl

end Go.Proofs.Ytoioiippdchgmaa
