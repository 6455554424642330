/-
  append(s, make([]int, m)...): m zeros behind a slice of the call's own.
-/
import Derived.Test.YthgigbihpcelpaaDoorGives
namespace Go.Proofs.YthgigbihpcelpaaDoor
open Go.RowKit
set_option linter.unusedVariables false
set_option linter.unusedSimpArgs false

theorem zeroCells_int (m : Nat) : Builtin.zeroCells (#[Value.int .i64 0] : Array Value) m = (List.replicate m (Value.int .i64 0)).toArray := by
  apply Array.ext
  · simp [Builtin.zeroCells]
  · intro i h1 h2
    simp [Builtin.zeroCells, Nat.mod_one]

theorem run_append_zeros {B : Nat} {w : World} {v : Value} {l : List Int} (m : Nat) (ty : TypeId) (hown : OwnI B w v l) (hsm : l.length + m ≤ 1000) (hB : B ≤ w.heap.size) :
    ∃ v' w', (Builtin.append_ #[22, 3] ty #[v, .int .i64 (m : Int)]).run Tryd.prog w = .ok v' w' ∧ OwnI B w' v' (l ++ List.replicate m 0) ∧ w.grownBy w' v.ownBlock := by
  obtain ⟨i0, hi, hz0, hz1, hz2⟩ := info_parts Tryd.infoI
  have ht := Tryd.underlying22
  have hti := Tryd.underlying3
  have hw : IntKind.i64.wrap (m : Int) = (m : Int) := IntWalk.i64_in _ (by omega)
  have hneg : ¬ ((m : Int) < 0) := by omega
  have hbig : ¬ (281474976710656 < (m : Int) * 8) := by omega
  have hlen2 : (l ++ List.replicate m (0 : Int)).length ≤ 1099511627776 := by simp; omega
  have hmap : (l ++ List.replicate m (0 : Int)).map (Value.int .i64) = l.map (Value.int .i64) ++ List.replicate m (.int .i64 0) := by simp
  have hzv : ∀ W : World, (zeroValue 3).run Tryd.prog W = .ok (.int .i64 0) W := fun W => rfl
  have hcz : (Value.int .i64 0).cells = #[Value.int .i64 0] := rfl
  have hnews : (List.replicate m (Value.int .i64 0)).toArray = Builtin.zeroCells #[Value.int .i64 0] m := (zeroCells_int m).symm
  have grown : ∀ (old : Nat), old < l.length + m → ∀ (row : Option Nat),
      (w.drew.alloc (.cells ((l.map (Value.int .i64)).toArray ++ Builtin.zeroCells #[Value.int .i64 0] m ++ Builtin.zeroCells #[Value.int .i64 0] (grownCap w (l.length + m) old 3 - (l.length + m))) 3)).ownsRow B 3 1
        (.slice (some ⟨w.heap.size, 0, none⟩) (l.length + m) (grownCap w (l.length + m) old 3)) (l.length + m) (l.map (Value.int .i64) ++ List.replicate m (.int .i64 0)) ∧
      w.grownBy (w.drew.alloc (.cells ((l.map (Value.int .i64)).toArray ++ Builtin.zeroCells #[Value.int .i64 0] m ++ Builtin.zeroCells #[Value.int .i64 0] (grownCap w (l.length + m) old 3 - (l.length + m))) 3)) row := by
    intro old ho row
    have hge := grownCap_ge w (l.length + m) old 3
    have hcm : grownCap w (l.length + m) old 3 ≤ maxLen := grownCap_le_maxLen w (l.length + m) old 3 (by unfold maxLen; omega)
    refine ⟨⟨by simp, .inr ⟨w.heap.size, _, _, rfl, hB, heap_alloc_new w.drew _, hge, hcm, ?_, ?_⟩⟩, ⟨rfl, rfl, rfl, by simp, fun k hk _ => heap_alloc_old w.drew _ hk⟩⟩
    · simp only [Array.size_append, List.size_toArray, size_zeroCells, List.length_map]
      simp
      omega
    · rw [← hnews]
      simp only [Array.toList_append, List.append_assoc]
      rw [← List.append_assoc]
      have : (l.length + m) * 1 = (l.map (Value.int .i64) ++ List.replicate m (Value.int .i64 0)).length := by simp
      rw [this]
      exact List.take_left
  rcases hown.1.2 with ⟨rfl, h0⟩ | ⟨g, cap, cur, rfl, hbg, hg, hnc, hcm, hcs, htake⟩
  · have hl : l = [] := List.eq_nil_of_length_eq_zero h0
    subst hl
    by_cases hm : m = 0
    · subst hm
      refine ⟨.slice none 0 0, w, ?_, ⟨World.ownsRow_nil _ _ _ _, Nat.zero_le _⟩, ⟨rfl, rfl, rfl, Nat.le_refl _, fun _ _ _ => rfl⟩⟩
      simp [Builtin.append_, run_underlying ht, run_underlying hti, sizeOf, typeInfo, hi, hz1, hz2, asInt, asIntOf, show IntKind.i64.wrap 0 = 0 from rfl]
    · have hgr := grown 0 (by simp; omega) (Value.ownBlock (.slice none 0 0))
      simp only [List.length_nil, Nat.zero_add, List.map_nil, List.nil_append] at hgr
      refine ⟨.slice (some ⟨w.heap.size, 0, none⟩) m (grownCap w m 0 3), _, ?_, ⟨?_, hlen2⟩, hgr.2⟩
      · have h1 : ¬ ((m : Int) ≤ 0) := by omega
        have h2 : ¬ (9223372036854775807 < (m : Int)) := by omega
        have h3 : ¬ (281474976710656 < Builtin.nextslicecap m 0 * 8) := by rw [nextslicecap_zero (by omega)]; omega
        simp [Builtin.append_, run_underlying ht, run_underlying hti, sizeOf, typeInfo, hi, hz1, hz2, asInt, asIntOf, hw, hneg, hbig, hzv, hcz, hm, h1, h2, h3, Question.forced, run_firstCells_none, newRow, grownCap]
      · rw [hmap]
        simp only [List.map_nil, List.nil_append, List.length_append, List.length_nil, List.length_replicate, Nat.zero_add]
        exact hgr.1
  · have hh1 : ∀ u ∈ List.replicate m (Value.int .i64 0), u.oneCell' = true := fun u hu => by rw [List.eq_of_mem_replicate hu]; rfl
    by_cases hroom : l.length + m ≤ cap
    · have hfit : l.length + (List.replicate m (Value.int .i64 0)).length ≤ cur.size := by simp; omega
      have hst := run_storeCells_at Tryd.prog g l.length 3 (List.replicate m (Value.int .i64 0)) 0 cur w hg (by simpa using hfit) hh1
      simp only [Nat.add_zero] at hst
      refine ⟨.slice (some ⟨g, 0, none⟩) (l.length + m) cap, w.setRow g (cur.toList.take l.length ++ List.replicate m (Value.int .i64 0) ++ cur.toList.drop (l.length + (List.replicate m (Value.int .i64 0)).length)).toArray, ?_, ⟨⟨?_, .inr ⟨g, cap, _, ?_, hbg, setRow_heap w g cur _ 3 _ hg, ?_, hcm, ?_, ?_⟩⟩, hlen2⟩, ⟨rfl, rfl, rfl, by simp, fun k _ hk => setRow_other w g k _ (fun e => hk (by simp [Value.ownBlock, e]))⟩⟩
      · simp [Builtin.append_, run_underlying ht, run_underlying hti, sizeOf, typeInfo, hi, hz1, hz2, asInt, asIntOf, hw, hneg, hbig, hroom, hzv, hcz]
        rw [zeroCells_int, Addr.add_lit, Nat.zero_add]
        by_cases hm : m = 0
        · subst hm
          simp only [List.replicate_zero, if_true] at hst ⊢
          rw [hst]
          simp
        · rw [if_neg hm]
          simp [hst]
      · simp
      · simp
      · simpa using hroom
      · simp; omega
      · rw [hmap, ← htake]
        have e1 : (l ++ List.replicate m (0 : Int)).length * 1 = (List.take (l.length * 1) cur.toList ++ List.replicate m (Value.int .i64 0)).length := by
          simp
          omega
        rw [e1, Nat.mul_one]
        exact List.take_left
    · have holds : ∀ j u, (l.map (Value.int .i64))[j]? = some u → w.cell? ((⟨g, 0, none⟩ : Addr).add j) = some u := World.ownsRow.cells hown.1 (g := g) rfl
      have hgr := grown cap (by omega) (Value.ownBlock (.slice (some ⟨g, 0, none⟩) l.length cap))
      refine ⟨.slice (some ⟨w.heap.size, 0, none⟩) (l.length + m) (grownCap w (l.length + m) cap 3), _, ?_, ⟨?_, hlen2⟩, hgr.2⟩
      · have h2 : ¬ (9223372036854775807 < (l.length : Int) + (m : Int)) := by omega
        have h3 : ¬ (281474976710656 < Builtin.nextslicecap (l.length + m) cap * 8) := by have := growslice_fits (need := l.length + m) (old := cap) (bytes := 8) (by omega) (by omega); omega
        have hm : m ≠ 0 := by omega
        have hfo := run_firstCells_some (P := Tryd.prog) w.drew 1 l.length ⟨g, 0, none⟩ l.length cap (l.map (Value.int .i64)) (by simp) (by simpa using holds)
        simp [Builtin.append_, run_underlying ht, run_underlying hti, sizeOf, typeInfo, hi, hz1, hz2, asInt, asIntOf, hw, hneg, hbig, hroom, hzv, hcz, hm, h2, h3, Question.forced, hfo, newRow, grownCap]
      · rw [hmap]
        simp only [List.length_append, List.length_replicate]
        exact hgr.1

theorem wpList_addZeros {ops : Array Oper} {rest : List Oper} {o : Oper} {a : Act} {Q : Exit → Act → World → Prop} (w : World) (hgd : o.guard = none) (s x : Operand)
    (ho : o.op = .call { callee := .builtin .append, args := #[s, x], argTypes := #[22, 3] })
    {B : Nat} {v : Value} {l : List Int} {m : Nat} (hown : OwnI B w v l) (hs : a.eval s = v) (hx : a.eval x = .int .i64 (m : Int)) (hsm : l.length + m ≤ 1000) (hB : B ≤ w.heap.size)
    (h : ∀ v' w', OwnI B w' v' (l ++ List.replicate m 0) → Below B w w' → wpList Tryd.prog ops Q rest (a.put o.dst v') w') :
    wpList Tryd.prog ops Q (o :: rest) a w := by
  obtain ⟨v', w', hr, h2, h3⟩ := run_append_zeros m o.type hown hsm hB
  refine wpList_plain hgd fun _ hK => ?_
  unfold Oper.wp execOp
  simp only [ho, resolve, invoke, builtin, Sem.run_bind, Sem.run_pure, Result.andThen_ok, List.map_toArray, List.map_cons, List.map_nil, hs, hx, hr]
  exact hK _ _ (h v' w' h2 ((Below.refl _ _).grown h3 hB (fun k hk => (hown.block k hk).1)))

end Go.Proofs.YthgigbihpcelpaaDoor
