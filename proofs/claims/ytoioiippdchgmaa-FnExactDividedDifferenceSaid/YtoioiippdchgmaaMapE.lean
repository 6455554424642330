/-
  Maps keyed by seven ints: the key's law, what such a map holds as a function, (poly).add.
-/
import Derived.Test.YtoioiippdchgmaaGives
import Derived.Maps.Own
import Derived.Maps.OwnOps
import Derived.Maps.OwnSet
import Derived.Maps.Ext
import Derived.Maps.RangeWalk
import Derived.WideKeyArr
import Derived.WideKeyEntry
import Derived.Deep.MidRow
import Derived.Deep.WholeRow
import Derived.Deep.RegionHeld3
namespace Go.Proofs.Ytoioiippdchgmaa
open Go.RowKit Go.Maps
set_option linter.unusedVariables false
set_option linter.unusedSimpArgs false

def E7 (e : List Int) : Prop := e.length = 7 ∧ ∀ x ∈ e, -9223372036854775808 ≤ x ∧ x ≤ 9223372036854775807
def arrC (e : List Int) : List Value := e.map (Value.int .i64)
def arrV (e : List Int) : Value := .agg (arrC e).toArray
def litE (e : List Int) : Lit := .string (keyBytes (e.map (Lit.int .i64)))
theorem arrV_inj {a b : List Int} (h : arrV a = arrV b) : a = b := by
  have h1 : (arrC a).toArray = (arrC b).toArray := by unfold arrV at h; exact Value.agg.inj h
  have h2 : arrC a = arrC b := by simpa using congrArg Array.toList h1
  unfold arrC at h2
  have hinj : Function.Injective (Value.int .i64) := fun x y h => by cases h; rfl
  exact (List.map_inj_right (fun x y h => hinj h)).1 h2

section
variable {P : Program} {k e : TypeId}
theorem keyOf_seven (A : WideMaps.ArrKey P k e 7) (he : P.underlying e = some (.int .i64)) (hsz : ∃ m, P.types.size = m + 1) {l : List Int} (hl : E7 l) : keyOf P k (arrV l) = some (litE l) := by
  obtain ⟨h7, hb⟩ := hl
  obtain ⟨a, b, c, d, x, y, z, rfl⟩ : ∃ a b c d x y z, l = [a, b, c, d, x, y, z] := by
    match l, h7 with
    | [a, b, c, d, x, y, z], _ => exact ⟨a, b, c, d, x, y, z, rfl⟩
  have hw : ∀ u ∈ [a, b, c, d, x, y, z], (Lit.int .i64 u).wf = true := fun u hu => WalkArith.wf_i64 (hb u hu)
  simp only [List.mem_cons, List.not_mem_nil, or_false, forall_eq_or_imp, forall_eq] at hw
  obtain ⟨w1, w2, w3, w4, w5, w6, w7⟩ := hw
  have hkt := A.keyType hsz
  obtain ⟨m, hm⟩ := hsz
  unfold keyOf arrV litE arrC
  simp only [A.hu]
  rw [if_pos (by simp [hkt, Value.formed, A.hu, A.size]), hm]
  unfold Program.keyLits
  simp only [A.hu, Value.cells]
  rw [if_pos (by rw [A.size]; rfl), show List.range 7 = [0, 1, 2, 3, 4, 5, 6] from rfl]
  simp [List.mapM_cons, List.mapM_nil, A.one, Program.keyLits, he, w1, w2, w3, w4, w5, w6, w7]

theorem keyLits_one (he : P.underlying e = some (.int .i64)) {m : Nat} {cs : List Value} {ls : List Lit} (h : P.keyLits m e cs = some ls) : ∃ u, cs = [.int .i64 u] ∧ (Lit.int .i64 u).wf = true := by
  cases m with
  | zero => simp [Program.keyLits] at h
  | succ m =>
    unfold Program.keyLits at h
    rw [he] at h
    match cs, h with
    | [], h => simp at h
    | [v], h =>
      cases v <;> simp at h
      obtain ⟨⟨rfl, hw⟩, _⟩ := h
      exact ⟨_, rfl, hw⟩
    | _ :: _ :: _, h => simp at h

theorem keyOf_seven_inv (A : WideMaps.ArrKey P k e 7) (he : P.underlying e = some (.int .i64)) {v : Value} {kl : Lit} (h : keyOf P k v = some kl) : ∃ l, E7 l ∧ v = arrV l := by
  unfold keyOf at h
  simp only [A.hu] at h
  split at h
  · rename_i hc
    obtain ⟨_, hf⟩ := Bool.and_eq_true_iff.1 hc
    cases v <;> simp [Value.formed, A.hu] at hf
    rename_i cs
    rw [A.size] at hf
    have hcs : cs.toList.length = 7 := by simpa using hf
    obtain ⟨v0, v1, v2, v3, v4, v5, v6, hv⟩ : ∃ v0 v1 v2 v3 v4 v5 v6, cs.toList = [v0, v1, v2, v3, v4, v5, v6] := by
      generalize cs.toList = l at hcs
      match l, hcs with
      | [a, b, c, d, x, y, z], _ => exact ⟨a, b, c, d, x, y, z, rfl⟩
    simp only [Option.map_eq_some_iff] at h
    obtain ⟨ls, h, _⟩ := h
    unfold Program.keyLits at h
    simp only [A.hu, Value.cells, hv] at h
    rw [if_pos (by rw [A.size]; rfl), show List.range 7 = [0, 1, 2, 3, 4, 5, 6] from rfl] at h
    simp only [List.mapM_cons, List.mapM_nil, A.one, Option.map_eq_some_iff, bind, Option.bind_eq_some_iff, pure] at h
    obtain ⟨L, ⟨l0, h0, _, ⟨l1, h1, _, ⟨l2, h2, _, ⟨l3, h3, _, ⟨l4, h4, _, ⟨l5, h5, _, ⟨l6, h6, _⟩, _⟩, _⟩, _⟩, _⟩, _⟩, _⟩, _⟩ := h
    obtain ⟨u0, e0, w0⟩ := keyLits_one he h0
    obtain ⟨u1, e1, w1⟩ := keyLits_one he h1
    obtain ⟨u2, e2, w2⟩ := keyLits_one he h2
    obtain ⟨u3, e3, w3⟩ := keyLits_one he h3
    obtain ⟨u4, e4, w4⟩ := keyLits_one he h4
    obtain ⟨u5, e5, w5⟩ := keyLits_one he h5
    obtain ⟨u6, e6, w6⟩ := keyLits_one he h6
    simp at e0 e1 e2 e3 e4 e5 e6
    subst e0 e1 e2 e3 e4 e5 e6
    refine ⟨[u0, u1, u2, u3, u4, u5, u6], ⟨rfl, ?_⟩, ?_⟩
    · have B : ∀ u, (Lit.int .i64 u).wf = true → -9223372036854775808 ≤ u ∧ u ≤ 9223372036854775807 := fun u hu => by
        simpa [Lit.wf, IntKind.min, IntKind.max, IntKind.signed, IntKind.bits] using hu
      intro x hx
      simp only [List.mem_cons, List.not_mem_nil, or_false] at hx
      rcases hx with rfl | rfl | rfl | rfl | rfl | rfl | rfl <;> exact B _ (by assumption)
    · show Value.agg cs = Value.agg _
      congr 1
      apply Array.toList_inj.1
      rw [hv]; rfl
  · cases h
end

theorem Try.arr7 : WideMaps.ArrKey Try.prog 59 3 7 := ⟨Try.underlying59, by kernel_rfl, by kernel_rfl, by kernel_rfl⟩
theorem Try.typesS : ∃ m, Try.prog.types.size = m + 1 := ⟨Try.prog.types.size - 1, by kernel_rfl⟩
theorem Try.lawE : WideMaps.KeyLaw Try.prog 59 := Try.arr7.law
theorem Try.keyE : Keyed Try.prog 59 := Keyed.of_law Try.lawE
theorem Try.keyE_mk {l : List Int} (hl : E7 l) : keyOf Try.prog 59 (arrV l) = some (litE l) := keyOf_seven Try.arr7 Try.underlying3 Try.typesS hl
theorem Try.keyE_inv {v : Value} {kl : Lit} (h : keyOf Try.prog 59 v = some kl) : ∃ l, E7 l ∧ v = arrV l := keyOf_seven_inv Try.arr7 Try.underlying3 h
theorem litE_inj {a b : List Int} (ha : E7 a) (hb : E7 b) (h : litE a = litE b) : a = b :=
  arrV_inj (Try.keyE.inj (Try.keyE_mk ha) (h ▸ Try.keyE_mk hb))
theorem Try.zeroE3 (w : World) : (zeroValue 3).run Try.prog w = .ok (.int .i64 0) w := by kernel_rfl

/-- Block b is a map of at most n entries that holds F e under the key e, where that is not nought. -/
abbrev OwnE (w : World) (b n : Nat) (D : DataW Unit) : Prop := w.ownsMap Try.prog 59 (plainElem Try.prog 3) b n D
structure HoldsF (D : DataW Unit) (F : List Int → Int) : Prop where
  isMap : IsMap D
  has : ∀ e, E7 e → Maps.has D (litE e) = decide (F e ≠ 0)
  at_ : ∀ e, E7 e → D.atKey (litE e) (.lit (.int .i64 0)) = .lit (.int .i64 (F e))
def addF (F : List Int → Int) (e : List Int) (c : Int) : List Int → Int := fun x => if x = e then F e + c else F x
theorem HoldsF.empty : HoldsF (.map []) (fun _ => 0) := ⟨isMap_empty, fun e _ => rfl, fun e _ => rfl⟩

section
variable {D : DataW Unit} {F : List Int → Int} {e : List Int} {c : Int}
theorem litE_ne {a b : List Int} (ha : E7 a) (hb : E7 b) (h : a ≠ b) : litE a ≠ litE b := fun h' => h (litE_inj ha hb h')
theorem litE_key (e : List Int) : WideAt.IsKeyLit (litE e) := trivial
theorem HoldsF.put (h : HoldsF D F) (he : E7 e) (hc : c ≠ 0) : HoldsF (D.put (litE e) (.lit (.int .i64 c))) (fun x => if x = e then c else F x) := by
  refine ⟨h.isMap.put _ _, fun x hx => ?_, fun x hx => ?_⟩
  · by_cases hxe : x = e
    · subst hxe; rw [has_put_same h.isMap (litE_key _), if_pos rfl, decide_eq_true hc]
    · rw [has_put_other (litE_ne hx he hxe), if_neg hxe]; exact h.has x hx
  · by_cases hxe : x = e
    · subst hxe; rw [atKey_put_same h.isMap (litE_key _), if_pos rfl]
    · rw [atKey_put_other (litE_ne hx he hxe), if_neg hxe]; exact h.at_ x hx
theorem HoldsF.putDel (h : HoldsF D F) (he : E7 e) (d : DataW Unit) : HoldsF ((D.put (litE e) d).del (litE e)) (fun x => if x = e then 0 else F x) := by
  refine ⟨(h.isMap.put _ _).del _, fun x hx => ?_, fun x hx => ?_⟩
  · by_cases hxe : x = e
    · subst hxe; rw [has_del_same, if_pos rfl]; rfl
    · rw [has_del_other (litE_ne hx he hxe), has_put_other (litE_ne hx he hxe), if_neg hxe]; exact h.has x hx
  · by_cases hxe : x = e
    · subst hxe; rw [atKey_del_same, if_pos rfl]
    · rw [atKey_del_other (litE_ne hx he hxe), atKey_put_other (litE_ne hx he hxe), if_neg hxe]; exact h.at_ x hx
end

/-- 'f[e] += c': the entry is made ready, then the store: behind both the map is as behind 'f[e] = v'. -/
theorem entry_store {H : Type} {P : Program} {t k e : TypeId} {R : Value → Option (DataW H × List MemPlace)} {w : World} {b n : Nat} {D : DataW H} (h : w.ownsMap P k R b n D) (K : WideMaps.KeyLaw P k) (ht : P.underlying t = some (.map k e)) (hn : n < maxLen)
    {z : Value} (hz : ∀ u : World, (zeroValue e).run P u = .ok z u) {key : Value} {kl : Lit} (hkey : keyOf P k key = some kl) :
    ∃ (v0 : Value) (st : Nat) (o1 : Obj), (∀ w2 : World, w2.heap[b]? = w.heap[b]? → (Instr.mapEntry t (.map (some b)) key).run P w2 = .ok (.tuple #[v0, goInt st]) (ChangeMaps.setBlock w2 b o1)) ∧
      (∀ w2 : World, w2.heap[b]? = w.heap[b]? → (Instr.lookup t (.map (some b)) key false).run P w2 = .ok v0 w2) ∧
      (∀ w2 : World, w2.heap[b]? = some o1 → (Instr.lookup t (.map (some b)) key false).run P w2 = .ok v0 w2) ∧
      ∀ (w2 : World) (val : Value) (d : DataW H) (ps : List MemPlace), R val = some (d, ps) → w2.heap[b]? = some o1 →
        ∃ w', (Instr.entryStore t (.map (some b)) (goInt st) val).run P w2 = .ok () w' ∧ w'.ownsMap P k R b (n + 1) (D.put kl d) ∧ w2.grownBy w' (some b) := by
  have hown := h
  obtain ⟨es, clock, hb, F, hs, rfl⟩ := h
  rw [hb]
  have fin : ∀ (es' : Array MapEntry) (clock' : Nat) (w2 : World) (val : Value) (d : DataW H) (ps : List MemPlace), R val = some (d, ps) → (∃ ea ca, w2.heap[b]? = some (.map ea ca)) →
      (Instr.mapUpdate t (.map (some b)) key val).run P w = .ok () (ChangeMaps.setBlock w b (.map es' clock')) →
      (ChangeMaps.setBlock w2 b (.map es' clock')).ownsMap P k R b (n + 1) ((DataW.map ((es.toList.map (WideElems.rg P k R)).foldr DataW.insert [])).put kl d) ∧ w2.grownBy (ChangeMaps.setBlock w2 b (.map es' clock')) (some b) := by
    intro es' clock' w2 val d ps hv ⟨ea, ca, ho⟩ hrun
    obtain ⟨w', hrun', r1, _⟩ := hown.update (Keyed.of_law K) ht hn hkey hv
    rw [hrun] at hrun'
    cases hrun'
    obtain ⟨es2, clock2, hb2, F2, hs2, hD2⟩ := r1
    rw [ChangeMaps.heap_setBlock_same hb _] at hb2
    cases hb2
    exact ⟨⟨es', clock', ChangeMaps.heap_setBlock_same ho _, F2, hs2, hD2⟩, rfl, rfl, rfl, by simp [ChangeMaps.setBlock], fun i _ hi => ChangeMaps.heap_setBlock_other ho _ (fun e => hi (by rw [e]))⟩
  obtain ⟨s1, s2, _⟩ := F.stamped
  rcases K.find w hkey es.toList F.keys with ⟨h1, h2⟩ | ⟨j, e0, h1, h2, h3⟩
  · have hfk : ∀ w2 : World, (Instr.findKey k key es.toList).run P w2 = .ok none w2 := fun w2 => by
      rcases K.find w2 hkey es.toList F.keys with ⟨g1, _⟩ | ⟨j, e0, g1, g2, g3⟩
      · exact g1
      · exact absurd g3 (h2 _ (List.mem_of_getElem? g2))
    refine ⟨z, clock, .map (es.push ⟨key, z, clock⟩) (clock + 1), fun w2 hw2 => ?_, fun w2 hw2 => ?_, fun w2 hw2 => ?_, fun w2 val d ps hv hw2 => ?_⟩
    · simp [Instr.mapEntry, run_underlying ht, MapKept.run_getObj_map hw2, K.check w2 false hkey, hfk w2, hz, MapKept.run_setObj_map _ hw2, Result.andThen, ChangeMaps.setBlock]
    · simp [Instr.lookup, run_underlying ht, MapKept.run_getObj_map hw2, K.check w2 _ hkey, hfk w2, hz, Result.andThen]
    · have hks : ∀ x ∈ (es.push ⟨key, z, clock⟩).toList, ∃ l, keyOf P k x.key = some l := by
        intro x hx
        simp only [Array.toList_push, List.mem_append, List.mem_singleton] at hx
        rcases hx with hx | rfl
        · exact F.keys x hx
        · exact ⟨kl, hkey⟩
      rcases K.find w2 hkey _ hks with ⟨g1, g2⟩ | ⟨j, e0, g1, g2, g3⟩
      · exact absurd rfl (g2 ⟨key, z, clock⟩ (by simp))
      · have hz0 : e0.val = z := by
          have hm := List.mem_of_getElem? g2
          simp only [Array.toList_push, List.mem_append, List.mem_singleton] at hm
          rcases hm with hm | rfl
          · exact absurd g3 (h2 _ hm)
          · rfl
        rw [hz0] at g1
        simp only [Array.toList_push] at g1
        simp [Instr.lookup, run_underlying ht, MapKept.run_getObj_map hw2, K.check w2 _ hkey, g1, Result.andThen]
    · have hidx : (es.push ⟨key, z, clock⟩).findIdx? (fun e => ((e.born : Nat) : Int) == ((clock : Nat) : Int)) = some es.size := by
        rw [WideElems.findIdx_arr]
        have := WideElems.findIdx_born (l := (es.push ⟨key, z, clock⟩).toList) (j := es.size) (e0 := ⟨key, z, clock⟩) (by
          simp only [Array.toList_push, List.map_append, List.map_cons, List.map_nil]
          refine List.nodup_append.2 ⟨s2, by simp, fun a ha c hc e1 => ?_⟩
          simp only [List.mem_singleton] at hc
          obtain ⟨x, hx, rfl⟩ := List.mem_map.1 ha
          have := s1 x hx
          omega) (by simp)
        exact this
      have hmod : (es.push ⟨key, z, clock⟩).modify es.size (fun e => { e with val := val }) = es.push ⟨key, val, clock⟩ := by
        apply Array.ext'
        rw [Array.toList_modify, Array.toList_push, Array.toList_push, ← Array.length_toList, WideElems.modify_last]
      refine ⟨ChangeMaps.setBlock w2 b (.map (es.push ⟨key, val, clock⟩) (clock + 1)), ?_, fin _ _ w2 val d ps hv ⟨_, _, hw2⟩ ?_⟩
      · simp [Instr.entryStore, MapKept.run_getObj_map hw2, asInt, asIntOf, goInt, hidx, hmod, MapKept.run_setObj_map _ hw2, Result.andThen, ChangeMaps.setBlock]
      · simp [Instr.mapUpdate, run_underlying ht, MapKept.run_getObj_map hb, K.check w false hkey, h1, MapKept.run_setObj_map _ hb, Result.andThen, ChangeMaps.setBlock]
  · have hj : es[j]? = some e0 := by simpa using h2
    have hfk : ∀ w2 : World, (Instr.findKey k key es.toList).run P w2 = .ok (some (j, e0.val)) w2 := fun w2 => by
      rcases K.find w2 hkey es.toList F.keys with ⟨_, g2⟩ | ⟨j', e', g1, g2, g3⟩
      · exact absurd h3 (g2 _ (List.mem_of_getElem? h2))
      · by_cases hjj : j' = j
        · subst hjj
          rw [h2] at g2
          cases g2
          exact g1
        · exact absurd (g3.trans h3.symm) (fun e1 => WideElems.other_key F h2 g2 hjj (by rw [e1]))
    have hsame : es.modify j (fun e => { e with key := key }) = es := by
      apply Array.ext'
      rw [Array.toList_modify, ChangeMaps.modify_eq_set _ _ _ _ h2]
      have : ({ e0 with key := key } : MapEntry) = e0 := by rw [← h3]
      rw [this]
      exact WideElems.set_self _ _ _ h2
    refine ⟨e0.val, e0.born, .map es clock, fun w2 hw2 => ?_, fun w2 hw2 => ?_, fun w2 hw2 => ?_, fun w2 val d ps hv hw2 => ?_⟩
    · simp [Instr.mapEntry, run_underlying ht, MapKept.run_getObj_map hw2, K.check w2 false hkey, hfk w2, hj, h3, K.stays w2 hkey, hsame, MapKept.run_setObj_map _ hw2, Result.andThen, ChangeMaps.setBlock]
    · simp [Instr.lookup, run_underlying ht, MapKept.run_getObj_map hw2, K.check w2 _ hkey, hfk w2, Result.andThen]
    · simp [Instr.lookup, run_underlying ht, MapKept.run_getObj_map hw2, K.check w2 _ hkey, hfk w2, Result.andThen]
    · have hidx : es.findIdx? (fun e => ((e.born : Nat) : Int) == ((e0.born : Nat) : Int)) = some j := by
        rw [WideElems.findIdx_arr]
        exact WideElems.findIdx_born s2 h2
      have hmod : es.modify j (fun e => { e with val := val }) = es.modify j (fun e' => { e' with key := key, val := val }) := by
        apply Array.ext'
        rw [Array.toList_modify, Array.toList_modify, ChangeMaps.modify_eq_set _ _ _ _ h2, ChangeMaps.modify_eq_set _ _ _ _ h2, ← h3]
      refine ⟨ChangeMaps.setBlock w2 b (.map (es.modify j (fun e' => { e' with key := key, val := val })) clock), ?_, fin _ _ w2 val d ps hv ⟨_, _, hw2⟩ ?_⟩
      · simp [Instr.entryStore, MapKept.run_getObj_map hw2, asInt, asIntOf, goInt, hidx, hmod, MapKept.run_setObj_map _ hw2, Result.andThen, ChangeMaps.setBlock]
      · simp [Instr.mapUpdate, run_underlying ht, MapKept.run_getObj_map hb, K.check w false hkey, h1, hj, h3, K.stays w hkey, MapKept.run_setObj_map _ hb, Result.andThen, ChangeMaps.setBlock]

section
variable {P : Program} {o : Oper} {a : Act} {w w' : World} {K : Act → World → Prop} {Q : Exit → Act → World → Prop}
theorem wp_lookup_run {t : TypeId} {m x : Operand} (ho : o.op = Op.lookup t m x false) {M X v : Value} (hm : a.eval m = M) (hx : a.eval x = X) (h : (Instr.lookup t M X false).run P w = .ok v w) (hK : K (a.put o.dst v) w) : o.wp P a w K Q := by
  unfold Oper.wp; simp [execOp, ho, hm, hx, h, Result.andThen]; exact hK
theorem wp_mapEntry_run {t : TypeId} {m x : Operand} (ho : o.op = Op.mapEntry t m x) {M X v : Value} (hm : a.eval m = M) (hx : a.eval x = X) (h : (Instr.mapEntry t M X).run P w = .ok v w') (hK : K (a.put o.dst v) w') : o.wp P a w K Q := by
  unfold Oper.wp; simp [execOp, ho, hm, hx, h, Result.andThen]; exact hK
theorem wp_entryStore_run {t : TypeId} {m x y : Operand} (ho : o.op = Op.entryStore t m x y) {M X Y : Value} (hm : a.eval m = M) (hx : a.eval x = X) (hy : a.eval y = Y) (h : (Instr.entryStore t M X Y).run P w = .ok () w') (hK : K (a.put o.dst undef) w') : o.wp P a w K Q := by
  unfold Oper.wp; simp [execOp, ho, hm, hx, hy, h, Result.andThen]; exact hK
end
theorem wpList_lookup_run {P : Program} (w : World) {ops : Array Oper} {rest : List Oper} {o : Oper} {a : Act} {Q : Exit → Act → World → Prop} (hg : o.guard = none) (t : TypeId) (m x : Operand) (ho : o.op = Op.lookup t m x false) {M X v : Value} (hm : a.eval m = M) (hx : a.eval x = X)
    (h : (Instr.lookup t M X false).run P w = .ok v w) (hK : wpList P ops Q rest (a.put o.dst v) w) : wpList P ops Q (o :: rest) a w :=
  wpList_plain hg fun K' hK' => wp_lookup_run ho hm hx h (hK' _ _ hK)
theorem rangeAt_heap {w w' : World} {g o : Nat} {cs : List Value} (h : w.rangeAt g o cs) (e : w'.heap[g]? = w.heap[g]?) : w'.rangeAt g o cs := fun j v hv => by
  have := h j v hv
  simp only [World.cell?] at this ⊢
  rw [e]; exact this

set_option maxHeartbeats 1600000 in
/-- (poly).add. -/
theorem add_c (b n : Nat) (D : DataW Unit) (F : List Int → Int) (e : List Int) (c : Int) (w : World) (hown : OwnE w b n D) (hF : HoldsF D F) (he : E7 e)
    (hn : n < 1099511627776) (hc : -9223372036854775808 ≤ F e + c ∧ F e + c ≤ 9223372036854775807) :
    Calls Try.prog 39 #[.map (some b), arrV e, .int .i64 c] w fun e' w' => e' = .returned (.tuple #[]) ∧ (∃ D', OwnE w' b (n + 1) D' ∧ HoldsF D' (addF F e c)) ∧ w.grownBy w' (some b) := by
  obtain ⟨v0, st, o1, hE, hL0, hL1, hS⟩ := entry_store hown Try.lawE (t := 50) Try.underlying50 (by unfold maxLen; omega) Try.zeroE3 (Try.keyE_mk he)
  have hbl := hown.lt
  obtain ⟨c0, hrun0, hat0, _⟩ := hown.lookup_int Try.keyE (t := 50) Try.underlying50 Try.underlying3 (Try.zeroE3 _) (Try.keyE_mk he)
  have hc0 : c0 = F e := by have := hF.at_ e he; rw [hat0] at this; cases this; rfl
  subst hc0
  have hv0 : v0 = .int .i64 (F e) := by have := hL0 w rfl; rw [hrun0] at this; cases this; rfl
  subst hv0
  have HWR := Lib.hid (show IntKind.i64.wrap (F e + c) = F e + c from IntWalk.i64_in _ hc)
  have HE := Lib.hid hE
  have HL0 := Lib.hid hL0
  have HL1 := Lib.hid hL1
  have HS := Lib.hid hS
  clear hE hL0 hL1 hS hrun0 hat0
  go_enter Try.func39, Try.ntmps39
  go_wp2_with fail
  rename_i cs heq
  obtain rfl := Value.agg.inj heq
  clear heq
  have hinfo : (Try.prog.info? 59).map (·.size) = some (arrC e).length := by rw [show (arrC e).length = 7 by rw [arrC, List.length_map]; exact he.1]; kernel_rfl
  have hrange : (w.alloc (.cells (arrC e).toArray 59)).rangeAt w.heap.size 0 (arrC e) := by
    have := World.rangeAt_of_block (heap_alloc_last w (.cells (arrC e).toArray 59)) 0 (arrC e).length
    simpa using this
  refine wp_region_noPanic ?_
  refine wp_region_held_drew (S := (fun w' => w'.rangeAt w.heap.size 0 (arrC e))) (by kernel_rfl) (by simpa using hrange) (fun hHeld => ?_)
  refine wpAnyH_take (i := 0) (v := ?_) rfl (by kernel_rfl) (by kernel_rfl) (by kernel_rfl) (fun _ _ _ h => h) (Or.inl ⟨by rfl, ?_⟩) hHeld ?_
  rotate_left
  · (intro w hSw; clear hSw; go_simp; try with_reducible rfl)
  try simp only [Act.put, List.getElem_toArray, List.getElem_cons_succ, List.getElem_cons_zero, List.setIfInBounds_toArray, List.set_cons_zero, List.set_cons_succ]
  refine wpAnyH_take (i := 1) (v := .agg (arrC e).toArray) rfl (by kernel_rfl) (by kernel_rfl) (by kernel_rfl) (fun _ _ _ h => h) (yieldsIf_load_mid (by rfl) _ _ rfl w.heap.size 0 rfl (arrC e) _ (fun _ h => h) Try.underlying59 rfl hinfo) hHeld ?_
  try simp only [Act.put, List.getElem_toArray, List.getElem_cons_succ, List.getElem_cons_zero, List.setIfInBounds_toArray, List.set_cons_zero, List.set_cons_succ]
  refine wpAnyH_take (i := 3) (v := ?_) rfl (by kernel_rfl) (by kernel_rfl) (by kernel_rfl) (fun _ _ _ h => h) (Or.inl ⟨by rfl, ?_⟩) hHeld ?_
  rotate_left
  · (intro w hSw; clear hSw; go_simp; try with_reducible rfl)
  try simp only [Act.put, List.getElem_toArray, List.getElem_cons_succ, List.getElem_cons_zero, List.setIfInBounds_toArray, List.set_cons_zero, List.set_cons_succ]
  have hgb : w.heap.size ≠ b := by omega
  have hb0 : (w.alloc (.cells (arrC e).toArray 59)).drew.heap[b]? = w.heap[b]? := (MapKept.heap_alloc w _).2 b hbl
  have hgrow0 : w.grownBy (w.alloc (.cells (arrC e).toArray 59)).drew (some b) := ⟨rfl, rfl, rfl, by show w.heap.size ≤ (w.heap.push _).size; simp, fun i hi _ => (MapKept.heap_alloc w _).2 i hi⟩
  have hgW : w.heap.size < (w.alloc (.cells (arrC e).toArray 59)).drew.heap.size := by show w.heap.size < (w.heap.push _).size; simp
  have HB0 := Lib.hid hb0
  clear hb0
  generalize hW : (w.alloc (.cells (arrC e).toArray 59)).drew = W at hHeld HB0 hgrow0 hgW ⊢
  clear hW
  have hbW : b < W.heap.size := by omega
  refine wpAnyH_ready (rs := [2, 5]) (by kernel_rfl) (by simp) ?_
  refine AllReadyH.cons rfl (fun K hK => ?_) (AllReadyH.cons rfl (fun K hK => ?_) AllReadyH.nil)
  · rw [if_pos (by rfl)]
    refine wp_lookup_run rfl rfl rfl (HL0.out W HB0.out) ?_
    refine hK.out _ _ hHeld (fun _ => ?_)
    clear hK K
    try simp only [Act.put, List.getElem_toArray, List.getElem_cons_succ, List.getElem_cons_zero, List.setIfInBounds_toArray, List.set_cons_zero, List.set_cons_succ]
    refine wpAnyH_take (i := 4) (v := .int .i64 (F e + c)) rfl (by kernel_rfl) (by kernel_rfl) (by kernel_rfl) (fun _ _ _ h => h) (Or.inl ⟨by rfl, ?_⟩) hHeld ?_
    · (intro w hSw; clear hSw; have hwr := HWR.out; go_simp; try with_reducible rfl)
    try simp only [Act.put, List.getElem_toArray, List.getElem_cons_succ, List.getElem_cons_zero, List.setIfInBounds_toArray, List.set_cons_zero, List.set_cons_succ]
    refine wpAnyH_ready (rs := [5]) (by kernel_rfl) (by simp) ?_
    refine AllReadyH.cons rfl (fun K hK => ?_) AllReadyH.nil
    rw [if_pos (by rfl)]
    refine wp_mapEntry_run rfl rfl rfl (HE.out W HB0.out) ?_
    have hW1 : (ChangeMaps.setBlock W b o1).rangeAt w.heap.size 0 (arrC e) := rangeAt_heap hHeld (by simp [ChangeMaps.setBlock, Array.getElem?_setIfInBounds, Ne.symm hgb])
    refine hK.out _ _ hW1 (fun _ => ?_)
    clear hK K
    try simp only [Act.put, List.getElem_toArray, List.getElem_cons_succ, List.getElem_cons_zero, List.setIfInBounds_toArray, List.set_cons_zero, List.set_cons_succ]
    refine wpAnyH_take (i := 6) (v := .int .i64 st) rfl (by kernel_rfl) (by kernel_rfl) (by kernel_rfl) (fun _ _ _ h => h) (Or.inl ⟨by rfl, ?_⟩) hW1 ?_
    · (intro w hSw; clear hSw; go_simp; try with_reducible rfl)
    try simp only [Act.put, List.getElem_toArray, List.getElem_cons_succ, List.getElem_cons_zero, List.setIfInBounds_toArray, List.set_cons_zero, List.set_cons_succ]
    obtain ⟨W2, hrunS, hown2, hgrow2⟩ := HS.out (ChangeMaps.setBlock W b o1) (.int .i64 (F e + c)) _ _ (plainElem_int Try.underlying3 (WalkArith.wf_i64 hc)) (by simp [ChangeMaps.setBlock, Array.getElem?_setIfInBounds, hbW])
    refine wpAnyH_ready (rs := [7]) (by kernel_rfl) (by simp) ?_
    refine AllReadyH.cons rfl (fun K hK => ?_) AllReadyH.nil
    rw [if_pos (by rfl)]
    refine wp_entryStore_run rfl rfl rfl rfl hrunS ?_
    have hW2 : W2.rangeAt w.heap.size 0 (arrC e) := rangeAt_heap hW1 (hgrow2.block _ (by simp [ChangeMaps.setBlock]; omega) (by simp [hgb]))
    refine hK.out _ _ hW2 (fun _ => ?_)
    clear hK K
    try simp only [Act.put, List.getElem_toArray, List.getElem_cons_succ, List.getElem_cons_zero, List.setIfInBounds_toArray, List.set_cons_zero, List.set_cons_succ]
    refine wpAnyH_done (by kernel_rfl) ?_ _
    refine NoPanic.normal ?_
    have hg2 : w.grownBy W2 (some b) := by
      refine ⟨hgrow2.os.trans hgrow0.os, hgrow2.tape.trans hgrow0.tape, hgrow2.output.trans hgrow0.output, ?_, fun i hi hne => ?_⟩
      · have h1 := hgrow2.size
        simp only [ChangeMaps.setBlock, Array.size_setIfInBounds] at h1
        omega
      · have h1 := hgrow2.block i (by simp [ChangeMaps.setBlock]; omega) hne
        have h2 := hgrow0.block i hi hne
        rw [h1, ← h2]
        have hib : b ≠ i := fun e1 => hne (by rw [e1])
        simp [ChangeMaps.setBlock, Array.getElem?_setIfInBounds, hib]
    obtain ⟨c1, hrun1, hat1, _⟩ := hown2.lookup_int Try.keyE (t := 50) Try.underlying50 Try.underlying3 (Try.zeroE3 _) (Try.keyE_mk he)
    obtain rfl : c1 = F e + c := by rw [atKey_put_same hown.isMap (litE_key _)] at hat1; cases hat1; rfl
    have HRUN := Lib.hid hrun1
    clear hrun1 hat1 hrunS hHeld hW1
    have HADD := Lib.hid (show addF F e c = fun x => if x = e then F e + c else F x from rfl)
    clear hc
    generalize F e + c = s at *
    by_cases hz : s = 0
    · subst hz
      go_wp2_with (first | (refine wpList_load_mid rfl 59 _ rfl w.heap.size 0 rfl (arrC e) _ hW2 Try.underlying59 rfl hinfo ?_) | (at_lookup; refine wpList_lookup_run _ rfl _ _ _ rfl rfl rfl HRUN.out ?_) | (at_delete; refine wpList_delete_own _ rfl _ _ 50 59 rfl 3 Try.keyE Try.underlying50 _ b (n + 1) _ rfl hown2 _ _ rfl (Try.keyE_mk he) ?_; intro W3 hown3 hturn3))
      go_end0
      refine ⟨rfl, ⟨_, hown3, ?_⟩, World.grownBy.andThen hg2 hturn3.grown (fun j hj => .inr hj)⟩
      rw [HADD.out]
      exact hF.putDel he _
    · have hzd : (s == 0) = false := by simp [hz]
      go_wp2_with (first | (refine wpList_load_mid rfl 59 _ rfl w.heap.size 0 rfl (arrC e) _ hW2 Try.underlying59 rfl hinfo ?_) | (at_lookup; refine wpList_lookup_run _ rfl _ _ _ rfl rfl rfl HRUN.out ?_))
      go_end0
      refine ⟨rfl, ⟨_, hown2, ?_⟩, hg2⟩
      rw [HADD.out]
      exact hF.put he hz
  · rw [if_pos (by rfl)]
    refine wp_mapEntry_run rfl rfl rfl (HE.out W HB0.out) ?_
    have hW1 : (ChangeMaps.setBlock W b o1).rangeAt w.heap.size 0 (arrC e) := rangeAt_heap hHeld (by simp [ChangeMaps.setBlock, Array.getElem?_setIfInBounds, Ne.symm hgb])
    refine hK.out _ _ hW1 (fun _ => ?_)
    clear hK K
    try simp only [Act.put, List.getElem_toArray, List.getElem_cons_succ, List.getElem_cons_zero, List.setIfInBounds_toArray, List.set_cons_zero, List.set_cons_succ]
    refine wpAnyH_take (i := 6) (v := .int .i64 st) rfl (by kernel_rfl) (by kernel_rfl) (by kernel_rfl) (fun _ _ _ h => h) (Or.inl ⟨by rfl, ?_⟩) hW1 ?_
    · (intro w hSw; clear hSw; go_simp; try with_reducible rfl)
    try simp only [Act.put, List.getElem_toArray, List.getElem_cons_succ, List.getElem_cons_zero, List.setIfInBounds_toArray, List.set_cons_zero, List.set_cons_succ]
    refine wpAnyH_ready (rs := [2]) (by kernel_rfl) (by simp) ?_
    refine AllReadyH.cons rfl (fun K hK => ?_) AllReadyH.nil
    rw [if_pos (by rfl)]
    refine wp_lookup_run rfl rfl rfl (HL1.out _ (by simp [ChangeMaps.setBlock, Array.getElem?_setIfInBounds, hbW])) ?_
    refine hK.out _ _ hW1 (fun _ => ?_)
    clear hK K
    try simp only [Act.put, List.getElem_toArray, List.getElem_cons_succ, List.getElem_cons_zero, List.setIfInBounds_toArray, List.set_cons_zero, List.set_cons_succ]
    refine wpAnyH_take (i := 4) (v := .int .i64 (F e + c)) rfl (by kernel_rfl) (by kernel_rfl) (by kernel_rfl) (fun _ _ _ h => h) (Or.inl ⟨by rfl, ?_⟩) hW1 ?_
    · (intro w hSw; clear hSw; have hwr := HWR.out; go_simp; try with_reducible rfl)
    try simp only [Act.put, List.getElem_toArray, List.getElem_cons_succ, List.getElem_cons_zero, List.setIfInBounds_toArray, List.set_cons_zero, List.set_cons_succ]
    obtain ⟨W2, hrunS, hown2, hgrow2⟩ := HS.out (ChangeMaps.setBlock W b o1) (.int .i64 (F e + c)) _ _ (plainElem_int Try.underlying3 (WalkArith.wf_i64 hc)) (by simp [ChangeMaps.setBlock, Array.getElem?_setIfInBounds, hbW])
    refine wpAnyH_ready (rs := [7]) (by kernel_rfl) (by simp) ?_
    refine AllReadyH.cons rfl (fun K hK => ?_) AllReadyH.nil
    rw [if_pos (by rfl)]
    refine wp_entryStore_run rfl rfl rfl rfl hrunS ?_
    have hW2 : W2.rangeAt w.heap.size 0 (arrC e) := rangeAt_heap hW1 (hgrow2.block _ (by simp [ChangeMaps.setBlock]; omega) (by simp [hgb]))
    refine hK.out _ _ hW2 (fun _ => ?_)
    clear hK K
    try simp only [Act.put, List.getElem_toArray, List.getElem_cons_succ, List.getElem_cons_zero, List.setIfInBounds_toArray, List.set_cons_zero, List.set_cons_succ]
    refine wpAnyH_done (by kernel_rfl) ?_ _
    refine NoPanic.normal ?_
    have hg2 : w.grownBy W2 (some b) := by
      refine ⟨hgrow2.os.trans hgrow0.os, hgrow2.tape.trans hgrow0.tape, hgrow2.output.trans hgrow0.output, ?_, fun i hi hne => ?_⟩
      · have h1 := hgrow2.size
        simp only [ChangeMaps.setBlock, Array.size_setIfInBounds] at h1
        omega
      · have h1 := hgrow2.block i (by simp [ChangeMaps.setBlock]; omega) hne
        have h2 := hgrow0.block i hi hne
        rw [h1, ← h2]
        have hib : b ≠ i := fun e1 => hne (by rw [e1])
        simp [ChangeMaps.setBlock, Array.getElem?_setIfInBounds, hib]
    obtain ⟨c1, hrun1, hat1, _⟩ := hown2.lookup_int Try.keyE (t := 50) Try.underlying50 Try.underlying3 (Try.zeroE3 _) (Try.keyE_mk he)
    obtain rfl : c1 = F e + c := by rw [atKey_put_same hown.isMap (litE_key _)] at hat1; cases hat1; rfl
    have HRUN := Lib.hid hrun1
    clear hrun1 hat1 hrunS hHeld hW1
    have HADD := Lib.hid (show addF F e c = fun x => if x = e then F e + c else F x from rfl)
    clear hc
    generalize F e + c = s at *
    by_cases hz : s = 0
    · subst hz
      go_wp2_with (first | (refine wpList_load_mid rfl 59 _ rfl w.heap.size 0 rfl (arrC e) _ hW2 Try.underlying59 rfl hinfo ?_) | (at_lookup; refine wpList_lookup_run _ rfl _ _ _ rfl rfl rfl HRUN.out ?_) | (at_delete; refine wpList_delete_own _ rfl _ _ 50 59 rfl 3 Try.keyE Try.underlying50 _ b (n + 1) _ rfl hown2 _ _ rfl (Try.keyE_mk he) ?_; intro W3 hown3 hturn3))
      go_end0
      refine ⟨rfl, ⟨_, hown3, ?_⟩, World.grownBy.andThen hg2 hturn3.grown (fun j hj => .inr hj)⟩
      rw [HADD.out]
      exact hF.putDel he _
    · have hzd : (s == 0) = false := by simp [hz]
      go_wp2_with (first | (refine wpList_load_mid rfl 59 _ rfl w.heap.size 0 rfl (arrC e) _ hW2 Try.underlying59 rfl hinfo ?_) | (at_lookup; refine wpList_lookup_run _ rfl _ _ _ rfl rfl rfl HRUN.out ?_))
      go_end0
      refine ⟨rfl, ⟨_, hown2, ?_⟩, hg2⟩
      rw [HADD.out]
      exact hF.put he hz

end Go.Proofs.Ytoioiippdchgmaa
