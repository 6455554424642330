/-
  Arguments that are rows of terms, and the copies that the law makes of them.
-/
import Derived.Test.YtoioiippdchgmaaToT
import Derived.Test.YtoioiippdchgmaaConst
namespace Go.Proofs.Ytoioiippdchgmaa
open Go.RowKit
set_option linter.unusedVariables false

/-- The slice value v reads as the row of terms ts, wherever its parts lie. -/
def TermsA (w : World) (v : Value) (ts : TermL) : Prop :=
  ∃ (n : Nat) (ao : Option Addr) (b off c : Nat), v = .slice ao n c ∧ n = ts.length ∧ n ≤ c ∧ c ≤ maxLen ∧
    (0 < n → ao = some ⟨b, off, none⟩) ∧ (∀ j e k, ts[j]? = some (e, k) → ∃ u, w.cell? ⟨b, off + j * 2, none⟩ = some u ∧ w.cell? ⟨b, off + j * 2 + 1, none⟩ = some (.int .i64 k) ∧ IntsV w u e) ∧ tLen ts ≤ 1099511627776
theorem TermsA.kept {w w' : World} {v : Value} {ts : TermL} (h : TermsA w v ts) (hb : Below w.heap.size w w') : TermsA w' v ts := by
  obtain ⟨n, ao, b, off, c, h0, h1, h2, h3, h4, h5, h6⟩ := h
  refine ⟨n, ao, b, off, c, h0, h1, h2, h3, h4, fun j e k ht => ?_, h6⟩
  obtain ⟨u, a1, a2, a3⟩ := h5 j e k ht
  exact ⟨u, (hb.cell (World.block_lt_of_cell? _ _ a1)).trans a1, (hb.cell (World.block_lt_of_cell? _ _ a2)).trans a2, a3.kept hb⟩

theorem two_replicate {α : Type} (f0 f1 : α → Value) (x : α) : ∀ n : Nat, (madeCells #[f0 x, f1 x] (n * 2)).toList = two f0 f1 (List.replicate n x)
  | 0 => by simp [madeCells, two]
  | n + 1 => by
    have ih := two_replicate f0 f1 x n
    have e1 : two f0 f1 (List.replicate (n + 1) x) = two f0 f1 (List.replicate n x) ++ [f0 x, f1 x] := by
      rw [List.replicate_succ']
      simp [two]
    rw [e1, ← ih]
    have e2 : (madeCells #[f0 x, f1 x] ((n + 1) * 2)).toList = (List.range ((n + 1) * 2)).map (fun j => #[f0 x, f1 x][j % 2]!) := by simp [madeCells]
    have e3 : (madeCells #[f0 x, f1 x] (n * 2)).toList = (List.range (n * 2)).map (fun j => #[f0 x, f1 x][j % 2]!) := by simp [madeCells]
    rw [e2, e3, show (n + 1) * 2 = n * 2 + 1 + 1 by omega, List.range_succ, List.range_succ, List.map_append, List.map_append]
    have m0 : n * 2 % 2 = 0 := by omega
    have m1 : (n * 2 + 1) % 2 = 1 := by omega
    simp [m0, m1]

theorem wpList_zerosT {ops : Array Oper} {rest : List Oper} {o : Oper} {a : Act} {Q : Exit → Act → World → Prop} (w : World) (hgd : o.guard = none) (s x : Operand)
    (ho : o.op = Op.makeSlice 24 s x) (n : Nat) (hs : a.eval s = .int .i64 (n : Int)) (hx : a.eval x = .int .i64 (n : Int)) (hn : n ≤ 1099511627776)
    (h : ∀ w', OwnT 46 tf0 tf1 w.heap.size w' (.slice (some ⟨w.heap.size, 0, none⟩) n n) (List.replicate n (.slice none 0 0, 0)) → Below w.heap.size w w' → wpList Try.prog ops Q rest (a.put o.dst (.slice (some ⟨w.heap.size, 0, none⟩) n n)) w') :
    wpList Try.prog ops Q (o :: rest) a w := by
  obtain ⟨i0, hi, hz0, hz1, hz2⟩ := info_parts Try.infoT
  refine wpList_make_full _ hgd s x 24 ho w.heap.size 46 i0 (.agg #[.slice none 0 0, .int .i64 0]) 2 Try.underlying24 hi hz0 hz1 .i64 .i64 _ _ n hs hx rfl rfl ?_ ?_ (Nat.le_refl _) ?_
  · rw [hz2]; omega
  · unfold maxLen; omega
  · intro w1 hown hgrow
    refine h w1 ⟨?_, by simpa using hn⟩ ((Below.refl w.heap.size w).grown hgrow (Nat.le_refl _) (fun k h => by cases h))
    rw [List.length_replicate, ← two_replicate]
    exact hown

theorem set_fst {rs : List (Value × Int)} {j : Nat} {u : Value} {c : Int} : (rs.set j (u, c)).map Prod.fst = (rs.map Prod.fst).set j u := by rw [List.map_set]
theorem Parts.replace {B : Nat} {w : World} {us : List Value} {ls : List (List Int)} {j : Nat} {u : Value} {l : List Int} (h : Parts B w us ls) (hu : OwnI B w u l)
    (ha : ∀ (i : Nat) u', i ≠ j → us[i]? = some u' → Apart u' u) : Parts B w (us.set j u) (ls.set j l) := by
  have key : ∀ (i : Nat) (x : Value), (us.set j u)[i]? = some x → (i = j ∧ x = u) ∨ (i ≠ j ∧ us[i]? = some x) := by
    intro i x hx
    by_cases e : i = j
    · subst e
      have hi : i < us.length := by have := (List.getElem?_eq_some_iff.1 hx).1; simpa using this
      rw [List.getElem?_set_self hi] at hx
      exact .inl ⟨rfl, (Option.some.inj hx).symm⟩
    · rw [List.getElem?_set_ne (fun h => e h.symm)] at hx
      exact .inr ⟨e, hx⟩
  refine ⟨by simp [h.len], fun i x y hx hy => ?_, fun i k x x' hik hx hx' => ?_⟩
  · rcases key i x hx with ⟨rfl, rfl⟩ | ⟨e, h1⟩
    · have hi : i < ls.length := by have := (List.getElem?_eq_some_iff.1 hy).1; simpa using this
      rw [List.getElem?_set_self hi] at hy
      exact Option.some.inj hy ▸ hu
    · rw [List.getElem?_set_ne (fun h => e h.symm)] at hy
      exact h.own i x y h1 hy
  · rcases key i x hx with ⟨rfl, rfl⟩ | ⟨e1, h1⟩ <;> rcases key k x' hx' with ⟨rfl, rfl⟩ | ⟨e2, h2⟩
    · exact absurd rfl hik
    · exact (ha k x' e2 h2).symm
    · exact ha i x e1 h1
    · exact h.apart i k x x' hik h1 h2

theorem Parts.nils (B : Nat) (w : World) (n : Nat) : Parts B w (List.replicate n (.slice none 0 0)) (List.replicate n []) := by
  refine ⟨by simp, fun j u l hu hl => ?_, fun i j u u' _ hu _ k hk => ?_⟩
  · rw [List.getElem?_replicate] at hu hl
    split at hu
    · rw [if_pos (by assumption)] at hl
      simp at hu hl
      subst hu hl
      exact ⟨World.ownsRow_nil _ _ _ _, Nat.zero_le _⟩
    · simp at hu
  · rw [List.getElem?_replicate] at hu
    split at hu
    · simp at hu; subst hu; simp [Value.ownBlock] at hk
    · simp at hu

section
variable {lo hi : Nat} {w : World} {rs : List (Value × Int)} {ts : TermL}
/-- An element is written anew, its list lying in a block of its own. -/
theorem RowT.put {g n cap j : Nat} {u u' : Value} {e' : List Int} {c c' : Int} (h : RowT lo hi w (.slice (some ⟨g, 0, none⟩) n cap) rs ts) (hr : rs[j]? = some (u, c)) (ho : OwnI lo w u' e')
    (hf : ∀ k, u'.ownBlock = some k → hi ≤ k) (hb : tLen (ts.set j (e', c')) ≤ 1099511627776) :
    RowT lo w.heap.size ((w.setCell ⟨g, j * 2, none⟩ u').setCell ⟨g, j * 2 + 1, none⟩ (.int .i64 c')) (.slice (some ⟨g, 0, none⟩) n cap) (rs.set j (u', c')) (ts.set j (e', c')) := by
  have hjr := (List.getElem?_eq_some_iff.1 hr).1
  have hg : g < hi := h.vhi g rfl
  have hon : Only g (g + 1) w ((w.setCell ⟨g, j * 2, none⟩ u').setCell ⟨g, j * 2 + 1, none⟩ (.int .i64 c')) :=
    (Only.setCell (p := ⟨g, j * 2, none⟩) _ ⟨Nat.le_refl _, Nat.lt_succ_self _⟩).trans (Only.setCell (p := ⟨g, j * 2 + 1, none⟩) _ ⟨Nat.le_refl _, Nat.lt_succ_self _⟩)
  have key : ∀ (i : Nat) (x : Value), ((rs.map Prod.fst).set j u')[i]? = some x → x = u' ∨ (rs.map Prod.fst)[i]? = some x := by
    intro i x hx
    by_cases e : i = j
    · subst e
      rw [List.getElem?_set_self (by simpa using hjr)] at hx
      exact .inl (Option.some.inj hx).symm
    · rw [List.getElem?_set_ne (fun h => e h.symm)] at hx
      exact .inr hx
  have hclear : ∀ (i : Nat) x, ((rs.map Prod.fst).set j u')[i]? = some x → Apart x (.slice (some ⟨g, 0, none⟩) n cap) := by
    intro i x hx k hk
    rcases key i x hx with rfl | h1
    · have := hf k hk
      simp [Value.ownBlock]; omega
    · exact h.clear i x h1 k hk
  refine ⟨?_, ?_, ?_, ?_, fun k hk => Nat.lt_of_lt_of_le (h.vhi k hk) h.size, ?_, hon.size, hb⟩
  · have h0 := h.row.store0 hr (u', c) rfl
    have h1 := h0.store1 (j := j) (x := (u', c)) (by rw [List.getElem?_set_self hjr]) (u', c') rfl
    rw [List.set_set] at h1
    exact h1
  · rw [set_fst, List.map_set]
    have := h.parts.replace (j := j) ho (fun i x hi' hx k hk e => by
      have := h.uhi i x hx k hk
      have := hf k e
      omega)
    refine this.only hon fun i x hx k hk => ?_
    have := hclear i x hx k hk
    simp [Value.ownBlock] at this
    omega
  · rw [List.map_set, List.map_set, h.coefs]
  · rw [set_fst]; exact hclear
  · rw [set_fst]
    intro i x hx k hk
    rcases key i x hx with rfl | h1
    · exact (ho.block k hk).2
    · exact Nat.lt_of_lt_of_le (h.uhi i x h1 k hk) h.size
theorem RowT.zeros {n : Nat} {v : Value} (h : OwnT 46 tf0 tf1 lo w v (List.replicate n (.slice none 0 0, 0))) (hn : n ≤ 1099511627776) :
    RowT lo w.heap.size w v (List.replicate n (.slice none 0 0, 0)) (List.replicate n ([], 0)) := by
  have hz : ∀ (j : Nat) u, ((List.replicate n ((.slice none 0 0, 0) : Value × Int)).map Prod.fst)[j]? = some u → u = .slice none 0 0 := by
    intro j u hu
    rw [List.map_replicate, List.getElem?_replicate] at hu
    split at hu
    · simpa using hu.symm
    · simp at hu
  refine ⟨h, ?_, by simp, fun j u hu k hk => ?_, fun k hk => (h.block k hk).2, fun j u hu k hk => ?_, Nat.le_refl _, ?_⟩
  · rw [List.map_replicate, List.map_replicate]; exact Parts.nils _ _ _
  · rw [hz j u hu] at hk; simp [Value.ownBlock] at hk
  · rw [hz j u hu] at hk; simp [Value.ownBlock] at hk
  · have : ∀ m : Nat, tLen (List.replicate m ([], 0)) = m := by
      intro m
      induction m with
      | zero => rfl
      | succ m ih => rw [List.replicate_succ]; simp only [tLen, ih, List.length_nil]; omega
    rw [this]; exact hn
end

/-- The first j terms are there, the others are still zero. -/
def fillT (ts : TermL) (j : Nat) : TermL := ts.take j ++ List.replicate (ts.length - j) ([], 0)
theorem fillT_zero (ts : TermL) : fillT ts 0 = List.replicate ts.length ([], 0) := by simp [fillT]
theorem fillT_all (ts : TermL) : fillT ts ts.length = ts := by simp [fillT]
theorem fillT_get {ts : TermL} {j : Nat} (hj : j < ts.length) : (fillT ts j)[j]? = some ([], 0) := by
  have hl : (ts.take j).length = j := by rw [List.length_take]; omega
  rw [fillT, List.getElem?_append_right (by omega), hl, Nat.sub_self, List.getElem?_replicate, if_pos (by omega)]
theorem fillT_step {ts : TermL} {j : Nat} {x : List Int × Int} (hx : ts[j]? = some x) : (fillT ts j).set j x = fillT ts (j + 1) := by
  have hj := (List.getElem?_eq_some_iff.1 hx).1
  have hl : (ts.take j).length = j := by rw [List.length_take]; omega
  rw [fillT, fillT, List.set_append_right _ _ (by omega), hl, Nat.sub_self, show ts.length - j = (ts.length - (j + 1)) + 1 by omega, List.replicate_succ, List.set_cons_zero, List.take_add_one, hx]
  simp
theorem tLen_drop_ge (ts : TermL) (j : Nat) : ts.length - j ≤ tLen (ts.drop j) := by have := tLen_ge (ts.drop j); rw [List.length_drop] at this; exact this
theorem tLen_nils : ∀ m : Nat, tLen (List.replicate m ([], 0)) = m
  | 0 => rfl
  | m + 1 => by rw [List.replicate_succ]; simp only [tLen, tLen_nils m, List.length_nil]; omega
theorem tLen_fill (ts : TermL) (j : Nat) : tLen (fillT ts j) ≤ tLen ts := by
  have h1 := tLen_append (ts.take j) (ts.drop j)
  rw [List.take_append_drop] at h1
  have h2 := tLen_drop_ge ts j
  rw [fillT, tLen_append, tLen_nils]
  omega

set_option maxHeartbeats 1600000 in
theorem toTermS_c (v : Value) (ts : TermL) (w : World) (hv : TermsA w v ts) :
    Calls Try.prog 9 #[v] w (GivesT w ts) := by
  obtain ⟨n, ao, b, off, c, rfl, hL, hnc, hcm, ha, hc, hT⟩ := hv
  have HL := Lib.hid hL
  have HC := Lib.hid hc
  have HT := Lib.hid hT
  have hn : n ≤ 1099511627776 := by have := tLen_ge ts; omega
  clear hc hcm hL hT
  go_enter Try.func9, Try.ntmps9
  go_wp2_with (at_make; refine wpList_zerosT _ rfl _ _ rfl n rfl rfl hn ?_)
  intro w1 hO hB
  have hR := RowT.zeros hO hn
  rw [show n = ts.length from HL.out, ← fillT_zero, ← HL.out] at hR
  go_wp2_with fail
  go_loopw [4] (fun iv wr => ∃ (j : Nat) (rs : List (Value × Int)) (hi : Nat), j ≤ n ∧ iv = .int .i64 j ∧ RowT w.heap.size hi wr (.slice (some ⟨w.heap.size, 0, none⟩) n n) rs (fillT ts j) ∧ Below w.heap.size w wr) (fun iv _ => n - (intOf iv).toNat)
  case atStart => exact ⟨0, _, _, Nat.zero_le _, rfl, hR, hB⟩
  case round =>
    obtain ⟨j, rs, hi, hj, rfl, hRj, hBj⟩ := hrel
    clear hR hO hB
    by_cases hlt : j < n
    · obtain rfl := ha (by omega)
      obtain ⟨x, hx⟩ : ∃ x, ts[j]? = some x := ⟨_, List.getElem?_eq_getElem (by rw [← HL.out]; exact hlt)⟩
      obtain ⟨e, k⟩ := x
      obtain ⟨u, a1, a2, a3⟩ := HC.out j e k hx
      have k1 := (hBj.cell (World.block_lt_of_cell? _ _ a1)).trans a1
      have k2 := (hBj.cell (World.block_lt_of_cell? _ _ a2)).trans a2
      have i1 := a3.kept hBj
      obtain ⟨z, hz⟩ : ∃ z, rs[j]? = some z := ⟨_, List.getElem?_eq_getElem (by rw [hRj.len, fillT]; simp; rw [← HL.out]; omega)⟩
      obtain ⟨zu, zc⟩ := z
      have HX := Lib.hid hx
      have HZ := Lib.hid hz
      have hj0 : (0 : Int) ≤ (j : Int) := Int.natCast_nonneg _
      have hj1 : (j : Int) < (n : Int) := by omega
      obtain ⟨eo, en, ec, rfl⟩ := i1.shape
      clear a1 a2 a3 hx hz
      go_wp2_with fail
      refine (toTerm_c _ _ _ _ i1).mono ?_
      rintro e2 w2 ⟨ro, rn, rc, rfl, o2, b2⟩
      have hR2 := hRj.kept b2
      have c0 := hR2.row.cell0 HZ.out
      have c1 := hR2.row.cell1 HZ.out
      simp only [tf0, tf1] at c0 c1
      have f0 := fun i => hR2.row.free i
      have hst := hR2.put (j := j) (c' := k) HZ.out (o2.mono hBj.size) (fun q hq => Nat.le_trans hRj.size (o2.block q hq).1) (by rw [fillT_step HX.out]; exact Nat.le_trans (tLen_fill _ _) HT.out)
      rw [fillT_step HX.out] at hst
      have F2 := below_step hBj b2 hBj.size
      have F3 := (F2.setCell (p := ⟨w.heap.size, j * 2, none⟩) (Nat.le_refl _) (.slice ro rn rc)).setCell (p := ⟨w.heap.size, j * 2 + 1, none⟩) (Nat.le_refl _) (.int .i64 k)
      clear hR2 hRj hBj F2 i1 k1 k2
      go_wp2_with fail
      go_roundw
      case rel => exact ⟨j + 1, _, _, by omega, by go_num, hst.raise (Nat.le_refl _) hst.size (Nat.le_refl _), F3⟩
      case measure => simp [intOf]; omega
    · obtain rfl : j = n := by omega
      rw [show j = ts.length from HL.out, fillT_all, ← HL.out] at hRj
      go_wp2_with fail
      go_ret
      exact ⟨_, rfl, ⟨_, hRj.raise (Nat.le_refl _) hRj.size (Nat.le_refl _)⟩, hBj⟩

end Go.Proofs.Ytoioiippdchgmaa
