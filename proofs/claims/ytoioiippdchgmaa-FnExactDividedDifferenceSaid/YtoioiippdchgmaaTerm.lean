/-
  Rows of terms: what the law's own functions do with them.
-/
import Derived.Test.YtoioiippdchgmaaParts
import Derived.Test.YtoioiippdchgmaaBase
import Derived.Test.YtoioiippdchgmaaPush
import Derived.WalkKit
import Derived.Deep.RegionHeld3
namespace Go.Proofs.Ytoioiippdchgmaa
open Go.RowKit
set_option linter.unusedVariables false

theorem Try.infoT : (Try.prog.info? 46).map (fun i => (i.zero, i.size, i.bytes)) = some (some (.agg #[.slice none 0 0, .int .i64 0]), 2, 32) := by kernel_rfl

abbrev TermL := List (List Int × Int)
def tf0 (x : Value × Int) : Value := x.1
def tf1 (x : Value × Int) : Value := .int .i64 x.2
/-- How many marks a list of terms takes. -/
def tLen : TermL → Nat
  | [] => 0
  | t :: ts => t.1.length + 1 + tLen ts
theorem tLen_append : ∀ (a b : TermL), tLen (a ++ b) = tLen a + tLen b
  | [], b => by simp [tLen]
  | t :: a, b => by simp only [List.cons_append, tLen, tLen_append a b]; omega
theorem tLen_ge : ∀ (a : TermL), a.length ≤ tLen a
  | [] => Nat.le_refl _
  | t :: a => by have := tLen_ge a; simp only [List.length_cons, tLen]; omega
theorem tLen_get : ∀ (a : TermL) (j : Nat) (t : List Int × Int), a[j]? = some t → t.1.length ≤ tLen a
  | [], j, t, h => by simp at h
  | x :: a, 0, t, h => by simp at h; subst h; simp only [tLen]; omega
  | x :: a, j + 1, t, h => by have := tLen_get a j t (by simpa using h); simp only [tLen]; omega

structure RowT (lo hi : Nat) (w : World) (v : Value) (rs : List (Value × Int)) (ts : TermL) : Prop where
  row : OwnT 46 tf0 tf1 lo w v rs
  parts : Parts lo w (rs.map Prod.fst) (ts.map Prod.fst)
  coefs : rs.map Prod.snd = ts.map Prod.snd
  clear : ∀ (j : Nat) u, (rs.map Prod.fst)[j]? = some u → Apart u v
  vhi : ∀ k, v.ownBlock = some k → k < hi
  uhi : ∀ (j : Nat) u, (rs.map Prod.fst)[j]? = some u → ∀ k, u.ownBlock = some k → k < hi
  size : hi ≤ w.heap.size
  bound : tLen ts ≤ 1099511627776
def AtT (lo hi : Nat) (w : World) (v : Value) (ts : TermL) : Prop := ∃ rs, RowT lo hi w v rs ts
def OwnP (B : Nat) (w : World) (v : Value) (ts : TermL) : Prop := AtT B w.heap.size w v ts
def TermsV (w : World) (v : Value) (ts : TermL) : Prop := ∃ lo hi, AtT lo hi w v ts
def GivesT (w : World) (ts : TermL) (e : Ending) (w' : World) : Prop := ∃ r, e = .returned r ∧ OwnP w.heap.size w' r ts ∧ Below w.heap.size w w'
def GivesTB (w : World) (ts : TermL) (b : Bool) (e : Ending) (w' : World) : Prop := ∃ r, e = .returned (.tuple #[r, .bool b]) ∧ OwnP w.heap.size w' r ts ∧ Below w.heap.size w w'

section
variable {lo hi : Nat} {w w' : World} {v : Value} {rs : List (Value × Int)} {ts : TermL}
theorem RowT.len (h : RowT lo hi w v rs ts) : rs.length = ts.length := by have := h.parts.len; simpa using this
theorem RowT.at (h : RowT lo hi w v rs ts) {j : Nat} {e : List Int} {k : Int} (ht : ts[j]? = some (e, k)) : ∃ u, rs[j]? = some (u, k) ∧ OwnI lo w u e := by
  obtain ⟨u, hu, ho⟩ := h.parts.get (j := j) (l := e) (by rw [List.getElem?_map, ht]; rfl)
  rw [List.getElem?_map] at hu
  cases hr : rs[j]? with
  | none => rw [hr] at hu; simp at hu
  | some r =>
    rw [hr] at hu
    simp at hu
    have h2 : (rs.map Prod.snd)[j]? = (ts.map Prod.snd)[j]? := by rw [h.coefs]
    rw [List.getElem?_map, List.getElem?_map, hr, ht] at h2
    simp at h2
    exact ⟨u, by rw [← hu, ← h2], ho⟩
theorem RowT.kept (h : RowT lo hi w v rs ts) (hb : Below w.heap.size w w') : RowT lo hi w' v rs ts :=
  ⟨h.row.kept hb, h.parts.kept hb, h.coefs, h.clear, h.vhi, h.uhi, Nat.le_trans h.size hb.size, h.bound⟩
theorem RowT.only {lo' hi' : Nat} (h : RowT lo hi w v rs ts) (hb : Only lo' hi' w w') (hd : hi ≤ lo' ∨ hi' ≤ lo) : RowT lo hi w' v rs ts :=
  ⟨h.row.only hb (fun k hk => by have := h.vhi k hk; have := (h.row.block k hk).1; omega),
   h.parts.only hb (fun j u hu k hk => by have := h.uhi j u hu k hk; have := (h.parts.block hu k hk).1; omega),
   h.coefs, h.clear, h.vhi, h.uhi, Nat.le_trans h.size hb.size, h.bound⟩
theorem RowT.raise {lo' hi' : Nat} (h : RowT lo hi w v rs ts) (h1 : lo' ≤ lo) (h2 : hi ≤ hi') (h3 : hi' ≤ w.heap.size) : RowT lo' hi' w v rs ts :=
  ⟨h.row.mono h1, h.parts.mono h1, h.coefs, h.clear, fun k hk => Nat.lt_of_lt_of_le (h.vhi k hk) h2, fun j u hu k hk => Nat.lt_of_lt_of_le (h.uhi j u hu k hk) h2, h3, h.bound⟩
theorem AtT.kept (h : AtT lo hi w v ts) (hb : Below w.heap.size w w') : AtT lo hi w' v ts := by obtain ⟨rs, h⟩ := h; exact ⟨rs, h.kept hb⟩
theorem AtT.only {lo' hi' : Nat} (h : AtT lo hi w v ts) (hb : Only lo' hi' w w') (hd : hi ≤ lo' ∨ hi' ≤ lo) : AtT lo hi w' v ts := by obtain ⟨rs, h⟩ := h; exact ⟨rs, h.only hb hd⟩
theorem AtT.terms (h : AtT lo hi w v ts) : TermsV w v ts := ⟨lo, hi, h⟩
theorem AtT.len (h : AtT lo hi w v ts) : tLen ts ≤ 1099511627776 := by obtain ⟨rs, h⟩ := h; exact h.bound
theorem TermsV.kept (h : TermsV w v ts) (hb : Below w.heap.size w w') : TermsV w' v ts := by obtain ⟨lo, hi, h⟩ := h; exact ⟨lo, hi, h.kept hb⟩
theorem TermsV.len (h : TermsV w v ts) : tLen ts ≤ 1099511627776 := by obtain ⟨lo, hi, h⟩ := h; exact h.len
theorem OwnP.at {B : Nat} (h : OwnP B w v ts) : AtT B w.heap.size w v ts := h
theorem OwnP.terms {B : Nat} (h : OwnP B w v ts) : TermsV w v ts := AtT.terms h
theorem OwnP.kept {B : Nat} (h : OwnP B w v ts) (hb : Below w.heap.size w w') : OwnP B w' v ts := by
  obtain ⟨rs, h⟩ := h
  exact ⟨rs, (h.kept hb).raise (Nat.le_refl _) hb.size (Nat.le_refl _)⟩
theorem OwnP.mono {B B' : Nat} (h : OwnP B w v ts) (hB : B' ≤ B) : OwnP B' w v ts := by
  obtain ⟨rs, h⟩ := h
  exact ⟨rs, h.raise hB (Nat.le_refl _) (Nat.le_refl _)⟩
theorem OwnP.nil (B : Nat) (w : World) : OwnP B w (.slice none 0 0) [] :=
  ⟨[], OwnT.nil _ _ _ _ _, Parts.nil _ _, rfl, fun j u h => by simp at h, fun k hk => by simp [Value.ownBlock] at hk, fun j u h => by simp at h, Nat.le_refl _, Nat.zero_le _⟩
/-- A row of terms, laid open. -/
theorem TermsV.open (h : TermsV w v ts) : ∃ (n : Nat) (ao : Option Addr) (b c : Nat), v = .slice ao n c ∧ Hid (n = ts.length) ∧ n ≤ c ∧ c ≤ maxLen ∧
    (0 < n → ao = some ⟨b, 0, none⟩) ∧ (∀ j e k, ts[j]? = some (e, k) → ∃ u, w.cell? ⟨b, j * 2, none⟩ = some u ∧ w.cell? ⟨b, j * 2 + 1, none⟩ = some (.int .i64 k) ∧ IntsV w u e) ∧ n ≤ 1099511627776 := by
  obtain ⟨lo, hi, rs, h⟩ := h
  obtain ⟨ao, c, rfl, h3, h4, h5⟩ := h.row.shape
  have hlen := h.len
  cases rs with
  | nil =>
    have : ts = [] := List.eq_nil_of_length_eq_zero (by simpa using hlen.symm)
    subst this
    exact ⟨0, ao, 0, c, rfl, Lib.hid rfl, h3, h4, fun h => absurd h (Nat.lt_irrefl 0), fun j e k hx => by simp at hx, Nat.zero_le _⟩
  | cons y rs =>
    obtain ⟨g, rfl⟩ := h5 (by simp)
    refine ⟨_, _, g, c, rfl, Lib.hid hlen, h3, h4, fun _ => rfl, fun j e k hx => ?_, h.row.2⟩
    obtain ⟨u, hu, ho⟩ := h.at hx
    exact ⟨u, h.row.cell0 hu, h.row.cell1 hu, ho.ints⟩
end

theorem IntsV.shape {w : World} {v : Value} {l : List Int} (h : IntsV w v l) : ∃ ao n c, v = .slice ao n c := by
  obtain ⟨ao, b, off, c, rfl, _⟩ := h
  exact ⟨_, _, _, rfl⟩

set_option maxHeartbeats 800000 in
theorem eqTerm_same (u u' : Value) (e : List Int) (k : Int) (w : World) (hu : IntsV w u e) (hu' : IntsV w u' e) :
    Calls Try.prog 31 #[.agg #[u, .int .i64 k], .agg #[u', .int .i64 k]] w (GivesB w true) := by
  obtain ⟨ao, n, c, rfl⟩ := hu.shape
  obtain ⟨ao', n', c', rfl⟩ := hu'.shape
  have B1 := (Below.refl w.heap.size w).alloc (Nat.le_refl _) (Obj.cells #[.slice ao n c, .int .i64 k] 46)
  have B2 := B1.alloc B1.size (Obj.cells #[.slice ao' n' c', .int .i64 k] 46)
  obtain ⟨W2, hW2⟩ : ∃ W2, W2 = ((w.alloc (Obj.cells #[.slice ao n c, .int .i64 k] 46)).alloc (Obj.cells #[.slice ao' n' c', .int .i64 k] 46)) := ⟨_, rfl⟩
  have a1 : W2.cell? ⟨w.heap.size, 1, none⟩ = some (.int .i64 k) := by rw [hW2]; simp
  have a2 : W2.cell? ⟨w.heap.size + 1, 1, none⟩ = some (.int .i64 k) := by rw [hW2]; simp
  have HA1 := Lib.hid a1
  have HA2 := Lib.hid a2
  have HW := Lib.hid hW2
  rw [← hW2] at B2
  clear a1 a2 hW2 B1
  go_enter Try.func31, Try.ntmps31
  go_wp2_with fail
  rw [← HW.out]
  refine (eqIntS_same _ _ _ _ (hu.kept B2) (hu'.kept B2)).mono ?_
  rintro e1 w1 ⟨rfl, b1⟩
  have h1 : w1.cell? ⟨w.heap.size, 1, none⟩ = some (.int .i64 k) := by rw [b1.cell (World.block_lt_of_cell? _ _ HA1.out)]; exact HA1.out
  have h2 : w1.cell? ⟨w.heap.size + 1, 1, none⟩ = some (.int .i64 k) := by rw [b1.cell (World.block_lt_of_cell? _ _ HA2.out)]; exact HA2.out
  have F1 := below_step B2 b1 B2.size
  have hne : (k != k) = false := by simp
  go_wp2_with fail
  go_ret
  exact ⟨rfl, F1⟩

theorem below_drewT {B : Nat} {w W : World} (h : Below B w W) : Below B w W.drew := ⟨h.os, h.tape, h.output, h.size, h.block⟩

set_option maxHeartbeats 1600000 in
theorem eqTermS_same (v u : Value) (l : TermL) (w : World) (hv : TermsV w v l) (hu : TermsV w u l) :
    Calls Try.prog 11 #[v, u] w (GivesB w true) := by
  obtain ⟨n, ao, b, c, rfl, HL, hnc, hcm, ha, hc, hn⟩ := hv.open
  obtain ⟨m, bo, d, e, rfl, HM, hme, hem, hb, hd, hm⟩ := hu.open
  obtain rfl : n = m := HL.out.trans HM.out.symm
  have hne : ((n : Int) != (n : Int)) = false := by simp
  have HC := Lib.hid hc
  have HD := Lib.hid hd
  clear hc hd hcm hem
  go_enter Try.func11, Try.ntmps11
  go_wp2
  go_loopw [5] (fun i wr => ∃ j : Nat, j ≤ n ∧ i = .int .i64 j ∧ Below w.heap.size w wr) (fun i _ => n - (intOf i).toNat)
  case atStart => exact ⟨0, Nat.zero_le _, rfl, Below.refl _ _⟩
  case round =>
    obtain ⟨j, hj, rfl, hB⟩ := hrel
    by_cases hlt : j < n
    · obtain rfl := ha (by omega)
      obtain rfl := hb (by omega)
      obtain ⟨x, hx⟩ : ∃ x, l[j]? = some x := ⟨_, List.getElem?_eq_getElem (by rw [← HL.out]; exact hlt)⟩
      obtain ⟨x0, x1⟩ := x
      obtain ⟨u1, h1, h2, i1⟩ := HC.out j _ _ hx
      obtain ⟨u2, h3, h4, i2⟩ := HD.out j _ _ hx
      have hcell : ∀ (a : Addr) (u : Value), w.cell? a = some u → wr.cell? a = some u := fun a u h => by rw [hB.cell (World.block_lt_of_cell? _ _ h)]; exact h
      obtain ⟨ao1, n1, c1, rfl⟩ := i1.shape
      obtain ⟨ao2, n2, c2, rfl⟩ := i2.shape
      have k1 := hcell _ _ h1
      have k2 := hcell _ _ h2
      have k3 := hcell _ _ h3
      have k4 := hcell _ _ h4
      have q1 := i1.kept hB
      have q2 := i2.kept hB
      have hj0 : (0 : Int) ≤ (j : Int) := Int.natCast_nonneg _
      have hj1 : (j : Int) < (n : Int) := by omega
      clear hcell h1 h2 h3 h4 hx i1 i2
      go_wp2_with fail
      go_region_with (first | (go_at_call 31; refine (eqTerm_same _ _ _ _ _ q1 q2).mono ?_; rintro e w1 ⟨rfl, b1⟩) | (go_at_call 31; refine (eqTerm_same _ _ _ _ wr.drew q1 q2).mono ?_; rintro e w1 ⟨rfl, b1⟩))
      all_goals
        have hB1 := below_step (below_drewT hB) b1 hB.size
        go_wp2
        go_roundw
        case rel => exact ⟨j + 1, by omega, by go_num, hB1⟩
        case measure => simp [intOf]; omega
    · obtain rfl : j = n := by omega
      go_wp2
      go_ret
      exact ⟨rfl, hB⟩

/-! Marks. -/
def MarksT : Int → TermL → TermL
  | _, [] => []
  | k, t :: ts => (Marks k t.1.length, k + (t.1.length : Int)) :: MarksT (k + (t.1.length : Int) + 1) ts
theorem MarksT.get : ∀ (k : Int) (ts : TermL) (j : Nat) (e : List Int) (c : Int), ts[j]? = some (e, c) →
    (MarksT k ts)[j]? = some (Marks (k + (tLen (ts.take j) : Int)) e.length, k + (tLen (ts.take j) : Int) + (e.length : Int))
  | k, [], j, e, c, h => by simp at h
  | k, t :: ts, 0, e, c, h => by simp at h; subst h; simp [MarksT, tLen]
  | k, t :: ts, j + 1, e, c, h => by
    have ih := MarksT.get (k + (t.1.length : Int) + 1) ts j e c (by simpa using h)
    simp only [MarksT, List.getElem?_cons_succ, List.take_succ_cons, tLen]
    rw [ih]
    have e1 : k + (t.1.length : Int) + 1 + (tLen (ts.take j) : Int) = k + ((t.1.length + 1 + tLen (ts.take j) : Nat) : Int) := by omega
    rw [e1]
theorem MarksT.len : ∀ (k : Int) (ts : TermL), (MarksT k ts).length = ts.length
  | _, [] => rfl
  | k, t :: ts => by simp only [MarksT, List.length_cons, MarksT.len]
theorem tLen_take_succ {ts : TermL} {j : Nat} {e : List Int} {c : Int} (h : ts[j]? = some (e, c)) : tLen (ts.take (j + 1)) = tLen (ts.take j) + e.length + 1 := by
  rw [List.take_add_one, h, tLen_append]; simp [tLen]; omega
theorem tLen_take_le (ts : TermL) (j : Nat) : tLen (ts.take j) ≤ tLen ts := by
  have := tLen_append (ts.take j) (ts.drop j)
  rw [List.take_append_drop] at this
  omega
theorem tLen_set : ∀ (ts : TermL) (j : Nat) (e e' : List Int) (c c' : Int), ts[j]? = some (e, c) → e'.length = e.length → tLen (ts.set j (e', c')) = tLen ts
  | [], j, e, e', c, c', h, _ => by simp at h
  | t :: ts, 0, e, e', c, c', h, hl => by simp at h; subst h; simp [tLen, hl]
  | t :: ts, j + 1, e, e', c, c', h, hl => by
    have := tLen_set ts j e e' c c' (by simpa using h) hl
    simp only [List.set_cons_succ, tLen, this]
/-- The first j elements are marked. -/
def markAt (k : Int) (ts : TermL) (j : Nat) : TermL := (MarksT k ts).take j ++ ts.drop j
theorem markAt_zero (k : Int) (ts : TermL) : markAt k ts 0 = ts := by simp [markAt]
theorem markAt_all (k : Int) (ts : TermL) : markAt k ts ts.length = MarksT k ts := by
  rw [markAt, List.drop_length, List.append_nil, List.take_of_length_le (by rw [MarksT.len]; exact Nat.le_refl _)]
theorem markAt_get {k : Int} {ts : TermL} {j : Nat} {x : List Int × Int} (h : ts[j]? = some x) : (markAt k ts j)[j]? = some x := by
  have hj := (List.getElem?_eq_some_iff.1 h).1
  have hl : ((MarksT k ts).take j).length = j := by rw [List.length_take, MarksT.len]; omega
  rw [markAt, List.getElem?_append_right (by omega), hl, Nat.sub_self, List.getElem?_drop]
  simpa using h
theorem markAt_step {k : Int} {ts : TermL} {j : Nat} {e : List Int} {c : Int} (h : ts[j]? = some (e, c)) :
    (markAt k ts j).set j (Marks (k + (tLen (ts.take j) : Int)) e.length, k + (tLen (ts.take j) : Int) + (e.length : Int)) = markAt k ts (j + 1) := by
  have hj := (List.getElem?_eq_some_iff.1 h).1
  have hl : ((MarksT k ts).take j).length = j := by rw [List.length_take, MarksT.len]; omega
  rw [markAt, markAt, List.set_append_right _ _ (by omega), hl, Nat.sub_self, List.take_add_one, MarksT.get k ts j e c h, List.drop_eq_getElem_cons hj, List.set_cons_zero]
  simp

section
variable {lo hi : Nat} {w w' : World} {v : Value} {rs : List (Value × Int)} {ts : TermL}
theorem RowT.mark {lo1 hi1 j : Nat} {u : Value} {e e' : List Int} {c : Int} (h : RowT lo hi w v rs ts) (ht : ts[j]? = some (e, c)) (hr : rs[j]? = some (u, c))
    (hb : Only lo1 hi1 w w') (hn : ∀ k, lo1 ≤ k → k < hi1 → u.ownBlock = some k) (ho : OwnI lo w' u e') (hl : e'.length = e.length) : RowT lo hi w' v rs (ts.set j (e', c)) := by
  have hu : (rs.map Prod.fst)[j]? = some u := by rw [List.getElem?_map, hr]; rfl
  have hm1 : (ts.set j (e', c)).map Prod.fst = (ts.map Prod.fst).set j e' := by rw [List.map_set]
  have hm2 : (ts.set j (e', c)).map Prod.snd = ts.map Prod.snd := by
    rw [List.map_set]
    apply List.ext_getElem?
    intro i
    by_cases hi : j = i
    · subst hi
      have hj : j < (ts.map Prod.snd).length := by rw [List.length_map]; exact (List.getElem?_eq_some_iff.1 ht).1
      rw [List.getElem?_set_self hj, List.getElem?_map, ht]; rfl
    · rw [List.getElem?_set_ne hi]
  refine ⟨h.row.only hb (fun k hk => ?_), ?_, by rw [hm2]; exact h.coefs, h.clear, h.vhi, h.uhi, Nat.le_trans h.size hb.size, by rw [tLen_set ts j e e' c c ht hl]; exact h.bound⟩
  · by_cases h1 : lo1 ≤ k ∧ k < hi1
    · exact absurd hk (h.clear j u hu k (hn k h1.1 h1.2))
    · omega
  · rw [hm1]; exact h.parts.set hu hb hn ho
theorem RowT.coef {g n cap j : Nat} {u : Value} {e : List Int} {c : Int} (c' : Int) (h : RowT lo hi w (.slice (some ⟨g, 0, none⟩) n cap) rs ts) (ht : ts[j]? = some (e, c)) (hr : rs[j]? = some (u, c)) :
    RowT lo hi (w.setCell ⟨g, j * 2 + 1, none⟩ (.int .i64 c')) (.slice (some ⟨g, 0, none⟩) n cap) (rs.set j (u, c')) (ts.set j (e, c')) := by
  have hm0 : (rs.set j (u, c')).map Prod.fst = rs.map Prod.fst := by
    rw [List.map_set]
    apply List.ext_getElem?
    intro i
    by_cases hi : j = i
    · subst hi
      have hj : j < (rs.map Prod.fst).length := by rw [List.length_map]; exact (List.getElem?_eq_some_iff.1 hr).1
      rw [List.getElem?_set_self hj, List.getElem?_map, hr]; rfl
    · rw [List.getElem?_set_ne hi]
  have hm1 : (ts.set j (e, c')).map Prod.fst = ts.map Prod.fst := by
    rw [List.map_set]
    apply List.ext_getElem?
    intro i
    by_cases hi : j = i
    · subst hi
      have hj : j < (ts.map Prod.fst).length := by rw [List.length_map]; exact (List.getElem?_eq_some_iff.1 ht).1
      rw [List.getElem?_set_self hj, List.getElem?_map, ht]; rfl
    · rw [List.getElem?_set_ne hi]
  have hg : Only g (g + 1) w (w.setCell ⟨g, j * 2 + 1, none⟩ (.int .i64 c')) := Only.setCell (p := ⟨g, j * 2 + 1, none⟩) _ ⟨Nat.le_refl _, Nat.lt_succ_self _⟩
  refine ⟨h.row.store1 hr (u, c') rfl, ?_, ?_, by rw [hm0]; exact h.clear, h.vhi, by rw [hm0]; exact h.uhi, Nat.le_trans h.size hg.size, by rw [tLen_set ts j e e c c' ht rfl]; exact h.bound⟩
  · rw [hm0, hm1]
    refine h.parts.only hg fun i x hx k hk => ?_
    have := h.clear i x hx k hk
    simp [Value.ownBlock] at this
    omega
  · rw [List.map_set, List.map_set, h.coefs]
end

def MarkedT (lo hi : Nat) (w : World) (v : Value) (ts : TermL) (n : Nat) (k : Int) (e : Ending) (w' : World) : Prop :=
  e = .returned (.int .i64 (k + (n : Int))) ∧ AtT lo hi w' v (MarksT k ts) ∧ Only lo hi w w'

set_option maxHeartbeats 1600000 in
theorem markTermS_c (lo hi : Nat) (v : Value) (l : TermL) (k : Int) (w : World) (n : Nat) (hL : n = tLen l) (h : AtT lo hi w v l) (hk0 : 0 ≤ k) (hk : k ≤ 562949953421312) :
    Calls Try.prog 12 #[v, .int .i64 k] w (MarkedT lo hi w v l n k) := by
  obtain ⟨rs0, h⟩ := h
  obtain ⟨q, hq⟩ : ∃ q, q = l.length := ⟨_, rfl⟩
  have HQ := Lib.hid hq
  have HN := Lib.hid hL
  have hnb : n ≤ 1099511627776 := by rw [hL]; exact h.bound
  have hlen := h.len
  rw [← hq] at hlen
  rcases h.row.1.2 with ⟨rfl, h0⟩ | ⟨g, cap, cur, rfl, hlo, _, hnc, _, _, _⟩
  · obtain rfl : q = 0 := by omega
    have HH := Lib.hid h
    clear h hL hq
    go_enter Try.func12, Try.ntmps12
    go_wp2
    refine wp_loop_rounds 1 ?_
    rw [rounds_succ]
    go_wp2
    go_ret
    have e0 : l = [] := List.eq_nil_of_length_eq_zero HQ.out.symm
    subst e0
    have e1 : n = 0 := HN.out
    exact ⟨ret_int (by rw [e1]; simp), ⟨rs0, HH.out⟩, Only.refl _ _ _⟩
  · have hgh := h.vhi g rfl
    rw [hlen] at h hnc ⊢
    have hq63 : q ≤ 1099511627776 := by have := tLen_ge l; rw [← hL] at this; omega
    have h' := h
    rw [← markAt_zero k l] at h'
    clear h hL hq
    go_enter Try.func12, Try.ntmps12
    go_wp2
    go_loopw [1, 5] (fun k' i wr => ∃ (j s : Nat) (rs : List (Value × Int)), j ≤ q ∧ i = .int .i64 j ∧ k' = .int .i64 (k + (s : Int)) ∧ Hid (s = tLen (l.take j)) ∧ RowT lo hi wr (.slice (some ⟨g, 0, none⟩) q cap) rs (markAt k l j) ∧ Only lo hi w wr)
      (fun _ i _ => q - (intOf i).toNat)
    case atStart => exact ⟨0, 0, rs0, Nat.zero_le _, rfl, by simp, Lib.hid (by simp [tLen]), h', Only.refl _ _ _⟩
    case round =>
      obtain ⟨j, s, rs, hj, rfl, rfl, HS, hR, hG⟩ := hrel
      clear h'
      by_cases hlt : j < q
      · obtain ⟨x, hx⟩ : ∃ x, l[j]? = some x := ⟨_, List.getElem?_eq_getElem (by rw [← HQ.out]; exact hlt)⟩
        obtain ⟨e, c⟩ := x
        obtain ⟨u, hu, ho⟩ := hR.at (markAt_get (k := k) hx)
        have c0 := hR.row.cell0 hu
        simp only [tf0] at c0
        obtain ⟨lo1, hi1, hat, hlo1, hz1, hn1⟩ := ho.tight
        obtain ⟨ao1, n1, c1, rfl⟩ := ho.ints.shape
        have hs2 := tLen_take_succ hx
        have hs3 := tLen_take_le l (j + 1)
        rw [← HS.out] at hs2
        rw [hs2, ← HN.out] at hs3
        obtain ⟨m, hm⟩ : ∃ m, m = e.length := ⟨_, rfl⟩
        rw [← hm] at hs3 hs2
        have HM := Lib.hid hm
        have HS' : Hid (s + m + 1 = tLen (l.take (j + 1))) := Lib.hid hs2.symm
        have HX := Lib.hid hx
        have HU := Lib.hid hu
        have HN1 := Lib.hid hn1
        have hks : 0 ≤ k + (s : Int) := by omega
        have hks2 : k + (s : Int) ≤ 1125899906842624 := by omega
        have hj0 : (0 : Int) ≤ (j : Int) := Int.natCast_nonneg _
        have hj1 : (j : Int) < (q : Int) := by omega
        have HR := Lib.hid hR
        clear hm hs2 hx hu hn1 ho hR
        go_wp2_with fail
        refine (markIntS_c lo1 hi1 _ e _ _ m HM.out hat hks hks2).mono ?_
        rintro e2 w1 ⟨rfl, hat1, hon⟩
        have hR1 := HR.out.mark (markAt_get HX.out) HU.out hon HN1.out (hat1.1.mono hlo1) (by rw [Marks.len, HM.out])
        have hx1 : ((markAt k l j).set j (Marks (k + (s : Int)) m, c))[j]? = some (Marks (k + (s : Int)) m, c) := by
          rw [List.getElem?_set_self (List.getElem?_eq_some_iff.1 (markAt_get HX.out)).1]
        have d1 := hR1.row.cell1 HU.out
        simp only [tf1] at d1
        have f1 := hR1.row.free (j * 2 + 1)
        have hR2 := hR1.coef (k + (s : Int) + (m : Int)) hx1 HU.out
        have e3 : ((markAt k l j).set j (Marks (k + (s : Int)) m, c)).set j (Marks (k + (s : Int)) m, k + (s : Int) + (m : Int)) = markAt k l (j + 1) := by
          rw [List.set_set, HS.out, HM.out]
          exact markAt_step HX.out
        rw [e3] at hR2
        have hon2 : Only lo hi wr w1 := hon.mono hlo1 (by
          by_cases hh : lo1 < hi1
          · have h3 := HN1.out (hi1 - 1) (by omega) (by omega)
            have h4 := HR.out.uhi j _ (by rw [List.getElem?_map, HU.out]; rfl) _ h3
            omega
          · rcases hz1 with h3 | h3
            · rw [h3]; exact Nat.zero_le _
            · exact absurd h3 hh)
        have hG2 := (hG.trans hon2).trans (Only.setCell (lo := lo) (hi := hi) (p := ⟨g, j * 2 + 1, none⟩) (.int .i64 (k + (s : Int) + (m : Int))) ⟨hlo, hgh⟩)
        clear hR1 hx1 e3 hon hon2 hG hat hat1 c0
        go_wp2_with fail
        go_roundw
        case rel => exact ⟨j + 1, s + m + 1, _, by omega, by go_num, by go_num, HS', hR2, hG2⟩
        case measure => simp [intOf]; omega
      · obtain rfl : j = q := by omega
        go_wp2
        go_ret
        have e1 : s = n := by rw [HS.out, HN.out, List.take_of_length_le (by rw [← HQ.out]; exact Nat.le_refl _)]
        rw [HQ.out, markAt_all] at hR
        exact ⟨ret_int (by rw [e1]), ⟨rs, HQ.out ▸ hR⟩, hG⟩

set_option maxHeartbeats 1600000 in
theorem heldTermS_c (v : Value) (l : TermL) (k : Int) (w : World) (n : Nat) (hL : n = tLen l) (hv : TermsV w v (MarksT k l)) (hk0 : 0 ≤ k) (hk : k ≤ 562949953421312) :
    Calls Try.prog 13 #[v, .int .i64 k] w fun e w' => e = .returned (.int .i64 (k + (n : Int))) ∧ w = w' := by
  have hnb0 := hv.len
  obtain ⟨q, ao, b, c, rfl, HL, hnc, hcm, ha, hc, hq⟩ := hv.open
  have hq2 : q = l.length := HL.out.trans (MarksT.len k l)
  have HQ := Lib.hid hq2
  have HC := Lib.hid hc
  have HN := Lib.hid hL
  have hnb : n ≤ 1099511627776 := by
    have : tLen (MarksT k l) = tLen l := by
      have : ∀ (k : Int) (l : TermL), tLen (MarksT k l) = tLen l := by
        intro k l
        induction l generalizing k with
        | nil => rfl
        | cons t ts ih => simp only [MarksT, tLen, ih, Marks.len]
      exact this k l
    omega
  clear hcm hq2 HL hc hL
  go_enter Try.func13, Try.ntmps13
  go_wp2
  go_loop [1, 5] (fun k' i => ∃ j s : Nat, j ≤ q ∧ i = .int .i64 j ∧ k' = .int .i64 (k + (s : Int)) ∧ Hid (s = tLen (l.take j))) (fun _ i => q - (intOf i).toNat)
  case atStart => exact ⟨0, 0, Nat.zero_le _, rfl, by simp, Lib.hid (by simp [tLen])⟩
  case round =>
    obtain ⟨j, s, hj, rfl, rfl, HS⟩ := hrel
    by_cases hlt : j < q
    · obtain rfl := ha (by omega)
      obtain ⟨x, hx⟩ : ∃ x, l[j]? = some x := ⟨_, List.getElem?_eq_getElem (by rw [← HQ.out]; exact hlt)⟩
      obtain ⟨e, d⟩ := x
      obtain ⟨m, hm⟩ : ∃ m, m = e.length := ⟨_, rfl⟩
      have hg := MarksT.get k l j e d hx
      rw [← HS.out, ← hm] at hg
      obtain ⟨u, h1, h2, hu⟩ := HC.out j _ _ hg
      obtain ⟨ao1, n1, c1, rfl⟩ := hu.shape
      have hs2 := tLen_take_succ hx
      have hs3 := tLen_take_le l (j + 1)
      rw [← HS.out] at hs2
      rw [hs2, ← HN.out] at hs3
      rw [← hm] at hs3 hs2
      have HS' : Hid (s + m + 1 = tLen (l.take (j + 1))) := Lib.hid hs2.symm
      have hks : 0 ≤ k + (s : Int) := by omega
      have hks2 : k + (s : Int) ≤ 1125899906842624 := by omega
      have hne : ((k + (s : Int) + (m : Int)) != (k + (s : Int) + (m : Int))) = false := by simp
      have hneg : ¬ (k + (s : Int) + (m : Int) < 0) := by omega
      clear ha hx hm hg hs2
      go_wp2_with fail
      refine (heldIntS_c _ m _ _ hu hks hks2).mono ?_
      rintro e2 w1 ⟨rfl, rfl⟩
      go_wp2_with fail
      go_round
      case rel => exact ⟨j + 1, s + m + 1, by omega, by go_num, by go_num, HS'⟩
      case measure => simp [intOf]; omega
    · clear ha
      obtain rfl : j = q := by omega
      go_wp2
      go_ret
      have e1 : s = n := by rw [HS.out, HN.out, List.take_of_length_le (by rw [← HQ.out]; exact Nat.le_refl _)]
      exact ⟨ret_int (by rw [e1]), rfl⟩

end Go.Proofs.Ytoioiippdchgmaa
