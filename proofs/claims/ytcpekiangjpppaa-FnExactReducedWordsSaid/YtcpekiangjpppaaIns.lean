/-
  Contracts: l1Insert.
-/
import Derived.Test.YtcpekiangjpppaaLexC
import Derived.Deep.AppendLies
import Derived.Deep.DrawnRows
namespace Go.Proofs.Ytcpekiangjpppaa
open Go.RowKit
set_option linter.unusedVariables false
attribute [local go_sem ↓] Go.wp_at_zero Go.wp_at_succ

/-- append(s, x...) of rows, at a step of a region that draws its order. -/
theorem step_ap {ops : Array Oper} {o : Oper} {a : Act} {W : World} {K : Act → World → Prop} {Q : Exit → Act → World → Prop} {E : Prop}
    (hw : Region.wanted o (yielded ops a.tmps) = true) (s x : Operand)
    (ho : o.op = .call { callee := .builtin .append, args := #[s, x], argTypes := #[32, 32] })
    {B : Nat} {v : Value} {us zs : List Value} {g off m c : Nat} (hown : OwnL 22 id B W v us) (hs : a.eval s = v) (hx : a.eval x = .slice (some ⟨g, off, none⟩) m c)
    (hm : zs.length = m) (hc : ∀ (j : Nat) z, zs[j]? = some z → W.cell? ⟨g, off + j, none⟩ = some z) (h1 : ∀ z ∈ zs, z.oneCell' = true) (hlen : us.length + m ≤ 1099511627776) (hB : B ≤ W.heap.size)
    (h : ∀ v' w', OwnL 22 id B w' v' (us ++ zs) → Below B W w' → W.grownBy w' v.ownBlock → K (a.put o.dst v') w') :
    if Region.wanted o (yielded ops a.tmps) = true then Oper.wp Try.prog o a W K Q else E := by
  obtain ⟨i0, hi, hz0, hz1, hz2⟩ := info_parts Try.infoII
  rw [if_pos hw]
  subst hm
  refine wp_append_own W s x 32 ho B 22 i0 (.slice none 0 0) 1 24 Try.underlying32 hi hz0 hz1 hz2 rfl (by decide) v us.length (us.map id) hs hown.1
    ⟨g, off, none⟩ zs.length c zs hx (by simp) ?_ h1 (by unfold maxLen; omega) (by omega) hB ?_
  · intro j u hj
    rw [Addr.add_lit]; exact hc j u hj
  · intro v' w' hown' hgrow hnil
    have hb : ∀ k, v.ownBlock = some k → B ≤ k := fun k hk => (hown.block k hk).1
    refine h v' w' ⟨?_, by simpa using hlen⟩ ((Below.refl _ _).grown hgrow hB (fun k hk => hb k hk)) hgrow
    rw [List.map_id] at hown'
    rw [List.length_append, List.map_id]
    exact hown'

theorem keepB_alloc {B : Nat} {w W : World} (o : Obj) (h : Below B w W) (hB : B ≤ w.heap.size) : Below B w (W.alloc o) := h.alloc (Nat.le_trans hB h.size) o
theorem own_lit0 {w W : World} (h : Below w.heap.size w W) : OwnL 22 id w.heap.size (W.alloc (.cells #[] 22)) (.slice (some ⟨W.heap.size, 0, none⟩) 0 0) ([] : List Value) := (OwnL.lit _ _ W).mono h.size
theorem own_lit1 {w W : World} (o : Obj) (h : Below w.heap.size w W) : OwnL 22 id w.heap.size ((W.alloc (.cells #[] 22)).alloc o) (.slice (some ⟨W.heap.size, 0, none⟩) 0 0) ([] : List Value) :=
  (own_lit0 h).kept ((Below.refl _ _).alloc (Nat.le_refl _) _)
theorem own_lit2 {w W : World} (o : Obj) (h : Below w.heap.size w W) : OwnL 22 id w.heap.size ((W.alloc o).alloc (.cells #[] 22)) (.slice (some ⟨W.heap.size + 1, 0, none⟩) 0 0) ([] : List Value) := by
  have := own_lit0 (w := w) (W := W.alloc o) (keepB_alloc o h (Nat.le_refl _))
  simpa using this
theorem one_at {P : Addr → Option Value} {g : Nat} {xv : Value} (h : P ⟨g, 0, none⟩ = some xv) : ∀ (j : Nat) z, [xv][j]? = some z → P ⟨g, 0 + j, none⟩ = some z := fun j z hj => by
  match j, hj with
  | 0, hj => simp at hj; subst hj; exact h
theorem one_mem {xv : Value} (h : xv.oneCell' = true) : ∀ z ∈ [xv], z.oneCell' = true := fun z hz => by simp at hz; subst hz; exact h
theorem take_at {w W : World} {us : List Value} {g k : Nat} (hu : ∀ (j : Nat) z, us[j]? = some z → w.cell? ⟨g, j, none⟩ = some z) (h : Below w.heap.size w W) : ∀ (j : Nat) z, (us.take k)[j]? = some z → W.cell? ⟨g, 0 + j, none⟩ = some z := fun j z hj => by
  have hj' : us[j]? = some z := by
    rw [List.getElem?_take] at hj; split at hj
    · exact hj
    · simp at hj
  rw [Nat.zero_add, h.cell (World.block_lt_of_cell? _ _ (hu j z hj'))]; exact hu j z hj'
theorem drop_at {w W : World} {us : List Value} {g k : Nat} (hu : ∀ (j : Nat) z, us[j]? = some z → w.cell? ⟨g, j, none⟩ = some z) (h : Below w.heap.size w W) : ∀ (j : Nat) z, (us.drop k)[j]? = some z → W.cell? ⟨g, k + j, none⟩ = some z := fun j z hj => by
  have hj' : us[k + j]? = some z := by rwa [List.getElem?_drop] at hj
  rw [h.cell (World.block_lt_of_cell? _ _ (hu _ z hj'))]; exact hu _ z hj'
theorem far_c {X w1 : World} {p : Option Nat} {q : Nat} {xv : Value} (h : X.grownBy w1 p) (hc : X.cell? ⟨q, 0, none⟩ = some xv) (hne : some q ≠ p) : w1.cell? ⟨q, 0, none⟩ = some xv := by
  rw [World.grownBy.cell_far h ⟨q, 0, none⟩ (World.block_lt_of_cell? _ _ hc) hne]; exact hc

theorem drop_none {us : List Value} {k : Nat} {W : World} {g off : Nat} (h : (us.drop k).length = 0) : ∀ (j : Nat) z, (us.drop k)[j]? = some z → W.cell? ⟨g, off + j, none⟩ = some z := fun j z hj => by
  rw [List.eq_nil_of_length_eq_zero h] at hj; simp at hj

def GivesIns (w : World) (v xv : Value) (us : List Value) (ls : ListsL) (x : List Int) (e : Ending) (w' : World) : Prop :=
  ∃ r k, e = .returned r ∧ k ≤ ls.length ∧ (insL x ls = if ls[k]? = some x then ls else ls.take k ++ x :: ls.drop k) ∧ Below w.heap.size w w' ∧
    ((ls[k]? = some x ∧ r = v) ∨ (ls[k]? ≠ some x ∧ OwnL 22 id w.heap.size w' r (us.take k ++ xv :: us.drop k)))

set_option maxHeartbeats 3200000 in
theorem l1Insert_c (g n c : Nat) (xv : Value) (us : List Value) (ls : ListsL) (x : List Int) (w : World) (hu : ∀ (j : Nat) z, us[j]? = some z → w.cell? ⟨g, j, none⟩ = some z)
    (hp : ∀ (j : Nat) e, ls[j]? = some e → ∃ u, us[j]? = some u ∧ IntsV w u e) (hlen : us.length = ls.length) (hn : n = ls.length) (hn9 : n ≤ 1000000) (hnc : n ≤ c) (h1 : ∀ z ∈ us, z.oneCell' = true) (hx1 : xv.oneCell' = true) (hx : IntsV w xv x) :
    Calls Try.prog 39 #[.slice (some ⟨g, 0, none⟩) n c, xv] w (GivesIns w (.slice (some ⟨g, 0, none⟩) n c) xv us ls x) := by
  obtain ⟨xo, xb, xf, xc, rfl, _⟩ := id hx
  have HU := Lib.hid hu
  have HP := Lib.hid hp
  have HN := Lib.hid hn
  have HLN := Lib.hid hlen
  have H1 := Lib.hid h1
  clear hu hp hlen hn h1
  go_enter Try.func39, Try.ntmps39
  go_wp2
  go_loopw [5] (fun i wr => ∃ k : Nat, k ≤ n ∧ i = .int .i64 k ∧ Hid (∀ t y, t < k → ls[t]? = some y → lexLt y x = true) ∧ Below w.heap.size w wr) (fun i _ => n - (intOf i).toNat)
  case atStart => exact ⟨0, Nat.zero_le _, rfl, Lib.hid (fun t y ht => absurd ht (Nat.not_lt_zero _)), Below.refl _ _⟩
  case round =>
    obtain ⟨k, hk, rfl, HK, hB⟩ := hrel
    have hk0 : (0 : Int) ≤ (k : Int) := Int.natCast_nonneg _
    have hkc : k ≤ c := by omega
    have HL1 : (us.take k).length = k := by rw [List.length_take, HLN.out, ← HN.out]; omega
    have HL3 : (us.drop k).length = n - k := by rw [List.length_drop, HLN.out, ← HN.out]
    have HLT := Lib.hid HL1
    have HLD := Lib.hid HL3
    clear HL1 HL3
    have HO1 : Hid (∀ z ∈ us.take k, z.oneCell' = true) := Lib.hid (fun z hz => H1.out z (List.mem_of_mem_take hz))
    have HO3 : Hid (∀ z ∈ us.drop k, z.oneCell' = true) := Lib.hid (fun z hz => H1.out z (List.mem_of_mem_drop hz))
    by_cases hlt : k < n
    · have hlt' : (k : Int) < (n : Int) := by omega
      have hck : ¬ c = k := by omega
      obtain ⟨y, hy⟩ : ∃ y, ls[k]? = some y := ⟨_, List.getElem?_eq_getElem (by rw [← HN.out]; exact hlt)⟩
      obtain ⟨u, hu, hi⟩ := HP.out k y hy
      have hcu := HU.out k u hu
      have hcu2 : wr.cell? ⟨g, k, none⟩ = some u := by rw [hB.cell (World.block_lt_of_cell? _ _ hcu)]; exact hcu
      have HY := Lib.hid hy
      have HI := Lib.hid hi
      clear hy hu hi hcu
      cases hl : lexLt y x with
      | true =>
        have HL := Lib.hid hl
        have HK' : Hid (∀ t z, t < k + 1 → ls[t]? = some z → lexLt z x = true) := Lib.hid (fun t z ht hz => by
          by_cases e : t = k
          · subst e; rw [HY.out] at hz; obtain rfl := Option.some.inj hz; exact HL.out
          · exact HK.out t z (by omega) hz)
        clear hl
        go_wp2_with fail
        refine (l1Less_c _ _ _ _ _ (HI.out.kept hB) (hx.kept hB)).mono ?_
        rw [HL.out]
        rintro e w1 ⟨rfl, b1⟩
        have F1 := below_step hB b1 hB.size
        go_wp2_with fail
        go_roundw
        case rel => exact ⟨k + 1, by omega, by go_num, HK', F1⟩
        case measure => simp [intOf]; omega
      | false =>
        have HL := Lib.hid hl
        have HAT := Lib.hid (insL_at x ls k (by rw [← HN.out]; exact hk) HK.out (fun z hz => by rw [HY.out] at hz; obtain rfl := Option.some.inj hz; exact HL.out))
        clear hl
        go_wp2_with fail
        refine (l1Less_c _ _ _ _ _ (HI.out.kept hB) (hx.kept hB)).mono ?_
        rw [HL.out]
        rintro e w1 ⟨rfl, b1⟩
        have F1 := below_step hB b1 hB.size
        have hcu3 : w1.cell? ⟨g, k, none⟩ = some u := by rw [b1.cell (World.block_lt_of_cell? _ _ hcu2)]; exact hcu2
        clear b1 hcu2 hB
        go_wp2_with fail
        refine (l1SameI_c _ _ _ _ _ (HI.out.kept F1) (hx.kept F1)).mono ?_
        rintro e w2 ⟨rfl, b2⟩
        have F2 := below_step F1 b2 F1.size
        clear b2 hcu3 F1
        by_cases hyx : y = x
        · have hd : decide (y = x) = true := decide_eq_true hyx
          have HE : Hid (ls[k]? = some x) := Lib.hid (by rw [HY.out, hyx])
          rw [hd]
          clear hyx hd
          go_wp2_with fail
          go_ret
          exact ⟨_, k, rfl, by rw [← HN.out]; exact hk, HAT.out, F2, .inl ⟨HE.out, rfl⟩⟩
        · have hd : decide (y = x) = false := decide_eq_false hyx
          have HE : Hid (ls[k]? ≠ some x) := Lib.hid (by rw [HY.out]; intro e; exact hyx (Option.some.inj e))
          rw [hd]
          clear hyx hd
          go_wp2_with fail
          go_region_held3 (fun w' => Below w.heap.size w w')
            (first
              | exact below_drewII F2
              | exact keepB_alloc _ (by assumption) (Nat.le_refl _)
              | exact Below.trans (by assumption) b5
              | exact Below.trans (by assumption) b4
              | exact Below.trans (by assumption) b3)
            (first
              | (refine step_ap (by rfl) (.tmp 33) (.tmp 36) (by rfl) (B := w.heap.size) (us := []) (zs := us.take k) (by first | exact own_lit0 (by assumption) | exact own_lit1 _ (by assumption) | exact own_lit2 _ (by assumption)) (by rfl) (by rfl) HLT.out (take_at HU.out (by assumption)) HO1.out (by simp; omega) (Below.size (by assumption)) ?_; intro v3 w3 o3 b3 g3)
              | (refine step_ap (by rfl) (.tmp 40) (.tmp 43) (by rfl) (B := w.heap.size) (us := us.take k ++ [.slice xo x.length xc]) (zs := us.drop k) o4 (by rfl) (by rfl) HLD.out (drop_at HU.out (by assumption)) HO3.out (by rw [List.length_append, HLT.out]; simp; omega) (Below.size (by assumption)) ?_; intro v5 w5 o5 b5 g5)
              | (refine step_ap (by rfl) (.tmp 37) (.tmp 39) (by rfl) (B := w.heap.size) (us := us.take k) (zs := [.slice xo x.length xc]) (by first | exact o3 | exact o3.kept ((Below.refl _ _).alloc (Nat.le_refl _) _)) (by rfl) (by rfl) rfl (one_at (by first | exact far_c g3 (by simp) (by simp [Value.ownBlock]) | simp)) (one_mem rfl) (by rw [HLT.out]; simp; omega) (Below.size (by assumption)) ?_; intro v4 w4 o4 b4 g4))
          all_goals
            have FF : Below w.heap.size w w5 := by assumption
            rw [List.append_assoc] at o5
            go_wp2
            go_ret
            exact ⟨v5, k, rfl, by rw [← HN.out]; exact hk, HAT.out, FF, .inr ⟨HE.out, o5⟩⟩
    · have hlt' : ¬ (k : Int) < (n : Int) := by omega
      obtain rfl : k = n := by omega
      have HZ : Hid (ls[k]? = none) := Lib.hid (List.getElem?_eq_none (by rw [← HN.out]; exact Nat.le_refl _))
      have HAT := Lib.hid (insL_at x ls k (by rw [← HN.out]; exact hk) HK.out (fun z hz => by rw [HZ.out] at hz; simp at hz))
      have HE : Hid (ls[k]? ≠ some x) := Lib.hid (by rw [HZ.out]; simp)
      have HLD : Hid ((us.drop k).length = 0) := Lib.hid (HLD.out.trans (Nat.sub_self k))
      by_cases hck : c = k
      · obtain rfl : k = c := hck.symm
        go_wp2_with fail
        go_region_held3 (fun w' => Below w.heap.size w w')
          (first
            | exact below_drewII hB
            | exact keepB_alloc _ (by assumption) (Nat.le_refl _)
            | exact Below.trans (by assumption) b5
            | exact Below.trans (by assumption) b4
            | exact Below.trans (by assumption) b3)
          (first
            | (refine step_ap (by rfl) (.tmp 33) (.tmp 36) (by rfl) (B := w.heap.size) (us := []) (zs := us.take k) (by first | exact own_lit0 (by assumption) | exact own_lit1 _ (by assumption) | exact own_lit2 _ (by assumption)) (by rfl) (by rfl) HLT.out (take_at HU.out (by assumption)) HO1.out (by simp; omega) (Below.size (by assumption)) ?_; intro v3 w3 o3 b3 g3)
            | (refine step_ap (by rfl) (.tmp 40) (.tmp 43) (by rfl) (B := w.heap.size) (us := us.take k ++ [.slice xo x.length xc]) (zs := us.drop k) o4 (by rfl) (by rfl) HLD.out (by first | exact drop_at HU.out (by assumption) | exact drop_none HLD.out) HO3.out (by rw [List.length_append, HLT.out]; simp; omega) (Below.size (by assumption)) ?_; intro v5 w5 o5 b5 g5)
            | (refine step_ap (by rfl) (.tmp 37) (.tmp 39) (by rfl) (B := w.heap.size) (us := us.take k) (zs := [.slice xo x.length xc]) (by first | exact o3 | exact o3.kept ((Below.refl _ _).alloc (Nat.le_refl _) _)) (by rfl) (by rfl) rfl (one_at (by first | exact far_c g3 (by simp) (by simp [Value.ownBlock]) | simp)) (one_mem rfl) (by rw [HLT.out]; simp; omega) (Below.size (by assumption)) ?_; intro v4 w4 o4 b4 g4))
        all_goals
          have FF : Below w.heap.size w w5 := by assumption
          rw [List.append_assoc] at o5
          go_wp2
          go_ret
          exact ⟨v5, k, rfl, by rw [← HN.out]; exact hk, HAT.out, FF, .inr ⟨HE.out, o5⟩⟩
      · go_wp2_with fail
        go_region_held3 (fun w' => Below w.heap.size w w')
          (first
            | exact below_drewII hB
            | exact keepB_alloc _ (by assumption) (Nat.le_refl _)
            | exact Below.trans (by assumption) b5
            | exact Below.trans (by assumption) b4
            | exact Below.trans (by assumption) b3)
          (first
            | (refine step_ap (by rfl) (.tmp 33) (.tmp 36) (by rfl) (B := w.heap.size) (us := []) (zs := us.take k) (by first | exact own_lit0 (by assumption) | exact own_lit1 _ (by assumption) | exact own_lit2 _ (by assumption)) (by rfl) (by rfl) HLT.out (take_at HU.out (by assumption)) HO1.out (by simp; omega) (Below.size (by assumption)) ?_; intro v3 w3 o3 b3 g3)
            | (refine step_ap (by rfl) (.tmp 40) (.tmp 43) (by rfl) (B := w.heap.size) (us := us.take k ++ [.slice xo x.length xc]) (zs := us.drop k) o4 (by rfl) (by rfl) HLD.out (by first | exact drop_at HU.out (by assumption) | exact drop_none HLD.out) HO3.out (by rw [List.length_append, HLT.out]; simp; omega) (Below.size (by assumption)) ?_; intro v5 w5 o5 b5 g5)
            | (refine step_ap (by rfl) (.tmp 37) (.tmp 39) (by rfl) (B := w.heap.size) (us := us.take k) (zs := [.slice xo x.length xc]) (by first | exact o3 | exact o3.kept ((Below.refl _ _).alloc (Nat.le_refl _) _)) (by rfl) (by rfl) rfl (one_at (by first | exact far_c g3 (by simp) (by simp [Value.ownBlock]) | simp)) (one_mem rfl) (by rw [HLT.out]; simp; omega) (Below.size (by assumption)) ?_; intro v4 w4 o4 b4 g4))
        all_goals
          have FF : Below w.heap.size w w5 := by assumption
          rw [List.append_assoc] at o5
          go_wp2
          go_ret
          exact ⟨v5, k, rfl, by rw [← HN.out]; exact hk, HAT.out, FF, .inr ⟨HE.out, o5⟩⟩

end Go.Proofs.Ytcpekiangjpppaa
