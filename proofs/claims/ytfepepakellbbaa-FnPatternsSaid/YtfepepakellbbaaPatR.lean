/-
  Patterns and inverses, descents, texts: plain.
-/
import Derived.Test.YtfepepakellbbaaRk
import Derived.Test.YtfepepakellbbaaVex
import Derived.Test.YtfepepakellbbaaGras
import Derived.Test.YtfepepakellbbaaTrim
import Derived.Test.YtfepepakellbbaaFPerm
import Derived.Test.YtfepepakellbbaaPPerm
namespace Go.Proofs.Ytfepepakellbbaa
open Go.RowKit
set_option linter.unusedVariables false

/-- The number at s: chosen already, or at the place f s. -/
def valP (l ch : List Int) (f : Nat → Nat) (s : Nat) : Int := if s < ch.length then ch.getD s 0 else l.getD (f s) 0
def ExtP (l p ch : List Int) (i : Nat) : Prop := ∃ f : Nat → Nat, (∀ t, ch.length ≤ t → t < p.length → i ≤ f t ∧ f t < l.length) ∧ (∀ s t, ch.length ≤ s → s < t → t < p.length → f s < f t) ∧
  (∀ s t, s < t → ch.length ≤ t → t < p.length → (valP l ch f s < valP l ch f t ↔ p.getD s 0 < p.getD t 0))
theorem fits_iff (l p ch : List Int) (i k : Nat) : fitsUp l p ch i k = true ↔ ∀ s, s < k → (ch.getD s 0 < l.getD i 0 ↔ p.getD s 0 < p.getD ch.length 0) := by
  simp only [fitsUp, List.all_eq_true, List.mem_range, beq_iff_eq, decide_eq_decide]
theorem valP_push {l ch : List Int} {x : Int} {f g : Nat → Nat} {i : Nat} (hx : x = l.getD i 0) (hf : f ch.length = i) (hg : ∀ t, ch.length < t → f t = g t) (s : Nat) : valP l ch f s = valP l (ch ++ [x]) g s := by
  unfold valP
  simp only [List.length_append, List.length_singleton]
  by_cases h1 : s < ch.length
  · rw [if_pos h1, if_pos (by omega)]
    rw [List.getD_eq_getElem?_getD, List.getD_eq_getElem?_getD, List.getElem?_append_left h1]
  · rw [if_neg h1]
    by_cases h2 : s = ch.length
    · subst h2
      rw [if_pos (by omega), hf, ← hx]
      simp [List.getD_eq_getElem?_getD]
    · rw [if_neg (by omega), hg s (by omega)]
theorem pat_iff (l p : List Int) : ∀ (d i : Nat) (ch : List Int), l.length - i = d → ch.length ≤ p.length → (patB l p ch i = true ↔ ExtP l p ch i) := by
  intro d
  induction d with
  | zero =>
    intro i ch hd hc
    by_cases hk : ch.length = p.length
    · exact ⟨fun _ => ⟨fun _ => 0, fun t h1 h2 => by omega, fun s t h1 h2 h3 => by omega, fun s t h1 h2 h3 => by omega⟩, fun _ => patB_full hk⟩
    · rw [patB_end hk (by omega)]
      refine ⟨fun h => by simp at h, fun ⟨f, h1, _⟩ => ?_⟩
      have := h1 ch.length (Nat.le_refl _) (by omega)
      omega
  | succ d ih =>
    intro i ch hd hc
    by_cases hk : ch.length = p.length
    · exact ⟨fun _ => ⟨fun _ => 0, fun t h1 h2 => by omega, fun s t h1 h2 h3 => by omega, fun s t h1 h2 h3 => by omega⟩, fun _ => patB_full hk⟩
    · have hl : (ch ++ [l.getD i 0]).length = ch.length + 1 := by simp
      rw [patB_step hk (by omega), Bool.or_eq_true, Bool.and_eq_true, ih (i + 1) _ (by omega) (by rw [hl]; omega), ih (i + 1) ch (by omega) hc, fits_iff]
      constructor
      · rintro (⟨hf, g, h1, h2, h3⟩ | ⟨f, h1, h2, h3⟩)
        · rw [hl] at h1 h2 h3
          obtain ⟨F, hF0, hF1⟩ : ∃ F : Nat → Nat, F ch.length = i ∧ ∀ t, t ≠ ch.length → F t = g t := ⟨fun t => if t = ch.length then i else g t, if_pos rfl, fun t h => if_neg h⟩
          have hv := valP_push (l := l) (ch := ch) (x := l.getD i 0) (f := F) (g := g) (i := i) rfl hF0 (fun t ht => hF1 t (by omega))
          refine ⟨F, fun t a b => ?_, fun s t a b c => ?_, fun s t a b c => ?_⟩
          · by_cases e : t = ch.length
            · rw [e, hF0]; omega
            · rw [hF1 t e]; have := h1 t (by omega) b; omega
          · rw [hF1 t (by omega)]
            by_cases e : s = ch.length
            · rw [e, hF0]; have := h1 t (by omega) c; omega
            · rw [hF1 s e]; exact h2 s t (by omega) b c
          · rw [hv s, hv t]
            by_cases e : t = ch.length
            · subst e
              have := hf s a
              unfold valP
              rw [if_pos (by omega), if_pos (by omega)]
              have e1 : (ch ++ [l.getD i 0]).getD s 0 = ch.getD s 0 := by rw [List.getD_eq_getElem?_getD, List.getElem?_append_left a, ← List.getD_eq_getElem?_getD]
              have e2 : (ch ++ [l.getD i 0]).getD ch.length 0 = l.getD i 0 := by simp [List.getD_eq_getElem?_getD]
              rw [e1, e2]; exact this
            · exact h3 s t a (by omega) c
        · exact ⟨f, fun t a b => by have := h1 t a b; omega, h2, h3⟩
      · rintro ⟨f, h1, h2, h3⟩
        have hk0 := h1 ch.length (Nat.le_refl _) (by omega)
        by_cases e : f ch.length = i
        · left
          have hv := valP_push (l := l) (ch := ch) (x := l.getD i 0) (f := f) (g := f) (i := i) rfl e (fun _ _ => rfl)
          refine ⟨fun s hs => ?_, f, fun t a b => ?_, fun s t a b c => ?_, fun s t a b c => ?_⟩
          · have := h3 s ch.length hs (Nat.le_refl _) (by omega)
            unfold valP at this
            rw [if_pos hs, if_neg (by omega), e] at this
            exact this
          · rw [hl] at a
            have := h1 t (by omega) b
            have := h2 ch.length t (Nat.le_refl _) (by omega) b
            omega
          · rw [hl] at a; exact h2 s t (by omega) b c
          · rw [hl] at b
            rw [← hv s, ← hv t]; exact h3 s t a (by omega) c
        · right
          refine ⟨f, fun t a b => ?_, h2, h3⟩
          have := h1 t a b
          by_cases e2 : t = ch.length
          · subst e2; omega
          · have := h2 ch.length t (Nat.le_refl _) (by omega) b; omega

/-- Places that stand to each other as the pattern says. -/
def Has (n m : Nat) (l p : List Int) : Prop := ∃ f : Nat → Nat, (∀ t, t < m → f t < n) ∧ (∀ s t, s < t → t < m → f s < f t) ∧ (∀ s t, s < m → t < m → (pv l (f s) < pv l (f t) ↔ pv p s < pv p t))
theorem has_iff {n m : Nat} {l p : List Int} (hl : PermN n l) (hp : PermN m p) : hasPatB l p = true ↔ Has n m l p := by
  rw [hasPatB_yes hl.1 hp.1, pat_iff l p _ 0 [] rfl (Nat.zero_le _)]
  constructor
  · rintro ⟨f, h1, h2, h3⟩
    have hb : ∀ t, t < m → f t < n := fun t ht => by have := h1 t (Nat.zero_le _) (by rw [hp.2]; exact ht); rw [hl.2] at this; exact this.2
    have hm : ∀ s t, s < t → t < m → f s < f t := fun s t a b => h2 s t (Nat.zero_le _) a (by rw [hp.2]; exact b)
    have h3' : ∀ s t, s < t → t < m → (pv l (f s) < pv l (f t) ↔ pv p s < pv p t) := fun s t a b => by
      have := h3 s t a (Nat.zero_le _) (by rw [hp.2]; exact b)
      unfold valP at this
      simp only [List.length_nil, Nat.not_lt_zero, if_false] at this
      rw [hl.eq (hb s (by omega)), hl.eq (hb t b), hp.eq (show s < m by omega), hp.eq b] at this
      omega
    refine ⟨f, hb, hm, fun s t a b => ?_⟩
    rcases Nat.lt_trichotomy s t with h | h | h
    · exact h3' s t h b
    · subst h; omega
    · have x1 := h3' t s h a
      have x2 : pv l (f s) ≠ pv l (f t) := fun e => by have := hl.inj (hb s a) (hb t b) e; have := hm t s h a; omega
      have x3 : pv p s ≠ pv p t := fun e => by have := hp.inj a b e; omega
      omega
  · rintro ⟨f, h1, h2, h3⟩
    refine ⟨f, fun t _ b => ⟨Nat.zero_le _, by rw [hl.2]; exact h1 t (by rw [← hp.2]; exact b)⟩, fun s t _ a b => h2 s t a (by rw [← hp.2]; exact b), fun s t a _ b => ?_⟩
    rw [hp.2] at b
    unfold valP
    simp only [List.length_nil, Nat.not_lt_zero, if_false]
    rw [hl.eq (h1 s (by omega)), hl.eq (h1 t b), hp.eq (show s < m by omega), hp.eq b]
    have := h3 s t (by omega) b
    omega
theorem has_inv {n m : Nat} {l p : List Int} (hl : PermN n l) (hp : PermN m p) (h : Has n m l p) : Has n m (invOf l) (invOf p) := by
  obtain ⟨f, h1, h2, h3⟩ := h
  have hb : ∀ a, a < m → pv (invOf p) a < m := fun a ha => (inv_perm hp).lt ha
  refine ⟨fun a => pv l (f (pv (invOf p) a)), fun a ha => hl.lt (h1 _ (hb a ha)), fun a b hab hbm => ?_, fun a b ha hbm => ?_⟩
  · refine (h3 _ _ (hb a (by omega)) (hb b hbm)).2 ?_
    rw [pv_inv hp (by omega), pv_inv hp hbm]; exact hab
  · simp only []
    rw [inv_pv hl (h1 _ (hb a ha)), inv_pv hl (h1 _ (hb b hbm))]
    have x1 := h2 (pv (invOf p) a) (pv (invOf p) b)
    have x2 := h2 (pv (invOf p) b) (pv (invOf p) a)
    have y1 := hb a ha
    have y2 := hb b hbm
    rcases Nat.lt_trichotomy (pv (invOf p) a) (pv (invOf p) b) with h | h | h
    · have := x1 h y2; omega
    · rw [h]; omega
    · have := x2 h y1; omega
theorem has_inverse {n m : Nat} {l p : List Int} (hl : PermN n l) (hp : PermN m p) : hasPatB (invOf l) (invOf p) = hasPatB l p := by
  rw [Bool.eq_iff_iff, has_iff (inv_perm hl) (inv_perm hp), has_iff hl hp]
  refine ⟨fun h => ?_, fun h => has_inv hl hp h⟩
  have := has_inv (inv_perm hl) (inv_perm hp) h
  rwa [inv_inv hl, inv_inv hp] at this
theorem has_self {n : Nat} {l : List Int} (hl : PermN n l) : hasPatB l l = true := by
  rw [has_iff hl hl]
  exact ⟨fun t => t, fun t h => h, fun s t h _ => h, fun s t _ _ => Iff.rfl⟩
theorem has_descent {n : Nat} {l : List Int} (hl : PermN n l) : ∀ (d a : Nat), a + d < n → pv l (a + d) < pv l a → ∃ t, a ≤ t ∧ t < a + d ∧ l.getD (t + 1) 0 < l.getD t 0
  | 0, a, h1, h2 => absurd h2 (Nat.lt_irrefl _)
  | d + 1, a, h1, h2 => by
    by_cases h : pv l (a + d + 1) < pv l (a + d)
    · refine ⟨a + d, by omega, by omega, ?_⟩
      rw [hl.eq (show a + d + 1 < n by omega), hl.eq (by omega)]; omega
    · obtain ⟨t, x, y, z⟩ := has_descent hl d a (by omega) (by have : pv l (a + (d + 1)) = pv l (a + d + 1) := rfl; omega)
      exact ⟨t, x, by omega, z⟩
theorem vexN : PermN 4 vexL := ⟨vexL_perm, rfl⟩
theorem grass_vex {n : Nat} {l : List Int} (hl : PermN n l) (hg : grassB l = true) : vexB l = true := by
  have hq : hasPatB l vexL = false := by
    cases e : hasPatB l vexL with
    | false => rfl
    | true =>
      exfalso
      obtain ⟨f, h1, h2, h3⟩ := (has_iff hl vexN).1 e
      have f01 := h2 0 1 (by decide) (by decide)
      have f12 := h2 1 2 (by decide) (by decide)
      have f23 := h2 2 3 (by decide) (by decide)
      have g10 := (h3 1 0 (by decide) (by decide)).2 (by decide)
      have g32 := (h3 3 2 (by decide) (by decide)).2 (by decide)
      have b3 := h1 3 (by decide)
      obtain ⟨a, a1, a2, a3⟩ := has_descent hl (f 1 - f 0) (f 0) (by omega) (by rw [show f 0 + (f 1 - f 0) = f 1 by omega]; exact g10)
      obtain ⟨b, b1, b2, b3'⟩ := has_descent hl (f 3 - f 2) (f 2) (by omega) (by rw [show f 2 + (f 3 - f 2) = f 3 by omega]; exact g32)
      unfold grassB at hg
      rw [Bool.and_eq_true, decide_eq_true_eq] at hg
      have hd : descL l = descUp l (l.length - 1) := by unfold descL; rw [if_pos hl.1]
      rw [hd] at hg
      have m1 : ((a : Nat) : Int) ∈ descUp l (l.length - 1) := by
        unfold descUp
        exact List.mem_map.2 ⟨a, List.mem_filter.2 ⟨List.mem_range.2 (by rw [hl.2]; omega), decide_eq_true a3⟩, rfl⟩
      have m2 : ((b : Nat) : Int) ∈ descUp l (l.length - 1) := by
        unfold descUp
        exact List.mem_map.2 ⟨b, List.mem_filter.2 ⟨List.mem_range.2 (by rw [hl.2]; omega), decide_eq_true b3'⟩, rfl⟩
      have hne : a ≠ b := by omega
      generalize descUp l (l.length - 1) = L at hg m1 m2
      match L, hg.2, m1, m2 with
      | [], _, m1, _ => simp at m1
      | [x], _, m1, m2 => simp at m1 m2; omega
      | x :: y :: L, h, _, _ => simp at h
  have := vexB_has hl.1 hq
  rw [this]; rfl

theorem parse_format {n : Nat} {l : List Int} (hl : PermN n l) : ppAll (strOf (fpL l)) = l := by
  have hf : fpL l = fpUp l l.length := by unfold fpL; rw [if_pos hl.1]
  have hs : (strOf (fpL l)).size = l.length := by rw [strOf_size, hf]; simp [fpUp]
  unfold ppAll ppUp
  rw [hs, hf]
  have : (strOf (fpUp l l.length)).data.toList = fpUp l l.length := by simp [strOf]
  rw [this]
  unfold fpUp
  rw [List.take_length, List.take_of_length_le (by simp), List.map_map]
  conv => rhs; rw [← List.map_id l]
  apply List.map_congr_left
  intro x hx
  obtain ⟨_, h7, hr, _⟩ := isPermB_iff.1 hl.1
  have := hr x hx
  simp only [Function.comp, dig, id_eq]
  have e : (UInt8.ofNat (48 + (x.toNat + 1))).toNat = 49 + x.toNat := by
    rw [UInt8.toNat_ofNat']; omega
  rw [e]; omega

theorem trimN_congr {a b : List Int} : ∀ k, (∀ i, i < k → a.getD i 0 = b.getD i 0) → trimN a k = trimN b k
  | 0, _ => rfl
  | 1, _ => rfl
  | k + 2, h => by
    simp only [trimN]
    rw [h (k + 1) (by omega), trimN_congr (k + 1) (fun i hi => h i (by omega))]
theorem grow_left {l : List Int} {m i : Nat} (h : i < l.length) : (growL l m).getD i 0 = l.getD i 0 := by
  unfold growL; rw [List.getD_eq_getElem?_getD, List.getElem?_append_left h, ← List.getD_eq_getElem?_getD]
theorem grow_right {l : List Int} {m i : Nat} (h : l.length ≤ i) (hi : i < m) : (growL l m).getD i 0 = (i : Int) := by
  unfold growL
  rw [List.getD_eq_getElem?_getD, List.getElem?_append_right h, List.getElem?_drop, show l.length + (i - l.length) = i by omega]
  simp [idL, hi]
theorem trimN_grow {l : List Int} {m : Nat} (h1 : 1 ≤ l.length) : ∀ d, l.length + d ≤ m → trimN (growL l m) (l.length + d) = trimN l l.length
  | 0, _ => trimN_congr _ fun i hi => grow_left hi
  | d + 1, h => by
    show trimN (growL l m) (l.length + d + 1) = _
    rw [trimN_yes (by omega) (grow_right (by omega) (by omega))]
    exact trimN_grow h1 d (by omega)
theorem grow_perm {n : Nat} {l : List Int} (hl : PermN n l) : PermN 7 (growL l 7) := by
  have h7 := hl.size
  have hln := hl.2
  have hv : ∀ i, i < 7 → (i < n ∧ (growL l 7).getD i 0 = ((pv l i : Nat) : Int) ∧ pv l i < n) ∨ (n ≤ i ∧ (growL l 7).getD i 0 = (i : Int)) := fun i hi => by
    by_cases h : i < n
    · exact .inl ⟨h, (grow_left (by omega)).trans (hl.eq h), hl.lt h⟩
    · exact .inr ⟨by omega, grow_right (by omega) hi⟩
  refine permN_mk (by decide) (by decide) (growL_len (by omega)) (fun i hi => ?_) (fun i j hi hj e => ?_)
  · rcases hv i hi with ⟨_, h, _⟩ | ⟨_, h⟩ <;> omega
  · rcases hv i hi with ⟨a1, a2, a3⟩ | ⟨a1, a2⟩ <;> rcases hv j hj with ⟨b1, b2, b3⟩ | ⟨b1, b2⟩
    · exact hl.inj a1 b1 (by omega)
    · omega
    · omega
    · omega
theorem trim_embed {n : Nat} {l : List Int} (hl : PermN n l) : trimL (embedL l 7) = trimL l := by
  have h7 := hl.size
  have hln := hl.2
  have he : embedL l 7 = growL l 7 := by
    unfold embedL growL
    rw [if_pos ⟨hl.1, inB_mk (by omega) (by omega)⟩]; rfl
  have hg := grow_perm hl
  rw [he, trimL, trimL, if_pos hg.1, if_pos hl.1, trimOf, trimOf, hg.2]
  have := trimN_grow (l := l) (m := 7) (by omega) (7 - l.length) (by omega)
  rw [show l.length + (7 - l.length) = 7 by omega] at this
  rw [this]
  unfold growL
  rw [List.take_append_of_le_length (trimN_le l _)]

end Go.Proofs.Ytfepepakellbbaa
