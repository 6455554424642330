/-
  Contracts: PartOfDegree.
-/
import Derived.Test.YthgigbihpcelpaaDeg
import Derived.Test.YthgigbihpcelpaaPushT
namespace Go.Proofs.Ythgigbihpcelpaa
open Go.RowKit
set_option linter.unusedVariables false

def partF (ts : TermL) (g : Int) : TermL := ts.filter (fun t => decide (t.1.sum = g))
noncomputable def partL (ts : TermL) (g : Int) : TermL := if polyB ts = true then partF ts g else []
theorem partL_yes {ts : TermL} {g : Int} (h : polyB ts = true) : partL ts g = partF ts g := if_pos h
theorem partL_no {ts : TermL} {g : Int} (h : polyB ts = false) : partL ts g = [] := if_neg (by rw [h]; simp)
theorem partF_yes {ts : TermL} {g : Int} {j : Nat} {e : List Int} {d : Int} (h : ts[j]? = some (e, d)) (hs : e.sum = g) : partF (ts.take (j + 1)) g = partF (ts.take j) g ++ [(e, d)] := by
  rw [List.take_add_one, h, partF, List.filter_append]; simp [partF, hs]
theorem partF_no {ts : TermL} {g : Int} {j : Nat} {e : List Int} {d : Int} (h : ts[j]? = some (e, d)) (hs : e.sum ≠ g) : partF (ts.take (j + 1)) g = partF (ts.take j) g := by
  rw [List.take_add_one, h, partF, List.filter_append]; simp [partF, hs]
theorem tLen_part : ∀ (ts : TermL) (g : Int), tLen (partF ts g) ≤ tLen ts
  | [], g => Nat.le_refl _
  | t :: ts, g => by
    have ih := tLen_part ts g
    by_cases h : t.1.sum = g
    · have : partF (t :: ts) g = t :: partF ts g := by simp [partF, h]
      rw [this]; simp only [tLen]; omega
    · have : partF (t :: ts) g = partF ts g := by simp [partF, h]
      rw [this]; simp only [tLen]; omega

set_option maxHeartbeats 1600000 in
theorem sPart_c (v : Value) (ts : TermL) (g : Int) (w : World) (hv : TermsV w v ts) :
    Calls Try.prog 29 #[v, .int .i64 g] w (GivesT w (partL ts g)) := by
  obtain ⟨n, ao, b, c, rfl, HL, hnc, hcm, ha, hc, hn⟩ := hv.open
  have HC := Lib.hid hc
  have HTL := Lib.hid hv.len
  clear hc hcm
  cases hP : polyB ts with
  | false =>
    have HR := Lib.hid (partL_no (g := g) hP)
    go_enter Try.func29, Try.ntmps29
    go_wp2_with fail
    refine (sPolyOk_c _ _ _ hv).mono ?_
    rw [hP]
    rintro e w1 ⟨rfl, b1⟩
    go_wp2_with fail
    go_ret
    rw [HR.out]
    exact ⟨_, rfl, OwnP.nil _ _, b1⟩
  | true =>
    have HP := Lib.hid (polyB_all hP)
    have HR := Lib.hid (partL_yes (g := g) hP)
    go_enter Try.func29, Try.ntmps29
    go_wp2_with fail
    refine (sPolyOk_c _ _ _ hv).mono ?_
    rw [hP]
    rintro e w1 ⟨rfl, b1⟩
    clear hP
    have hO : OwnP w.heap.size (w1.alloc (Obj.cells #[] 46)) (.slice (some ⟨w1.heap.size, 0, none⟩) 0 0) (partF (ts.take 0) g) := OwnP.litAt w1 b1.size
    have hS := b1.alloc b1.size (Obj.cells #[] 46)
    go_wp2_with fail
    go_loopw [5, 6] (fun ov iv wr => ∃ (j : Nat), j ≤ n ∧ iv = .int .i64 j ∧ OwnP w.heap.size wr ov (partF (ts.take j) g) ∧ Below w.heap.size w wr) (fun _ iv _ => n - (intOf iv).toNat)
    case atStart => exact ⟨0, Nat.zero_le _, rfl, hO, hS⟩
    case round =>
      obtain ⟨j, hj, rfl, hOj, hB⟩ := hrel
      clear hO hS
      by_cases hlt : j < n
      · obtain rfl := ha (by omega)
        obtain ⟨x, hx⟩ : ∃ x, ts[j]? = some x := ⟨_, List.getElem?_eq_getElem (by rw [← HL.out]; exact hlt)⟩
        obtain ⟨e, d⟩ := x
        obtain ⟨q, h1, h2, hq⟩ := HC.out j e d hx
        have k1 := (hB.cell (World.block_lt_of_cell? _ _ h1)).trans h1
        have k2 := (hB.cell (World.block_lt_of_cell? _ _ h2)).trans h2
        have HX := Lib.hid hx
        have HO := Lib.hid (HP.out j e d hx)
        have hj0 : (0 : Int) ≤ (j : Int) := Int.natCast_nonneg _
        have hj1 : (j : Int) < (n : Int) := by omega
        obtain ⟨qo, qn, qc, rfl⟩ := hq.shape
        have FB := hB
        have hOW := hOj
        have c1 := k1
        have c2 := k2
        have hne := hOj.ne b (.inl (World.block_lt_of_cell? _ _ (HC.out j e d hx).choose_spec.1))
        clear h1 h2 hx
        obtain ⟨s, hs⟩ : ∃ s, s = e.sum := ⟨_, rfl⟩
        have HSS := Lib.hid hs
        go_wp2_with fail
        refine (l1Sum_c _ _ _ (hq.kept FB) (termOk_small HO.out) (by rw [HO.out.1]; decide)).mono ?_
        rw [← hs]
        clear hs
        rintro e2 w2 ⟨rfl, rfl⟩
        by_cases hsg : s = g
        · have hsg' : (s == g) = true := by simpa using hsg
          have HF := Lib.hid (partF_yes (g := g) HX.out (by rw [← HSS.out]; exact hsg))
          have HLEN : Hid (tLen (partF (ts.take j) g ++ [(e, d)]) ≤ 1099511627776) := Lib.hid (by rw [← HF.out]; exact Nat.le_trans (tLen_part _ _) (Nat.le_trans (tLen_take_le _ _) HTL.out))
          have hOD := hOW.kept (below_drewT (Below.refl _ _))
          have hqD := (hq.kept FB).drew
          have hsz := FB.size
          generalize hPF : partF (ts.take j) g = PF at HF HLEN hOD hOW
          have HPF := Lib.hid hPF
          clear hPF hsg HP HO
          go_wp2_with fail
          go_region_held3 (fun w' => Below w.heap.size w w' ∧ w'.cell? ⟨b, j * 2, none⟩ = some (.slice qo qn qc) ∧ w'.cell? ⟨b, j * 2 + 1, none⟩ = some (.int .i64 d))
            (first
              | exact keep2_drew FB c1 c2
              | exact keep2_call b1 (by assumption) (Nat.le_refl _)
              | exact keep2_push b3 hk3 (by assumption) hne hne
              | exact keep2_alloc _ (by assumption) (Nat.le_refl _))
            (first
              | (refine step_pushT (by rfl) _ _ (by rfl) hOD b1 o1 hsz (by rfl) (by rfl) HLEN.out ?_; intro v3 w3 o3 b3 hk3)
              | (go_at_call 48; refine (l1Ints_c _ _ _ hqD).mono ?_; rintro e1 w1 ⟨r, rfl, o1, b1⟩; obtain ⟨ro, rn, rc, rfl⟩ := o1.ints.shape))
          all_goals
            have FF := held2_below (p := ⟨b, j * 2, none⟩) (q := ⟨b, j * 2 + 1, none⟩) (x := .slice qo qn qc) (y := .int .i64 d) (B := w.heap.size) (w := w) (W := w3) (by assumption)
            go_wp2_with fail
            go_roundw
            case rel => exact ⟨j + 1, by omega, by go_num, by rw [HF.out]; exact o3, FF⟩
            case measure => simp [intOf]; omega
        · have hsg' : (s == g) = false := by simpa using hsg
          have HF := Lib.hid (partF_no (g := g) HX.out (by rw [← HSS.out]; exact hsg))
          go_wp2_with fail
          go_roundw
          case rel => exact ⟨j + 1, by omega, by go_num, by rw [HF.out]; exact hOW, FB⟩
          case measure => simp [intOf]; omega
      · obtain rfl : j = n := by omega
        go_wp2_with fail
        go_ret
        rw [HR.out, show ts = ts.take ts.length from by rw [List.take_length], ← HL.out]
        exact ⟨_, rfl, hOj, hB⟩

set_option maxHeartbeats 1600000 in
theorem iPart_c (v : Value) (ts : TermL) (g : Int) (w : World) (hv : TermsV w v ts) :
    Calls Try.prog 30 #[v, .int .i64 g] w (GivesT w (partL ts g)) := by
  obtain ⟨n, ao, b, c, rfl, HL, hnc, hcm, ha, hc, hn⟩ := hv.open
  have HC := Lib.hid hc
  have HTL := Lib.hid hv.len
  clear hc hcm
  cases hP : polyB ts with
  | false =>
    have HR := Lib.hid (partL_no (g := g) hP)
    go_enter Try.func30, Try.ntmps30
    go_wp2_with fail
    have B1 := (Below.refl w.heap.size w).alloc (Nat.le_refl _) (Obj.cells #[] 46)
    refine (iPolyOk_c _ _ _ (hv.kept B1)).mono ?_
    rw [hP]
    rintro e w1 ⟨rfl, b1⟩
    go_wp2_with fail
    go_ret
    rw [HR.out]
    exact ⟨_, rfl, (OwnP.lit w).kept b1, below_step B1 b1 B1.size⟩
  | true =>
    have HP := Lib.hid (polyB_all hP)
    have HR := Lib.hid (partL_yes (g := g) hP)
    go_enter Try.func30, Try.ntmps30
    go_wp2_with fail
    have B1 := (Below.refl w.heap.size w).alloc (Nat.le_refl _) (Obj.cells #[] 46)
    refine (iPolyOk_c _ _ _ (hv.kept B1)).mono ?_
    rw [hP]
    rintro e w1 ⟨rfl, b1⟩
    clear hP
    have hO : OwnP w.heap.size w1 (.slice (some ⟨w.heap.size, 0, none⟩) 0 0) (partF (ts.take 0) g) := (OwnP.lit w).kept b1
    have hS := below_step B1 b1 B1.size
    go_wp2_with fail
    go_loopw [5, 15] (fun ov iv wr => ∃ (j : Nat), j ≤ n ∧ iv = .int .i64 j ∧ OwnP w.heap.size wr ov (partF (ts.take j) g) ∧ Below w.heap.size w wr) (fun _ iv _ => n - (intOf iv).toNat)
    case atStart => exact ⟨0, Nat.zero_le _, rfl, hO, hS⟩
    case round =>
      obtain ⟨j, hj, rfl, hOj, hB⟩ := hrel
      clear hO hS
      by_cases hlt : j < n
      · obtain rfl := ha (by omega)
        obtain ⟨x, hx⟩ : ∃ x, ts[j]? = some x := ⟨_, List.getElem?_eq_getElem (by rw [← HL.out]; exact hlt)⟩
        obtain ⟨e, d⟩ := x
        obtain ⟨q, h1, h2, hq⟩ := HC.out j e d hx
        have k1 := (hB.cell (World.block_lt_of_cell? _ _ h1)).trans h1
        have k2 := (hB.cell (World.block_lt_of_cell? _ _ h2)).trans h2
        have HX := Lib.hid hx
        have HO := Lib.hid (HP.out j e d hx)
        have hj0 : (0 : Int) ≤ (j : Int) := Int.natCast_nonneg _
        have hj1 : (j : Int) < (n : Int) := by omega
        obtain ⟨qo, qn, qc, rfl⟩ := hq.shape
        have FB := hB.alloc hB.size (Obj.cells #[.slice qo qn qc, .int .i64 d] 46)
        have hOW := hOj.kept ((Below.refl _ _).alloc (Nat.le_refl _) (Obj.cells #[.slice qo qn qc, .int .i64 d] 46))
        have c1 : (wr.alloc (Obj.cells #[.slice qo qn qc, .int .i64 d] 46)).cell? ⟨wr.heap.size, 0, none⟩ = some (.slice qo qn qc) := by simp
        have c2 : (wr.alloc (Obj.cells #[.slice qo qn qc, .int .i64 d] 46)).cell? ⟨wr.heap.size, 1, none⟩ = some (.int .i64 d) := by simp
        have hne := hOj.ne wr.heap.size (.inr (Nat.le_refl _))
        clear h1 h2 hx
        obtain ⟨s, hs⟩ : ∃ s, s = e.sum := ⟨_, rfl⟩
        have HSS := Lib.hid hs
        go_wp2_with fail
        refine (degree_c _ _ _ (hq.kept FB) (termOk_small HO.out) (by rw [HO.out.1]; decide)).mono ?_
        rw [← hs]
        clear hs
        rintro e2 w2 ⟨rfl, rfl⟩
        by_cases hsg : s = g
        · have hsg' : (s == g) = true := by simpa using hsg
          have HF := Lib.hid (partF_yes (g := g) HX.out (by rw [← HSS.out]; exact hsg))
          have HLEN : Hid (tLen (partF (ts.take j) g ++ [(e, d)]) ≤ 1099511627776) := Lib.hid (by rw [← HF.out]; exact Nat.le_trans (tLen_part _ _) (Nat.le_trans (tLen_take_le _ _) HTL.out))
          have hOD := hOW.kept (below_drewT (Below.refl _ _))
          have hqD := (hq.kept FB).drew
          have hsz := FB.size
          generalize hPF : partF (ts.take j) g = PF at HF HLEN hOD hOW
          have HPF := Lib.hid hPF
          clear hPF hsg HP HO
          go_wp2_with fail
          go_region_held3 (fun w' => Below w.heap.size w w' ∧ w'.cell? ⟨wr.heap.size, 0, none⟩ = some (.slice qo qn qc) ∧ w'.cell? ⟨wr.heap.size, 1, none⟩ = some (.int .i64 d))
            (first
              | exact keep2_drew FB c1 c2
              | exact keep2_call b1 (by assumption) (Nat.le_refl _)
              | exact keep2_push b3 hk3 (by assumption) hne hne
              | exact keep2_alloc _ (by assumption) (Nat.le_refl _))
            (first
              | (refine step_pushT (by rfl) _ _ (by rfl) hOD b1 o1 hsz (by rfl) (by rfl) HLEN.out ?_; intro v3 w3 o3 b3 hk3)
              | (go_at_call 43; refine (cloneI_c _ _ _ hqD).mono ?_; rintro e1 w1 ⟨r, rfl, o1, b1⟩; obtain ⟨ro, rn, rc, rfl⟩ := o1.ints.shape))
          all_goals
            have FF := held2_below (p := ⟨wr.heap.size, 0, none⟩) (q := ⟨wr.heap.size, 1, none⟩) (x := .slice qo qn qc) (y := .int .i64 d) (B := w.heap.size) (w := w) (W := w3) (by assumption)
            go_wp2_with fail
            go_roundw
            case rel => exact ⟨j + 1, by omega, by go_num, by rw [HF.out]; exact o3, FF⟩
            case measure => simp [intOf]; omega
        · have hsg' : (s == g) = false := by simpa using hsg
          have HF := Lib.hid (partF_no (g := g) HX.out (by rw [← HSS.out]; exact hsg))
          go_wp2_with fail
          go_roundw
          case rel => exact ⟨j + 1, by omega, by go_num, by rw [HF.out]; exact hOW, FB⟩
          case measure => simp [intOf]; omega
      · obtain rfl : j = n := by omega
        go_wp2_with fail
        go_ret
        rw [HR.out, show ts = ts.take ts.length from by rw [List.take_length], ← HL.out]
        exact ⟨_, rfl, hOj, hB⟩

end Go.Proofs.Ythgigbihpcelpaa
