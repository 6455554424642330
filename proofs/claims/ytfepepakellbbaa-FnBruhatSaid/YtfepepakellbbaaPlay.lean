/-
  Contracts: l1Play, WordPerm, DemazurePerm.
-/
import Derived.Test.YtfepepakellbbaaWord
namespace Go.Proofs.Ytfepepakellbbaa
open Go.RowKit
set_option linter.unusedVariables false

/-- The first j swaps of a word, all of them or those that make longer. -/
def playUp (all : Bool) (word : List Int) (n : Nat) : Nat → List Int
  | 0 => idL n
  | j + 1 =>
    if all = true ∨ (playUp all word n j).getD (word.getD j 0).toNat 0 < (playUp all word n j).getD ((word.getD j 0).toNat + 1) 0
    then swapL (playUp all word n j) (word.getD j 0).toNat ((word.getD j 0).toNat + 1) else playUp all word n j
theorem playUp_len (all : Bool) (word : List Int) (n j : Nat) : (playUp all word n j).length = n := by
  induction j with
  | zero => exact idL_len n
  | succ j ih =>
    simp only [playUp]
    split
    · rw [swapL_len, ih]
    · exact ih
theorem playUp_yes {all : Bool} {word : List Int} {n j k : Nat} (hk : word[j]? = some (k : Int)) (h : all = true ∨ (playUp all word n j).getD k 0 < (playUp all word n j).getD (k + 1) 0) :
    playUp all word n (j + 1) = swapL (playUp all word n j) k (k + 1) := by
  have e : (word.getD j 0).toNat = k := by rw [List.getD_eq_getElem?_getD, hk]; simp
  simp only [playUp, e]
  rw [if_pos h]
theorem playUp_no {all : Bool} {word : List Int} {n j k : Nat} (hk : word[j]? = some (k : Int)) (h : ¬ (all = true ∨ (playUp all word n j).getD k 0 < (playUp all word n j).getD (k + 1) 0)) :
    playUp all word n (j + 1) = playUp all word n j := by
  have e : (word.getD j 0).toNat = k := by rw [List.getD_eq_getElem?_getD, hk]; simp
  simp only [playUp, e]
  rw [if_neg h]
def playL (all : Bool) (n : Int) (word : List Int) : List Int := if wordB n word = true then playUp all word n.toNat word.length else []
theorem word_facts {n : Int} {word : List Int} (h : wordB n word = true) : inB n 1 7 = true ∧ word.length ≤ 60 ∧ ∀ k ∈ word, 0 ≤ k ∧ k ≤ n - 2 := by
  simp only [wordB, Bool.and_eq_true, decide_eq_true_eq, inWord] at h
  exact ⟨h.1.1, h.1.2, h.2⟩

set_option maxHeartbeats 1600000 in
theorem l1Play_c (all : Bool) (n : Int) (v : Value) (l : List Int) (w : World) (hv : IntsV w v l) (hw : wordB n l = true) :
    Calls Try.prog 45 #[.int .i64 n, v, .bool all] w (GivesI w (playUp all l n.toNat l.length)) := by
  obtain ⟨hin, h60, hwd⟩ := word_facts hw
  have hb := inB_true hin
  obtain ⟨q, rfl⟩ : ∃ q : Nat, n = (q : Int) := ⟨n.toNat, by omega⟩
  have hq : q ≤ 7 := by omega
  have hq1 : 1 ≤ q := by omega
  have HI : Hid (identL (q : Int) = playUp all l q 0) := Lib.hid (identL_in hin)
  have hv0 := hv
  obtain ⟨m, ao, b, off, c, rfl, HL, hnc, hcm, ha, hc, hn⟩ := hv.open
  rw [Int.toNat_natCast]
  have HW := Lib.hid hwd
  have HC := Lib.hid hc
  clear hcm hin hwd hw hb h60 hc
  go_enter Try.func45, Try.ntmps45
  go_wp2_with fail
  refine (sIdent_c _ _).mono ?_
  rintro e w1 ⟨r, rfl, o1, b1⟩
  rw [HI.out] at o1
  go_wp2_with fail
  go_loopw [7, 8] (fun u i wr => ∃ j : Nat, j ≤ m ∧ i = .int .i64 j ∧ OwnI w.heap.size wr u (playUp all l q j) ∧ Below w.heap.size w wr) (fun _ i _ => m - (intOf i).toNat)
  case atStart => exact ⟨0, Nat.zero_le _, rfl, o1, b1⟩
  case round =>
    obtain ⟨j, hj, rfl, hO, hB⟩ := hrel
    clear o1 b1
    have hsz := hB.size
    by_cases hlt : j < m
    · obtain rfl := ha (by omega)
      obtain ⟨y, hy⟩ : ∃ y, y = l.getD j 0 := ⟨_, rfl⟩
      have hcj : wr.cell? ⟨b, off + j, none⟩ = some (.int .i64 y) := by
        rw [hy, hB.cell (p := ⟨b, off + j, none⟩) (World.block_lt_of_cell? _ _ (HC.out j hlt))]; exact HC.out j hlt
      have hyj := getElem?_of_getD hy (by rw [← HL.out]; exact hlt)
      have hyr := HW.out y (List.mem_of_getElem? hyj)
      obtain ⟨k, rfl⟩ : ∃ k : Nat, y = (k : Int) := ⟨y.toNat, by omega⟩
      have HY := Lib.hid hyj
      have hk2 : k + 1 < q := by omega
      obtain ⟨g, cap, rfl, hgB, hgw, hgc, _⟩ := hO.row (by rw [playUp_len]; omega)
      have HP := Lib.hid (playUp_len all l q j)
      rw [HP.out] at hO hgc ⊢
      have hx := hO.cellAt k (by rw [HP.out]; omega)
      have hz := hO.cellAt (k + 1) (by rw [HP.out]; exact hk2)
      obtain ⟨x, hxx⟩ : ∃ x, x = (playUp all l q j).getD k 0 := ⟨_, rfl⟩
      obtain ⟨z, hzz⟩ : ∃ z, z = (playUp all l q j).getD (k + 1) 0 := ⟨_, rfl⟩
      rw [← hxx] at hx
      rw [← hzz] at hz
      have HX := Lib.hid hxx
      have HZ := Lib.hid hzz
      have hki : (k : Int) < (q : Int) := by omega
      have hki2 : (k : Int) + 1 < (q : Int) := by omega
      have hj3 : IntKind.i64.wrap ((k : Int) + 1) = (k : Int) + 1 := IntWalk.i64_in _ (by omega)
      have hj4 : 0 ≤ (k : Int) + 1 := by omega
      have hj5 : ((k : Int) + 1).toNat = k + 1 := by omega
      have hV := hO.ints
      clear hyr hyj hy hxx hzz ha
      have swapCase : ∀ (nq : Nat), Calls Try.prog 70 #[.slice (some ⟨g, 0, none⟩) q cap, .int .i64 (k : Int), .int .i64 ((k : Int) + 1)] (wr.drewN nq) (GivesI (wr.drewN nq) (swapL (playUp all l q j) k (k + 1))) := by
        intro nq
        have := l1Swap_c (.slice (some ⟨g, 0, none⟩) q cap) (playUp all l q j) k (k + 1) (wr.drewN nq) hV (by rw [HP.out]; omega) (by rw [HP.out]; omega)
        have e : ((k + 1 : Nat) : Int) = (k : Int) + 1 := by omega
        rw [e] at this
        exact this
      have HS := Lib.hid swapCase
      clear swapCase
      by_cases hgo : all = true ∨ x < z
      · have e := Lib.hid (playUp_yes (all := all) HY.out (by rw [← HX.out, ← HZ.out]; exact hgo))
        have hg2 : all = true ∨ (all = false ∧ decide (x < z) = true) := by
          cases all with
          | true => exact .inl rfl
          | false => exact .inr ⟨rfl, by rcases hgo with h | h; exact absurd h (by simp); simpa using h⟩
        clear hgo
        rcases hg2 with rfl | ⟨rfl, hd⟩
        all_goals
          go_wp2_with fail
          go_quiet (fail)
          go_wp2_with fail
          refine (HS.out nq).mono ?_
          rintro e2 w3 ⟨r3, rfl, o3, b3⟩
          have hB3 : Below w.heap.size w w3 := hB.trans (((Below.refl wr.heap.size wr).trans (below_drewN (Below.refl _ _) nq)).trans b3 |>.mono hsz)
          have o4 := o3.mono (B' := w.heap.size) hsz
          rw [← e.out] at o4
          clear hO hB o3 b3 hV hj3 hj4 hj5
          go_wp2_with fail
          go_roundw
          case rel => exact ⟨j + 1, by omega, by go_num, o4, hB3⟩
          case measure => simp [intOf]; omega
      · have e := Lib.hid (playUp_no (all := all) HY.out (by rw [← HX.out, ← HZ.out]; exact hgo))
        have hd : decide (x < z) = false := by simp only [decide_eq_false_iff_not]; exact fun h => hgo (.inr h)
        obtain rfl : all = false := by cases all with
          | true => exact absurd (.inl rfl) hgo
          | false => rfl
        clear hgo
        go_wp2_with fail
        go_quiet (fail)
        have hB3 := below_drewN hB nq
        have o4 := hO
        rw [← e.out] at o4
        clear hO hB hV hj3 hj4 hj5
        go_wp2_with fail
        go_roundw
        case rel => exact ⟨j + 1, by omega, by go_num, o4, hB3⟩
        case measure => simp [intOf]; omega
    · obtain rfl : j = m := by omega
      clear ha
      go_wp2_with fail
      go_ret
      rw [← HL.out]
      exact ⟨_, rfl, hO, hB⟩

set_option maxHeartbeats 1600000 in
theorem iWordPerm_c (n : Int) (v : Value) (l : List Int) (w : World) (hv : IntsV w v l) :
    Calls Try.prog 32 #[.int .i64 n, v] w (GivesI w (playL true n l)) := by
  cases hw : wordB n l with
  | false =>
    have HR : Hid (playL true n l = []) := Lib.hid (by simp [playL, hw])
    go_enter Try.func32, Try.ntmps32
    go_wp2_with fail
    refine (isWord_c _ _ _ _ hv).mono ?_
    rintro e w1 ⟨rfl, rfl⟩
    go_wp2_with fail
    go_ret
    rw [HR.out]
    exact ⟨_, rfl, OwnI.nil _ _, Below.refl _ _⟩
  | true =>
    obtain ⟨hin, h60, hwd⟩ := word_facts hw
    have hb := inB_true hin
    obtain ⟨q, rfl⟩ : ∃ q : Nat, n = (q : Int) := ⟨n.toNat, by omega⟩
    have HR : Hid (playL true (q : Int) l = playUp true l q l.length) := Lib.hid (by simp [playL, hw])
    have hq : q ≤ 7 := by omega
    have hq1 : 1 ≤ q := by omega
    have HI : Hid (identL (q : Int) = playUp true l q 0) := Lib.hid (identL_in hin)
    have hv0 := hv
    obtain ⟨m, ao, b, off, c, rfl, HL, hnc, hcm, ha, hc, hn⟩ := hv.open
    have HW := Lib.hid hwd
    have HC := Lib.hid hc
    clear hcm hin hwd hb h60 hc
    go_enter Try.func32, Try.ntmps32
    go_wp2_with fail
    refine (isWord_c _ _ _ _ hv).mono ?_
    rintro e w0 ⟨rfl, rfl⟩
    go_wp2_with fail
    refine (iIdent_c _ _).mono ?_
    rintro e w1 ⟨r, rfl, o1, b1⟩
    rw [HI.out] at o1
    go_wp2_with fail
    go_loopw [5, 16] (fun u i wr => ∃ j : Nat, j ≤ m ∧ i = .int .i64 j ∧ OwnI w.heap.size wr u (playUp true l q j) ∧ Below w.heap.size w wr) (fun _ i _ => m - (intOf i).toNat)
    case atStart => exact ⟨0, Nat.zero_le _, rfl, o1, b1⟩
    case round =>
      obtain ⟨j, hj, rfl, hO, hB⟩ := hrel
      clear o1 b1
      have hsz := hB.size
      by_cases hlt : j < m
      · obtain rfl := ha (by omega)
        obtain ⟨y, hy⟩ : ∃ y, y = l.getD j 0 := ⟨_, rfl⟩
        have hcj : wr.cell? ⟨b, off + j, none⟩ = some (.int .i64 y) := by
          rw [hy, hB.cell (p := ⟨b, off + j, none⟩) (World.block_lt_of_cell? _ _ (HC.out j hlt))]; exact HC.out j hlt
        have hyj := getElem?_of_getD hy (by rw [← HL.out]; exact hlt)
        have hyr := HW.out y (List.mem_of_getElem? hyj)
        obtain ⟨k, rfl⟩ : ∃ k : Nat, y = (k : Int) := ⟨y.toNat, by omega⟩
        have HY := Lib.hid hyj
        have hk2 : k + 1 < q := by omega
        obtain ⟨g, cap, rfl, hgB, hgw, hgc, _⟩ := hO.row (by rw [playUp_len]; omega)
        have HP := Lib.hid (playUp_len true l q j)
        rw [HP.out] at hO hgc ⊢
        have hV := hO.ints
        clear hyr hyj hy ha
        have swapCase : ∀ (wx : World), IntsV wx (.slice (some ⟨g, 0, none⟩) q cap) (playUp true l q j) → Calls Try.prog 47 #[.slice (some ⟨g, 0, none⟩) q cap, .int .i64 (k : Int), .int .i64 ((k : Int) + 1)] wx (GivesI wx (swapL (playUp true l q j) k (k + 1))) := by
          intro wx hx
          have := exchanged_c (.slice (some ⟨g, 0, none⟩) q cap) (playUp true l q j) k (k + 1) wx hx (by rw [HP.out]; omega) (by rw [HP.out]; omega) (by omega)
          have e : ((k + 1 : Nat) : Int) = (k : Int) + 1 := by omega
          rw [e] at this
          exact this
        have HS := Lib.hid swapCase
        clear swapCase
        have e := Lib.hid (playUp_yes (all := true) (n := q) HY.out (.inl rfl))
        go_wp2_with fail
        refine (HS.out _ hV).mono ?_
        rintro e2 w3 ⟨r3, rfl, o3, b3⟩
        have hB3 := below_step hB b3 hsz
        have o4 := o3.mono (B' := w.heap.size) hsz
        rw [← e.out] at o4
        clear hO hB o3 b3 hV
        go_wp2_with fail
        go_roundw
        case rel => exact ⟨j + 1, by omega, by go_num, o4, hB3⟩
        case measure => simp [intOf]; omega
      · obtain rfl : j = m := by omega
        clear ha
        go_wp2_with fail
        go_ret
        rw [HR.out, ← HL.out]
        exact ⟨_, rfl, hO, hB⟩

set_option maxHeartbeats 1600000 in
theorem iDemazure_c (n : Int) (v : Value) (l : List Int) (w : World) (hv : IntsV w v l) :
    Calls Try.prog 33 #[.int .i64 n, v] w (GivesI w (playL false n l)) := by
  cases hw : wordB n l with
  | false =>
    have HR : Hid (playL false n l = []) := Lib.hid (by simp [playL, hw])
    go_enter Try.func33, Try.ntmps33
    go_wp2_with fail
    refine (isWord_c _ _ _ _ hv).mono ?_
    rintro e w1 ⟨rfl, rfl⟩
    go_wp2_with fail
    go_ret
    rw [HR.out]
    exact ⟨_, rfl, OwnI.nil _ _, Below.refl _ _⟩
  | true =>
    obtain ⟨hin, h60, hwd⟩ := word_facts hw
    have hb := inB_true hin
    obtain ⟨q, rfl⟩ : ∃ q : Nat, n = (q : Int) := ⟨n.toNat, by omega⟩
    have HR : Hid (playL false (q : Int) l = playUp false l q l.length) := Lib.hid (by simp [playL, hw])
    have hq : q ≤ 7 := by omega
    have hq1 : 1 ≤ q := by omega
    have HI : Hid (identL (q : Int) = playUp false l q 0) := Lib.hid (identL_in hin)
    have hv0 := hv
    obtain ⟨m, ao, b, off, c, rfl, HL, hnc, hcm, ha, hc, hn⟩ := hv.open
    have HW := Lib.hid hwd
    have HC := Lib.hid hc
    clear hcm hin hwd hb h60 hc
    go_enter Try.func33, Try.ntmps33
    go_wp2_with fail
    refine (isWord_c _ _ _ _ hv).mono ?_
    rintro e w0 ⟨rfl, rfl⟩
    go_wp2_with fail
    refine (iIdent_c _ _).mono ?_
    rintro e w1 ⟨r, rfl, o1, b1⟩
    rw [HI.out] at o1
    go_wp2_with fail
    go_loopw [5, 16] (fun u i wr => ∃ j : Nat, j ≤ m ∧ i = .int .i64 j ∧ OwnI w.heap.size wr u (playUp false l q j) ∧ Below w.heap.size w wr) (fun _ i _ => m - (intOf i).toNat)
    case atStart => exact ⟨0, Nat.zero_le _, rfl, o1, b1⟩
    case round =>
      obtain ⟨j, hj, rfl, hO, hB⟩ := hrel
      clear o1 b1
      have hsz := hB.size
      by_cases hlt : j < m
      · obtain rfl := ha (by omega)
        obtain ⟨y, hy⟩ : ∃ y, y = l.getD j 0 := ⟨_, rfl⟩
        have hcj : wr.cell? ⟨b, off + j, none⟩ = some (.int .i64 y) := by
          rw [hy, hB.cell (p := ⟨b, off + j, none⟩) (World.block_lt_of_cell? _ _ (HC.out j hlt))]; exact HC.out j hlt
        have hyj := getElem?_of_getD hy (by rw [← HL.out]; exact hlt)
        have hyr := HW.out y (List.mem_of_getElem? hyj)
        obtain ⟨k, rfl⟩ : ∃ k : Nat, y = (k : Int) := ⟨y.toNat, by omega⟩
        have HY := Lib.hid hyj
        have hk2 : k + 1 < q := by omega
        obtain ⟨g, cap, rfl, hgB, hgw, hgc, _⟩ := hO.row (by rw [playUp_len]; omega)
        have HP := Lib.hid (playUp_len false l q j)
        rw [HP.out] at hO hgc ⊢
        have hV := hO.ints
        clear hyr hyj hy ha
        have swapCase : ∀ (wx : World), IntsV wx (.slice (some ⟨g, 0, none⟩) q cap) (playUp false l q j) → Calls Try.prog 47 #[.slice (some ⟨g, 0, none⟩) q cap, .int .i64 (k : Int), .int .i64 ((k : Int) + 1)] wx (GivesI wx (swapL (playUp false l q j) k (k + 1))) := by
          intro wx hx
          have := exchanged_c (.slice (some ⟨g, 0, none⟩) q cap) (playUp false l q j) k (k + 1) wx hx (by rw [HP.out]; omega) (by rw [HP.out]; omega) (by omega)
          have e : ((k + 1 : Nat) : Int) = (k : Int) + 1 := by omega
          rw [e] at this
          exact this
        have HS := Lib.hid swapCase
        clear swapCase
        have hx := hO.cellAt k (by rw [HP.out]; omega)
        have hz := hO.cellAt (k + 1) (by rw [HP.out]; exact hk2)
        obtain ⟨x, hxx⟩ : ∃ x, x = (playUp false l q j).getD k 0 := ⟨_, rfl⟩
        obtain ⟨z, hzz⟩ : ∃ z, z = (playUp false l q j).getD (k + 1) 0 := ⟨_, rfl⟩
        rw [← hxx] at hx
        rw [← hzz] at hz
        have HX := Lib.hid hxx
        have HZ := Lib.hid hzz
        have hki : (k : Int) < (q : Int) := by omega
        have hki2 : (k : Int) + 1 < (q : Int) := by omega
        have hj3 : IntKind.i64.wrap ((k : Int) + 1) = (k : Int) + 1 := IntWalk.i64_in _ (by omega)
        have hj4 : 0 ≤ (k : Int) + 1 := by omega
        have hj5 : ((k : Int) + 1).toNat = k + 1 := by omega
        clear hxx hzz
        by_cases hgo : x < z
        · have e := Lib.hid (playUp_yes (all := false) HY.out (by rw [← HX.out, ← HZ.out]; exact .inr hgo))
          have hd : decide (x < z) = true := by simpa using hgo
          go_wp2_with fail
          go_quiet (fail)
          have hVn : IntsV (wr.drewN nq) _ (playUp false l q j) := hV
          have hBn := below_drewN hB nq
          clear hj3 hj4 hj5
          go_wp2_with fail
          refine (HS.out _ hVn).mono ?_
          rintro e2 w3 ⟨r3, rfl, o3, b3⟩
          have hB3 := below_step hBn b3 hsz
          have o4 := o3.mono (B' := w.heap.size) hsz
          rw [← e.out] at o4
          clear hO hB o3 b3 hV hVn hBn
          go_wp2_with fail
          go_roundw
          case rel => exact ⟨j + 1, by omega, by go_num, o4, hB3⟩
          case measure => simp [intOf]; omega
        · have e := Lib.hid (playUp_no (all := false) HY.out (by rw [← HX.out, ← HZ.out]; simp; omega))
          have hd : decide (x < z) = false := by simpa using hgo
          go_wp2_with fail
          go_quiet (fail)
          have hB3 := below_drewN hB nq
          have o4 := hO
          rw [← e.out] at o4
          clear hO hB hV hj3 hj4 hj5
          go_wp2_with fail
          go_roundw
          case rel => exact ⟨j + 1, by omega, by go_num, o4, hB3⟩
          case measure => simp [intOf]; omega
      · obtain rfl : j = m := by omega
        clear ha
        go_wp2_with fail
        go_ret
        rw [HR.out, ← HL.out]
        exact ⟨_, rfl, hO, hB⟩

end Go.Proofs.Ytfepepakellbbaa
