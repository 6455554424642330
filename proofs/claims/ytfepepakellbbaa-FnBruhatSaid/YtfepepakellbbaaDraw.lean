/-
  Contracts: the cursor of a draw, and what is drawn with it.
-/
import Derived.Test.YtfepepakellbbaaDec
import Derived.Test.YtfepepakellbbaaParts
namespace Go.Proofs.Ytfepepakellbbaa
open Go.RowKit
set_option linter.unusedVariables false

/-- A cursor lies in the block g, below B. -/
def Cur (B : Nat) (w : World) (g : Nat) : Prop :=
  g < B ∧ B ≤ w.heap.size ∧ ∃ (ao : Option Addr) (n c b off : Nat) (i h : Int), w.cell? ⟨g, 0, none⟩ = some (.slice ao n c) ∧ n ≤ 1048576 ∧ (0 < n → ao = some ⟨b, off, none⟩ ∧ b ≠ g ∧ b < B) ∧
    (∀ j, j < n → ∃ x : Nat, x < 256 ∧ w.cell? ⟨b, off + j, none⟩ = some (.int .u8 x)) ∧ w.cell? ⟨g, 1, none⟩ = some (.int .i64 i) ∧ 0 ≤ i ∧ i ≤ n ∧ w.cell? ⟨g, 2, none⟩ = some (.int .i64 h) ∧
    ∀ j, w.frozen? ⟨g, j, none⟩ = false
theorem Cur.kept {B : Nat} {w w' : World} {g : Nat} (h : Cur B w g) (hb : Below B w w') : Cur B w' g := by
  obtain ⟨hg, hB, ao, n, c, b, off, i, hh, h1, h2, h3, h4, h5, h6, h7, h8, h9⟩ := h
  refine ⟨hg, Nat.le_trans hB hb.size, ao, n, c, b, off, i, hh, (hb.cell hg).trans h1, h2, h3, fun j hj => ?_, (hb.cell (p := ⟨g, 1, none⟩) hg).trans h5, h6, h7, (hb.cell (p := ⟨g, 2, none⟩) hg).trans h8, fun j => (hb.frozen (p := ⟨g, j, none⟩) hg).trans (h9 j)⟩
  obtain ⟨x, hx, hc⟩ := h4 j hj
  exact ⟨x, hx, (hb.cell (p := ⟨b, off + j, none⟩) (h3 (by omega)).2.2).trans hc⟩
theorem Cur.size {B : Nat} {w : World} {g : Nat} (h : Cur B w g) : B ≤ w.heap.size := h.2.1
theorem Cur.lt {B : Nat} {w : World} {g : Nat} (h : Cur B w g) : g < B := h.1
theorem below_only {lo hi : Nat} {w w' : World} (h : Below w.heap.size w w') : Only lo hi w w' := ⟨h.os, h.tape, h.output, h.size, fun k hk _ => h.block k hk⟩
/-- A list of the call's own is as it was while the cursor turns. -/
theorem OwnI.turned {B g : Nat} {w w' : World} {v : Value} {l : List Int} (h : OwnI B w v l) (hg : g < B) (ho : Only g (g + 1) w w') : OwnI B w' v l := h.only ho (fun k hk => by have := (h.block k hk).1; omega)
theorem IntsV.turned {g : Nat} {w w' : World} {v : Value} {l : List Int} {B : Nat} (h : OwnI B w v l) (hg : g < B) (ho : Only g (g + 1) w w') : IntsV w' v l := (h.turned hg ho).ints

theorem Only.then {lo hi : Nat} {w w2 w3 : World} (h : Only lo hi w w2) (hb : Below w.heap.size w2 w3) : Only lo hi w w3 :=
  ⟨hb.os.trans h.os, hb.tape.trans h.tape, hb.output.trans h.output, Nat.le_trans h.size hb.size, fun k hk hne => (hb.block k hk).trans (h.block k hk hne)⟩
def GivesCur (B : Nat) (w : World) (g : Nat) (P : Int → Prop) (e : Ending) (w' : World) : Prop := ∃ x, e = .returned (.int .i64 x) ∧ P x ∧ Cur B w' g ∧ Only g (g + 1) w w'

theorem and255 (x : Int) : 0 ≤ bits .and .i64 x 255 ∧ bits .and .i64 x 255 < 256 := by
  have h : bits .and .i64 x 255 = IntKind.i64.wrap ((BitVec.ofInt 64 x &&& BitVec.ofInt 64 255).toNat : Int) := rfl
  have h2 : (BitVec.ofInt 64 x &&& BitVec.ofInt 64 255).toNat ≤ 255 := by
    rw [BitVec.toNat_and]
    exact Nat.and_le_right
  rw [h, IntWalk.i64_in _ (by omega)]
  omega
theorem only_drewN {lo hi : Nat} {a w : World} (h : Only lo hi a w) (n : Nat) : Only lo hi a (w.drewN n) := ⟨h.os, h.tape, h.output, h.size, h.block⟩

set_option maxHeartbeats 800000 in
theorem l1Byte_c (B g : Nat) (w : World) (hc : Cur B w g) :
    Calls Try.prog 65 #[.pointer (some ⟨g, 0, none⟩)] w (GivesCur B w g (fun x => 0 ≤ x ∧ x < 256)) := by
  obtain ⟨hgB, hBw, ao, n, c, b, off, i, h, h1, h2, h3, h4, h5, h6, h7, h8, h9⟩ := hc
  obtain ⟨j, rfl⟩ : ∃ j : Nat, i = (j : Int) := ⟨i.toNat, by omega⟩
  have H4 := Lib.hid h4
  have H3 := Lib.hid h3
  clear h3 h4
  go_enter Try.func65, Try.ntmps65
  go_wp2_with fail
  go_quiet (fail)
  generalize hX : bits BinOp.and IntKind.i64 _ 255 = x0
  have hx0 : 0 ≤ x0 ∧ x0 < 256 := hX ▸ and255 _
  clear hX
  generalize hV : wrap64 (wrap64 _ + 1442695040888963407) = hv
  clear hV
  generalize hW : World.drewN (World.setCell w ⟨g, 2, none⟩ _) _ = W1
  have O1 : Only g (g + 1) w W1 := by rw [← hW]; exact only_drewN (Only.setCell (p := ⟨g, 2, none⟩) _ ⟨Nat.le_refl _, Nat.lt_succ_self _⟩) _
  have c0 : W1.cell? ⟨g, 0, none⟩ = some (.slice ao n c) := by
    rw [← hW, World.cell?_drewN, World.cell?_setCell_other _ _ _ _ (by simp)]; exact h1
  have c1 : W1.cell? ⟨g, 1, none⟩ = some (.int .i64 j) := by
    rw [← hW, World.cell?_drewN, World.cell?_setCell_other _ _ _ _ (by simp)]; exact h5
  have c2 : W1.cell? ⟨g, 2, none⟩ = some (.int .i64 hv) := by
    rw [← hW, World.cell?_drewN]; exact World.cell?_setCell_same' _ _ _ (by rw [h8]; rfl)
  have c9 : ∀ t, W1.frozen? ⟨g, t, none⟩ = false := fun t => by
    rw [← hW, World.frozen?_drewN, World.frozen?_setCell]; exact h9 t
  have C4 : Hid (∀ t, t < n → ∃ x : Nat, x < 256 ∧ W1.cell? ⟨b, off + t, none⟩ = some (.int .u8 x)) := Lib.hid (fun t ht => by
    obtain ⟨x, hx, hc⟩ := H4.out t ht
    refine ⟨x, hx, ?_⟩
    have hb := (H3.out (by omega)).2.1
    rw [World.cell?_of_block (O1.block b (World.block_lt_of_cell? _ _ hc) (by omega))]; exact hc)
  clear hW h1 h5 h8 h9 H4
  by_cases hjn : j < n
  · obtain ⟨hao, hbg, hbB⟩ := H3.out (by omega)
    subst hao
    obtain ⟨x, hx, hcx⟩ := C4.out j hjn
    have hj0 : (0 : Int) ≤ (j : Int) := Int.natCast_nonneg _
    have hj1 : (j : Int) < (n : Int) := by omega
    have hw1 : IntKind.i64.wrap (x0 + (x : Int)) = x0 + (x : Int) := IntWalk.i64_in _ (by omega)
    have hw2 : wrap64 (x0 + (x : Int)) = x0 + (x : Int) := IntWalk.wrap64_in _ (by omega)
    go_wp2_with fail
    go_quiet (fail)
    go_wp2_with fail
    go_quiet (fail)
    generalize hX : bits BinOp.and IntKind.i64 _ 255 = x1
    have hx1 : 0 ≤ x1 ∧ x1 < 256 := hX ▸ and255 _
    clear hX
    go_wp2_with fail
    go_ret
    refine ⟨x1, rfl, hx1, ⟨hgB, Nat.le_trans hBw (by have := O1.size; simpa using this), _, n, c, b, off, (j : Int) + 1, hv, ?_, h2, fun h => ⟨rfl, hbg, hbB⟩, fun t ht => ?_, ?_, by omega, by omega, ?_, fun t => ?_⟩, ?_⟩
    · rw [World.cell?_setCell_other _ _ _ _ (by simp)]; exact c0
    · obtain ⟨y, hy, hc⟩ := C4.out t ht
      exact ⟨y, hy, by rw [World.cell?_setCell_other _ _ _ _ (by simp)]; exact hc⟩
    · exact World.cell?_setCell_same' _ _ _ (by rw [World.cell?_drewN, c1]; rfl)
    · rw [World.cell?_setCell_other _ _ _ _ (by simp)]; exact c2
    · rw [World.frozen?_setCell]; exact c9 t
    · exact (only_drewN O1 _).trans (Only.setCell (p := ⟨g, 1, none⟩) _ ⟨Nat.le_refl _, Nat.lt_succ_self _⟩)
  · have hj1 : ¬ (j : Int) < (n : Int) := by omega
    go_wp2_with fail
    go_quiet (fail)
    go_wp2_with fail
    go_ret
    exact ⟨x0, rfl, hx0, ⟨hgB, Nat.le_trans hBw O1.size, ao, n, c, b, off, (j : Int), hv, c0, h2, H3.out, C4.out, c1, by omega, by omega, c2, c9⟩, only_drewN O1 _⟩

theorem tmod_range {x n : Int} (h : 0 ≤ x) (hn : 0 < n) : 0 ≤ x.tmod n ∧ x.tmod n < n := ⟨Int.tmod_nonneg n h, Int.tmod_lt_of_pos x hn⟩

set_option maxHeartbeats 800000 in
theorem l1Below_c (B g : Nat) (n : Int) (w : World) (hc : Cur B w g) (h1 : 1 ≤ n) (h2 : n ≤ 256) :
    Calls Try.prog 41 #[.pointer (some ⟨g, 0, none⟩), .int .i64 n] w (GivesCur B w g (fun x => 0 ≤ x ∧ x < n)) := by
  have hn0 : ¬ n ≤ 0 := by omega
  have hnz : ¬ n = 0 := by omega
  go_enter Try.func41, Try.ntmps41
  go_wp2_with fail
  refine (l1Byte_c B g _ hc).mono ?_
  rintro e w1 ⟨x, rfl, hx, hc1, o1⟩
  have hr := tmod_range hx.1 (n := n) (by omega)
  obtain ⟨y, hy⟩ : ∃ y, x.tmod n = y := ⟨_, rfl⟩
  obtain ⟨y2, hy2⟩ : ∃ y, x % n = y := ⟨_, rfl⟩
  have he : y = y2 := by rw [← hy, ← hy2]; exact Int.tmod_eq_emod_of_nonneg hx.1
  rw [hy] at hr
  have HY := Lib.hid he
  clear he
  go_wp2_with fail
  go_ret
  first
    | exact ⟨y, rfl, hr, hc1, o1⟩
    | exact ⟨y2, rfl, HY.out ▸ hr, hc1, o1⟩
theorem l1Once_c (B g : Nat) (n : Int) (w : World) (hc : Cur B w g) (h1 : 1 ≤ n) (h2 : n ≤ 256) :
    Calls Try.prog 43 #[.pointer (some ⟨g, 0, none⟩), .int .i64 n] w fun e w' => ∃ b, e = .returned (.bool b) ∧ Cur B w' g ∧ Only g (g + 1) w w' := by
  go_enter Try.func43, Try.ntmps43
  go_wp2_with fail
  refine (l1Below_c B g n _ hc h1 h2).mono ?_
  rintro e w1 ⟨x, rfl, hx, hc1, o1⟩
  go_wp2_with fail
  go_ret
  exact ⟨_, rfl, hc1, o1⟩

theorem erase_perm : ∀ (l : List Int) (i : Nat) (h : i < l.length), (l[i] :: l.eraseIdx i).Perm l
  | [], i, h => absurd h (Nat.not_lt_zero _)
  | x :: l, 0, h => List.Perm.refl _
  | x :: l, i + 1, h => by
    have ih := erase_perm l i (by simpa using h)
    have hi : i < l.length := by simpa using h
    show (l[i]'hi :: x :: l.eraseIdx i).Perm (x :: l)
    exact (List.Perm.swap x _ _).trans (ih.cons x)
theorem out_perm {c : List Int} : ∀ k, k ≤ c.length → CodeTo c k → (outUp c k ++ restUp c k).Perm (idL c.length)
  | 0, _, _ => by rw [outUp_zero, restUp_zero]; exact List.Perm.refl _
  | k + 1, hk, h => by
    have hck : CodeTo c k := fun t ht => h t (by omega)
    have ih := out_perm k (by omega) hck
    have hl := restUp_len k (by omega) hck
    have hb := h k (Nat.lt_succ_self _)
    have hi : (c.getD k 0).toNat < (restUp c k).length := by omega
    rw [outUp_step rfl, restUp_step rfl, List.append_assoc]
    refine (List.Perm.append_left _ ?_).trans ih
    have e : (restUp c k).getD (c.getD k 0).toNat 0 = (restUp c k)[(c.getD k 0).toNat] := by rw [List.getD_eq_getElem?_getD, List.getElem?_eq_getElem hi]; rfl
    rw [e]
    exact erase_perm _ _ hi
theorem isPerm_out {c : List Int} (h : CodeTo c c.length) (h1 : 1 ≤ c.length) (h7 : c.length ≤ 7) : isPermB (outUp c c.length) = true := by
  have hp := out_perm c.length (Nat.le_refl _) h
  have hr : restUp c c.length = [] := List.eq_nil_of_length_eq_zero (by rw [restUp_len _ (Nat.le_refl _) h]; omega)
  rw [hr, List.append_nil] at hp
  have hlen := outUp_len c c.length
  refine isPermB_iff.2 ⟨by omega, by omega, fun x hx => ?_, hp.nodup_iff.2 (idL_nodup _)⟩
  have := hp.mem_iff.1 hx
  rw [hlen]
  simp [idL] at this
  obtain ⟨a, ha, rfl⟩ := this
  omega

/-- A permutation of n numbers is drawn. -/
def GivesDrawn (B : Nat) (w : World) (g : Nat) (P : List Int → Prop) (e : Ending) (w' : World) : Prop := ∃ r l, e = .returned r ∧ P l ∧ OwnI w.heap.size w' r l ∧ Cur B w' g ∧ Only g (g + 1) w w'
def PermN (n : Nat) (l : List Int) : Prop := isPermB l = true ∧ l.length = n

set_option maxHeartbeats 800000 in
theorem dPerm_c (B g n : Nat) (w : World) (hc : Cur B w g) (h1 : 1 ≤ n) (h7 : n ≤ 7) :
    Calls Try.prog 42 #[.pointer (some ⟨g, 0, none⟩), .int .i64 n] w (GivesDrawn B w g (PermN n)) := by
  have hsz := hc.size
  have hlt := hc.lt
  have B1 := (Below.refl B w).alloc hsz (Obj.cells #[] 3)
  have hc1 := hc.kept B1
  have hO1 : OwnI w.heap.size (w.alloc (Obj.cells #[] 3)) (.slice (some ⟨w.heap.size, 0, none⟩) 0 0) [] := OwnI.lit w
  have hgw : g < w.heap.size := Nat.lt_of_lt_of_le hlt hsz
  have G1 : Only g (g + 1) w (w.alloc (Obj.cells #[] 3)) := below_only ((Below.refl _ _).alloc (Nat.le_refl _) _)
  clear hc B1
  go_enter Try.func42, Try.ntmps42
  go_wp2_with fail
  go_loopw [5, 6] (fun ov iv wr => ∃ (j : Nat) (l : List Int), j ≤ n ∧ iv = .int .i64 j ∧ l.length = j ∧ Hid (∀ t, t < j → 0 ≤ l.getD t 0 ∧ l.getD t 0 + (t : Int) + 1 ≤ (n : Int)) ∧ OwnI w.heap.size wr ov l ∧ Cur B wr g ∧ Only g (g + 1) w wr) (fun _ iv _ => n - (intOf iv).toNat)
  case atStart => exact ⟨0, [], Nat.zero_le _, rfl, rfl, Lib.hid (fun t ht => absurd ht (Nat.not_lt_zero _)), hO1, hc1, G1⟩
  case round =>
    obtain ⟨j, l, hj, rfl, hl, HC, hO, hcr, hG⟩ := hrel
    clear hO1 hc1 G1
    by_cases hjn : j < n
    · have hnj1 : (1 : Int) ≤ (n : Int) - (j : Int) := by omega
      have hnj2 : (n : Int) - (j : Int) ≤ 256 := by omega
      have hji : (j : Int) < (n : Int) := by omega
      have hw : IntKind.i64.wrap ((n : Int) - (j : Int)) = (n : Int) - (j : Int) := IntWalk.i64_in _ (by omega)
      have hlen : l.length + 1 ≤ 1099511627776 := by omega
      go_wp2_with fail
      refine (l1Below_c B g _ _ hcr hnj1 hnj2).mono ?_
      rintro e w2 ⟨x, rfl, hx, hc2, o2⟩
      have hO2 := hO.turned hgw o2
      have G2 := hG.trans o2
      have hsz2 := G2.size
      have HC2 : Hid (∀ t, t < j + 1 → 0 ≤ (l ++ [x]).getD t 0 ∧ (l ++ [x]).getD t 0 + (t : Int) + 1 ≤ (n : Int)) := Lib.hid (fun t ht => by
        by_cases e : t = j
        · subst e
          rw [List.getD_eq_getElem?_getD, List.getElem?_append_right (by omega), hl, Nat.sub_self]
          simp; omega
        · rw [List.getD_eq_getElem?_getD, List.getElem?_append_left (by omega), ← List.getD_eq_getElem?_getD]
          exact HC.out t (by omega))
      go_wp2_with (at_builtin; refine wpList_push w2 rfl _ _ rfl hO2 rfl rfl hlen hsz2 ?_)
      intro v' w3 hO3 hb3 hg3 _
      have hc3 := hc2.kept (hb3.mono hsz)
      have G3 := G2.then hb3
      clear hO hcr hG hc2 o2 hO2 hlen G2 hg3
      go_wp2
      go_roundw
      case rel => exact ⟨j + 1, _, by omega, by go_num, by simp [hl], HC2, hO3, hc3, G3⟩
      case measure => simp [intOf] <;> omega
    · obtain rfl : j = n := by omega
      have hcode : CodeTo l l.length := by rw [hl]; intro t ht; have := HC.out t ht; rw [hl]; exact this
      have hperm := isPerm_out hcode (by omega) (by omega)
      have HP : Hid (PermN j (outUp l l.length)) := Lib.hid ⟨hperm, by rw [outUp_len, hl]⟩
      have HCD := Lib.hid hcode
      clear hcode hperm
      go_wp2_with fail
      refine (l1Decode_c _ _ _ hO.ints HCD.out (by omega)).mono ?_
      rintro e w2 ⟨r, rfl, o, b⟩
      have hsz2 := hcr.size
      have hsz3 := hG.size
      go_wp2_with fail
      go_ret
      exact ⟨_, _, rfl, HP.out, o.mono hsz3, hcr.kept (b.mono hsz2), hG.trans (below_only b)⟩

/-- A slice of bytes that came in. -/
def BytesR (w : World) (ao : Option Addr) (n c : Nat) : Prop :=
  ∃ b off, (0 < n → ao = some ⟨b, off, none⟩) ∧ ∀ j, j < n → ∃ x : Nat, x < 256 ∧ w.cell? ⟨b, off + j, none⟩ = some (.int .u8 x)

theorem cur_new {ao : Option Addr} {n c : Nat} {w : World} (hb : BytesR w ao n c) (hn : n ≤ 1048576) (h : Int) {t : TypeId} : Cur (w.heap.size + 1) (w.alloc (Obj.cells #[.slice ao n c, .int .i64 0, .int .i64 h] t)) w.heap.size := by
  obtain ⟨b, off, ha, hc⟩ := hb
  have hbl : 0 < n → b < w.heap.size := fun h0 => by
    obtain ⟨x, _, hx⟩ := hc 0 h0
    exact World.block_lt_of_cell? _ _ hx
  refine ⟨Nat.lt_succ_self _, by simp, ao, n, c, b, off, 0, h, by simp, hn, fun h0 => ⟨ha h0, by have := hbl h0; omega, by have := hbl h0; omega⟩, fun j hj => ?_, by simp, by decide, by omega, by simp, fun j => by simp⟩
  obtain ⟨x, hx, hcx⟩ := hc j hj
  exact ⟨x, hx, by rw [World.cell?_alloc_past _ _ _ (World.block_lt_of_cell? _ _ hcx)]; exact hcx⟩

set_option maxHeartbeats 800000 in
theorem l1New_c (ao : Option Addr) (n c : Nat) (w : World) (hb : BytesR w ao n c) (hn : n ≤ 1048576) :
    Calls Try.prog 40 #[.slice ao n c] w fun e w' => ∃ g, e = .returned (.pointer (some ⟨g, 0, none⟩)) ∧ Cur (g + 1) w' g ∧ Below w.heap.size w w' ∧ w.heap.size ≤ g := by
  have hBR := Lib.hid hb
  obtain ⟨b, off, ha, hc⟩ := hb
  have HC := Lib.hid hc
  clear hc
  go_enter Try.func40, Try.ntmps40
  go_wp2_with fail
  go_loop [3, 4] (fun hv iv => ∃ (i : Nat) (h : Int), i ≤ n ∧ iv = .int .i64 i ∧ hv = .int .i64 h) (fun _ iv => n - (intOf iv).toNat)
  case atStart => exact ⟨0, _, Nat.zero_le _, rfl, rfl⟩
  case round =>
    obtain ⟨i, h, hi, rfl, rfl⟩ := hrel
    by_cases hlt : i < n ∧ i < 4000
    · obtain ⟨hlt, h4⟩ := hlt
      obtain rfl := ha (by omega)
      obtain ⟨x, hx, hcx⟩ := HC.out i hlt
      have hi0 : (0 : Int) ≤ (i : Int) := Int.natCast_nonneg _
      have hi1 : (i : Int) < (n : Int) := by omega
      have hi4 : (i : Int) < 4000 := by omega
      go_wp2_with fail
      go_round
      case rel => exact ⟨i + 1, _, by omega, by go_num, rfl⟩
      case measure => simp [intOf] <;> omega
    · have hor : n ≤ i ∨ 4000 ≤ i := by omega
      rcases Nat.lt_or_ge i n with hin | hin
      · have hi4 : ¬ (i : Int) < 4000 := by omega
        have hi1 : (i : Int) < (n : Int) := by omega
        go_wp2_with fail
        go_ret
        exact ⟨_, rfl, cur_new hBR.out hn h, (Below.refl _ _).alloc (Nat.le_refl _) _, Nat.le_refl _⟩
      · have hi1 : ¬ (i : Int) < (n : Int) := by omega
        go_wp2_with fail
        go_ret
        exact ⟨_, rfl, cur_new hBR.out hn h, (Below.refl _ _).alloc (Nat.le_refl _) _, Nat.le_refl _⟩

end Go.Proofs.Ytfepepakellbbaa
