/-
  Contract: slices.Delete at []int, one element of a slice of the call's own.
-/
import Derived.Test.YtjkahdphnpddnaaSwap
import Derived.Deep.RegionLaw
import Derived.Laws.IdiomCopy
import Derived.Lib.SliceRun
namespace Go.Proofs.Ytjkahdphnpddnaa
open Go.RowKit
set_option linter.unusedVariables false

theorem OwnI.part {B g n cap : Nat} {w : World} {l : List Int} (h : OwnI B w (.slice (some ⟨g, 0, none⟩) n cap) l) (k : Nat) (hk : k ≤ l.length) : OwnI B w (.slice (some ⟨g, 0, none⟩) k cap) (l.take k) := by
  obtain ⟨⟨h1, h2⟩, hl⟩ := h
  have e : (l.take k).length = k := by rw [List.length_take]; omega
  refine ⟨⟨by simp, ?_⟩, by omega⟩
  rcases h2 with ⟨h2, _⟩ | ⟨g', cap', cur, hv, hg, hh, hnc, hcm, hcs, htk⟩
  · simp at h2
  · simp only [Value.slice.injEq, Option.some.injEq, Addr.mk.injEq, and_true] at hv
    obtain ⟨rfl, hn, rfl⟩ := hv
    refine .inr ⟨g, cap, cur, by rw [e], hg, hh, by omega, hcm, hcs, ?_⟩
    rw [e, List.map_take, ← htk, List.take_take]
    congr 1
    omega

theorem OwnI.beyond {B g n cap : Nat} {w : World} {l : List Int} (h : OwnI B w (.slice (some ⟨g, 0, none⟩) n cap) l) (j : Nat) (hj : l.length ≤ j) (u : Value) :
    OwnI B (w.setCell ⟨g, j, none⟩ u) (.slice (some ⟨g, 0, none⟩) n cap) l := by
  have e := h.eqLen
  subst e
  obtain ⟨h1, hl⟩ := h
  have h2 := (h1.stored j u).1
  refine ⟨?_, hl⟩
  have e2 : (l.map (Value.int .i64)).set j u = l.map (Value.int .i64) := by
    rw [List.set_eq_of_length_le]; simpa using hj
  rw [e2] at h2
  exact h2

theorem OwnI.cellSome {B g n cap : Nat} {w : World} {l : List Int} (h : OwnI B w (.slice (some ⟨g, 0, none⟩) n cap) l) (j : Nat) (hj : j < cap) : ∃ u, w.cell? ⟨g, j, none⟩ = some u := by
  rcases h.1.2 with ⟨h2, _⟩ | ⟨g', cap', cur, hv, hg, hh, hnc, hcm, hcs, htk⟩
  · simp at h2
  · simp only [Value.slice.injEq, Option.some.injEq, Addr.mk.injEq, and_true] at hv
    obtain ⟨rfl, hn, rfl⟩ := hv
    rw [cell_of_row w g j cur 3 (0, 0) hh]
    exact ⟨_, Array.getElem?_eq_getElem (by omega)⟩

theorem OwnI.setCells {B g n cap : Nat} : ∀ (ms : List Int) (x : Nat) (w : World) (l : List Int), OwnI B w (.slice (some ⟨g, 0, none⟩) n cap) l → x + ms.length ≤ l.length →
    OwnI B (w.setCells g x (ms.map (Value.int .i64))) (.slice (some ⟨g, 0, none⟩) n cap) (l.take x ++ ms ++ l.drop (x + ms.length))
  | [], x, w, l, h, _ => by simpa [World.setCells] using h
  | m :: ms, x, w, l, h, hl => by
    have h1 := (h.store x m).1
    have h2 := OwnI.setCells ms (x + 1) _ _ h1 (by simp at hl ⊢; omega)
    simp only [List.map_cons, World.setCells]
    have e : (l.set x m).take (x + 1) ++ ms ++ (l.set x m).drop (x + 1 + ms.length) = l.take x ++ m :: ms ++ l.drop (x + (m :: ms).length) := by
      simp at hl
      rw [List.drop_set_of_lt (by omega), List.take_add_one, List.getElem?_set_self (by omega), List.take_set_of_le (by omega)]
      simp [Nat.add_comm, Nat.add_left_comm]
    rw [e] at h2
    exact h2

theorem Only.setCells {lo hi g : Nat} (hg : lo ≤ g ∧ g < hi) : ∀ (vs : List Value) (x : Nat) (w : World), Only lo hi w (w.setCells g x vs)
  | [], x, w => Only.refl _ _ _
  | v :: vs, x, w => (Only.setCell (p := ⟨g, x, none⟩) v hg).trans (Only.setCells hg vs (x + 1) _)

def DeletedI (lo hi : Nat) (w : World) (l : List Int) (e : Ending) (w' : World) : Prop :=
  ∃ r, e = .returned r ∧ AtI lo hi w' r l ∧ Only lo hi w w'

set_option maxHeartbeats 1600000 in
theorem delete_cN (lo hi : Nat) (v : Value) (l : List Int) (x j : Nat) (w : World) (h : AtI lo hi w v l) (hx : x < l.length) (hj : j = x + 1) :
    Calls Try.prog 60 #[v, .int .i64 (x : Int), .int .i64 (j : Int)] w (DeletedI lo hi w (l.eraseIdx x)) := by
  obtain ⟨h, hhi, hsz⟩ := h
  have hlen := h.2
  obtain ⟨g, cap, rfl, hlo, hgw, hnc, hcm⟩ := h.row (by omega)
  have hg := hhi g rfl
  obtain ⟨n, hn⟩ : ∃ n, l.length = n := ⟨_, rfl⟩
  have HL := Lib.hid hn
  have HJ := Lib.hid hj
  rw [hn] at h hnc hlen ⊢
  have hxj : x < j := by omega
  have hjn : j ≤ n := by omega
  obtain ⟨i0, hi0, hz0, hz1, hz2⟩ := info_parts Try.infoI
  obtain ⟨ms, hms⟩ : ∃ ms : List Int, ms = l.drop j := ⟨_, rfl⟩
  have hml : ms.length = n - j := by rw [hms, List.length_drop]; omega
  have hmg : ∀ k, k < n - j → (ms.map (Value.int .i64))[k]? = some (.int .i64 (l.getD (j + k) 0)) := fun k hk => by
    rw [hms, List.getElem?_map, List.getElem?_drop, List.getElem?_eq_getElem (by omega)]
    simp [List.getD_eq_getElem?_getD, show j + k < l.length by omega]
  obtain ⟨ad, hA, hnews⟩ : ∃ ad : Addr, (if cap = j then some (⟨g, 0, none⟩ : Addr) else some ⟨g, j, none⟩) = some ad ∧ Hid (∀ k u, (ms.map (Value.int .i64))[k]? = some u → w.drew.cell? (ad.add k) = some u) := by
    by_cases hc : cap = j
    · refine ⟨⟨g, 0, none⟩, by simp [hc], fun k u hu => ?_⟩
      have := (List.getElem?_eq_some_iff.1 hu).1
      simp at this
      omega
    · refine ⟨⟨g, j, none⟩, by simp [hc], fun k u hu => ?_⟩
      have hk : k < n - j := by
        have := (List.getElem?_eq_some_iff.1 hu).1
        simpa [hml] using this
      rw [hmg k hk] at hu
      rw [Addr.add_lit]
      exact (h.cellAt (j + k) (by omega)).trans hu
  have s1 : Hid ((ms.map (Value.int .i64)).length = (n - j) * 1) := Lib.hid (by simpa using hml)
  have s2 : Hid (∀ u ∈ ms.map (Value.int .i64), u.oneCell' = true) := Lib.hid (ints_oneCell _ _)
  have s3 : Hid (∀ k, k < (ms.map (Value.int .i64)).length → (w.drew.cell? ⟨g, 0 + x * 1 + k, none⟩).isSome = true ∧ w.drew.frozen? ⟨g, 0 + x * 1 + k, none⟩ = false) := Lib.hid (by
    intro k hk
    rw [List.length_map, hml] at hk
    refine ⟨?_, h.free _⟩
    show (w.cell? _).isSome = true
    rw [show 0 + x * 1 + k = x + k by omega, h.cellAt (x + k) (by omega)]; rfl)
  -- the world behind the move
  obtain ⟨W1, hW1⟩ : ∃ W1, W1 = (w.drew.setCells g (0 + x * 1) (ms.map (Value.int .i64))) := ⟨_, rfl⟩
  have hd : OwnI lo w.drew (.slice (some ⟨g, 0, none⟩) n cap) l := h
  have o1 := (hd.setCells ms x w.drew l (by omega)).part (x + (n - j)) (by simp; omega)
  have hcut : (l.take x ++ ms ++ l.drop (x + ms.length)).take (x + (n - j)) = l.eraseIdx x := by
    rw [List.take_append_of_le_length (by simp; omega), List.take_of_length_le (by simp; omega), hms, List.eraseIdx_eq_take_drop_succ, hj]
  have hes : (l.eraseIdx x).length = x + (n - j) := by rw [List.length_eraseIdx]; simp [hx]; omega
  rw [hcut] at o1
  have g0 : Only lo hi w w.drew := (Only.refl lo hi w).drew
  have g1 := g0.trans (Only.setCells (lo := lo) (hi := hi) ⟨hlo, hg⟩ (ms.map (Value.int .i64)) x w.drew)
  rw [show w.drew.setCells g x (ms.map (Value.int .i64)) = W1 by rw [hW1, Nat.zero_add, Nat.mul_one]] at o1 g1
  obtain ⟨u1, hu1⟩ := o1.cellSome (x + (n - j)) (by omega)
  have hcl : ∀ ty, (Builtin.clear_ #[22] ty #[.slice (some ⟨g, x + (n - j), none⟩) (n - (x + (n - j))) (cap - (x + (n - j)))]).run Try.prog W1 = .ok (.tuple #[]) (W1.setCells g (x + (n - j)) (List.replicate (n - (x + (n - j))) (.int .i64 0))) :=
    fun ty => Lib.run_clear_slice W1 _ _ ty (.int .i64 0) rfl (fun _ => rfl) rfl rfl g (x + (n - j)) _ _ (by omega)
      (fun k hk => by rw [show x + (n - j) + k = x + (n - j) by omega, hu1]; rfl) (fun k hk => o1.free _)
  have hW : Hid (W1 = w.drew.setCells g (0 + x * 1) (ms.map (Value.int .i64))) := Lib.hid hW1
  have o2 := o1.beyond (x + (n - j)) (by omega) (.int .i64 0)
  have g2 := g1.trans (Only.setCell (p := ⟨g, x + (n - j), none⟩) (.int .i64 0) ⟨hlo, hg⟩)
  have h1 : n - (x + (n - j)) = 1 := by omega
  have H1 := Lib.hid h1
  have HES := Lib.hid hes
  have O2 := Lib.hid o2
  have G2 := Lib.hid g2
  have hic : x ≤ cap := by omega
  have hjc : j ≤ cap := by omega
  have hne : x ≠ j := by omega
  clear hW1 hcut hml hmg o1 g1 g0 hu1 hn hj hms hd h1 hes o2 g2
  go_enter Try.func60, Try.ntmps60
  go_wp2_with fail
  go_region_law (refine step_append_room rfl (.tmp 22) (.tmp 25) 22 rfl 3 i0 1 (by rfl) hi0 hz1 g 0 x cap (by simp [Act.eval, Act.put]) ad (n - j) (cap - j) (ms.map (Value.int .i64)) (by simp [Act.eval, Act.put]) s1.out hnews.out s2.out (by omega) s3.out ?_; rw [← hW.out])
  go_wp2
  go_ret
  refine ⟨_, rfl, ⟨?_, ?_, ?_⟩, ?_⟩
  · rw [H1.out]; exact O2.out
  · intro k hk
    rw [HL.out] at hhi
    exact hhi k hk
  · rw [H1.out]; exact Nat.le_trans hsz G2.out.size
  · rw [H1.out]; exact G2.out

theorem delete_c (lo hi : Nat) (v : Value) (l : List Int) (x : Nat) (w : World) (h : AtI lo hi w v l) (hx : x < l.length) :
    Calls Try.prog 60 #[v, .int .i64 (x : Int), .int .i64 ((x : Int) + 1)] w (DeletedI lo hi w (l.eraseIdx x)) :=
  delete_cN lo hi v l x (x + 1) w h hx rfl

end Go.Proofs.Ytjkahdphnpddnaa
