/-
  Contracts: a drawn word; a permutation with a reduced word; at0.
-/
import Derived.Test.YtfepepakellbbaaOpenB
import Derived.Test.YtfepepakellbbaaLift
namespace Go.Proofs.Ytfepepakellbbaa
open Go.RowKit
set_option linter.unusedVariables false

set_option maxHeartbeats 1200000 in
theorem dWord_c (B g n most : Nat) (w : World) (hc : Cur B w g) (h1 : 1 ≤ n) (h7 : n ≤ 7) (hm : most ≤ 10) :
    Calls Try.prog 60 #[.pointer (some ⟨g, 0, none⟩), .int .i64 (n : Int), .int .i64 (most : Int)] w (GivesDrawn B w g (fun l => Letters n l ∧ l.length ≤ most)) := by
  have hgB := hc.lt
  have hBw := hc.size
  have hgw : g < w.heap.size := by omega
  have hw1 : IntKind.i64.wrap ((most : Int) + 1) = (most : Int) + 1 := IntWalk.i64_in _ (by omega)
  have hw2 : wrap64 ((most : Int) + 1) = (most : Int) + 1 := IntWalk.wrap64_in _ (by omega)
  have B0 := (Below.refl w.heap.size w).alloc (Nat.le_refl _) (Obj.cells #[] 3)
  have hc1 := hc.kept (B0.mono hBw)
  have O0 : OwnI w.heap.size (w.alloc (Obj.cells #[] 3)) (.slice (some ⟨w.heap.size, 0, none⟩) 0 0) [] := OwnI.lit w
  have G0 : Only g (g + 1) w (w.alloc (Obj.cells #[] 3)) := below_only B0
  clear B0 hc
  go_enter Try.func60, Try.ntmps60
  go_wp2_with fail
  refine (l1Below_c B g ((most : Int) + 1) _ hc1 (by omega) (by omega)).mono ?_
  rintro e w1 ⟨x, rfl, hx, hc2, o2⟩
  have O2 := O0.turned hgw o2
  have G2 := G0.trans o2
  obtain ⟨m, rfl⟩ : ∃ m : Nat, x = (m : Int) := ⟨x.toNat, by omega⟩
  have hmm : m ≤ most := by omega
  clear hc1 O0 G0 o2 hw1 hw2 hx
  go_wp2_with fail
  go_loopw [7, 9] (fun ov iv wr => ∃ (i : Nat) (l : List Int), i ≤ m ∧ iv = .int .i64 i ∧ l.length ≤ i ∧ Hid (Letters n l) ∧ OwnI w.heap.size wr ov l ∧ Cur B wr g ∧ Only g (g + 1) w wr) (fun _ iv _ => m - (intOf iv).toNat)
  case atStart => exact ⟨0, [], Nat.zero_le _, rfl, Nat.le_refl _, Lib.hid (fun k hk => by simp at hk), O2, hc2, G2⟩
  case round =>
    obtain ⟨i, l, hi, rfl, hll, HP, hO, hcr, hG⟩ := hrel
    clear O2 hc2 G2
    by_cases him : i < m
    · have hii : (i : Int) < (m : Int) := by omega
      by_cases hn1 : 1 < n
      · have hn1' : (1 : Int) < (n : Int) := by omega
        have hw1 : IntKind.i64.wrap ((n : Int) - 1) = (n : Int) - 1 := IntWalk.i64_in _ (by omega)
        have hw2 : wrap64 ((n : Int) - 1) = (n : Int) - 1 := IntWalk.wrap64_in _ (by omega)
        go_wp2_with fail
        refine (l1Below_c B g ((n : Int) - 1) _ hcr (by omega) (by omega)).mono ?_
        rintro e w2 ⟨k, rfl, hk, hc3, o3⟩
        have O3 := hO.turned hgw o3
        have G3 := hG.trans o3
        have HP' : Hid (Letters n (l ++ [k])) := Lib.hid (fun z hz => by
          rcases List.mem_append.1 hz with h | h
          · exact HP.out z h
          · simp at h; subst h; omega)
        have hlen : l.length + 1 ≤ 1099511627776 := by omega
        have hsz := G3.size
        clear hO hcr hG o3 hw1 hw2 hk
        go_wp2_with (at_builtin; refine wpList_push w2 rfl _ _ rfl O3 rfl rfl hlen hsz ?_)
        intro v' w8 hO8 hb8 _ _
        have hc8 := hc3.kept (hb8.mono hBw)
        have G8 := G3.then hb8
        clear O3 hc3 G3 hlen
        go_wp2
        go_roundw
        case rel => exact ⟨i + 1, _, by omega, by go_num, by simp; omega, HP', hO8, hc8, G8⟩
        case measure => simp [intOf] <;> omega
      · have hn1' : ¬ (1 : Int) < (n : Int) := by omega
        go_wp2_with fail
        go_ret
        exact ⟨_, l, rfl, ⟨HP.out, by omega⟩, hO, hcr, hG⟩
    · have hii : ¬ (i : Int) < (m : Int) := by omega
      go_wp2_with fail
      go_ret
      exact ⟨_, l, rfl, ⟨HP.out, by omega⟩, hO, hcr, hG⟩

def GivesWord (w : World) (e : Ending) (w' : World) : Prop :=
  ∃ r1 r2 r3 n u word more, e = .returned (.tuple #[r1, r2, r3]) ∧ 2 ≤ n ∧ n ≤ 5 ∧ PermN n u ∧ WayTo n (idL n) word u ∧ word.length ≤ 10 ∧ Letters n more ∧ more.length ≤ 8 ∧ IntsV w' r1 u ∧ IntsV w' r2 word ∧ IntsV w' r3 more ∧ Below w.heap.size w w'

set_option maxHeartbeats 1200000 in
theorem drawWord_c (ao : Option Addr) (n c : Nat) (w : World) (hb : BytesR w ao n c) (hn : n ≤ 1048576) :
    Calls Try.prog 30 #[.slice ao n c] w (GivesWord w) := by
  go_enter Try.func30, Try.ntmps30
  go_wp2_with fail
  refine (l1New_c ao n c w hb hn).mono ?_
  rintro e w1 ⟨g, rfl, hc1, b1, hg⟩
  have hs1 := hc1.size
  go_wp2_with fail
  refine (l1Below_c (g + 1) g 4 _ hc1 (by decide) (by decide)).mono ?_
  rintro e w2 ⟨x, rfl, hx, hc2, o2⟩
  have F2 := b1.trans (o2.below hg b1.size)
  obtain ⟨N, hN⟩ : ∃ N : Nat, (2 : Int) + x = (N : Int) := ⟨(2 + x).toNat, by omega⟩
  have hN1 : 2 ≤ N := by omega
  have hN5 : N ≤ 5 := by omega
  have hw1 : IntKind.i64.wrap (2 + x) = (N : Int) := by rw [IntWalk.i64_in _ (by omega)]; exact hN
  have hw2 : wrap64 (2 + x) = (N : Int) := by rw [IntWalk.wrap64_in _ (by omega)]; exact hN
  go_wp2_with fail
  refine (dPerm_c (g + 1) g N _ hc2 (by omega) (by omega)).mono ?_
  rintro e w3 ⟨ru, u, rfl, hu, oU, hc3, o3⟩
  have F3 := F2.trans (o3.below hg F2.size)
  have hU3 := oU.mono hc2.size
  obtain ⟨uo, uc, rfl, _⟩ := own_shape hU3
  have hul : u.length = N := hu.2
  rw [hul] at hU3 oU ⊢
  clear oU hw1 hw2 hN hx
  go_wp2_with fail
  refine (dReduced_c (g + 1) g N _ u _ hc3 (by omega) hN5 hU3 hu).mono ?_
  rintro e w5 ⟨rw', word, rfl, ⟨hway, hwl⟩, oW, hc5, o5⟩
  have F5 := F3.trans (o5.below hg F3.size)
  have hU5 := hU3.turned (Nat.lt_succ_self g) o5
  have hW5 := oW.mono hc3.size
  clear oW hc1 hc2 hc3 hU3
  go_wp2_with fail
  refine (dWord_c (g + 1) g N 8 _ hc5 (by omega) (by omega) (by decide)).mono ?_
  rintro e w6 ⟨rm, more, rfl, ⟨hlet, hml⟩, oM, hc6, o6⟩
  have F6 := F5.trans (o6.below hg F5.size)
  have hU6 := hU5.turned (Nat.lt_succ_self g) o6
  have hW6 := hW5.turned (Nat.lt_succ_self g) o6
  go_wp2_with fail
  go_ret3
  exact ⟨_, _, _, N, u, word, more, rfl, hN1, hN5, hu, hway, hwl, hlet, hml, hU6.ints, hW6.ints, oM.ints, F6⟩

set_option maxHeartbeats 400000 in
theorem at0_c (ao : Option Addr) (n c i : Nat) (w : World) (hb : BytesR w ao n c) (hn : n ≤ 1048576) (hi : i ≤ 1048576) :
    Calls Try.prog 31 #[.slice ao n c, .int .i64 (i : Int)] w fun e w' => ∃ x : Int, e = .returned (.int .i64 x) ∧ 0 ≤ x ∧ x < 256 ∧ w' = w := by
  obtain ⟨b, off, ha, hcell⟩ := hb
  by_cases hin : i < n
  · obtain rfl := ha (by omega)
    obtain ⟨x, hx, hcx⟩ := hcell i hin
    have hi0 : (0 : Int) ≤ (i : Int) := Int.natCast_nonneg _
    have hi1 : (i : Int) < (n : Int) := by omega
    clear hcell ha
    go_enter Try.func31, Try.ntmps31
    go_wp2
    go_ret
    exact ⟨(x : Int), by go_num, by omega, by omega, rfl⟩
  · have hi1 : ¬ (i : Int) < (n : Int) := by omega
    have hw1 : wrap64 ((i : Int) * 7) = (i : Int) * 7 := IntWalk.wrap64_in _ (by omega)
    have hw2 : wrap64 ((i : Int) * 7 + (n : Int)) = (i : Int) * 7 + (n : Int) := IntWalk.wrap64_in _ (by omega)
    go_enter Try.func31, Try.ntmps31
    go_wp2
    go_ret
    exact ⟨_, rfl, by omega, by omega, rfl⟩

end Go.Proofs.Ytfepepakellbbaa
