/-
  Contracts: a bent list; a list and a pattern.
-/
import Derived.Test.YtfepepakellbbaaOpenB
import Derived.Test.YtfepepakellbbaaRk
namespace Go.Proofs.Ytfepepakellbbaa
open Go.RowKit
set_option linter.unusedVariables false

def GivesBent (B : Nat) (w : World) (g : Nat) (e : Ending) (w' : World) : Prop := ∃ r l, e = .returned r ∧ l.length ≤ 7 ∧ OwnI B w' r l ∧ Cur B w' g ∧ Only g (g + 1) w w'

set_option maxHeartbeats 1200000 in
theorem dBent_c (B g : Nat) (v : Value) (l : List Int) (w : World) (hc : Cur B w g) (hv : OwnI B w v l) (hl : l.length ≤ 6) :
    Calls Try.prog 51 #[.pointer (some ⟨g, 0, none⟩), v] w (GivesBent B w g) := by
  have hgB := hc.lt
  have hBw := hc.size
  have hgw : g < w.heap.size := by omega
  go_enter Try.func51, Try.ntmps51
  go_wp2_with fail
  refine (l1Once_c B g 10 _ hc (by decide) (by decide)).mono ?_
  rintro e w1 ⟨bb, rfl, hc1, o1⟩
  have hv1 := hv.turned hgB o1
  cases bb with
  | false =>
    go_wp2_with fail
    go_ret
    exact ⟨_, l, rfl, by omega, hv1, hc1, o1⟩
  | true =>
    go_wp2_with fail
    refine (l1Ints_c _ _ _ hv1.ints).mono ?_
    rintro e w2 ⟨r, rfl, or, b2⟩
    have hc2 := hc1.kept (b2.mono hc1.size)
    have O2 := o1.then (b2.mono o1.size)
    have hr2 := or.mono o1.size
    clear hv hv1 or b2 o1 hc hc1
    go_wp2_with fail
    refine (l1Below_c B g 4 _ hc2 (by decide) (by decide)).mono ?_
    rintro e w3 ⟨x, rfl, hx, hc3, o3⟩
    have hr3 := hr2.turned hgw o3
    have O3 := O2.trans o3
    obtain ⟨ro, rc, rfl, hrc⟩ := own_shape hr3
    obtain ⟨m, hm⟩ : ∃ m, m = l.length := ⟨_, rfl⟩
    have HM := Lib.hid hm
    rw [← hm] at hr3 hrc hl ⊢
    clear hr2 o3 hc2 O2 hm
    by_cases h0 : x = 0
    · subst h0
      go_wp2_with fail
      refine (l1Below_c B g 9 _ hc3 (by decide) (by decide)).mono ?_
      rintro e w4 ⟨y, rfl, hy, hc4, o4⟩
      have hr4 := hr3.turned hgw o4
      have O4 := O3.trans o4
      have hlen : l.length + 1 ≤ 1099511627776 := by rw [← HM.out]; omega
      have hsz := O4.size
      have hw1 : IntKind.i64.wrap (y - 1) = y - 1 := IntWalk.i64_in _ (by omega)
      have hw2 : wrap64 (y - 1) = y - 1 := IntWalk.wrap64_in _ (by omega)
      clear hr3 o4 O3 hc3
      go_wp2_with (at_builtin; refine wpList_push w4 rfl _ _ rfl hr4 rfl rfl hlen hsz ?_)
      intro v' w8 hO8 hb8 _ _
      have hc8 := hc4.kept (hb8.mono hBw)
      have O8 := O4.then hb8
      go_wp2
      go_ret
      exact ⟨_, _, rfl, by simp; rw [← HM.out]; omega, hO8.mono hBw, hc8, O8⟩
    · by_cases h1 : x = 1
      · subst h1
        have hlen : l.length + 1 ≤ 1099511627776 := by rw [← HM.out]; omega
        have hsz := O3.size
        go_wp2_with (at_builtin; refine wpList_push w3 rfl _ _ rfl hr3 rfl rfl hlen hsz ?_)
        intro v' w8 hO8 hb8 _ _
        have hc8 := hc3.kept (hb8.mono hBw)
        have O8 := O3.then hb8
        go_wp2
        go_ret
        exact ⟨_, _, rfl, by simp; rw [← HM.out]; omega, hO8.mono hBw, hc8, O8⟩
      · by_cases h2 : x = 2
        · subst h2
          by_cases hm0 : 0 < m
          · have hm0' : (0 : Int) < (m : Int) := by omega
            go_wp2_with fail
            refine (l1Below_c B g (m : Int) _ hc3 (by omega) (by omega)).mono ?_
            rintro e w4 ⟨t, rfl, ht, hc4, o4⟩
            have hr4 := hr3.turned hgw o4
            have O4 := O3.trans o4
            obtain ⟨k, rfl⟩ : ∃ k : Nat, t = (k : Int) := ⟨t.toNat, by omega⟩
            clear hr3 o4 O3 hc3
            go_wp2_with fail
            refine (l1Below_c B g 9 _ hc4 (by decide) (by decide)).mono ?_
            rintro e w5 ⟨y, rfl, hy, hc5, o5⟩
            have hr5 := hr4.turned hgw o5
            have O5 := O4.trans o5
            have hw1 : IntKind.i64.wrap (y - 1) = y - 1 := IntWalk.i64_in _ (by omega)
            have hw2 : wrap64 (y - 1) = y - 1 := IntWalk.wrap64_in _ (by omega)
            clear hr4 o5 O4 hc4
            obtain ⟨g2, cap, he, hg2a, hg2b, hg2c, _⟩ := hr5.row (by rw [← HM.out]; exact hm0)
            simp only [Value.slice.injEq] at he
            obtain ⟨rfl, -, rfl⟩ := he
            have hkm : k < l.length := by rw [← HM.out]; omega
            have hcl := hr5.cellAt k hkm
            have hfr := hr5.free k
            have hO6 := (hr5.store k (y - 1)).1
            have B6 := (Below.refl w.heap.size w5).setCell (p := ⟨g2, k, none⟩) hg2a (.int .i64 (y - 1))
            have hc6 := hc5.kept (B6.mono hBw)
            have O6 := O5.then B6
            have hk0 : (0 : Int) ≤ (k : Int) := Int.natCast_nonneg _
            have hk1 : (k : Int) < (m : Int) := by omega
            have HKM := Lib.hid hkm
            generalize l.getD k 0 = z at hcl
            clear hr5 hc5 O5 B6 hkm
            go_wp2_with fail
            go_ret
            exact ⟨_, _, rfl, by rw [List.length_set, ← HM.out]; omega, hO6.mono hBw, hc6, O6⟩
          · have hm0' : ¬ (0 : Int) < (m : Int) := by omega
            go_wp2_with fail
            go_ret
            exact ⟨_, l, rfl, by rw [← HM.out]; omega, hr3.mono hBw, hc3, O3⟩
        · obtain rfl : x = 3 := by omega
          have hcut : OwnI w.heap.size w3 (.slice ro (m / 2) rc) (l.take (m / 2)) := by
            by_cases hm0 : 0 < m
            · obtain ⟨g2, cap, he, hg2a, hg2b, hg2c, _⟩ := hr3.row (by rw [← HM.out]; exact hm0)
              simp only [Value.slice.injEq] at he
              obtain ⟨rfl, -, rfl⟩ := he
              exact hr3.part (m / 2) (by rw [← HM.out]; omega)
            · obtain rfl : m = 0 := by omega
              have : l = [] := List.eq_nil_of_length_eq_zero HM.out.symm
              subst this
              exact hr3
          have hmc : m / 2 ≤ rc := by omega
          go_wp2_with fail
          go_ret
          exact ⟨_, _, rfl, by rw [List.length_take, ← HM.out]; omega, hcut.mono hBw, hc3, O3⟩

def GivesHas (w : World) (e : Ending) (w' : World) : Prop :=
  ∃ r1 r2 l p m, e = .returned (.tuple #[r1, r2]) ∧ l.length ≤ 7 ∧ PermN m p ∧ IntsV w' r1 l ∧ IntsV w' r2 p ∧ Below w.heap.size w w'

set_option maxHeartbeats 1200000 in
theorem drawHas_c (ao : Option Addr) (n c : Nat) (w : World) (hb : BytesR w ao n c) (hn : n ≤ 1048576) :
    Calls Try.prog 19 #[.slice ao n c] w (GivesHas w) := by
  go_enter Try.func19, Try.ntmps19
  go_wp2_with fail
  refine (l1New_c ao n c w hb hn).mono ?_
  rintro e w1 ⟨g, rfl, hc1, b1, hg⟩
  have hs1 := hc1.size
  go_wp2_with fail
  refine (l1Below_c (g + 1) g 4 _ hc1 (by decide) (by decide)).mono ?_
  rintro e w2 ⟨x, rfl, hx, hc2, o2⟩
  have F2 := b1.trans (o2.below hg b1.size)
  obtain ⟨N, hN⟩ : ∃ N : Nat, (3 : Int) + x = (N : Int) := ⟨(3 + x).toNat, by omega⟩
  have hN1 : 3 ≤ N := by omega
  have hN6 : N ≤ 6 := by omega
  have hw1 : IntKind.i64.wrap (3 + x) = (N : Int) := by rw [IntWalk.i64_in _ (by omega)]; exact hN
  have hw2 : wrap64 (3 + x) = (N : Int) := by rw [IntWalk.wrap64_in _ (by omega)]; exact hN
  go_wp2_with fail
  refine (dPerm_c (g + 1) g N _ hc2 (by omega) (by omega)).mono ?_
  rintro e w3 ⟨ru, u, rfl, hu, oU, hc3, o3⟩
  have F3 := F2.trans (o3.below hg F2.size)
  have hU3 := oU.mono hc2.size
  have hul : u.length ≤ 6 := by rw [hu.2]; exact hN6
  clear oU hw1 hw2 hN hx hu
  go_wp2_with fail
  refine (dBent_c (g + 1) g _ u _ hc3 hU3 hul).mono ?_
  rintro e w4 ⟨rl, l, rfl, hl7, oL, hc4, o4⟩
  have F4 := F3.trans (o4.below hg F3.size)
  clear hU3 hul hc1 hc2 hc3
  go_wp2_with fail
  refine (l1Below_c (g + 1) g 3 _ hc4 (by decide) (by decide)).mono ?_
  rintro e w5 ⟨y, rfl, hy, hc5, o5⟩
  have F5 := F4.trans (o5.below hg F4.size)
  have oL5 := oL.turned (Nat.lt_succ_self g) o5
  obtain ⟨M, hM⟩ : ∃ M : Nat, (2 : Int) + y = (M : Int) := ⟨(2 + y).toNat, by omega⟩
  have hM1 : 2 ≤ M := by omega
  have hM6 : M ≤ 4 := by omega
  have hw1 : IntKind.i64.wrap (2 + y) = (M : Int) := by rw [IntWalk.i64_in _ (by omega)]; exact hM
  have hw2 : wrap64 (2 + y) = (M : Int) := by rw [IntWalk.wrap64_in _ (by omega)]; exact hM
  go_wp2_with fail
  refine (dPerm_c (g + 1) g M _ hc5 (by omega) (by omega)).mono ?_
  rintro e w6 ⟨rp, p, rfl, hp, oP, hc6, o6⟩
  have F6 := F5.trans (o6.below hg F5.size)
  have oL6 := oL5.turned (Nat.lt_succ_self g) o6
  go_wp2_with fail
  go_ret2
  exact ⟨_, _, l, p, M, rfl, hl7, hp, oL6.ints, oP.ints, F6⟩

end Go.Proofs.Ytfepepakellbbaa
