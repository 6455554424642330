/-
  Contracts: l1Split, strings.Split.
-/
import Derived.Test.YthgigbihpcelpaaDoorNum
import Derived.Test.YthgigbihpcelpaaDoorFInts
import Derived.Lib.Split
import Derived.Lib.SplitLaws
namespace Go.Proofs.YthgigbihpcelpaaDoor
open Go.RowKit
set_option linter.unusedVariables false

theorem index_at {l : List UInt8} {c : UInt8} {k : Nat} (hk : l[k]? = some c) (hno : ∀ t, t < k → l[t]? ≠ some c) : Lib.index l [c] = (k : Int) := by
  rw [Lib.index_one]
  have hge := Lib.indexByte_ge l c
  by_cases h : Lib.indexByte l c = -1
  · exact absurd hk (Lib.indexByte_none h k)
  · obtain ⟨o, ho⟩ : ∃ o : Nat, Lib.indexByte l c = o := ⟨(Lib.indexByte l c).toNat, by omega⟩
    obtain ⟨h1, h2⟩ := Lib.indexByte_some ho
    rcases Nat.lt_trichotomy o k with h3 | h3 | h3
    · exact absurd h1 (hno o h3)
    · rw [ho, h3]
    · exact absurd hk (h2 k h3)
theorem index_not {l : List UInt8} {c : UInt8} (hno : ∀ t : Nat, l[t]? ≠ some c) : Lib.index l [c] = -1 := by
  rw [Lib.index_one]
  have hge := Lib.indexByte_ge l c
  by_cases h : Lib.indexByte l c = -1
  · exact h
  · obtain ⟨o, ho⟩ : ∃ o : Nat, Lib.indexByte l c = o := ⟨(Lib.indexByte l c).toNat, by omega⟩
    exact absurd (Lib.indexByte_some ho).1 (hno o)
theorem split_hit {l : List UInt8} {c : UInt8} {i : Nat} (h : Lib.index l [c] = (i : Int)) : Lib.split l [c] = l.take i :: Lib.split (l.drop (i + 1)) [c] := by
  have hm : ¬ (Lib.index l [c] == -1) = true := fun e => by have := beq_iff_eq.1 e; omega
  have e : (Lib.index l [c]).toNat = i := by omega
  unfold Lib.split
  rw [Lib.count_hit (by simp) h, Nat.add_comm 1]
  conv => lhs; unfold Lib.splitK
  rw [if_neg hm, e]
  rfl
theorem split_miss {l : List UInt8} {c : UInt8} (h : Lib.index l [c] = -1) : Lib.split l [c] = [l] := by
  unfold Lib.split
  rw [Lib.count_miss h]
  rfl
/-- None of the letters from a up to b is c. -/
def NoC (l : List UInt8) (c : UInt8) (a b : Nat) : Prop := ∀ t, a ≤ t → t < b → l[t]? ≠ some c
theorem split_piece {l : List UInt8} {c : UInt8} {a i : Nat} (h : NoC l c a i) (ha : a ≤ i) (hi : l[i]? = some c) : Lib.split (l.drop a) [c] = (l.drop a).take (i - a) :: Lib.split (l.drop (i + 1)) [c] := by
  have := split_hit (l := l.drop a) (c := c) (i := i - a) (index_at (by rw [List.getElem?_drop, show a + (i - a) = i by omega]; exact hi) (fun t ht => by
    rw [List.getElem?_drop]; exact h (a + t) (by omega) (by omega)))
  rw [this, List.drop_drop, show a + (i - a + 1) = i + 1 by omega]
theorem split_last {l : List UInt8} {c : UInt8} {a : Nat} (h : NoC l c a l.length) : Lib.split (l.drop a) [c] = [l.drop a] :=
  split_miss (index_not fun t => by
    rw [List.getElem?_drop]
    by_cases ht : a + t < l.length
    · exact h (a + t) (by omega) ht
    · rw [List.getElem?_eq_none (by omega)]; simp)
theorem extract_str (s : ByteArray) (a b : Nat) (hab : a ≤ b) : s.extract a b = strOf ((s.data.toList.drop a).take (b - a)) := by
  apply ByteArray.ext
  rw [ByteArray.data_extract]
  apply Array.toList_inj.1
  simp [strOf]

def GivesStrs (w : World) (ls : List (List UInt8)) (e : Ending) (w' : World) : Prop := ∃ r, e = .returned r ∧ OwnL 9 strV w.heap.size w' r ls ∧ Below w.heap.size w w'

theorem split_len_le (l : List UInt8) (c : UInt8) : (Lib.split l [c]).length ≤ l.length + 2 := by
  have h1 := Lib.splitB_length_le (strOf [c]) 0 (Lib.count l [c]) (strOf l)
  have h2 := congrArg List.length (Lib.splitB_data (strOf [c]) 0 (Lib.count l [c]) (strOf l))
  rw [List.length_map] at h2
  have h3 : (strOf [c]).data.toList = [c] := rfl
  have h4 : (strOf l).data.toList = l := by simp [strOf]
  rw [h3, h4] at h2
  have h5 := Lib.count_le l [c]
  unfold Lib.split
  omega

set_option maxHeartbeats 1600000 in
theorem sSplit_c (s : ByteArray) (c : UInt8) (k : Int) (w : World) (hk : k = (c.toNat : Int)) (hs : s.size ≤ 1048576) :
    Calls Tryd.prog 15 #[.string s, .int .u8 k] w (GivesStrs w (Lib.split s.data.toList [c])) := by
  have hdl : s.data.toList.length = s.size := rfl
  have HDL := Lib.hid hdl
  have HK := Lib.hid hk
  have hlen2 := split_len_le s.data.toList c
  have HL2 := Lib.hid hlen2
  clear hdl hk hlen2
  go_enter Tryd.func15, Tryd.ntmps15
  go_wp2_with fail
  go_loopw [5, 6, 7] (fun ov fv iv wr => ∃ (i a : Nat) (done : List (List UInt8)), iv = .int .i64 i ∧ fv = .int .i64 a ∧ i ≤ s.size + 1 ∧ Hid (i ≤ s.size → a ≤ i ∧ NoC s.data.toList c a i ∧ Lib.split s.data.toList [c] = done ++ Lib.split (s.data.toList.drop a) [c]) ∧ Hid (i = s.size + 1 → done = Lib.split s.data.toList [c]) ∧
      OwnL 9 strV w.heap.size wr ov done ∧ done.length ≤ i ∧ Below w.heap.size w wr) (fun _ _ iv _ => s.size + 1 - (intOf iv).toNat)
  case atStart => exact ⟨0, 0, [], rfl, rfl, by omega, Lib.hid (fun _ => ⟨Nat.le_refl _, fun t _ ht => absurd ht (Nat.not_lt_zero _), rfl⟩), Lib.hid (fun h => by omega), OwnL.lit _ _ w, Nat.le_refl _, (Below.refl _ _).alloc (Nat.le_refl _) _⟩
  case round =>
    obtain ⟨i, a, done, rfl, rfl, hi1, HI, HJ, hO, hdn, hB⟩ := hrel
    have hsz := hB.size
    have hlen : done.length + 1 ≤ 1099511627776 := by omega
    by_cases hlast : i = s.size + 1
    · have hd := HJ.out hlast
      subst hlast
      go_wp2_with fail
      go_ret
      rw [← hd]
      exact ⟨_, rfl, hO, hB⟩
    · obtain ⟨hai, hno, hsp⟩ := HI.out (by omega)
      have HNO := Lib.hid hno
      have HSP := Lib.hid hsp
      have hai2 : (a : Int) ≤ (i : Int) := by omega
      have ha0 : (0 : Int) ≤ (a : Int) := Int.natCast_nonneg _
      have his : (i : Int) ≤ (s.size : Int) := by omega
      clear hno hsp HJ
      by_cases hend : i = s.size
      · subst hend
        have HV := Lib.hid (show Value.string (s.extract a s.size) = strV ((s.data.toList.drop a).take (s.size - a)) by rw [extract_str s a _ hai]; rfl)
        have HF : Hid (done ++ [(s.data.toList.drop a).take (s.size - a)] = Lib.split s.data.toList [c]) := Lib.hid (by
          rw [HSP.out, split_last (by rw [HDL.out]; exact HNO.out)]
          congr 2
          rw [List.take_of_length_le (by rw [List.length_drop, HDL.out]; omega)])
        go_wp2_with (at_builtin; refine wpList_pushL wr rfl _ _ rfl Tryd.underlying33 Tryd.infoStr rfl (by decide) hO HV.out rfl rfl rfl hlen hsz ?_)
        intro v' w3 hO' hb1 _ _
        have hB' := hB.trans hb1
        rw [HF.out] at hO'
        have hdl2 : (Lib.split s.data.toList [c]).length ≤ s.size + 1 := by rw [← HF.out]; simp; omega
        clear hO hB hlen
        go_wp2
        go_roundw
        case rel => exact ⟨s.size + 1, s.size + 1, _, by go_num, by go_num, Nat.le_refl _, Lib.hid (fun h => by omega), Lib.hid (fun _ => rfl), hO', hdl2, hB'⟩
        case measure => simp [intOf] <;> omega
      · have hlt : i < s.size := by omega
        have hie : ¬ (i : Int) = (s.size : Int) := by omega
        have hieb : ((i : Int) == (s.size : Int)) = false := by simpa using hie
        have hil : (i : Int) < (s.size : Int) := by omega
        have hgi : s.data.toList[i]? = some s[i] := List.getElem?_eq_getElem (show i < s.data.toList.length from hlt)
        by_cases hc : s[i] = c
        · have hcb : ((s[i].toNat : Int) == k) = true := by rw [HK.out, hc]; simp
          have hcb2 : (s[i].toNat : Int) = k := by rw [HK.out, hc]
          have HV := Lib.hid (show Value.string (s.extract a i) = strV ((s.data.toList.drop a).take (i - a)) by rw [extract_str s a i hai]; rfl)
          have HF : Hid (Lib.split s.data.toList [c] = (done ++ [(s.data.toList.drop a).take (i - a)]) ++ Lib.split (s.data.toList.drop (i + 1)) [c]) := Lib.hid (by
            rw [HSP.out, split_piece HNO.out hai (by rw [hgi, hc]), List.append_assoc]; rfl)
          clear hgi hc
          go_wp2_with (at_builtin; refine wpList_pushL wr rfl _ _ rfl Tryd.underlying33 Tryd.infoStr rfl (by decide) hO HV.out rfl rfl rfl hlen hsz ?_)
          intro v' w3 hO' hb1 _ _
          have hB' := hB.trans hb1
          clear hO hB hlen
          go_wp2
          go_roundw
          case rel => exact ⟨i + 1, i + 1, _, by go_num, by go_num, by omega, Lib.hid (fun _ => ⟨Nat.le_refl _, fun t h1 h2 => absurd h1 (by omega), HF.out⟩), Lib.hid (fun h => by omega), hO', by simp; omega, hB'⟩
          case measure => simp [intOf] <;> omega
        · have hcb2 : ¬ (s[i].toNat : Int) = k := fun e => hc (UInt8.toNat_inj.1 (by have h2 := HK.out; rw [h2] at e; exact_mod_cast e))
          have hcb : ((s[i].toNat : Int) == k) = false := beq_eq_false_iff_ne.2 hcb2
          have HNO' : Hid (NoC s.data.toList c a (i + 1)) := Lib.hid (fun t h1 h2 => by
            by_cases e : t = i
            · subst e; rw [hgi]; exact fun h => hc (Option.some.inj h)
            · exact HNO.out t h1 (by omega))
          clear hgi hc
          go_wp2_with fail
          go_roundw
          case rel => exact ⟨i + 1, a, done, by go_num, rfl, by omega, Lib.hid (fun _ => ⟨by omega, HNO'.out, HSP.out⟩), Lib.hid (fun h => by omega), hO, by omega, hB⟩
          case measure => simp [intOf] <;> omega

theorem splitK_len (sep : List UInt8) : ∀ (k : Nat) (l : List UInt8), ∀ x ∈ Lib.splitK sep 0 k l, x.length ≤ l.length
  | 0, l, x, h => by simp [Lib.splitK] at h; subst h; exact Nat.le_refl _
  | k + 1, l, x, h => by
    unfold Lib.splitK at h
    split at h
    · simp at h; subst h; exact Nat.le_refl _
    · rcases List.mem_cons.1 h with h | h
      · subst h; rw [List.length_take]; omega
      · have := splitK_len sep k _ x h
        rw [List.length_drop] at this
        omega
theorem split_part_len {l sep x : List UInt8} (h : x ∈ Lib.split l sep) : x.length ≤ l.length := splitK_len sep _ l x h
theorem strOf_data (s : ByteArray) : strOf s.data.toList = s := by simp [strOf]

theorem iSplit_c (s : ByteArray) (sep : List UInt8) (m : Int) (w : World) (hsep : sep ≠ []) (hs : s.size ≤ 1048576) (hm : w.cell? ⟨0, 0, none⟩ = some (.int .i64 m)) :
    Calls Tryd.prog 17 #[.string s, .string (strOf sep)] w (GivesStrs w (Lib.split s.data.toList sep)) := by
  have h1 : 1 ≤ (strOf sep).size := by rw [strOf_size]; exact List.length_pos_iff.2 hsep
  have hd : (strOf sep).data.toList = sep := by simp [strOf]
  refine (Tryd.strings_Split s (strOf sep) m w (by omega) hm h1).mono ?_
  rintro e w' ⟨rfl, rfl⟩
  have hl := Lib.splitB_all (strOf sep) h1 0 _ s rfl
  have hmap : (Lib.splitB (strOf sep) 0 (Lib.countB s (strOf sep)) s).map (·.data.toList) = Lib.split s.data.toList sep := by
    rw [Lib.splitB_data, hd]
    unfold Lib.split
    have e : Lib.countB s (strOf sep) = Lib.count s.data.toList sep := by show Lib.count _ (strOf sep).data.toList = _; rw [hd]
    rw [e]
  have hlen : (Lib.split s.data.toList sep).length = Lib.countB s (strOf sep) + 1 := by rw [← hmap, List.length_map, hl]
  have hcb := Lib.countB_le (strOf sep) h1 s.size s (Nat.le_refl _)
  have hvals : (Lib.splitB (strOf sep) 0 (Lib.countB s (strOf sep)) s).map Value.string = (Lib.split s.data.toList sep).map strV := by
    rw [← hmap, List.map_map]
    apply List.map_congr_left
    intro x _
    show Value.string x = Value.string (strOf x.data.toList)
    rw [strOf_data]
  refine ⟨_, rfl, ⟨?_, by rw [hlen]; omega⟩, (Below.refl _ _).alloc (Nat.le_refl _) _⟩
  rw [hvals]
  have := World.ownsRow_lit (base := w.heap.size) (e := 9) (size := 1) w ((Lib.split s.data.toList sep).map strV).toArray (Lib.countB s (strOf sep) + 1) (Nat.le_refl _) (by unfold maxLen; omega) (by simp [hlen])
  rw [← hlen] at this ⊢
  simpa using this

end Go.Proofs.YthgigbihpcelpaaDoor
