/-
  letters.Len, At, Has; the reference's; the law LettersTell.
-/
import Derived.Test.YtddblgfmocdpgaaDoorLtQ4
set_option linter.unusedVariables false
namespace Go.Proofs
open Go.RowKit Go.Lt

def Tryd.MaxAt (m : Int) (w : World) : Prop := w.cell? ⟨2, 0, none⟩ = some (.int .i64 m)
theorem Tryd.MaxAt_below {m : Int} {w w' : World} {B : Nat} (h : Tryd.MaxAt m w) (hb : Below B w w') (hB : 2 < B) : Tryd.MaxAt m w' := (hb.cell (p := ⟨2, 0, none⟩) hB).trans h
theorem Tryd.MaxAt_lt {m : Int} {w : World} (h : Tryd.MaxAt m w) : 2 < w.heap.size := by
  unfold Tryd.MaxAt World.cell? at h
  rcases Nat.lt_or_ge 2 w.heap.size with h1 | h1
  · exact h1
  · rw [Array.getElem?_eq_none h1] at h; simp at h

set_option maxHeartbeats 2000000 in
theorem Tryd.len_any (s : ByteArray) (w : World) (hs : s.size ≤ 35184372088832) :
    Calls Tryd.prog 21 #[.string s] w fun e w' => e = .returned (.int .i64 (runes s.data.toList).length) ∧ Below w.heap.size w w' := by
  obtain ⟨rs, hrs⟩ : ∃ rs, runes s.data.toList = rs := ⟨_, rfl⟩
  have hrl : rs.length ≤ s.size := by rw [← hrs, Lib.size_eq]; exact runes_len _
  rw [hrs]
  have Hrs := Lib.hid hrs
  clear hrs
  go_enter Tryd.func21, Tryd.ntmps21
  go_wp2
  go_loopw [3] (fun i wr => ∃ (k pos : Nat), i = .int .i64 k ∧ k ≤ rs.length ∧ wr.heap[w.heap.size]? = some (.stringIter s pos) ∧ Below w.heap.size w wr ∧ Hid (runes (s.data.toList.drop pos) = rs.drop k) ∧ pos ≤ s.size) (fun _ wr => s.size - wr.iterPos w.heap.size)
  case atStart =>
    refine ⟨0, 0, rfl, by omega, World.iter_heap w s 0, (Below.refl _ w).alloc (by omega) _, by show _ = _; rw [List.drop_zero, List.drop_zero, Hrs.out], by omega⟩
  case round =>
    obtain ⟨k, pos, rfl, hk, hit, hbw, hrd, hps⟩ := hrel
    have hsz := lt_of_block hit
    have hpos0 := iterPos_of hit
    by_cases hp : pos < s.size
    · have hnx : ∀ ty, (Instr.next (.pointer (some ⟨w.heap.size, 0, none⟩)) true ty).run Tryd.prog wr = _ := fun ty => Lib.run_next_any_at wr w.heap.size s pos ty hit hp
      obtain ⟨r, n, hrn⟩ : ∃ r n, Utf8.decode s pos = (r, n) := ⟨_, _, rfl⟩
      have hdl : Lib.decodeL (s.data.toList.drop pos) = (r, n) := by rw [Lib.decodeL_drop]; exact hrn
      have hn1 : 1 ≤ n := by have := Lib.decodeL_width (s.data.toList.drop pos); rw [hdl] at this; exact this
      have hne : s.data.toList.drop pos ≠ [] := by rw [drop_cons s pos hp]; simp
      have hn2 : pos + n ≤ s.size := by
        have := Lib.decodeL_le (s.data.toList.drop pos) hne
        rw [hdl, List.length_drop, ← Lib.size_eq] at this; omega
      have hst1 := runes_step _ hne
      rw [hdl, List.drop_drop, hrd.out] at hst1
      have hklt : k < rs.length := by
        have := congrArg List.length hst1
        rw [List.length_drop, List.length_cons] at this; omega
      rw [List.drop_eq_getElem_cons hklt] at hst1
      have Hrd2 := Lib.hid (List.cons.inj hst1).2.symm
      rw [hrn] at hnx
      have hit2 := Lib.iterAt_heap wr w.heap.size s pos (pos + n) hit
      have hbw2 := Lib.below_iterAt hbw (k := w.heap.size) (by omega) s (pos + n)
      obtain ⟨W1, hW1⟩ : ∃ W1, W1 = wr.iterAt w.heap.size s (pos + n) := ⟨_, rfl⟩
      rw [← hW1] at hnx hit2 hbw2
      clear hW1 hit hbw hne hdl hrn hrd hst1
      go_wp2
      go_roundw
      case rel => exact ⟨k + 1, pos + n, by go_num, by omega, hit2, hbw2, Hrd2.out, hn2⟩
      case measure => rw [iterPos_of hit2, hpos0]; omega
    · have hnx : ∀ ty, (Instr.next (.pointer (some ⟨w.heap.size, 0, none⟩)) true ty).run Tryd.prog wr = _ := fun ty => Lib.run_next_end_at wr w.heap.size s pos ty hit hp
      have hkr : k = rs.length := by
        have h1 := hrd.out
        rw [List.drop_eq_nil_of_le (by rw [← Lib.size_eq]; omega), runes_nil] at h1
        have := congrArg List.length h1
        rw [List.length_drop, List.length_nil] at this; omega
      clear hrd
      go_wp2
      go_ret
      exact ⟨by rw [hkr]; rfl, hbw⟩

set_option maxHeartbeats 1000000 in
theorem Tryd.rlen_any (s : ByteArray) (w : World) (hs : s.size ≤ 35184372088832) :
    Calls Tryd.prog 22 #[.string s] w fun e w' => e = .returned (.int .i64 (runes s.data.toList).length) ∧ Below w.heap.size w w' := by
  go_enter Tryd.func22, Tryd.ntmps22
  go_wp2_with fail
  refine (Tryd.pieces_any _ _ hs).mono ?_
  rintro e W0 ⟨v, rfl, hown, b0⟩
  obtain ⟨g, cap, rfl, hgB, hgo⟩ := row_open hown
  clear hgo hown
  go_wp2
  go_ret
  exact ⟨rfl, b0⟩

theorem strOf_enc (r : Nat) : Utf8.encode (r : Int) = strOf r := encode_enc r
/-- The answer of At. -/
def atV (rs : List Nat) (i : Int) : Value := if h : 0 ≤ i ∧ i < rs.length then .tuple #[.string (strOf (rs[i.toNat]'(by omega))), .int .i64 0] else .tuple #[.string ⟨#[]⟩, .int .i64 5]
theorem atV_in (rs : List Nat) (k : Nat) (h : k < rs.length) : atV rs k = .tuple #[.string (strOf rs[k]), .int .i64 0] := by unfold atV; rw [dif_pos (by omega)]; rfl
theorem atV_out (rs : List Nat) (i : Int) (h : ¬ (0 ≤ i ∧ i < rs.length)) : atV rs i = .tuple #[.string ⟨#[]⟩, .int .i64 5] := by unfold atV; rw [dif_neg h]

set_option maxHeartbeats 2000000 in
set_option maxRecDepth 100000 in
theorem Tryd.rat_any (s : ByteArray) (i : Int) (w : World) (hs : s.size ≤ 35184372088832) (hi : -9223372036854775808 ≤ i ∧ i ≤ 9223372036854775807) :
    Calls Tryd.prog 20 #[.string s, .int .i64 i] w fun e w' => e = .returned (atV (runes s.data.toList) i) ∧ Below w.heap.size w w' := by
  obtain ⟨rs, hrs⟩ : ∃ rs, runes s.data.toList = rs := ⟨_, rfl⟩
  have hrl : rs.length ≤ s.size := by rw [← hrs, Lib.size_eq]; exact runes_len _
  rw [hrs]
  have Hrs := Lib.hid hrs
  clear hrs
  by_cases h0 : i < 0
  · have ho := Lib.hid (atV_out rs i (by omega))
    go_enter Tryd.func20, Tryd.ntmps20
    go_wp2_with fail
    refine (Tryd.pieces_any _ _ hs).mono ?_
    rintro e W0 ⟨v, rfl, hown, b0⟩
    clear hown
    go_wp2
    go_ret2
    exact ⟨by rw [ho.out]; rfl, b0⟩
  · obtain ⟨k, rfl⟩ : ∃ k : Nat, i = k := ⟨i.toNat, by omega⟩
    by_cases hk : k < rs.length
    · have ho := Lib.hid (atV_in rs k hk)
      go_enter Tryd.func20, Tryd.ntmps20
      go_wp2_with fail
      refine (Tryd.pieces_any _ _ hs).mono ?_
      rw [Hrs.out]
      rintro e W0 ⟨v, rfl, hown, b0⟩
      obtain ⟨g, cap, rfl, hgB, hgo⟩ := row_open hown
      obtain ⟨b, rfl, hcell0⟩ := hgo k hk
      have hcell : W0.cell? ⟨b, k, none⟩ = some (.int .i32 (rs[k] : Int)) := by
        rw [hcell0]
        unfold runeVals
        rw [List.getElem?_map, List.getElem?_eq_getElem hk]; rfl
      clear hgo hown hcell0 hgB hi h0 hs hrl Hrs
      have g1 : decide (((k : Nat) : Int) < 0) = false := by simp
      have g2 : decide (((k : Nat) : Int) ≥ ((rs.length : Nat) : Int)) = false := by simp; omega
      go_wp2
      go_ret2
      exact ⟨by rw [ho.out, ← strOf_enc]; rfl, b0⟩
    · have ho := Lib.hid (atV_out rs k (by omega))
      go_enter Tryd.func20, Tryd.ntmps20
      go_wp2_with fail
      refine (Tryd.pieces_any _ _ hs).mono ?_
      rw [Hrs.out]
      rintro e W0 ⟨v, rfl, hown, b0⟩
      obtain ⟨g, cap, rfl, hgB, hgo⟩ := row_open hown
      clear hgo hown hgB
      go_wp2
      go_ret2
      exact ⟨by rw [ho.out]; rfl, b0⟩

set_option maxHeartbeats 2000000 in
theorem Tryd.at_any (s : ByteArray) (i : Int) (w : World) (hs : s.size ≤ 35184372088832) (hi : -9223372036854775808 ≤ i ∧ i ≤ 9223372036854775807) :
    Calls Tryd.prog 19 #[.string s, .int .i64 i] w fun e w' => e = .returned (atV (runes s.data.toList) i) ∧ Below w.heap.size w w' := by
  obtain ⟨rs, hrs⟩ : ∃ rs, runes s.data.toList = rs := ⟨_, rfl⟩
  have hrl : rs.length ≤ s.size := by rw [← hrs, Lib.size_eq]; exact runes_len _
  rw [hrs]
  have Hrs := Lib.hid hrs
  clear hrs
  by_cases h0 : i < 0
  · have ho := Lib.hid (atV_out rs i (by omega))
    go_enter Tryd.func19, Tryd.ntmps19
    go_wp2
    go_ret2
    exact ⟨by rw [ho.out]; rfl, Below.refl _ _⟩
  · obtain ⟨j, rfl⟩ : ∃ k : Nat, i = k := ⟨i.toNat, by omega⟩
    clear h0
    go_enter Tryd.func19, Tryd.ntmps19
    go_wp2
    go_loopw [1] (fun i wr => ∃ (k pos : Nat), i = .int .i64 ((j - k : Nat) : Int) ∧ k ≤ j ∧ k ≤ rs.length ∧ wr.heap[w.heap.size]? = some (.stringIter s pos) ∧ Below w.heap.size w wr ∧ Hid (runes (s.data.toList.drop pos) = rs.drop k) ∧ pos ≤ s.size) (fun _ wr => s.size - wr.iterPos w.heap.size)
    case atStart =>
      refine ⟨0, 0, rfl, by omega, by omega, World.iter_heap w s 0, (Below.refl _ w).alloc (by omega) _, by show _ = _; rw [List.drop_zero, List.drop_zero, Hrs.out], by omega⟩
    case round =>
      obtain ⟨k, pos, rfl, hkj, hk, hit, hbw, hrd, hps⟩ := hrel
      have hsz := lt_of_block hit
      have hpos0 := iterPos_of hit
      by_cases hp : pos < s.size
      · have hnx : ∀ ty, (Instr.next (.pointer (some ⟨w.heap.size, 0, none⟩)) true ty).run Tryd.prog wr = _ := fun ty => Lib.run_next_any_at wr w.heap.size s pos ty hit hp
        obtain ⟨r, n, hrn⟩ : ∃ r n, Utf8.decode s pos = (r, n) := ⟨_, _, rfl⟩
        have hdl : Lib.decodeL (s.data.toList.drop pos) = (r, n) := by rw [Lib.decodeL_drop]; exact hrn
        have hn1 : 1 ≤ n := by have := Lib.decodeL_width (s.data.toList.drop pos); rw [hdl] at this; exact this
        have hne : s.data.toList.drop pos ≠ [] := by rw [drop_cons s pos hp]; simp
        have hn2 : pos + n ≤ s.size := by
          have := Lib.decodeL_le (s.data.toList.drop pos) hne
          rw [hdl, List.length_drop, ← Lib.size_eq] at this; omega
        have hst1 := runes_step _ hne
        rw [hdl, List.drop_drop, hrd.out] at hst1
        have hklt : k < rs.length := by
          have := congrArg List.length hst1
          rw [List.length_drop, List.length_cons] at this; omega
        rw [List.drop_eq_getElem_cons hklt] at hst1
        obtain ⟨hr, hrd2⟩ := List.cons.inj hst1
        have Hr := Lib.hid hr
        have Hrd2 := Lib.hid hrd2.symm
        rw [hrn] at hnx
        have hit2 := Lib.iterAt_heap wr w.heap.size s pos (pos + n) hit
        have hbw2 := Lib.below_iterAt hbw (k := w.heap.size) (by omega) s (pos + n)
        obtain ⟨W1, hW1⟩ : ∃ W1, W1 = wr.iterAt w.heap.size s (pos + n) := ⟨_, rfl⟩
        rw [← hW1] at hnx hit2 hbw2
        clear hW1 hit hbw hne hdl hrn hrd hst1 hr hrd2
        obtain ⟨d, hd⟩ : ∃ d, j - k = d := ⟨_, rfl⟩
        rw [hd]
        cases d with
        | zero =>
          obtain rfl : k = j := by omega
          have ho := Lib.hid (atV_in rs k hklt)
          have he := Lib.hid (encode_enc r)
          go_wp2
          go_ret2
          exact ⟨by rw [ho.out, he.out, ← Hr.out]; rfl, hbw2⟩
        | succ d =>
          have hx : ((((d + 1 : Nat) : Int)) == 0) = false := by rw [beq_eq_false_iff_ne]; omega
          have hd3 : j - (k + 1) = d := by omega
          have hbd : d + 1 ≤ 9223372036854775807 := by omega
          go_wp2
          go_roundw
          case rel => exact ⟨k + 1, pos + n, by rw [hd3] <;> go_num, by omega, by omega, hit2, hbw2, Hrd2.out, hn2⟩
          case measure => rw [iterPos_of hit2, hpos0]; omega
      · have hnx : ∀ ty, (Instr.next (.pointer (some ⟨w.heap.size, 0, none⟩)) true ty).run Tryd.prog wr = _ := fun ty => Lib.run_next_end_at wr w.heap.size s pos ty hit hp
        have hkr : k = rs.length := by
          have h1 := hrd.out
          rw [List.drop_eq_nil_of_le (by rw [← Lib.size_eq]; omega), runes_nil] at h1
          have := congrArg List.length h1
          rw [List.length_drop, List.length_nil] at this; omega
        have ho := Lib.hid (atV_out rs j (by omega))
        clear hrd
        go_wp2
        go_ret2
        exact ⟨by rw [ho.out]; rfl, hbw⟩

theorem no_piece {s sub : ByteArray} {i : Nat} (hp : ((s.extract i (i + sub.size)).toList == sub.toList) = false) : 1 ≤ sub.size := by
  rcases Nat.eq_zero_or_pos sub.size with h | h
  · have h0 : sub.data.toList = [] := List.length_eq_zero_iff.1 (by rw [← Lib.size_eq]; exact h)
    rw [Lib.toList_data, Lib.toList_data, Lib.extract_data, h0, h] at hp
    simp at hp
  · exact h

set_option maxHeartbeats 2000000 in
theorem Tryd.rhas_any (s part : ByteArray) (w : World) (hs : s.size ≤ 35184372088832) (hp : part.size ≤ 35184372088832) :
    Calls Tryd.prog 24 #[.string s, .string part] w fun e w' => e = .returned (.bool (Lib.contains s.data.toList part.data.toList)) ∧ w' = w := by
  go_enter Tryd.func24, Tryd.ntmps24
  go_wp2
  go_loopw [5] (fun i wr => ∃ (k : Nat), i = .int .i64 k ∧ k ≤ s.size + 1 ∧ Hid (Lib.NoOccB s part k) ∧ (k = 0 ∨ 1 ≤ part.size) ∧ wr = w) (fun i _ => s.size + 2 - (intOf i).toNat)
  case atStart => exact ⟨0, rfl, by omega, Lib.NoOcc.zero _ _, .inl rfl, rfl⟩
  case round =>
    obtain ⟨k, rfl, hk, hno, h1, rfl⟩ := hrel
    by_cases hle : k + part.size ≤ s.size
    · have i1 : (k : Int) + (part.size : Int) ≤ (s.size : Int) := by omega
      have i2 : (k : Int) ≤ (k : Int) + (part.size : Int) := by omega
      by_cases hh : ((s.extract k (k + part.size)).toList == part.toList) = true
      · have hr : Hid (Lib.contains s.data.toList part.data.toList = true) := by
          show _ = _
          have := Lib.hit s part k hno.out hle hh
          unfold Lib.indexB at this
          unfold Lib.contains
          rw [this]; simp
        go_wp2
        go_ret
        exact ⟨by rw [hr.out]; rfl, rfl⟩
      · have hh2 : ((s.extract k (k + part.size)).toList == part.toList) = false := by simpa using hh
        clear hh
        have hno2 := Lib.hid (Lib.miss_piece s part k hno.out hle hh2)
        have h1p := no_piece hh2
        go_wp2
        go_roundw
        case rel => exact ⟨k + 1, by go_num, by omega, hno2, .inr h1p, trivial⟩
        case measure => simp [intOf]; omega
    · have i1 : ¬ (k : Int) + (part.size : Int) ≤ (s.size : Int) := by omega
      have hr : Hid (Lib.contains s.data.toList part.data.toList = false) := by
        show _ = _
        have := Lib.past s part k hno.out (by omega) (by omega)
        unfold Lib.indexB at this
        unfold Lib.contains
        rw [this]; rfl
      go_wp2
      go_ret
      exact ⟨by rw [hr.out]; rfl, rfl⟩

set_option maxHeartbeats 1000000 in
theorem Tryd.has_any (s part : ByteArray) (m : Int) (w : World) (hs : s.size ≤ 35184372) (hm : Tryd.MaxAt m w) :
    Calls Tryd.prog 23 #[.string s, .string part] w fun e w' => e = .returned (.bool (Lib.contains s.data.toList part.data.toList)) ∧ w' = w := by
  go_enter Tryd.func23, Tryd.ntmps23
  go_wp2_with fail
  refine (Tryd.strings_Contains s part m w (by omega) hm).mono ?_
  rintro e W1 ⟨rfl, rfl⟩
  go_wp2
  go_ret
  exact ⟨rfl, rfl⟩

theorem contains_self (l : List UInt8) : Lib.contains l l = true := by unfold Lib.contains; rw [Lib.index_self]; rfl
theorem contains_nil (l : List UInt8) : Lib.contains l [] = true := by unfold Lib.contains; rw [Lib.index_empty]; rfl

theorem atV_two (rs : List Nat) (i : Int) : ∃ (X : ByteArray) (f : Int), atV rs i = .tuple #[.string X, .int .i64 f] := by
  unfold atV; split
  · exact ⟨_, _, rfl⟩
  · exact ⟨_, _, rfl⟩

set_option maxHeartbeats 4000000 in
theorem Tryd.lettersTell_any (s part : ByteArray) (i : Int) (w : World) (hs : s.size ≤ 9223372036854775807) (hp : part.size ≤ 9223372036854775807) (hi : -9223372036854775808 ≤ i ∧ i ≤ 9223372036854775807) (hT : Tryd.Tabs w) (hS : w.ShapedOpen Tryd.prog) :
    Calls Tryd.prog 7 #[.string s, .string part, .int .i64 i] w fun e w' => e = .returned (.bool true) ∧ Below w.heap.size w w' := by
  obtain ⟨m, hm0⟩ := Tryd.laysM144.s1_3 w hS
  have hm : Tryd.MaxAt m w := hm0
  have hml := Tryd.MaxAt_lt hm
  clear hm0
  have HM := Lib.hid hm
  clear hm hS
  by_cases h : s.size ≤ 3000
  · have f1 : ¬ 3000 < s.size := by omega
    by_cases h2 : part.size ≤ 3000
    · have f2 : ¬ 3000 < part.size := by omega
      have Hi := Lib.hid hi
      clear hi
      obtain ⟨X, f, hX⟩ := atV_two (runes s.data.toList) i
      have HX := Lib.hid hX
      clear hX
      obtain ⟨bv, hbv⟩ : ∃ b, Lib.validD s.data.toList = b := ⟨_, rfl⟩
      obtain ⟨bc, hbc⟩ : ∃ b, Lib.contains s.data.toList part.data.toList = b := ⟨_, rfl⟩
      obtain ⟨N, hN⟩ : ∃ n, (runes s.data.toList).length = n := ⟨_, rfl⟩
      have Hbv := Lib.hid hbv
      have Hbc := Lib.hid hbc
      have HN := Lib.hid hN
      clear hbv hbc hN
      cases bv <;> cases bc
      all_goals
        go_enter Tryd.func7, Tryd.ntmps7
        go_wp2_with fail
        refine (Tryd.at_any s i _ (by omega) Hi.out).mono ?_
        rw [HX.out]
        rintro e W1 ⟨rfl, b1⟩
        go_wp2_with fail
        refine (Tryd.rat_any s i _ (by omega) Hi.out).mono ?_
        rw [HX.out]
        rintro e W2 ⟨rfl, b2⟩
        have hb2 := b1.trans (b2.mono b1.size)
        go_wp2_with fail
        refine (Tryd.good_any s _ hs (Tryd.Tabs_below hT hb2 (Nat.le_refl _))).mono ?_
        rw [Hbv.out]
        rintro e W3 ⟨rfl, b3⟩
        have hb3 := hb2.trans (b3.mono hb2.size)
        go_wp2_with fail
        refine (Tryd.rgood_any s _ (by omega)).mono ?_
        rw [Hbv.out]
        rintro e W4 ⟨rfl, b4⟩
        have hb4 := hb3.trans (b4.mono hb3.size)
        go_wp2_with fail
        refine (Tryd.len_any s _ (by omega)).mono ?_
        rw [HN.out]
        rintro e W5 ⟨rfl, b5⟩
        have hb5 := hb4.trans (b5.mono hb4.size)
        go_wp2_with fail
        refine (Tryd.rlen_any s _ (by omega)).mono ?_
        rw [HN.out]
        rintro e W6 ⟨rfl, b6⟩
        have hb6 := hb5.trans (b6.mono hb5.size)
        have HM6 := Lib.hid (Tryd.MaxAt_below HM.out hb6 hml)
        go_wp2_with fail
        refine (Tryd.has_any s part m W6 (by omega) HM6.out).mono ?_
        rw [Hbc.out]
        rintro e W7 ⟨rfl, rfl⟩
        go_wp2_with fail
        refine (Tryd.rhas_any s part _ (by omega) (by omega)).mono ?_
        rw [Hbc.out]
        rintro e W8 ⟨rfl, rfl⟩
        go_wp2_with fail
        refine (Tryd.has_any s s m _ (by omega) HM6.out).mono ?_
        rw [contains_self]
        rintro e W9 ⟨rfl, rfl⟩
        go_wp2_with fail
        refine (Tryd.has_any s ⟨#[]⟩ m _ (by omega) HM6.out).mono ?_
        rw [show ((⟨#[]⟩ : ByteArray).data.toList) = [] from rfl, contains_nil]
        rintro e W10 ⟨rfl, rfl⟩
        go_wp2_with fail
        refine (Tryd.awake2_end hb6 hT).mono ?_
        rintro e W11 ⟨rfl, b11⟩
        go_wp2
        go_ret
        exact ⟨rfl, b11⟩
    · have f2 : 3000 < part.size := by omega
      go_enter Tryd.func7, Tryd.ntmps7
      go_wp2_with fail
      refine (Tryd.awake2_end (Below.refl _ _) hT).mono ?_
      rintro e W3 ⟨rfl, b3⟩
      go_wp2
      go_ret
      exact ⟨rfl, b3⟩
  · have f1 : 3000 < s.size := by omega
    go_enter Tryd.func7, Tryd.ntmps7
    go_wp2_with fail
    refine (Tryd.awake2_end (Below.refl _ _) hT).mono ?_
    rintro e W3 ⟨rfl, b3⟩
    go_wp2
    go_ret
    exact ⟨rfl, b3⟩
end Go.Proofs
