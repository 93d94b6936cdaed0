/-
  The reference's Repeat to its end; the law LettersRepeat.
-/
import Derived.Test.YtddblgfmocdpgaaDoorLtT2
set_option linter.unusedVariables false
namespace Go.Proofs
open Go.RowKit Go.Lt

theorem repeatL_snoc (l : List UInt8) (k : Nat) : Lib.repeatL l k ++ l = Lib.repeatL l (k + 1) := by
  rw [Lib.repeatL_add, Lib.repeatL_one]

set_option maxHeartbeats 2000000 in
set_option maxRecDepth 100000 in
theorem Tryd.rrepeat_ok (s : ByteArray) (L n : Nat) (w : World) (hs : s.size ≤ 3000) (hp : 0 < s.size) (hn : 1 ≤ n) (hn2 : n ≤ 65536) (hL : (runes s.data.toList).length = L) (hL1 : 1 ≤ L) (hb : L * n ≤ 65536) (hlen : s.size * n ≤ 262144) :
    Calls Tryd.prog 26 #[.string s, .int .i64 n] w fun e w' => e = .returned (repV s L n) ∧ Below w.heap.size w w' := by
  rw [repV_c hn hp hb]
  obtain ⟨i0, hi, hz0, hz1, hz2⟩ := info_parts Tryd.infoU8
  obtain ⟨q, hq⟩ : ∃ q, 65536 / L = q := ⟨_, rfl⟩
  have hqL : ¬ q < n := by rw [← hq]; intro h; have := (div_lt_iff2 L n hL1).1 h; omega
  have hqd : (65536 : Int).tdiv (L : Int) = (q : Int) := by rw [quo_div, hq]
  have hqI : ¬ (q : Int) < (n : Int) := by omega
  have hn0 : ¬ L = 0 := by omega
  have hn1 : decide ((n : Int) < 1) = false := by simp; omega
  have hemp := not_empty s hp
  have HL := Lib.hid hL
  have hq6 : q ≤ 65536 := by rw [← hq]; exact Nat.div_le_self _ _
  have hwq : IntKind.i64.wrap (q : Int) = (q : Int) := IntWalk.i64_in _ (by omega)
  have Hlen := Lib.hid hlen
  clear hq hL hb hlen
  go_enter Tryd.func26, Tryd.ntmps26
  go_wp2_with fail
  refine (Tryd.rlen_any s _ (by omega)).mono ?_
  rw [HL.out]
  rintro e W1 ⟨rfl, b1⟩
  obtain ⟨N, hN⟩ : ∃ N, N = W1.heap.size := ⟨_, rfl⟩
  have hz1' := b1.size
  have hwN : w.heap.size ≤ N := by omega
  have hNle : N ≤ W1.heap.size := by omega
  clear hN
  go_wp2
  clear hqL hqd hqI hn0 hn1 hemp hq6 hwq
  go_loopw [6, 7] (fun b i wr => ∃ (k : Nat) (acc : List UInt8), i = .int .i64 k ∧ k ≤ n ∧ wr.ownsRow N 5 1 b acc.length (Lib.byteCells acc) ∧ Below N W1 wr ∧ Hid (acc = Lib.repeatL s.data.toList k)) (fun _ i _ => n - (intOf i).toNat)
  case atStart => exact ⟨0, [], rfl, by omega, World.ownsRow_nil _ _ _ _, Below.refl _ _, rfl⟩
  case round =>
    obtain ⟨k, acc, rfl, hk, hrw, hbw, hacc⟩ := hrel
    have hzw := hbw.size
    by_cases hlt : k < n
    · have hal : acc.length + s.size ≤ 262144 := by
        rw [hacc.out, Lib.repeatL_length, ← Lib.size_eq]
        have h1 : (k + 1) * s.size ≤ n * s.size := Nat.mul_le_mul_right _ (by omega)
        have h2 := Hlen.out
        rw [Nat.mul_comm] at h2
        rw [Nat.add_mul, Nat.one_mul] at h1
        omega
      have hacc2 : Hid (acc ++ s.data.toList = Lib.repeatL s.data.toList (k + 1)) := by show _ = _; rw [hacc.out, repeatL_snoc]
      have hXc : Hid (Lib.strCells s = Lib.byteCells s.data.toList) := rfl
      have hXl : Hid (s.data.toList.length = s.size) := (Lib.size_eq s).symm
      clear hacc
      go_wp2_with (
        at_builtin; refine Lib.wpList_append_own_string _ rfl _ _ 46 9 rfl N 5 i0 Tryd.underlying46 Tryd.underlying9 hi hz0 hz1 hz2 _ _ _ rfl hrw _ rfl (by unfold maxLen; omega) (by omega) (by omega) ?_; intro v' w3 hown' hgrow3 hnil3
        have hbw3 : Below N W1 w3 := Below.grown hbw hgrow3 (by omega) (fun j hj => by have := (hrw.lt _ hj).1; omega)
        have X3 : Aside (w3.ownsRow N 5 1 v' (acc.length + s.size) (Lib.byteCells acc ++ Lib.strCells s) ∧ Below N W1 w3) := ⟨hown', hbw3⟩
        clear hown' hgrow3 hnil3 hbw3)
      go_roundw
      case rel =>
        refine ⟨k + 1, acc ++ s.data.toList, by go_num, by omega, ?_, X3.out.2, hacc2⟩
        rw [List.length_append, Lib.byteCells_append, hXl.out, ← hXc.out]; exact X3.out.1
      case measure => simp [intOf]; omega
    · obtain rfl : k = n := by omega
      have hcv := Tryd.bytes_text0 hrw
      go_wp2
      go_ret2
      exact ⟨by rw [hacc.out]; rfl, b1.trans (hbw.mono hwN)⟩

theorem width4 (l : List UInt8) : l.length ≤ 4 * (runes l).length := by
  induction l using rune_induct with
  | h0 => simp
  | h1 l hne ih =>
    rw [runes_step l hne, List.length_cons]
    have h1 : (Lib.decodeL l).2 ≤ 4 := by
      by_cases hb : bad l
      · have := hb.2; omega
      · exact width_le4 l hne hb
    rw [List.length_drop] at ih
    omega

theorem runes_repeat (l : List UInt8) (hv : Lib.validD l = true) : ∀ n, (runes (Lib.repeatL l n)).length = n * (runes l).length := by
  have hm : mend l = l := (valid_iff l).1 hv
  have h1 : ∀ n, ∃ rs : List Nat, Lib.repeatL l n = rs.flatMap enc ∧ (∀ r ∈ rs, VR r) ∧ rs.length = n * (runes l).length := by
    intro n
    induction n with
    | zero => exact ⟨[], rfl, by simp, by simp⟩
    | succ n ih =>
      obtain ⟨rs, h1, h2, h3⟩ := ih
      refine ⟨rs ++ runes l, ?_, ?_, ?_⟩
      · rw [← repeatL_snoc, h1, List.flatMap_append]; congr 1; exact hm.symm
      · intro r hr
        rcases List.mem_append.1 hr with h | h
        · exact h2 r h
        · exact runes_VR l r h
      · rw [List.length_append, h3, Nat.add_mul, Nat.one_mul]
  intro n
  obtain ⟨rs, h2, h3, h4⟩ := h1 n
  rw [h2, runes_flat rs h3, h4]

theorem runes_pos (s : ByteArray) (hp : 0 < s.size) : 1 ≤ (runes s.data.toList).length := by
  have := width4 s.data.toList
  rw [← Lib.size_eq] at this; omega

set_option maxHeartbeats 4000000 in
theorem Tryd.rep_none (s : ByteArray) (n : Int) (w : World) (hs : s.size ≤ 3000) (hn2 : -9223372036854775808 ≤ n ∧ n ≤ 9223372036854775807) (hT : Tryd.Tabs w) (h : n < 1 ∨ s.size = 0) :
    Calls Tryd.prog 8 #[.string s, .int .i64 n] w fun e w' => e = .returned (.bool true) ∧ Below w.heap.size w w' := by
  have f1 : ¬ 3000 < s.size := by omega
  obtain ⟨L, hL⟩ : ∃ L, (runes s.data.toList).length = L := ⟨_, rfl⟩
  have HV := Lib.hid (repV_a (L := L) h)
  have Hn := Lib.hid hn2
  have Hh := Lib.hid h
  by_cases h1 : n < 1
  · have hd : decide (n < 1) = true := decide_eq_true h1
    clear hn2 hL h h1
    go_enter Tryd.func8, Tryd.ntmps8
    go_wp2_with fail
    refine (Tryd.repeat_none s L n _ Hn.out Hh.out).mono ?_
    rw [HV.out]
    rintro e W1 ⟨rfl, b1⟩
    go_wp2_with fail
    refine (Tryd.rrepeat_none s L n _ Hn.out Hh.out).mono ?_
    rw [HV.out]
    rintro e W2 ⟨rfl, b2⟩
    have hb2 := b1.trans (b2.mono b1.size)
    go_wp2_with fail
    refine (Tryd.awake2_end hb2 hT).mono ?_
    rintro e W3 ⟨rfl, b3⟩
    go_wp2_with fail
    go_ret
    exact ⟨rfl, b3⟩
  · have hd : decide (n < 1) = false := by simp; omega
    have h0 : s.size = 0 := by omega
    have hl0 : s.data.toList = [] := List.length_eq_zero_iff.1 (by rw [← Lib.size_eq]; exact h0)
    have hL0 : Hid ((runes s.data.toList).length = 0) := by show _ = _; rw [hl0]; rfl
    have hE0 : Hid ((runes (⟨#[]⟩ : ByteArray).data.toList).length = 0) := rfl
    have hvd : Hid (Lib.validD s.data.toList = true) := by show _ = _; rw [hl0]; rfl
    have hmul : IntKind.i64.wrap (n * 0) = 0 := by rw [Int.mul_zero]; rfl
    clear hn2 hL h h1 hl0 h0
    go_enter Tryd.func8, Tryd.ntmps8
    go_wp2_with fail
    refine (Tryd.repeat_none s L n _ Hn.out Hh.out).mono ?_
    rw [HV.out]
    rintro e W1 ⟨rfl, b1⟩
    go_wp2_with fail
    refine (Tryd.rrepeat_none s L n _ Hn.out Hh.out).mono ?_
    rw [HV.out]
    rintro e W2 ⟨rfl, b2⟩
    have hb2 := b1.trans (b2.mono b1.size)
    go_wp2_with fail
    refine (Tryd.good_any s _ (by omega) (Tryd.Tabs_below hT hb2 (Nat.le_refl _))).mono ?_
    rw [hvd.out]
    rintro e W3 ⟨rfl, b3⟩
    have hb3 := hb2.trans (b3.mono hb2.size)
    go_wp2_with fail
    refine (Tryd.len_any ⟨#[]⟩ _ (by decide)).mono ?_
    rw [hE0.out]
    rintro e W4 ⟨rfl, b4⟩
    have hb4 := hb3.trans (b4.mono hb3.size)
    go_wp2_with fail
    refine (Tryd.len_any s _ (by omega)).mono ?_
    rw [hL0.out]
    rintro e W5 ⟨rfl, b5⟩
    have hb5 := hb4.trans (b5.mono hb4.size)
    go_wp2_with fail
    refine (Tryd.awake2_end hb5 hT).mono ?_
    rintro e W6 ⟨rfl, b6⟩
    go_wp2_with fail
    go_ret
    exact ⟨rfl, b6⟩

set_option maxHeartbeats 4000000 in
theorem Tryd.rep_big (s : ByteArray) (n L : Nat) (w : World) (hs : s.size ≤ 3000) (hp : 0 < s.size) (hn : 1 ≤ n) (hn2 : n ≤ 9223372036854775807) (hT : Tryd.Tabs w) (hL : (runes s.data.toList).length = L) (hL1 : 1 ≤ L) (hLs : L ≤ 3000) (hb : 65536 < L * n) :
    Calls Tryd.prog 8 #[.string s, .int .i64 n] w fun e w' => e = .returned (.bool true) ∧ Below w.heap.size w w' := by
  have f1 : ¬ 3000 < s.size := by omega
  have HV := Lib.hid (repV_b hn hp hb)
  have HL := Lib.hid hL
  have Hb := Lib.hid hb
  obtain ⟨q, hq⟩ : ∃ q, 65536 / L = q := ⟨_, rfl⟩
  have hqL : q < n := by rw [← hq]; exact (div_lt_iff2 L n hL1).2 hb
  have hqd : (65536 : Int).tdiv (L : Int) = (q : Int) := by rw [quo_div, hq]
  have hqI : (q : Int) < (n : Int) := by omega
  have hn0 : ¬ L = 0 := by omega
  have hnI : (0 : Int) < (n : Int) := by omega
  have hLI : (0 : Int) < (L : Int) := by omega
  have hq6 : q ≤ 65536 := by rw [← hq]; exact Nat.div_le_self _ _
  have hwq : IntKind.i64.wrap (q : Int) = (q : Int) := IntWalk.i64_in _ (by omega)
  clear hq hL hb
  go_enter Tryd.func8, Tryd.ntmps8
  go_wp2_with fail
  refine (Tryd.repeat_big s L n _ hs hp hn hn2 HL.out hLs Hb.out).mono ?_
  rw [HV.out]
  rintro e W1 ⟨rfl, b1⟩
  go_wp2_with fail
  refine (Tryd.rrepeat_big s L n _ hs hp hn hn2 HL.out hL1 Hb.out).mono ?_
  rw [HV.out]
  rintro e W2 ⟨rfl, b2⟩
  have hb2 := b1.trans (b2.mono b1.size)
  go_wp2_with fail
  refine (Tryd.len_any s _ (by omega)).mono ?_
  rw [HL.out]
  rintro e W3 ⟨rfl, b3⟩
  have hb3 := hb2.trans (b3.mono hb2.size)
  go_wp2_with fail
  refine (Tryd.len_any s _ (by omega)).mono ?_
  rw [HL.out]
  rintro e W4 ⟨rfl, b4⟩
  have hb4 := hb3.trans (b4.mono hb3.size)
  go_wp2_with fail
  refine (Tryd.awake2_end hb4 hT).mono ?_
  rintro e W6 ⟨rfl, b6⟩
  go_wp2_with fail
  go_ret
  exact ⟨rfl, b6⟩

set_option maxHeartbeats 4000000 in
theorem Tryd.rep_ok (s : ByteArray) (n L : Nat) (w : World) (hs : s.size ≤ 3000) (hp : 0 < s.size) (hn : 1 ≤ n) (hn2 : n ≤ 65536) (hT : Tryd.Tabs w) (hL : (runes s.data.toList).length = L) (hL1 : 1 ≤ L) (hLs : L ≤ 3000) (hb : L * n ≤ 65536) (hlen : s.size * n ≤ 262144) :
    Calls Tryd.prog 8 #[.string s, .int .i64 n] w fun e w' => e = .returned (.bool true) ∧ Below w.heap.size w w' := by
  have f1 : ¬ 3000 < s.size := by omega
  obtain ⟨X, hX⟩ : ∃ X : ByteArray, (⟨(Lib.repeatL s.data.toList n).toArray⟩ : ByteArray) = X := ⟨_, rfl⟩
  have hXs : X.size ≤ 262144 := by
    rw [← hX]; show (Lib.repeatL s.data.toList n).toArray.size ≤ _
    rw [List.size_toArray, Lib.repeatL_length, ← Lib.size_eq, Nat.mul_comm]; exact hlen
  have HV := Lib.hid (repV_c hn hp hb)
  rw [hX] at HV
  have HL := Lib.hid hL
  have Hb := Lib.hid hb
  have Hlen := Lib.hid hlen
  have Hlen2 : Hid (s.size * n ≤ 140737488355328) := by show _ ≤ _; omega
  have hmul : IntKind.i64.wrap ((n : Int) * (L : Int)) = (n : Int) * (L : Int) := IntWalk.i64_in _ (by
    have : ((n * L : Nat) : Int) ≤ 65536 := by rw [Nat.mul_comm] at hb; omega
    rw [Int.natCast_mul] at this
    have h2 : (0 : Int) ≤ (n : Int) * (L : Int) := Int.mul_nonneg (by omega) (by omega)
    omega)
  have hn1 : decide ((n : Int) < 1) = false := by simp; omega
  by_cases hv : Lib.validD s.data.toList = true
  · have Hv := Lib.hid hv
    have hr : Hid ((runes X.data.toList).length = n * L) := by
      show _ = _
      rw [← hX, ← hL]
      exact runes_repeat _ hv n
    clear hL hb hv hX hlen
    go_enter Tryd.func8, Tryd.ntmps8
    go_wp2_with fail
    refine (Tryd.repeat_ok s L n _ hs hp hn hn2 HL.out hLs Hb.out Hlen2.out).mono ?_
    rw [HV.out]
    rintro e W1 ⟨rfl, b1⟩
    go_wp2_with fail
    refine (Tryd.rrepeat_ok s L n _ hs hp hn hn2 HL.out hL1 Hb.out Hlen.out).mono ?_
    rw [HV.out]
    rintro e W2 ⟨rfl, b2⟩
    have hb2 := b1.trans (b2.mono b1.size)
    go_wp2_with fail
    refine (Tryd.good_any s _ (by omega) (Tryd.Tabs_below hT hb2 (Nat.le_refl _))).mono ?_
    rw [Hv.out]
    rintro e W3 ⟨rfl, b3⟩
    have hb3 := hb2.trans (b3.mono hb2.size)
    go_wp2_with fail
    refine (Tryd.len_any X _ (by omega)).mono ?_
    rw [hr.out, Int.natCast_mul]
    rintro e W4 ⟨rfl, b4⟩
    have hb4 := hb3.trans (b4.mono hb3.size)
    go_wp2_with fail
    refine (Tryd.len_any s _ (by omega)).mono ?_
    rw [HL.out]
    rintro e W5 ⟨rfl, b5⟩
    have hb5 := hb4.trans (b5.mono hb4.size)
    go_wp2_with fail
    refine (Tryd.awake2_end hb5 hT).mono ?_
    rintro e W6 ⟨rfl, b6⟩
    go_wp2_with fail
    go_ret
    exact ⟨rfl, b6⟩
  · have Hv : Hid (Lib.validD s.data.toList = false) := by show _ = _; simpa using hv
    clear hL hb hv hX hlen
    go_enter Tryd.func8, Tryd.ntmps8
    go_wp2_with fail
    refine (Tryd.repeat_ok s L n _ hs hp hn hn2 HL.out hLs Hb.out Hlen2.out).mono ?_
    rw [HV.out]
    rintro e W1 ⟨rfl, b1⟩
    go_wp2_with fail
    refine (Tryd.rrepeat_ok s L n _ hs hp hn hn2 HL.out hL1 Hb.out Hlen.out).mono ?_
    rw [HV.out]
    rintro e W2 ⟨rfl, b2⟩
    have hb2 := b1.trans (b2.mono b1.size)
    go_wp2_with fail
    refine (Tryd.good_any s _ (by omega) (Tryd.Tabs_below hT hb2 (Nat.le_refl _))).mono ?_
    rw [Hv.out]
    rintro e W3 ⟨rfl, b3⟩
    have hb3 := hb2.trans (b3.mono hb2.size)
    go_wp2_with fail
    refine (Tryd.awake2_end hb3 hT).mono ?_
    rintro e W6 ⟨rfl, b6⟩
    go_wp2_with fail
    go_ret
    exact ⟨rfl, b6⟩

theorem Tryd.lettersRepeat_any (s : ByteArray) (n : Int) (w : World) (hs : s.size ≤ 9223372036854775807) (hn : -9223372036854775808 ≤ n ∧ n ≤ 9223372036854775807) (hT : Tryd.Tabs w) :
    Calls Tryd.prog 8 #[.string s, .int .i64 n] w fun e w' => e = .returned (.bool true) ∧ Below w.heap.size w w' := by
  by_cases h : s.size ≤ 3000
  · by_cases h1 : n < 1 ∨ s.size = 0
    · exact Tryd.rep_none s n w h hn hT h1
    · obtain ⟨k, rfl⟩ : ∃ k : Nat, n = k := ⟨n.toNat, by omega⟩
      have hk : 1 ≤ k := by omega
      have hp : 0 < s.size := by omega
      have hL1 := runes_pos s hp
      have hLs : (runes s.data.toList).length ≤ 3000 := by have := runes_len s.data.toList; rw [← Lib.size_eq] at this; omega
      by_cases h2 : 65536 < (runes s.data.toList).length * k
      · exact Tryd.rep_big s k _ w h hp hk (by omega) hT rfl hL1 hLs h2
      · have hle : 1 * k ≤ (runes s.data.toList).length * k := Nat.mul_le_mul_right _ hL1
        have h4 : s.size * k ≤ 4 * (runes s.data.toList).length * k := Nat.mul_le_mul_right _ (by have := width4 s.data.toList; rw [← Lib.size_eq] at this; exact this)
        rw [Nat.mul_assoc] at h4
        exact Tryd.rep_ok s k _ w h hp hk (by omega) hT rfl hL1 hLs (by omega) (by omega)
  · have f1 : 3000 < s.size := by omega
    clear hn
    go_enter Tryd.func8, Tryd.ntmps8
    go_wp2_with fail
    refine (Tryd.awake2_end (Below.refl _ _) hT).mono ?_
    rintro e W3 ⟨rfl, b3⟩
    go_wp2
    go_ret
    exact ⟨rfl, b3⟩
end Go.Proofs
