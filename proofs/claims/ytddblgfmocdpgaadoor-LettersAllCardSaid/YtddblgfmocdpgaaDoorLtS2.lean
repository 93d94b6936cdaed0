/-
  letters.All, the law's goes, the law LettersAll.
-/
import Derived.Test.YtddblgfmocdpgaaDoorLtS1
set_option linter.unusedVariables false
namespace Go.Proofs
open Go.RowKit Go.Lt

theorem Tryd.all_any (s : ByteArray) (w : World) :
    Calls Tryd.prog 14 #[.string s] w fun e w' => e = .returned (.func (.func 37) #[] #[.pointer (some ⟨w.heap.size, 0, none⟩)]) ∧ w'.cell? ⟨w.heap.size, 0, none⟩ = some (.string s) ∧ w.heap.size < w'.heap.size ∧ Below w.heap.size w w' := by
  go_enter Tryd.func14, Tryd.ntmps14
  go_wp2
  go_ret
  exact ⟨rfl, cell_one_new' _ _ _ 0 _ rfl, by show _ < (w.heap.push _).size; rw [Array.size_push]; omega, (Below.refl _ w).alloc (Nat.le_refl _) _⟩

theorem goes_start (w : World) (st : Int) (lv : Value) :
    GoesAt w.heap.size 0 st lv false (((((w.alloc (.cells #[lv] 34 (0, 0))).alloc (.cells #[.int .i64 st] 3 (0, 0))).alloc (.cells #[.int .i64 0] 3 (0, 0))).alloc (.cells #[.bool true] 4 (0, 0))).alloc (.cells #[.bool false] 4 (0, 0))) := by
  refine ⟨?_, ?_, ?_, ?_, ?_⟩
  all_goals
    show (((((w.heap.push _).push _).push _).push _).push _)[_]? = _
    simp only [Array.getElem?_push, Array.size_push]
    repeat first | rw [if_pos (by omega)] | rw [if_neg (by omega)]
  all_goals rfl

set_option maxHeartbeats 2000000 in
theorem Tryd.goes_any (cap sb : Nat) (g : Option Addr) (st : Int) (s : ByteArray) (rs : List Nat) (w : World) (hs : s.size ≤ 3000) (hst : -9223372036854775808 ≤ st ∧ st ≤ 9223372036854775807)
    (hrs : Hid (runes s.data.toList = rs)) (hsb : sb < w.heap.size) (hsc : w.cell? ⟨sb, 0, none⟩ = some (.string s))
    (hg : Hid (∀ i (hi : i < rs.length), ∃ g', g = some ⟨g', 0, none⟩ ∧ g' < w.heap.size ∧ w.cell? ⟨g', i, none⟩ = some (.string (strOf rs[i])))) :
    Calls Tryd.prog 16 #[.func (.func 37) #[] #[.pointer (some ⟨sb, 0, none⟩)], .slice g rs.length cap, .int .i64 st] w
      fun e w' => e = .returned (.bool true) ∧ Below w.heap.size w w' := by
  have Hst := Lib.hid hst
  have hrl : rs.length ≤ s.size := by rw [← hrs.out, Lib.size_eq]; exact runes_len _
  obtain ⟨q1, q2⟩ := hst
  go_enter Tryd.func16, Tryd.ntmps16
  go_wp2_with fail
  refine (Tryd.all1_any w.heap.size cap sb g st s rs _ hs Hst.out hrs.out (goes_start w st _) hsb ?_ ?_).mono ?_
  · rw [Below.cell (((((((Below.refl w.heap.size w).alloc (Nat.le_refl _) _).alloc (by simp) _).alloc (by simp; omega) _).alloc (by simp; omega) _).alloc (by simp; omega) _)) (p := ⟨sb, 0, none⟩) hsb]; exact hsc
  · intro i hi
    obtain ⟨g', h1, h2, h3⟩ := hg.out i hi
    exact ⟨g', h1, h2, by rw [Below.cell (((((((Below.refl w.heap.size w).alloc (Nat.le_refl _) _).alloc (by simp) _).alloc (by simp; omega) _).alloc (by simp; omega) _).alloc (by simp; omega) _)) (p := ⟨g', i, none⟩) h2]; exact h3⟩
  rintro e W1 ⟨rfl, ⟨m, ov, hA, hm⟩, b1⟩
  have cs := cell_of_one hA.s
  have cn := cell_of_one hA.n
  have co := cell_of_one hA.o
  have cl := cell_of_one hA.l
  have hb1 : Below w.heap.size w W1 := (((((((Below.refl w.heap.size w).alloc (Nat.le_refl _) _).alloc (by simp) _).alloc (by simp; omega) _).alloc (by simp; omega) _).alloc (by simp; omega) _)).trans b1
  clear hA b1
  by_cases h1 : (m : Int) = st
  · by_cases h2 : 0 < st
    · subst h1
      clear hm
      go_wp2
      go_ret
      exact ⟨rfl, hb1⟩
    · have h3 : m = 0 := by omega
      have h4 : rs = [] := List.eq_nil_of_length_eq_zero (by omega)
      have h5 : st = 0 := by omega
      subst h3
      subst h4
      clear hm h1
      subst h5
      go_wp2
      go_ret
      exact ⟨rfl, hb1⟩
  · have h3 : m = rs.length := by omega
    subst h3
    clear hm
    have hx : (((rs.length : Nat) : Int) == st) = false := by rw [beq_eq_false_iff_ne]; exact h1
    go_wp2
    go_ret
    exact ⟨rfl, hb1⟩

theorem Tryd.funcNotNil (fn : Fn) (a b : Array Value) (w : World) : (binOp .eql 32 (.func fn a b) .nilFunc).run Tryd.prog w = .ok (.bool false) w := by kernel_rfl

set_option maxHeartbeats 4000000 in
set_option maxRecDepth 100000 in
theorem Tryd.lettersAll_any (s : ByteArray) (st : Int) (w : World) (hs : s.size ≤ 9223372036854775807) (hst : -9223372036854775808 ≤ st ∧ st ≤ 9223372036854775807) (hT : Tryd.Tabs w) :
    Calls Tryd.prog 5 #[.string s, .int .i64 st] w fun e w' => e = .returned (.bool true) ∧ Below w.heap.size w w' := by
  by_cases h : s.size ≤ 3000
  · have f1 : ¬ 3000 < s.size := by omega
    obtain ⟨rs, hrs⟩ : ∃ rs, runes s.data.toList = rs := ⟨_, rfl⟩
    have hrl : rs.length ≤ s.size := by rw [← hrs, Lib.size_eq]; exact runes_len _
    obtain ⟨T, hTt⟩ : ∃ T : ByteArray, (⟨(rs.flatMap enc).toArray⟩ : ByteArray) = T := ⟨_, rfl⟩
    obtain ⟨bb, hbb⟩ : ∃ b, Lib.validD s.data.toList = b := ⟨_, rfl⟩
    have e1 : (T.toList == s.toList) = bb := by
      rw [← hbb, valid_mend, Lib.toList_data, Lib.toList_data, Bool.eq_iff_iff, beq_iff_eq, decide_eq_true_eq, ← hTt]
      unfold mend
      rw [hrs]
    have e2 : Hid (Lib.validD T.data.toList = true) := by
      show _ = _
      rw [← hTt, ← hrs]
      exact mend_valid _
    have hTs : T.size ≤ 12000 := by
      rw [← hTt]
      show (rs.flatMap enc).toArray.size ≤ _
      rw [List.size_toArray]
      have : ∀ l : List Nat, (l.flatMap enc).length ≤ 4 * l.length := by
        intro l
        induction l with
        | nil => simp
        | cons a l ih =>
          have := (enc_pos a).2
          rw [List.flatMap_cons, List.length_append, List.length_cons]; omega
      have h1 := this rs
      omega
    have Hrs := Lib.hid hrs
    have HT := Lib.hid hTt
    have Hbb := Lib.hid hbb
    have Hst := Lib.hid hst
    clear hrs hTt hbb hst
    go_enter Tryd.func5, Tryd.ntmps5
    go_wp2_with fail
    refine (Tryd.all_any _ _).mono ?_
    rintro e W1 ⟨rfl, hsc1, hz1, b1⟩
    go_wp2_with fail
    refine (Tryd.rall_any _ _ (by omega)).mono ?_
    rw [Hrs.out]
    rintro e W2 ⟨v, rfl, hown, b2⟩
    have hb2 := b1.trans (b2.mono b1.size)
    have hsc2 : W2.cell? ⟨w.heap.size, 0, none⟩ = some (.string s) := by rw [b2.cell (p := ⟨w.heap.size, 0, none⟩) hz1]; exact hsc1
    obtain ⟨g, cap, rfl, hgB, hgo⟩ := row_open hown
    clear hown hsc1
    have hz2 := b2.size
    have Hgo : Hid (∀ i (hi : i < rs.length), ∃ g', g = some ⟨g', 0, none⟩ ∧ g' < W2.heap.size ∧ W2.cell? ⟨g', i, none⟩ = some (.string (strOf rs[i]))) := by
      intro i hi
      obtain ⟨b, h1, h2⟩ := hgo i hi
      refine ⟨b, h1, (hgB _ h1).2, ?_⟩
      rw [h2]
      unfold strVals
      rw [List.getElem?_map, List.getElem?_eq_getElem hi]; rfl
    clear hgo
    have Hsc := Lib.hid hsc2
    clear hsc2
    have hnn : ∀ W : World, (binOp .eql 32 (.func (.func 37) #[] #[.pointer (some ⟨w.heap.size, 0, none⟩)]) .nilFunc).run Tryd.prog W = .ok (.bool false) W := fun W => Tryd.funcNotNil _ _ _ W
    go_wp2_with fail
    refine (Tryd.goes_any cap w.heap.size g st s rs W2 h Hst.out Hrs (by omega) Hsc.out Hgo).mono ?_
    rintro e W3 ⟨rfl, b3⟩
    have hb3 := hb2.trans (b3.mono hb2.size)
    have hz3 := b3.size
    have Hgo3 : Hid (∀ i (hi : i < rs.length), ∃ g', g = some ⟨g', 0, none⟩ ∧ g' < W3.heap.size ∧ W3.cell? ⟨g', i, none⟩ = some (.string (strOf rs[i]))) := by
      intro i hi
      obtain ⟨b, h1, h2, h3⟩ := Hgo.out i hi
      exact ⟨b, h1, by omega, by rw [b3.cell (p := ⟨b, i, none⟩) h2]; exact h3⟩
    have Hsc3 : Hid (W3.cell? ⟨w.heap.size, 0, none⟩ = some (.string s)) := by show _ = _; rw [b3.cell (p := ⟨w.heap.size, 0, none⟩) (by show w.heap.size < _; omega)]; exact Hsc.out
    go_wp2_with fail
    refine (Tryd.goes_any cap w.heap.size g 0 s rs W3 h (by omega) Hrs (by omega) Hsc3.out Hgo3).mono ?_
    rintro e W4 ⟨rfl, b4⟩
    have hb4 := hb3.trans (b4.mono hb3.size)
    have hz4 := b4.size
    have Hgo4 : Hid (∀ i (hi : i < rs.length), ∃ g', g = some ⟨g', 0, none⟩ ∧ W4.cell? ⟨g', i, none⟩ = some (.string (strOf rs[i]))) := by
      intro i hi
      obtain ⟨b, h1, h2, h3⟩ := Hgo3.out i hi
      exact ⟨b, h1, by rw [b4.cell (p := ⟨b, i, none⟩) h2]; exact h3⟩
    clear hgB
    go_wp2
    go_loopw [7, 8] (fun m i wr => ∃ (k : Nat) (M : ByteArray), i = .int .i64 k ∧ k ≤ rs.length ∧ m = .string M ∧ Hid (M = ⟨((rs.take k).flatMap enc).toArray⟩) ∧ wr = W4) (fun _ i _ => rs.length - (intOf i).toNat)
    case atStart => exact ⟨0, ⟨#[]⟩, rfl, by omega, rfl, rfl, rfl⟩
    case round =>
      obtain ⟨k, M, rfl, hk, rfl, hM, rfl⟩ := hrel
      have hMs : M.size ≤ 12000 := by
        rw [hM.out]
        show ((rs.take k).flatMap enc).toArray.size ≤ _
        rw [List.size_toArray]
        have : ∀ l : List Nat, (l.flatMap enc).length ≤ 4 * l.length := by
          intro l
          induction l with
          | nil => simp
          | cons a l ih =>
            have := (enc_pos a).2
            rw [List.flatMap_cons, List.length_append, List.length_cons]; omega
        have h1 := this (rs.take k)
        have h2 : (rs.take k).length ≤ k := List.length_take_le _ _
        omega
      by_cases hlt : k < rs.length
      · obtain ⟨b, rfl, hcell⟩ := Hgo4.out k hlt
        have hX : (strOf rs[k]).size ≤ 4 := by
          show (enc rs[k]).toArray.size ≤ 4
          rw [List.size_toArray]; exact (enc_pos _).2
        have hM2 : Hid (M ++ strOf rs[k] = ⟨((rs.take (k + 1)).flatMap enc).toArray⟩) := by
          show _ = _
          rw [hM.out, take_snoc_rune rs k hlt, List.flatMap_append]
          unfold strOf
          rw [str_append]; simp
        clear hM
        go_wp2
        go_roundw
        case rel => exact ⟨k + 1, _, by go_num, by omega, rfl, hM2, trivial⟩
        case measure => simp [intOf]; omega
      · obtain rfl : k = rs.length := by omega
        have hMT : M = T := by rw [hM.out, List.take_of_length_le (Nat.le_refl _), HT.out]
        subst hMT
        clear hM
        cases bb
        all_goals
          go_wp2_with fail
          refine (Tryd.good_any _ _ hs (Tryd.Tabs_below hT hb4 (Nat.le_refl _))).mono ?_
          rw [Hbb.out]
          rintro e W5 ⟨rfl, b5⟩
          have hb5 := hb4.trans (b5.mono hb4.size)
          go_wp2_with fail
          refine (Tryd.good_any _ _ (by omega) (Tryd.Tabs_below hT hb5 (Nat.le_refl _))).mono ?_
          rw [e2.out]
          rintro e W6 ⟨rfl, b6⟩
          have hb6 := hb5.trans (b6.mono hb5.size)
          go_wp2_with fail
          refine (Tryd.awake2_end hb6 hT).mono ?_
          rintro e W7 ⟨rfl, b7⟩
          go_wp2
          go_ret
          exact ⟨rfl, b7⟩
  · have f1 : 3000 < s.size := by omega
    go_enter Tryd.func5, Tryd.ntmps5
    go_wp2_with fail
    refine (Tryd.awake2_end (Below.refl _ _) hT).mono ?_
    rintro e W3 ⟨rfl, b3⟩
    go_wp2
    go_ret
    exact ⟨rfl, b3⟩
end Go.Proofs
