/-
  Walks: letters and digits, the words (printed by gen_lxb.py).
-/
import Derived.Test.YtdbkibnplilogaaDoorLxA
import Derived.Test.YtdbkibnplilogaaDoorShelf
import Derived.Test.YtdbkibnplilogaaDoorKit
set_option linter.unusedVariables false
namespace Go.Proofs
open Go.RowKit Go.Lx

theorem dle_nat (a : Nat) (c : UInt8) (b : Bool) (h : decide (a ≤ c.toNat) = b) : decide ((a : Int) ≤ (c.toNat : Int)) = b := by
  rw [← h, decide_eq_decide]; omega
theorem dge_nat (a : Nat) (c : UInt8) (b : Bool) (h : decide (c.toNat ≤ a) = b) : decide ((c.toNat : Int) ≤ (a : Int)) = b := by
  rw [← h, decide_eq_decide]; omega
theorem deq_nat (a : Nat) (c : UInt8) (b : Bool) (h : decide (c.toNat = a) = b) : (((c.toNat : Int)) == (a : Int)) = b := by
  rw [← h, Bool.eq_iff_iff, beq_iff_eq, decide_eq_true_eq]; omega


set_option maxHeartbeats 2000000 in
theorem Tryd.isDigit_any (c : UInt8) (w : World) : Calls Tryd.prog 42 #[.int .u8 c.toNat] w fun e w' => e = .returned (.bool (isDig c)) ∧ w' = w := by
  unfold isDig
  obtain ⟨a, ha⟩ : ∃ a, decide (48 ≤ c.toNat) = a := ⟨_, rfl⟩
  obtain ⟨b, hb⟩ : ∃ b, decide (c.toNat ≤ 57) = b := ⟨_, rfl⟩
  rw [ha, hb]
  have ga := dle_nat 48 c a ha
  have gb := dge_nat 57 c b hb
  simp only [Int.cast_ofNat_Int] at ga gb
  clear ha hb
  cases a <;> cases b
  all_goals
    go_enter Tryd.func42, Tryd.ntmps42
    go_wp2
    go_ret
    exact ⟨rfl, rfl⟩


set_option maxHeartbeats 2000000 in
theorem Tryd.rdigit_any (c : UInt8) (w : World) : Calls Tryd.prog 32 #[.int .u8 c.toNat] w fun e w' => e = .returned (.bool (isDig c)) ∧ w' = w := by
  unfold isDig
  obtain ⟨a, ha⟩ : ∃ a, decide (48 ≤ c.toNat) = a := ⟨_, rfl⟩
  obtain ⟨b, hb⟩ : ∃ b, decide (c.toNat ≤ 57) = b := ⟨_, rfl⟩
  rw [ha, hb]
  have ga := dle_nat 48 c a ha
  have gb := dge_nat 57 c b hb
  simp only [Int.cast_ofNat_Int] at ga gb
  clear ha hb
  cases a <;> cases b
  all_goals
    go_enter Tryd.func32, Tryd.ntmps32
    go_wp2
    go_ret
    exact ⟨rfl, rfl⟩


set_option maxHeartbeats 8000000 in
theorem Tryd.isLetter_any (x : UInt8) (w : World) : Calls Tryd.prog 40 #[.int .u8 x.toNat] w fun e w' => e = .returned (.bool (isLet x)) ∧ w' = w := by
  unfold isLet
  obtain ⟨a, ha⟩ : ∃ a, decide (97 ≤ x.toNat) = a := ⟨_, rfl⟩
  obtain ⟨b, hb⟩ : ∃ b, decide (x.toNat ≤ 122) = b := ⟨_, rfl⟩
  obtain ⟨c, hc⟩ : ∃ a, decide (65 ≤ x.toNat) = a := ⟨_, rfl⟩
  obtain ⟨d, hd⟩ : ∃ b, decide (x.toNat ≤ 90) = b := ⟨_, rfl⟩
  obtain ⟨e, he⟩ : ∃ b, decide (x.toNat = 95) = b := ⟨_, rfl⟩
  rw [ha, hb, hc, hd, he]
  have ga := dle_nat 97 x a ha
  have gb := dge_nat 122 x b hb
  have gc := dle_nat 65 x c hc
  have gd := dge_nat 90 x d hd
  have ge := deq_nat 95 x e he
  simp only [Int.cast_ofNat_Int] at ga gb gc gd ge
  clear ha hb hc hd he
  cases a <;> cases b <;> cases c <;> cases d <;> cases e
  all_goals
    go_enter Tryd.func40, Tryd.ntmps40
    go_wp2
    go_ret
    exact ⟨rfl, rfl⟩


set_option maxHeartbeats 8000000 in
theorem Tryd.rletter_any (x : UInt8) (w : World) : Calls Tryd.prog 31 #[.int .u8 x.toNat] w fun e w' => e = .returned (.bool (isLet x)) ∧ w' = w := by
  unfold isLet
  obtain ⟨a, ha⟩ : ∃ a, decide (97 ≤ x.toNat) = a := ⟨_, rfl⟩
  obtain ⟨b, hb⟩ : ∃ b, decide (x.toNat ≤ 122) = b := ⟨_, rfl⟩
  obtain ⟨c, hc⟩ : ∃ a, decide (65 ≤ x.toNat) = a := ⟨_, rfl⟩
  obtain ⟨d, hd⟩ : ∃ b, decide (x.toNat ≤ 90) = b := ⟨_, rfl⟩
  obtain ⟨e, he⟩ : ∃ b, decide (x.toNat = 95) = b := ⟨_, rfl⟩
  rw [ha, hb, hc, hd, he]
  have ga := dle_nat 97 x a ha
  have gb := dge_nat 122 x b hb
  have gc := dle_nat 65 x c hc
  have gd := dge_nat 90 x d hd
  have ge := deq_nat 95 x e he
  simp only [Int.cast_ofNat_Int] at ga gb gc gd ge
  clear ha hb hc hd he
  cases a <;> cases b <;> cases c <;> cases d <;> cases e
  all_goals
    go_enter Tryd.func31, Tryd.ntmps31
    go_wp2
    go_ret
    exact ⟨rfl, rfl⟩


theorem isWord_at (s : ByteArray) (l : List UInt8) (h : (s.toList == l) = true) (hl : isWord l = true) : isWord s.data.toList = true := by
  rw [beq_iff_eq, Lib.toList_data] at h
  rw [h]; exact hl

set_option maxHeartbeats 8000000 in
theorem Tryd.word_any (s : ByteArray) (w : World) : Calls Tryd.prog 14 #[.string s] w fun e w' => e = .returned (.bool (isWord s.data.toList)) ∧ w' = w := by
  by_cases h0 : (s.toList == [97, 110, 100]) = true
  · rw [isWord_at s _ h0 (by decide)]
    go_enter Tryd.func14, Tryd.ntmps14
    go_wp2
    go_ret
    exact ⟨rfl, rfl⟩
  replace h0 : (s.toList == [97, 110, 100]) = false := by simpa using h0
  by_cases h1 : (s.toList == [97, 115]) = true
  · rw [isWord_at s _ h1 (by decide)]
    go_enter Tryd.func14, Tryd.ntmps14
    go_wp2
    go_ret
    exact ⟨rfl, rfl⟩
  replace h1 : (s.toList == [97, 115]) = false := by simpa using h1
  by_cases h2 : (s.toList == [98, 114, 101, 97, 107]) = true
  · rw [isWord_at s _ h2 (by decide)]
    go_enter Tryd.func14, Tryd.ntmps14
    go_wp2
    go_ret
    exact ⟨rfl, rfl⟩
  replace h2 : (s.toList == [98, 114, 101, 97, 107]) = false := by simpa using h2
  by_cases h3 : (s.toList == [99, 108, 97, 115, 115]) = true
  · rw [isWord_at s _ h3 (by decide)]
    go_enter Tryd.func14, Tryd.ntmps14
    go_wp2
    go_ret
    exact ⟨rfl, rfl⟩
  replace h3 : (s.toList == [99, 108, 97, 115, 115]) = false := by simpa using h3
  by_cases h4 : (s.toList == [99, 111, 110, 116, 105, 110, 117, 101]) = true
  · rw [isWord_at s _ h4 (by decide)]
    go_enter Tryd.func14, Tryd.ntmps14
    go_wp2
    go_ret
    exact ⟨rfl, rfl⟩
  replace h4 : (s.toList == [99, 111, 110, 116, 105, 110, 117, 101]) = false := by simpa using h4
  by_cases h5 : (s.toList == [100, 101, 102]) = true
  · rw [isWord_at s _ h5 (by decide)]
    go_enter Tryd.func14, Tryd.ntmps14
    go_wp2
    go_ret
    exact ⟨rfl, rfl⟩
  replace h5 : (s.toList == [100, 101, 102]) = false := by simpa using h5
  by_cases h6 : (s.toList == [100, 101, 108]) = true
  · rw [isWord_at s _ h6 (by decide)]
    go_enter Tryd.func14, Tryd.ntmps14
    go_wp2
    go_ret
    exact ⟨rfl, rfl⟩
  replace h6 : (s.toList == [100, 101, 108]) = false := by simpa using h6
  by_cases h7 : (s.toList == [101, 108, 105, 102]) = true
  · rw [isWord_at s _ h7 (by decide)]
    go_enter Tryd.func14, Tryd.ntmps14
    go_wp2
    go_ret
    exact ⟨rfl, rfl⟩
  replace h7 : (s.toList == [101, 108, 105, 102]) = false := by simpa using h7
  by_cases h8 : (s.toList == [101, 108, 115, 101]) = true
  · rw [isWord_at s _ h8 (by decide)]
    go_enter Tryd.func14, Tryd.ntmps14
    go_wp2
    go_ret
    exact ⟨rfl, rfl⟩
  replace h8 : (s.toList == [101, 108, 115, 101]) = false := by simpa using h8
  by_cases h9 : (s.toList == [101, 120, 99, 101, 112, 116]) = true
  · rw [isWord_at s _ h9 (by decide)]
    go_enter Tryd.func14, Tryd.ntmps14
    go_wp2
    go_ret
    exact ⟨rfl, rfl⟩
  replace h9 : (s.toList == [101, 120, 99, 101, 112, 116]) = false := by simpa using h9
  by_cases h10 : (s.toList == [70, 97, 108, 115, 101]) = true
  · rw [isWord_at s _ h10 (by decide)]
    go_enter Tryd.func14, Tryd.ntmps14
    go_wp2
    go_ret
    exact ⟨rfl, rfl⟩
  replace h10 : (s.toList == [70, 97, 108, 115, 101]) = false := by simpa using h10
  by_cases h11 : (s.toList == [102, 111, 114]) = true
  · rw [isWord_at s _ h11 (by decide)]
    go_enter Tryd.func14, Tryd.ntmps14
    go_wp2
    go_ret
    exact ⟨rfl, rfl⟩
  replace h11 : (s.toList == [102, 111, 114]) = false := by simpa using h11
  by_cases h12 : (s.toList == [103, 108, 111, 98, 97, 108]) = true
  · rw [isWord_at s _ h12 (by decide)]
    go_enter Tryd.func14, Tryd.ntmps14
    go_wp2
    go_ret
    exact ⟨rfl, rfl⟩
  replace h12 : (s.toList == [103, 108, 111, 98, 97, 108]) = false := by simpa using h12
  by_cases h13 : (s.toList == [105, 102]) = true
  · rw [isWord_at s _ h13 (by decide)]
    go_enter Tryd.func14, Tryd.ntmps14
    go_wp2
    go_ret
    exact ⟨rfl, rfl⟩
  replace h13 : (s.toList == [105, 102]) = false := by simpa using h13
  by_cases h14 : (s.toList == [105, 110]) = true
  · rw [isWord_at s _ h14 (by decide)]
    go_enter Tryd.func14, Tryd.ntmps14
    go_wp2
    go_ret
    exact ⟨rfl, rfl⟩
  replace h14 : (s.toList == [105, 110]) = false := by simpa using h14
  by_cases h15 : (s.toList == [105, 115]) = true
  · rw [isWord_at s _ h15 (by decide)]
    go_enter Tryd.func14, Tryd.ntmps14
    go_wp2
    go_ret
    exact ⟨rfl, rfl⟩
  replace h15 : (s.toList == [105, 115]) = false := by simpa using h15
  by_cases h16 : (s.toList == [78, 111, 110, 101]) = true
  · rw [isWord_at s _ h16 (by decide)]
    go_enter Tryd.func14, Tryd.ntmps14
    go_wp2
    go_ret
    exact ⟨rfl, rfl⟩
  replace h16 : (s.toList == [78, 111, 110, 101]) = false := by simpa using h16
  by_cases h17 : (s.toList == [110, 111, 110, 108, 111, 99, 97, 108]) = true
  · rw [isWord_at s _ h17 (by decide)]
    go_enter Tryd.func14, Tryd.ntmps14
    go_wp2
    go_ret
    exact ⟨rfl, rfl⟩
  replace h17 : (s.toList == [110, 111, 110, 108, 111, 99, 97, 108]) = false := by simpa using h17
  by_cases h18 : (s.toList == [110, 111, 116]) = true
  · rw [isWord_at s _ h18 (by decide)]
    go_enter Tryd.func14, Tryd.ntmps14
    go_wp2
    go_ret
    exact ⟨rfl, rfl⟩
  replace h18 : (s.toList == [110, 111, 116]) = false := by simpa using h18
  by_cases h19 : (s.toList == [111, 114]) = true
  · rw [isWord_at s _ h19 (by decide)]
    go_enter Tryd.func14, Tryd.ntmps14
    go_wp2
    go_ret
    exact ⟨rfl, rfl⟩
  replace h19 : (s.toList == [111, 114]) = false := by simpa using h19
  by_cases h20 : (s.toList == [112, 97, 115, 115]) = true
  · rw [isWord_at s _ h20 (by decide)]
    go_enter Tryd.func14, Tryd.ntmps14
    go_wp2
    go_ret
    exact ⟨rfl, rfl⟩
  replace h20 : (s.toList == [112, 97, 115, 115]) = false := by simpa using h20
  by_cases h21 : (s.toList == [114, 97, 105, 115, 101]) = true
  · rw [isWord_at s _ h21 (by decide)]
    go_enter Tryd.func14, Tryd.ntmps14
    go_wp2
    go_ret
    exact ⟨rfl, rfl⟩
  replace h21 : (s.toList == [114, 97, 105, 115, 101]) = false := by simpa using h21
  by_cases h22 : (s.toList == [114, 101, 116, 117, 114, 110]) = true
  · rw [isWord_at s _ h22 (by decide)]
    go_enter Tryd.func14, Tryd.ntmps14
    go_wp2
    go_ret
    exact ⟨rfl, rfl⟩
  replace h22 : (s.toList == [114, 101, 116, 117, 114, 110]) = false := by simpa using h22
  by_cases h23 : (s.toList == [84, 114, 117, 101]) = true
  · rw [isWord_at s _ h23 (by decide)]
    go_enter Tryd.func14, Tryd.ntmps14
    go_wp2
    go_ret
    exact ⟨rfl, rfl⟩
  replace h23 : (s.toList == [84, 114, 117, 101]) = false := by simpa using h23
  by_cases h24 : (s.toList == [116, 114, 121]) = true
  · rw [isWord_at s _ h24 (by decide)]
    go_enter Tryd.func14, Tryd.ntmps14
    go_wp2
    go_ret
    exact ⟨rfl, rfl⟩
  replace h24 : (s.toList == [116, 114, 121]) = false := by simpa using h24
  by_cases h25 : (s.toList == [119, 104, 105, 108, 101]) = true
  · rw [isWord_at s _ h25 (by decide)]
    go_enter Tryd.func14, Tryd.ntmps14
    go_wp2
    go_ret
    exact ⟨rfl, rfl⟩
  replace h25 : (s.toList == [119, 104, 105, 108, 101]) = false := by simpa using h25
  have hn : Hid (isWord s.data.toList = false) := by
    show _ = _
    unfold isWord words
    simp only [List.contains_cons, List.contains_nil, ← Lib.toList_data, h0, h1, h2, h3, h4, h5, h6, h7, h8, h9, h10, h11, h12, h13, h14, h15, h16, h17, h18, h19, h20, h21, h22, h23, h24, h25, Bool.or_false]
  go_enter Tryd.func14, Tryd.ntmps14
  go_wp2
  go_ret
  exact ⟨by rw [hn.out]; rfl, rfl⟩
end Go.Proofs