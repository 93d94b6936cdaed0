/-
  letters.Repeat, the reference's; the law LettersRepeat.
-/
import Derived.Test.YtddblgfmocdpgaaDoorLtT1
import Derived.Deep.RegionHeld3
import Derived.IntWalk
set_option linter.unusedVariables false
namespace Go.Proofs
open Go.RowKit Go.Lt

/-- The answer of Repeat. -/
def repV (s : ByteArray) (L : Nat) (n : Int) : Value :=
  if n < 1 ∨ s.size = 0 then .tuple #[.string ⟨#[]⟩, .int .i64 0] else
  if 65536 < (L : Int) * n then .tuple #[.string ⟨#[]⟩, .int .i64 3] else .tuple #[.string ⟨(Lib.repeatL s.data.toList n.toNat).toArray⟩, .int .i64 0]
theorem repV_a {s : ByteArray} {L : Nat} {n : Int} (h : n < 1 ∨ s.size = 0) : repV s L n = .tuple #[.string ⟨#[]⟩, .int .i64 0] := if_pos h
theorem repV_b {s : ByteArray} {L : Nat} {n : Nat} (h1 : 1 ≤ n) (h2 : 0 < s.size) (h3 : 65536 < L * n) : repV s L n = .tuple #[.string ⟨#[]⟩, .int .i64 3] := by
  unfold repV; rw [if_neg (by omega), if_pos (by have : (65536 : Int) < ((L * n : Nat) : Int) := by omega
                                                 rw [Int.natCast_mul] at this; exact this)]
theorem repV_c {s : ByteArray} {L : Nat} {n : Nat} (h1 : 1 ≤ n) (h2 : 0 < s.size) (h3 : L * n ≤ 65536) : repV s L n = .tuple #[.string ⟨(Lib.repeatL s.data.toList n).toArray⟩, .int .i64 0] := by
  unfold repV; rw [if_neg (by omega), if_neg (by have : ((L * n : Nat) : Int) ≤ 65536 := by omega
                                                 rw [Int.natCast_mul] at this; omega)]; rfl

theorem quo_div (n : Nat) : (65536 : Int).tdiv (n : Int) = ((65536 / n : Nat) : Int) := by
  rw [show (65536 : Int) = ((65536 : Nat) : Int) from rfl]; exact (Int.ofNat_tdiv 65536 n).symm
theorem div_lt_iff (L n : Nat) (hn : 1 ≤ n) : 65536 / n < L ↔ 65536 < L * n := by
  rw [Nat.div_lt_iff_lt_mul (by omega)]

set_option maxHeartbeats 2000000 in
theorem Tryd.repeat_big (s : ByteArray) (L n : Nat) (w : World) (hs : s.size ≤ 3000) (hp : 0 < s.size) (hn : 1 ≤ n) (hn2 : n ≤ 9223372036854775807) (hL : (runes s.data.toList).length = L) (hLs : L ≤ 3000) (hb : 65536 < L * n) :
    Calls Tryd.prog 25 #[.string s, .int .i64 n] w fun e w' => e = .returned (repV s L n) ∧ Below w.heap.size w w' := by
  rw [repV_b hn hp hb]
  obtain ⟨q, hq⟩ : ∃ q, 65536 / n = q := ⟨_, rfl⟩
  have hqL : q < L := by rw [← hq]; exact (div_lt_iff L n hn).2 hb
  have hqd : (65536 : Int).tdiv (n : Int) = (q : Int) := by rw [quo_div, hq]
  have hqI : (q : Int) < (L : Int) := by omega
  have hn0 : ¬ n = 0 := by omega
  have hn1 : decide ((n : Int) < 1) = false := by simp; omega
  have hemp := not_empty s hp
  have HL := Lib.hid hL
  have hq6 : q ≤ 65536 := by rw [← hq]; exact Nat.div_le_self _ _
  have hwq : IntKind.i64.wrap (q : Int) = (q : Int) := IntWalk.i64_in _ (by omega)
  clear hq hL hb
  go_enter Tryd.func25, Tryd.ntmps25
  go_wp2_with fail
  go_region_held3 (fun w' => Below w.heap.size w w') (first | go_keep | exact (Below.refl _ _).drew | exact hS.drew | exact Below.trans (by assumption) (Below.mono (by assumption) (Below.size (by assumption))))
    (first | (go_at_call 21; refine (Tryd.len_any s _ (by omega)).mono ?_; rw [HL.out]; rintro e w' ⟨rfl, b⟩))
  rename_i hb1
  go_wp2_with fail
  go_ret2
  exact ⟨rfl, hb1⟩

set_option maxHeartbeats 2000000 in
theorem Tryd.repeat_ok (s : ByteArray) (L n : Nat) (w : World) (hs : s.size ≤ 3000) (hp : 0 < s.size) (hn : 1 ≤ n) (hn2 : n ≤ 65536) (hL : (runes s.data.toList).length = L) (hLs : L ≤ 3000) (hb : L * n ≤ 65536) (hlen : s.size * n ≤ 140737488355328) :
    Calls Tryd.prog 25 #[.string s, .int .i64 n] w fun e w' => e = .returned (repV s L n) ∧ Below w.heap.size w w' := by
  rw [repV_c hn hp hb]
  obtain ⟨q, hq⟩ : ∃ q, 65536 / n = q := ⟨_, rfl⟩
  have hqL : ¬ q < L := by rw [← hq]; intro h; have := (div_lt_iff L n hn).1 h; omega
  have hqd : (65536 : Int).tdiv (n : Int) = (q : Int) := by rw [quo_div, hq]
  have hqI : ¬ (q : Int) < (L : Int) := by omega
  have hn0 : ¬ n = 0 := by omega
  have hn1 : decide ((n : Int) < 1) = false := by simp; omega
  have hemp := not_empty s hp
  have HL := Lib.hid hL
  have Hlen := Lib.hid hlen
  have hq6 : q ≤ 65536 := by rw [← hq]; exact Nat.div_le_self _ _
  have hwq : IntKind.i64.wrap (q : Int) = (q : Int) := IntWalk.i64_in _ (by omega)
  clear hq hL hb hlen
  go_enter Tryd.func25, Tryd.ntmps25
  go_wp2_with fail
  go_region_held3 (fun w' => Below w.heap.size w w') (first | go_keep | exact (Below.refl _ _).drew | exact hS.drew | exact Below.trans (by assumption) (Below.mono (by assumption) (Below.size (by assumption))))
    (first | (go_at_call 21; refine (Tryd.len_any s _ (by omega)).mono ?_; rw [HL.out]; rintro e w' ⟨rfl, b⟩))
  rename_i hb1
  go_wp2_with fail
  refine (Tryd.strings_Repeat s n _ (by omega) Hlen.out).mono ?_
  rintro e W3 ⟨rfl, b3⟩
  go_wp2
  go_ret2
  exact ⟨rfl, hb1.trans (b3.mono hb1.size)⟩

set_option maxHeartbeats 2000000 in
theorem Tryd.repeat_none (s : ByteArray) (L : Nat) (n : Int) (w : World) (hn2 : -9223372036854775808 ≤ n ∧ n ≤ 9223372036854775807) (h : n < 1 ∨ s.size = 0) :
    Calls Tryd.prog 25 #[.string s, .int .i64 n] w fun e w' => e = .returned (repV s L n) ∧ Below w.heap.size w w' := by
  rw [repV_a h]
  by_cases h1 : n < 1
  · clear h hn2
    go_enter Tryd.func25, Tryd.ntmps25
    go_wp2
    go_ret2
    exact ⟨rfl, Below.refl _ _⟩
  · have he : s.toList.isEmpty = true := by
      rw [Lib.toList_data]; have := Lib.size_eq s; cases hx : s.data.toList with
      | nil => rfl
      | cons a l => rw [hx, List.length_cons] at this; omega
    have h2 : decide (n < 1) = false := by simp; omega
    clear h hn2 h1
    go_enter Tryd.func25, Tryd.ntmps25
    go_wp2
    go_ret2
    exact ⟨rfl, Below.refl _ _⟩

set_option maxHeartbeats 2000000 in
theorem Tryd.rrepeat_none (s : ByteArray) (L : Nat) (n : Int) (w : World) (hn2 : -9223372036854775808 ≤ n ∧ n ≤ 9223372036854775807) (h : n < 1 ∨ s.size = 0) :
    Calls Tryd.prog 26 #[.string s, .int .i64 n] w fun e w' => e = .returned (repV s L n) ∧ Below w.heap.size w w' := by
  rw [repV_a h]
  by_cases h1 : n < 1
  · clear h hn2
    go_enter Tryd.func26, Tryd.ntmps26
    go_wp2
    go_ret2
    exact ⟨rfl, Below.refl _ _⟩
  · have he : s.toList.isEmpty = true := by
      rw [Lib.toList_data]; have := Lib.size_eq s; cases hx : s.data.toList with
      | nil => rfl
      | cons a l => rw [hx, List.length_cons] at this; omega
    have h2 : decide (n < 1) = false := by simp; omega
    clear h hn2 h1
    go_enter Tryd.func26, Tryd.ntmps26
    go_wp2
    go_ret2
    exact ⟨rfl, Below.refl _ _⟩

theorem div_lt_iff2 (L n : Nat) (hL : 1 ≤ L) : 65536 / L < n ↔ 65536 < L * n := by
  rw [Nat.div_lt_iff_lt_mul (by omega), Nat.mul_comm]

set_option maxHeartbeats 2000000 in
theorem Tryd.rrepeat_big (s : ByteArray) (L n : Nat) (w : World) (hs : s.size ≤ 3000) (hp : 0 < s.size) (hn : 1 ≤ n) (hn2 : n ≤ 9223372036854775807) (hL : (runes s.data.toList).length = L) (hL1 : 1 ≤ L) (hb : 65536 < L * n) :
    Calls Tryd.prog 26 #[.string s, .int .i64 n] w fun e w' => e = .returned (repV s L n) ∧ Below w.heap.size w w' := by
  rw [repV_b hn hp hb]
  obtain ⟨q, hq⟩ : ∃ q, 65536 / L = q := ⟨_, rfl⟩
  have hqL : q < n := by rw [← hq]; exact (div_lt_iff2 L n hL1).2 hb
  have hqd : (65536 : Int).tdiv (L : Int) = (q : Int) := by rw [quo_div, hq]
  have hqI : (q : Int) < (n : Int) := by omega
  have hn0 : ¬ L = 0 := by omega
  have hn1 : decide ((n : Int) < 1) = false := by simp; omega
  have hemp := not_empty s hp
  have HL := Lib.hid hL
  have hq6 : q ≤ 65536 := by rw [← hq]; exact Nat.div_le_self _ _
  have hwq : IntKind.i64.wrap (q : Int) = (q : Int) := IntWalk.i64_in _ (by omega)
  clear hq hL hb
  go_enter Tryd.func26, Tryd.ntmps26
  go_wp2_with fail
  refine (Tryd.rlen_any s _ (by omega)).mono ?_
  rw [HL.out]
  rintro e W1 ⟨rfl, b1⟩
  go_wp2_with fail
  go_ret2
  exact ⟨rfl, b1⟩
end Go.Proofs
