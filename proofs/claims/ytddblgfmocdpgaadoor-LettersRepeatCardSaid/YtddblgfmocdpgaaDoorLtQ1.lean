/-
  Walks of letters: numbered, quoted.
-/
import Derived.Test.YtddblgfmocdpgaaDoorLtL1
import Derived.Lib.QuoteBits
set_option linter.unusedVariables false
namespace Go.Proofs
open Go.RowKit Go.Lt

theorem hexn_cons : ∀ (k n : Nat), hexn n (k + 1) = hexd (n / 16 ^ k % 16) :: hexn n k
  | 0, n => by simp [hexn]
  | k + 1, n => by
    rw [hexn, hexn_cons k (n / 16), hexn]
    rw [List.cons_append, Nat.div_div_eq_div_mul, Nat.pow_succ, Nat.mul_comm 16]
theorem hex_at : ∀ i : Fin 16, (⟨#[48, 49, 50, 51, 52, 53, 54, 55, 56, 57, 97, 98, 99, 100, 101, 102]⟩ : ByteArray)[i.val]'i.isLt = hexd i.val := by decide +kernel

def numCells (d r k : Nat) : List Value := List.replicate (d - k) (Value.int .u8 0) ++ (Lib.byteCells (hexn r k) ++ List.replicate (4 - d) (Value.int .u8 0))

set_option maxHeartbeats 2000000 in
theorem Tryd.numbered_any (r d : Nat) (w : World) (hr : r ≤ 1114111) (hd : d ≤ 4) (hd1 : 1 ≤ d) :
    Calls Tryd.prog 49 #[.int .i32 r, .int .i64 d] w fun e w' => e = .returned (.string ⟨(hexn r d).toArray⟩) ∧ Below w.heap.size w w' := by
  go_enter Tryd.func49, Tryd.ntmps49
  go_wp2
  go_loopw [0, 8] (fun a i wr => ∃ k q : Nat, i = .int .i64 k ∧ k ≤ d ∧ a = .int .i32 q ∧ Hid (q = r / 16 ^ k) ∧ wr.heap[w.heap.size]? = some (.cells (numCells d r k).toArray 87 (0, 0)) ∧ Below w.heap.size w wr) (fun _ i _ => d - (intOf i).toNat)
  case atStart =>
    refine ⟨0, r, rfl, by omega, rfl, by show _ = _; simp, ?_, (Below.refl _ w).alloc (Nat.le_refl _) _⟩
    have e : numCells d r 0 = [Value.int .u8 0, Value.int .u8 0, Value.int .u8 0, Value.int .u8 0] := by
      unfold numCells
      rw [show hexn r 0 = [] from rfl, show Lib.byteCells [] = [] from rfl, List.nil_append, List.replicate_append_replicate, show d - 0 + (4 - d) = 4 by omega]
      rfl
    rw [e]
    exact alloc_new w _
  case round =>
    obtain ⟨k, q, rfl, hk, rfl, hq, hhp, hbw⟩ := hrel
    by_cases hlt : k < d
    · have hqb : q ≤ 1114111 := by
        have := Nat.div_le_self r (16 ^ k)
        have h2 := hq.out
        omega
      obtain ⟨m, hm⟩ : ∃ m, q % 16 = m := ⟨_, rfl⟩
      have hand : bits .and .i32 (q : Int) 15 = (m : Int) := by rw [Lib.and15_i32 q (by omega), hm]
      have hm16 : m < 16 := by omega
      have hmI : (m : Int) < 16 := by omega
      have hlen : (numCells d r k).length = 4 := by
        unfold numCells; rw [List.length_append, List.length_append, List.length_replicate, List.length_replicate, Lib.byteCells_length, hexn_length]; omega
      obtain ⟨x, hcell⟩ : ∃ x, wr.cell? ⟨w.heap.size, d - 1 - k, none⟩ = some x := by
        refine ⟨(numCells d r k)[d - 1 - k]'(by omega), ?_⟩
        simp only [World.cell?, hhp]; simp
      have hfr : wr.frozen? ⟨w.heap.size, d - 1 - k, none⟩ = false := by simp [World.frozen?, hhp]
      have hst : Hid ((numCells d r k).set (d - 1 - k) (.int .u8 ((hexd m).toNat : Int)) = numCells d r (k + 1)) := by
        show _ = _
        unfold numCells
        rw [hexn_cons, ← hq.out, hm, show d - k = (d - 1 - k) + 1 by omega, show d - (k + 1) = d - 1 - k by omega, List.replicate_succ', List.append_assoc, List.set_append_right _ _ (by simp)]
        simp [Lib.byteCells]
      have hdig := hex_at ⟨m, hm16⟩
      have Hdig := Lib.hid hdig
      have Hm := Lib.hid hm
      have Hhp := Lib.hid hhp
      have Hlen := Lib.hid hlen
      have hlt1 : (0 : Int) ≤ (d : Int) - 1 - (k : Int) := by omega
      clear hm hdig hhp hlen
      go_wp2
      go_roundw
      case rel =>
        refine ⟨k + 1, q / 16, by go_num, by omega, by go_num, ?_, ?_, (hbw.setCell (p := ⟨w.heap.size, d - 1 - k, none⟩) (Nat.le_refl _) _)⟩
        · show _ = _
          rw [hq.out, Nat.div_div_eq_div_mul, Nat.pow_succ]
        · rw [setCell_heap Hhp.out, ← hst.out]
          rw [List.setIfInBounds_toArray]
          have e : ∀ h, (⟨#[48, 49, 50, 51, 52, 53, 54, 55, 56, 57, 97, 98, 99, 100, 101, 102]⟩ : ByteArray)[m]'h = hexd m := by
            intro h; exact Hdig.out
          rw [e]
      case measure => simp [intOf]; omega
    · obtain rfl : k = d := by omega
      have hcv : (convert 46 9 (.slice (some ⟨w.heap.size, 0, none⟩) k 4)).run Tryd.prog wr = .ok (.string ⟨(hexn r k).toArray⟩) wr := by
        have hl := hexn_length k r
        rw [run_convert_bytes_arg wr _ 5 Tryd.underlying46 Tryd.underlying5 w.heap.size 0 k 4 ((hexn r k).map fun b : UInt8 => (b.toNat : Int)) (by simp [hl]) ?_ _ Tryd.underlying9]
        · unfold strOfNums
          rw [List.map_map]
          have : (fun n : Int => UInt8.ofNat n.toNat) ∘ (fun b : UInt8 => (b.toNat : Int)) = id := by
            funext b; simp
          rw [this, List.map_id]
        · intro j hj
          have e : numCells k r k = Lib.byteCells (hexn r k) ++ List.replicate (4 - k) (Value.int .u8 0) := by
            unfold numCells; rw [Nat.sub_self]; rfl
          rw [e] at hhp
          simp only [World.cell?, hhp, Nat.zero_add]
          simp [Lib.byteCells, List.getElem?_append, hl, hj]
      have hk4 : (k : Int) ≤ 4 := by omega
      have hk40 : k ≤ 4 := by omega
      clear hq hhp
      go_wp2
      go_ret
      exact ⟨rfl, hbw⟩

theorem qr1 {r : Nat} (h : r = 39 ∨ r = 92) : qrune r = 92 :: enc r := by unfold qrune; rw [if_pos h]
theorem qr2 {r : Nat} (h : r < 32 ∨ r = 127) (h1 : r ≠ 10) (h2 : r ≠ 9) : qrune r = [92, 120] ++ hexn r 2 := by
  unfold qrune; rw [if_neg (by omega), if_neg h1, if_neg h2, if_pos h]
theorem qr3 {r : Nat} (h : (128 ≤ r ∧ r ≤ 159) ∨ r = 8232 ∨ r = 8233 ∨ r = 65279) : qrune r = [92, 117] ++ hexn r 4 := by
  unfold qrune; rw [if_neg (by omega), if_neg (by omega), if_neg (by omega), if_neg (by omega), if_pos h]
theorem qr4 {r : Nat} (h1 : ¬ (r = 39 ∨ r = 92)) (h3 : ¬ (r < 32 ∨ r = 127)) (h4 : ¬ ((128 ≤ r ∧ r ≤ 159) ∨ r = 8232 ∨ r = 8233 ∨ r = 65279)) : qrune r = enc r := by
  unfold qrune; rw [if_neg h1, if_neg (by omega), if_neg (by omega), if_neg h3, if_neg h4]
theorem str_append (a b : List UInt8) : (⟨a.toArray⟩ : ByteArray) ++ (⟨b.toArray⟩ : ByteArray) = ⟨(a ++ b).toArray⟩ := by
  apply ByteArray.ext
  rw [ByteArray.data_append]; simp

set_option maxHeartbeats 4000000 in
theorem Tryd.quoted_any (r : Nat) (w : World) (hr : r ≤ 1114111) :
    Calls Tryd.prog 36 #[.int .i32 r] w fun e w' => e = .returned (.string ⟨(qrune r).toArray⟩) ∧ Below w.heap.size w w' := by
  by_cases c1 : r = 39
  · subst c1
    go_enter Tryd.func36, Tryd.ntmps36
    go_wp2
    go_ret
    exact ⟨rfl, Below.refl _ _⟩
  by_cases c2 : r = 92
  · subst c2
    go_enter Tryd.func36, Tryd.ntmps36
    go_wp2
    go_ret
    exact ⟨rfl, Below.refl _ _⟩
  by_cases c3 : r = 10
  · subst c3
    go_enter Tryd.func36, Tryd.ntmps36
    go_wp2
    go_ret
    exact ⟨rfl, Below.refl _ _⟩
  by_cases c4 : r = 9
  · subst c4
    go_enter Tryd.func36, Tryd.ntmps36
    go_wp2
    go_ret
    exact ⟨rfl, Below.refl _ _⟩
  have f1 : ((r : Int) == 39) = false := by rw [beq_eq_false_iff_ne]; omega
  have f2 : ((r : Int) == 92) = false := by rw [beq_eq_false_iff_ne]; omega
  have f3 : ((r : Int) == 10) = false := by rw [beq_eq_false_iff_ne]; omega
  have f4 : ((r : Int) == 9) = false := by rw [beq_eq_false_iff_ne]; omega
  by_cases c5 : r = 127
  · subst c5
    go_enter Tryd.func36, Tryd.ntmps36
    go_wp2_with fail
    refine (Tryd.numbered_any 127 2 w (by omega) (by omega) (by omega)).mono ?_
    rintro e w' ⟨rfl, hb⟩
    go_wp2
    go_ret
    exact ⟨rfl, hb⟩
  have f5 : ((r : Int) == 127) = false := by rw [beq_eq_false_iff_ne]; omega
  by_cases c6 : r < 32
  · have hq := Lib.hid (qr2 (Or.inl c6) c3 c4)
    have f6 : decide ((r : Int) < 32) = true := decide_eq_true (by omega)
    clear c1 c2 c3 c4 c5 c6
    go_enter Tryd.func36, Tryd.ntmps36
    go_wp2_with fail
    refine (Tryd.numbered_any r 2 w (by omega) (by omega) (by omega)).mono ?_
    rintro e w' ⟨rfl, hb⟩
    go_wp2
    go_ret
    exact ⟨by rw [hq.out, ← str_append]; rfl, hb⟩
  have f6 : decide ((r : Int) < 32) = false := decide_eq_false (by omega)
  by_cases c7 : r = 8232
  · subst c7
    go_enter Tryd.func36, Tryd.ntmps36
    go_wp2_with fail
    refine (Tryd.numbered_any 8232 4 w (by omega) (by omega) (by omega)).mono ?_
    rintro e w' ⟨rfl, hb⟩
    go_wp2
    go_ret
    exact ⟨rfl, hb⟩
  by_cases c8 : r = 8233
  · subst c8
    go_enter Tryd.func36, Tryd.ntmps36
    go_wp2_with fail
    refine (Tryd.numbered_any 8233 4 w (by omega) (by omega) (by omega)).mono ?_
    rintro e w' ⟨rfl, hb⟩
    go_wp2
    go_ret
    exact ⟨rfl, hb⟩
  by_cases c9 : r = 65279
  · subst c9
    go_enter Tryd.func36, Tryd.ntmps36
    go_wp2_with fail
    refine (Tryd.numbered_any 65279 4 w (by omega) (by omega) (by omega)).mono ?_
    rintro e w' ⟨rfl, hb⟩
    go_wp2
    go_ret
    exact ⟨rfl, hb⟩
  have f7 : ((r : Int) == 8232) = false := by rw [beq_eq_false_iff_ne]; omega
  have f8 : ((r : Int) == 8233) = false := by rw [beq_eq_false_iff_ne]; omega
  have f9 : ((r : Int) == 65279) = false := by rw [beq_eq_false_iff_ne]; omega
  by_cases c10 : 128 ≤ r ∧ r ≤ 159
  · have hq := Lib.hid (qr3 (Or.inl c10))
    have fa : decide ((128 : Int) ≤ (r : Int)) = true := decide_eq_true (by omega)
    have fb : decide ((r : Int) ≤ 159) = true := decide_eq_true (by omega)
    clear c1 c2 c3 c4 c5 c6 c7 c8 c9 c10
    go_enter Tryd.func36, Tryd.ntmps36
    go_wp2_with fail
    refine (Tryd.numbered_any r 4 w (by omega) (by omega) (by omega)).mono ?_
    rintro e w' ⟨rfl, hb⟩
    go_wp2
    go_ret
    exact ⟨by rw [hq.out, ← str_append]; rfl, hb⟩
  · have hq := Lib.hid (qr4 (r := r) (by omega) (by omega) (by omega))
    by_cases c11 : 128 ≤ r
    · have fa : decide ((128 : Int) ≤ (r : Int)) = true := decide_eq_true (by omega)
      have fb : decide ((r : Int) ≤ 159) = false := decide_eq_false (by omega)
      clear c1 c2 c3 c4 c5 c6 c7 c8 c9 c10 c11
      go_enter Tryd.func36, Tryd.ntmps36
      go_wp2
      go_ret
      exact ⟨by rw [hq.out, encode_enc]; rfl, Below.refl _ _⟩
    · have fa : decide ((128 : Int) ≤ (r : Int)) = false := decide_eq_false (by omega)
      clear c1 c2 c3 c4 c5 c6 c7 c8 c9 c10 c11
      go_enter Tryd.func36, Tryd.ntmps36
      go_wp2
      go_ret
      exact ⟨by rw [hq.out, encode_enc]; rfl, Below.refl _ _⟩
end Go.Proofs
