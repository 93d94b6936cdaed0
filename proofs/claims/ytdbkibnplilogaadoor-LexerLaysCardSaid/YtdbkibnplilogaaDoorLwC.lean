/-
  Walks of the reference for letters: hex, Quote (out of LtQ1, LtQ2, LtQ3).
-/
import Derived.Test.YtdbkibnplilogaaDoorLtR3
import Derived.Lib.QuoteBits
set_option linter.unusedVariables false
namespace Go.Proofs
open Go.RowKit Go.Lt

theorem hexn_cons : ∀ (k n : Nat), hexn n (k + 1) = hexd (n / 16 ^ k % 16) :: hexn n k
  | 0, n => by simp [hexn]
  | k + 1, n => by
    rw [hexn, hexn_cons k (n / 16), hexn]
    rw [List.cons_append, Nat.div_div_eq_div_mul, Nat.pow_succ, Nat.mul_comm 16]
theorem hex_at : ∀ i : Fin 16, (⟨#[48, 49, 50, 51, 52, 53, 54, 55, 56, 57, 97, 98, 99, 100, 101, 102]⟩ : ByteArray)[i.val]'i.isLt = hexd i.val := by decide +kernel
theorem flat_q_len : ∀ rs : List Nat, (rs.flatMap qrune).length ≤ 6 * rs.length
  | [] => by simp
  | r :: rs => by
    have := flat_q_len rs
    have h6 := (qrune_len r).2
    rw [List.flatMap_cons, List.length_append, List.length_cons]; omega
theorem str_append (a b : List UInt8) : (⟨a.toArray⟩ : ByteArray) ++ (⟨b.toArray⟩ : ByteArray) = ⟨(a ++ b).toArray⟩ := by
  apply ByteArray.ext
  rw [ByteArray.data_append]; simp
theorem qr2 {r : Nat} (h : r < 32 ∨ r = 127) (h1 : r ≠ 10) (h2 : r ≠ 9) : qrune r = [92, 120] ++ hexn r 2 := by
  unfold qrune; rw [if_neg (by omega), if_neg h1, if_neg h2, if_pos h]
theorem qr3 {r : Nat} (h : (128 ≤ r ∧ r ≤ 159) ∨ r = 8232 ∨ r = 8233 ∨ r = 65279) : qrune r = [92, 117] ++ hexn r 4 := by
  unfold qrune; rw [if_neg (by omega), if_neg (by omega), if_neg (by omega), if_neg (by omega), if_pos h]
theorem qr4 {r : Nat} (h1 : ¬ (r = 39 ∨ r = 92)) (h3 : ¬ (r < 32 ∨ r = 127)) (h4 : ¬ ((128 ≤ r ∧ r ≤ 159) ∨ r = 8232 ∨ r = 8233 ∨ r = 65279)) : qrune r = enc r := by
  unfold qrune; rw [if_neg h1, if_neg (by omega), if_neg (by omega), if_neg h3, if_neg h4]

def hexCells (d r k : Nat) : List Value := List.replicate (d - k) (Value.int .u8 0) ++ Lib.byteCells (hexn r k)

theorem flat_single {α : Type} (x : α) : ∀ n : Nat, (List.replicate n [x]).flatten = List.replicate n x
  | 0 => rfl
  | n + 1 => by rw [List.replicate_succ, List.flatten_cons, flat_single x n]; rfl

set_option maxHeartbeats 2000000 in
theorem Tryd.hex_any (r d : Nat) (w : World) (hr : r ≤ 1114111) (hd : d ≤ 4) (hd1 : 1 ≤ d) :
    Calls Tryd.prog 36 #[.int .i64 r, .int .i64 d] w fun e w' => e = .returned (.string ⟨(hexn r d).toArray⟩) ∧ Below w.heap.size w w' := by
  obtain ⟨i0, hi, hz0, hz1, hz2⟩ := info_parts Tryd.infoU8
  have hzd : 0 < d := by omega
  go_enter Tryd.func36, Tryd.ntmps36
  go_wp2_with (
    at_make; refine wpList_make_full _ rfl _ _ 22 rfl w.heap.size 5 i0 (.int .u8 0) 1 Tryd.underlying22 hi hz0 hz1 .i64 .i64 _ _ d rfl rfl rfl rfl (by rw [hz2]; omega) (by unfold maxLen; omega) (Nat.le_refl _) ?_; intro w0 hown0 hgrow0)
  have hbw0 : Below w.heap.size w w0 := Below.grown (Below.refl _ w) hgrow0 (Nat.le_refl _) (fun j hj => by cases hj)
  have hc0 : (madeCells (Value.int .u8 0).cells (d * 1)).toList = hexCells d r 0 := by
    unfold hexCells
    rw [show hexn r 0 = [] from rfl, show Lib.byteCells [] = [] from rfl, List.append_nil, Nat.sub_zero]
    rw [show (Value.int .u8 0).cells = #[Value.int .u8 0] from rfl, toList_madeCells_one, Nat.mul_one]
  rw [hc0] at hown0
  clear hgrow0 hc0
  go_wp2
  go_loopw [0, 6] (fun a i wr => ∃ k q : Nat, i = .int .i64 ((d : Int) - 1 - k) ∧ k ≤ d ∧ a = .int .i64 q ∧ Hid (q = r / 16 ^ k) ∧ wr.ownsRow w.heap.size 5 1 (.slice (some ⟨w.heap.size, 0, none⟩) d d) d (hexCells d r k) ∧ Below w.heap.size w wr) (fun _ i _ => (intOf i + 1).toNat)
  case atStart =>
    exact ⟨0, r, by go_num, by omega, rfl, by show _ = _; simp, hown0, hbw0⟩
  case round =>
    obtain ⟨k, q, rfl, hk, rfl, hq, hown, hbw⟩ := hrel
    by_cases hlt : k < d
    · have hqb : q ≤ 1114111 := by
        have := Nat.div_le_self r (16 ^ k)
        have h2 := hq.out
        omega
      obtain ⟨m, hm⟩ : ∃ m, q % 16 = m := ⟨_, rfl⟩
      have hmz : (q : Int) % 16 = (m : Int) := by omega
      have hm16 : m < 16 := by omega
      have hmI : (m : Int) < 16 := by omega
      have hlen : (hexCells d r k).length = d := by
        unfold hexCells; rw [List.length_append, List.length_replicate, Lib.byteCells_length, hexn_length]; omega
      have hcell : ∃ x, wr.cell? ⟨w.heap.size, d - 1 - k, none⟩ = some x := by
        refine ⟨(hexCells d r k)[d - 1 - k]'(by omega), ?_⟩
        rw [hown.cellAt (d - 1 - k) (by omega)]
        exact List.getElem?_eq_getElem (by omega)
      obtain ⟨x, hcell⟩ := hcell
      have hfr := hown.frozenAt (d - 1 - k)
      have hst : Hid ((hexCells d r k).set (d - 1 - k) (.int .u8 ((hexd m).toNat : Int)) = hexCells d r (k + 1)) := by
        show _ = _
        unfold hexCells
        rw [hexn_cons, ← hq.out, hm, show d - k = (d - 1 - k) + 1 by omega, show d - (k + 1) = d - 1 - k by omega, List.replicate_succ', List.append_assoc, List.set_append_right _ _ (by simp)]
        simp [Lib.byteCells]
      have hdig := hex_at ⟨m, hm16⟩
      have Hdig := Lib.hid hdig
      have Hm := Lib.hid hm
      have hst2 := hown.stored (d - 1 - k) (.int .u8 ((hexd m).toNat : Int))
      have Hst2 := Lib.hid hst2
      have hlt1 : (0 : Int) ≤ (d : Int) - 1 - (k : Int) := by omega
      have hlt2 : (d : Int) - 1 - (k : Int) < (d : Int) := by omega
      clear hm hdig hlen hown hst2
      go_wp2
      go_roundw
      case rel =>
        refine ⟨k + 1, q / 16, by go_num, by omega, by go_num, ?_, ?_, (hbw.setCell (p := ⟨w.heap.size, d - 1 - k, none⟩) (Nat.le_refl _) _)⟩
        · show _ = _
          rw [hq.out, Nat.div_div_eq_div_mul, Nat.pow_succ]
        · have e : ∀ h, (⟨#[48, 49, 50, 51, 52, 53, 54, 55, 56, 57, 97, 98, 99, 100, 101, 102]⟩ : ByteArray)[m]'h = hexd m := by
            intro h; exact Hdig.out
          rw [e, ← hst.out]
          exact Hst2.out.1
      case measure => simp [intOf]; omega
    · obtain rfl : k = d := by omega
      have e : hexCells k r k = Lib.byteCells (hexn r k) := by unfold hexCells; rw [Nat.sub_self]; rfl
      rw [e] at hown
      have hl := hexn_length k r
      have hown2 : wr.ownsRow w.heap.size 5 1 (.slice (some ⟨w.heap.size, 0, none⟩) k k) (hexn r k).length (Lib.byteCells (hexn r k)) := by rw [hl]; exact hown
      have hcv := Tryd.bytes_text0 hown2
      have hneg : decide ((0 : Int) ≤ (k : Int) - 1 - (k : Int)) = false := decide_eq_false (by omega)
      clear hq hown hown2 hl e
      go_wp2
      go_ret
      exact ⟨rfl, hbw⟩

/-- One rune of a list in memory. -/
theorem runeAt {w : World} {B e : Nat} {g cap : Nat} {rs : List Nat} (h : w.ownsRow B e 1 (.slice (some ⟨g, 0, none⟩) rs.length cap) rs.length (runeVals rs)) (i r : Nat) (hi : i < rs.length) (hr : rs[i] = r) : w.cell? ⟨g, i, none⟩ = some (.int .i32 (r : Int)) := by
  rw [h.cellAt i (by omega)]
  unfold runeVals
  rw [List.getElem?_map, List.getElem?_eq_getElem hi, hr]; rfl
theorem take_snoc_rune (rs : List Nat) (i : Nat) (hi : i < rs.length) : rs.take (i + 1) = rs.take i ++ [rs[i]] := by
  rw [List.take_succ_eq_append_getElem hi]
theorem qlen_take (rs : List Nat) (i : Nat) : ((rs.take i).flatMap qrune).length ≤ 6 * i := by
  have := flat_q_len (rs.take i)
  have h2 : (rs.take i).length ≤ i := List.length_take_le _ _
  omega
theorem fresh_kept {w W w' : World} {g : Nat} {o : Obj} {B : Nat} {e sz : Nat} {v : Value} {n : Nat} {xs : List Value} (h : W.heap[g]? = some o) (hown : W.ownsRow B e sz v n xs) (hg : W.grownBy w' v.ownBlock) (hB : g < B) : w'.heap[g]? = some o := by
  rw [hg.block g (lt_of_block h) (fun h2 => by have := (hown.lt _ h2.symm).1; omega)]; exact h

set_option maxHeartbeats 8000000 in
set_option maxRecDepth 100000 in
theorem Tryd.rquote_any (s : ByteArray) (w : World) (hs : s.size ≤ 8796093022208) :
    Calls Tryd.prog 23 #[.string s] w fun e w' => e = .returned (.string ⟨(quote s.data.toList).toArray⟩) ∧ Below w.heap.size w w' := by
  obtain ⟨i0, hi, hz0, hz1, hz2⟩ := info_parts Tryd.infoU8
  obtain ⟨rs, hrs⟩ : ∃ rs, runes s.data.toList = rs := ⟨_, rfl⟩
  have hvr : ∀ r ∈ rs, VR r := by rw [← hrs]; exact runes_VR _
  have hrl : rs.length ≤ s.size := by rw [← hrs, Lib.size_eq]; exact runes_len _
  have hqv : quote s.data.toList = [39] ++ rs.flatMap qrune ++ [39] := by unfold quote; rw [hrs]
  rw [hqv]
  have Hrs := Lib.hid hrs
  have Hvr := Lib.hid hvr
  clear hrs hqv hvr
  go_enter Tryd.func23, Tryd.ntmps23
  go_wp2_with fail
  refine (Tryd.pieces_any _ _ (by omega)).mono ?_
  rw [Hrs.out]
  rintro e W0 ⟨v, rfl, hown, b0⟩
  have hz0' := b0.size
  obtain ⟨g, cap, rfl, hgB, hgo⟩ : ∃ g cap, v = .slice g rs.length cap ∧ (∀ a, g = some a → w.heap.size + 1 ≤ a.block ∧ a.block < W0.heap.size) ∧ (∀ i r (hi : i < rs.length), rs[i] = r → ∃ b, g = some ⟨b, 0, none⟩ ∧ W0.cell? ⟨b, i, none⟩ = some (.int .i32 (r : Int))) := by
    have h0 := hown
    rcases hown.2 with ⟨rfl, hn⟩ | ⟨g, cap, cur, rfl, hgb, hgh, _⟩
    · exact ⟨none, 0, by rw [hn], (fun a ha => by cases ha), (fun i r hi => by omega)⟩
    · exact ⟨some ⟨g, 0, none⟩, cap, rfl, (fun a ha => by cases ha; exact ⟨hgb, lt_of_block hgh⟩), (fun i r hi hr => ⟨g, rfl, runeAt h0 i r hi hr⟩)⟩
  have Hgo := Lib.hid hgo
  clear hgo hown
  obtain ⟨N, hN⟩ : ∃ N, N = W0.heap.size := ⟨_, rfl⟩
  have hNle : N ≤ W0.heap.size := by omega
  have hwN : w.heap.size ≤ N := by omega
  have hrow : (W0.alloc (.cells #[.int .u8 39] 5)).ownsRow N 5 1 (.slice (some ⟨W0.heap.size, 0, none⟩) 1 1) ([39] : List UInt8).length (Lib.byteCells [39]) :=
    ⟨rfl, .inr ⟨W0.heap.size, 1, #[.int .u8 39], rfl, hNle, alloc_new _ _, Nat.le_refl _, by decide, rfl, rfl⟩⟩
  have HN := Lib.hid hN
  clear hN
  go_wp2
  go_loopw [4, 5] (fun b i wr => ∃ (k : Nat) (acc : List UInt8), i = .int .i64 k ∧ k ≤ rs.length ∧ wr.ownsRow N 5 1 b acc.length (Lib.byteCells acc) ∧ Below N W0 wr ∧ Hid (acc = [39] ++ (rs.take k).flatMap qrune)) (fun _ i _ => rs.length - (intOf i).toNat)
  case atStart =>
    refine ⟨0, [39], rfl, by omega, hrow, (Below.refl _ _).alloc hNle _, by show _ = _; simp⟩
  case round =>
    obtain ⟨k, acc, rfl, hk, hrw, hbw, hacc⟩ := hrel
    have hzw := hbw.size
    have hal : acc.length ≤ 1 + 6 * k := by
      have := qlen_take rs k
      have h2 := congrArg List.length hacc.out
      rw [List.length_append, List.length_singleton] at h2
      omega
    by_cases hlt : k < rs.length
    · obtain ⟨r, hr⟩ : ∃ r, rs[k] = r := ⟨_, rfl⟩
      obtain ⟨b, rfl, hcell0⟩ := Hgo.out k r hlt hr
      have hbb := hgB _ rfl
      have hvr : VR r := Hvr.out r (by rw [← hr]; exact List.getElem_mem _)
      have hr1 : r ≤ 1114111 := by unfold VR at hvr; omega
      have hacc2 : ∀ x, x = qrune r → acc ++ x = [39] ++ (rs.take (k + 1)).flatMap qrune := by
        intro x hx
        rw [hacc.out, take_snoc_rune rs k hlt, hr, List.flatMap_append, hx]; simp
      have Hacc2 := Lib.hid hacc2
      have hcell : wr.cell? ⟨b, k, none⟩ = some (.int .i32 (r : Int)) := by
        rw [hbw.cell (p := ⟨b, k, none⟩) (by rw [HN.out]; exact hbb.2)]; exact hcell0
      have hsz6 : acc.length + 6 ≤ 140737488355328 := by omega
      clear hcell0 hacc hacc2 hr hal
      by_cases c39 : r = 39
      · subst c39
        clear hvr hr1
        go_wp2_with (
          at_builtin; refine wpList_append_own _ rfl _ _ 22 rfl N 5 i0 (.int .u8 0) 1 1 Tryd.underlying22 hi hz0 hz1 hz2 rfl (by decide) _ _ _ rfl (hrw.alloc _) ⟨wr.heap.size, 0, none⟩ 2 2 [.int .u8 92, .int .u8 39] rfl rfl (cell_two_new _ _ _ _) (fun x hx => by simp at hx; rcases hx with rfl | rfl <;> rfl) (by unfold maxLen; omega) (by omega) (by simp; omega) ?_; intro v' w3 hown' hgrow3 hnil3
          have hbw3 : Below N W0 w3 := Below.grown (hbw.alloc (by omega) _) hgrow3 (by simp; omega) (fun j hj => by have := (hrw.lt _ hj).1; omega)
          have X3 : Aside (w3.ownsRow N 5 1 v' (acc.length + 2) (Lib.byteCells acc ++ [.int .u8 92, .int .u8 39]) ∧ Below N W0 w3) := ⟨hown', hbw3⟩
          clear hown' hgrow3 hnil3 hbw3)
        go_roundw
        case rel =>
          have h4 := X3.out.1
          refine ⟨k + 1, acc ++ [92, 39], by go_num, by omega, ?_, X3.out.2, ?_⟩
          · rw [List.length_append, Lib.byteCells_append]; exact h4
          · show _ = _; exact Hacc2.out _ rfl
        case measure => simp [intOf]; omega
      by_cases c92 : r = 92
      · subst c92
        clear hvr hr1
        go_wp2_with (
          at_builtin; refine wpList_append_own _ rfl _ _ 22 rfl N 5 i0 (.int .u8 0) 1 1 Tryd.underlying22 hi hz0 hz1 hz2 rfl (by decide) _ _ _ rfl (hrw.alloc _) ⟨wr.heap.size, 0, none⟩ 2 2 [.int .u8 92, .int .u8 92] rfl rfl (cell_two_new _ _ _ _) (fun x hx => by simp at hx; rcases hx with rfl | rfl <;> rfl) (by unfold maxLen; omega) (by omega) (by simp; omega) ?_; intro v' w3 hown' hgrow3 hnil3
          have hbw3 : Below N W0 w3 := Below.grown (hbw.alloc (by omega) _) hgrow3 (by simp; omega) (fun j hj => by have := (hrw.lt _ hj).1; omega)
          have X3 : Aside (w3.ownsRow N 5 1 v' (acc.length + 2) (Lib.byteCells acc ++ [.int .u8 92, .int .u8 92]) ∧ Below N W0 w3) := ⟨hown', hbw3⟩
          clear hown' hgrow3 hnil3 hbw3)
        go_roundw
        case rel =>
          have h4 := X3.out.1
          refine ⟨k + 1, acc ++ [92, 92], by go_num, by omega, ?_, X3.out.2, ?_⟩
          · rw [List.length_append, Lib.byteCells_append]; exact h4
          · show _ = _; exact Hacc2.out _ rfl
        case measure => simp [intOf]; omega
      by_cases c10 : r = 10
      · subst c10
        clear hvr hr1
        go_wp2_with (
            at_builtin; refine Lib.wpList_append_own_string _ rfl _ _ 22 9 rfl N 5 i0 Tryd.underlying22 Tryd.underlying9 hi hz0 hz1 hz2 _ _ _ rfl hrw _ rfl (by unfold maxLen; show acc.length + 2 ≤ _; omega) (by show acc.length + 2 ≤ _; omega) (by omega) ?_; intro v' w3 hown' hgrow3 hnil3
            have hbw3 : Below N W0 w3 := Below.grown hbw hgrow3 (by omega) (fun j hj => by have := (hrw.lt _ hj).1; omega)
            have X3 : Aside (w3.ownsRow N 5 1 v' (acc.length + 2) (Lib.byteCells acc ++ Lib.strCells ⟨#[92, 110]⟩) ∧ Below N W0 w3) := ⟨hown', hbw3⟩
            clear hown' hgrow3 hnil3 hbw3)
        go_roundw
        case rel =>
          have h4 := X3.out.1
          refine ⟨k + 1, acc ++ [92, 110], by go_num, by omega, ?_, X3.out.2, ?_⟩
          · rw [List.length_append, Lib.byteCells_append]; exact h4
          · show _ = _; exact Hacc2.out _ rfl
        case measure => simp [intOf]; omega
      by_cases c9 : r = 9
      · subst c9
        clear hvr hr1
        go_wp2_with (
            at_builtin; refine Lib.wpList_append_own_string _ rfl _ _ 22 9 rfl N 5 i0 Tryd.underlying22 Tryd.underlying9 hi hz0 hz1 hz2 _ _ _ rfl hrw _ rfl (by unfold maxLen; show acc.length + 2 ≤ _; omega) (by show acc.length + 2 ≤ _; omega) (by omega) ?_; intro v' w3 hown' hgrow3 hnil3
            have hbw3 : Below N W0 w3 := Below.grown hbw hgrow3 (by omega) (fun j hj => by have := (hrw.lt _ hj).1; omega)
            have X3 : Aside (w3.ownsRow N 5 1 v' (acc.length + 2) (Lib.byteCells acc ++ Lib.strCells ⟨#[92, 116]⟩) ∧ Below N W0 w3) := ⟨hown', hbw3⟩
            clear hown' hgrow3 hnil3 hbw3)
        go_roundw
        case rel =>
          have h4 := X3.out.1
          refine ⟨k + 1, acc ++ [92, 116], by go_num, by omega, ?_, X3.out.2, ?_⟩
          · rw [List.length_append, Lib.byteCells_append]; exact h4
          · show _ = _; exact Hacc2.out _ rfl
        case measure => simp [intOf]; omega
      have f1 : ((r : Int) == 39) = false := by rw [beq_eq_false_iff_ne]; omega
      have f2 : ((r : Int) == 92) = false := by rw [beq_eq_false_iff_ne]; omega
      have f3 : ((r : Int) == 10) = false := by rw [beq_eq_false_iff_ne]; omega
      have f4 : ((r : Int) == 9) = false := by rw [beq_eq_false_iff_ne]; omega
      have hzw1 : N ≤ wr.heap.size := by omega
      by_cases c127 : r = 127
      · subst c127
        clear hvr hr1 f1 f2 f3 f4
        go_wp2_with fail
        refine (Tryd.hex_any 127 2 _ (by omega) (by omega) (by omega)).mono ?_
        rintro e W1 ⟨rfl, b1⟩
        have hrw1 := ownsRow_same hrw b1.block
        have hbw1 := hbw.trans (b1.mono hzw1)
        have hzw2 := hbw1.size
        have hXs : ((⟨#[92, 120]⟩ : ByteArray) ++ (⟨(hexn 127 2).toArray⟩ : ByteArray)).size = 4 := by rw [ByteArray.size_append]; show 2 + (hexn 127 2).toArray.size = _; rw [List.size_toArray, hexn_length]
        have hXc : Lib.strCells ((⟨#[92, 120]⟩ : ByteArray) ++ (⟨(hexn 127 2).toArray⟩ : ByteArray)) = Lib.byteCells ([92, 120] ++ hexn 127 2) := by
          rw [show (⟨#[92, 120]⟩ : ByteArray) = ⟨([92, 120] : List UInt8).toArray⟩ from rfl, str_append]; rfl
        have hXl : ([92, 120] ++ hexn 127 2).length = 4 := by rw [List.length_append, hexn_length]; rfl
        have HXs := Lib.hid hXs
        have HXc := Lib.hid hXc
        have HXl := Lib.hid hXl
        clear hXs hXc hXl
        go_wp2_with (
            at_builtin; refine Lib.wpList_append_own_string _ rfl _ _ 22 9 rfl N 5 i0 Tryd.underlying22 Tryd.underlying9 hi hz0 hz1 hz2 _ _ _ rfl hrw1 _ rfl (by unfold maxLen; rw [HXs.out]; omega) (by rw [HXs.out]; omega) (by omega) ?_; intro v' w3 hown' hgrow3 hnil3
            have hbw3 : Below N W0 w3 := Below.grown hbw1 hgrow3 (by omega) (fun j hj => by have := (hrw1.lt _ hj).1; omega)
            have X3 : Aside (w3.ownsRow N 5 1 v' (acc.length + ((⟨#[92, 120]⟩ : ByteArray) ++ (⟨(hexn 127 2).toArray⟩ : ByteArray)).size) (Lib.byteCells acc ++ Lib.strCells ((⟨#[92, 120]⟩ : ByteArray) ++ (⟨(hexn 127 2).toArray⟩ : ByteArray))) ∧ Below N W0 w3) := ⟨hown', hbw3⟩
            clear hown' hgrow3 hnil3 hbw3)
        go_roundw
        case rel =>
          have h4 := X3.out.1
          refine ⟨k + 1, acc ++ ([92, 120] ++ hexn 127 2), by go_num, by omega, ?_, X3.out.2, ?_⟩
          · rw [List.length_append, Lib.byteCells_append]; rw [HXl.out, ← HXs.out, ← HXc.out]; exact h4
          · show _ = _; exact Hacc2.out _ (by rfl)
        case measure => simp [intOf]; omega
      have f5 : ((r : Int) == 127) = false := by rw [beq_eq_false_iff_ne]; omega
      by_cases c32 : r < 32
      · have hq := Lib.hid (qr2 (Or.inl c32) c10 c9).symm
        have f6 : decide ((r : Int) < 32) = true := decide_eq_true (by omega)
        clear hvr c39 c92 c10 c9 c127 c32
        go_wp2_with fail
        refine (Tryd.hex_any r 2 _ (by omega) (by omega) (by omega)).mono ?_
        rintro e W1 ⟨rfl, b1⟩
        have hrw1 := ownsRow_same hrw b1.block
        have hbw1 := hbw.trans (b1.mono hzw1)
        have hzw2 := hbw1.size
        have hXs : ((⟨#[92, 120]⟩ : ByteArray) ++ (⟨(hexn r 2).toArray⟩ : ByteArray)).size = 4 := by rw [ByteArray.size_append]; show 2 + (hexn r 2).toArray.size = _; rw [List.size_toArray, hexn_length]
        have hXc : Lib.strCells ((⟨#[92, 120]⟩ : ByteArray) ++ (⟨(hexn r 2).toArray⟩ : ByteArray)) = Lib.byteCells ([92, 120] ++ hexn r 2) := by
          rw [show (⟨#[92, 120]⟩ : ByteArray) = ⟨([92, 120] : List UInt8).toArray⟩ from rfl, str_append]; rfl
        have hXl : ([92, 120] ++ hexn r 2).length = 4 := by rw [List.length_append, hexn_length]; rfl
        have HXs := Lib.hid hXs
        have HXc := Lib.hid hXc
        have HXl := Lib.hid hXl
        clear hXs hXc hXl
        go_wp2_with (
            at_builtin; refine Lib.wpList_append_own_string _ rfl _ _ 22 9 rfl N 5 i0 Tryd.underlying22 Tryd.underlying9 hi hz0 hz1 hz2 _ _ _ rfl hrw1 _ rfl (by unfold maxLen; rw [HXs.out]; omega) (by rw [HXs.out]; omega) (by omega) ?_; intro v' w3 hown' hgrow3 hnil3
            have hbw3 : Below N W0 w3 := Below.grown hbw1 hgrow3 (by omega) (fun j hj => by have := (hrw1.lt _ hj).1; omega)
            have X3 : Aside (w3.ownsRow N 5 1 v' (acc.length + ((⟨#[92, 120]⟩ : ByteArray) ++ (⟨(hexn r 2).toArray⟩ : ByteArray)).size) (Lib.byteCells acc ++ Lib.strCells ((⟨#[92, 120]⟩ : ByteArray) ++ (⟨(hexn r 2).toArray⟩ : ByteArray))) ∧ Below N W0 w3) := ⟨hown', hbw3⟩
            clear hown' hgrow3 hnil3 hbw3)
        go_roundw
        case rel =>
          have h4 := X3.out.1
          refine ⟨k + 1, acc ++ ([92, 120] ++ hexn r 2), by go_num, by omega, ?_, X3.out.2, ?_⟩
          · rw [List.length_append, Lib.byteCells_append]; rw [HXl.out, ← HXs.out, ← HXc.out]; exact h4
          · show _ = _; exact Hacc2.out _ hq.out
        case measure => simp [intOf]; omega
      have f6 : decide ((r : Int) < 32) = false := decide_eq_false (by omega)
      by_cases c8232 : r = 8232
      · subst c8232
        clear hvr hr1 f1 f2 f3 f4 f5 f6
        go_wp2_with fail
        refine (Tryd.hex_any 8232 4 _ (by omega) (by omega) (by omega)).mono ?_
        rintro e W1 ⟨rfl, b1⟩
        have hrw1 := ownsRow_same hrw b1.block
        have hbw1 := hbw.trans (b1.mono hzw1)
        have hzw2 := hbw1.size
        have hXs : ((⟨#[92, 117]⟩ : ByteArray) ++ (⟨(hexn 8232 4).toArray⟩ : ByteArray)).size = 6 := by rw [ByteArray.size_append]; show 2 + (hexn 8232 4).toArray.size = _; rw [List.size_toArray, hexn_length]
        have hXc : Lib.strCells ((⟨#[92, 117]⟩ : ByteArray) ++ (⟨(hexn 8232 4).toArray⟩ : ByteArray)) = Lib.byteCells ([92, 117] ++ hexn 8232 4) := by
          rw [show (⟨#[92, 117]⟩ : ByteArray) = ⟨([92, 117] : List UInt8).toArray⟩ from rfl, str_append]; rfl
        have hXl : ([92, 117] ++ hexn 8232 4).length = 6 := by rw [List.length_append, hexn_length]; rfl
        have HXs := Lib.hid hXs
        have HXc := Lib.hid hXc
        have HXl := Lib.hid hXl
        clear hXs hXc hXl
        go_wp2_with (
            at_builtin; refine Lib.wpList_append_own_string _ rfl _ _ 22 9 rfl N 5 i0 Tryd.underlying22 Tryd.underlying9 hi hz0 hz1 hz2 _ _ _ rfl hrw1 _ rfl (by unfold maxLen; rw [HXs.out]; omega) (by rw [HXs.out]; omega) (by omega) ?_; intro v' w3 hown' hgrow3 hnil3
            have hbw3 : Below N W0 w3 := Below.grown hbw1 hgrow3 (by omega) (fun j hj => by have := (hrw1.lt _ hj).1; omega)
            have X3 : Aside (w3.ownsRow N 5 1 v' (acc.length + ((⟨#[92, 117]⟩ : ByteArray) ++ (⟨(hexn 8232 4).toArray⟩ : ByteArray)).size) (Lib.byteCells acc ++ Lib.strCells ((⟨#[92, 117]⟩ : ByteArray) ++ (⟨(hexn 8232 4).toArray⟩ : ByteArray))) ∧ Below N W0 w3) := ⟨hown', hbw3⟩
            clear hown' hgrow3 hnil3 hbw3)
        go_roundw
        case rel =>
          have h4 := X3.out.1
          refine ⟨k + 1, acc ++ ([92, 117] ++ hexn 8232 4), by go_num, by omega, ?_, X3.out.2, ?_⟩
          · rw [List.length_append, Lib.byteCells_append]; rw [HXl.out, ← HXs.out, ← HXc.out]; exact h4
          · show _ = _; exact Hacc2.out _ (by rfl)
        case measure => simp [intOf]; omega
      by_cases c8233 : r = 8233
      · subst c8233
        clear hvr hr1 f1 f2 f3 f4 f5 f6
        go_wp2_with fail
        refine (Tryd.hex_any 8233 4 _ (by omega) (by omega) (by omega)).mono ?_
        rintro e W1 ⟨rfl, b1⟩
        have hrw1 := ownsRow_same hrw b1.block
        have hbw1 := hbw.trans (b1.mono hzw1)
        have hzw2 := hbw1.size
        have hXs : ((⟨#[92, 117]⟩ : ByteArray) ++ (⟨(hexn 8233 4).toArray⟩ : ByteArray)).size = 6 := by rw [ByteArray.size_append]; show 2 + (hexn 8233 4).toArray.size = _; rw [List.size_toArray, hexn_length]
        have hXc : Lib.strCells ((⟨#[92, 117]⟩ : ByteArray) ++ (⟨(hexn 8233 4).toArray⟩ : ByteArray)) = Lib.byteCells ([92, 117] ++ hexn 8233 4) := by
          rw [show (⟨#[92, 117]⟩ : ByteArray) = ⟨([92, 117] : List UInt8).toArray⟩ from rfl, str_append]; rfl
        have hXl : ([92, 117] ++ hexn 8233 4).length = 6 := by rw [List.length_append, hexn_length]; rfl
        have HXs := Lib.hid hXs
        have HXc := Lib.hid hXc
        have HXl := Lib.hid hXl
        clear hXs hXc hXl
        go_wp2_with (
            at_builtin; refine Lib.wpList_append_own_string _ rfl _ _ 22 9 rfl N 5 i0 Tryd.underlying22 Tryd.underlying9 hi hz0 hz1 hz2 _ _ _ rfl hrw1 _ rfl (by unfold maxLen; rw [HXs.out]; omega) (by rw [HXs.out]; omega) (by omega) ?_; intro v' w3 hown' hgrow3 hnil3
            have hbw3 : Below N W0 w3 := Below.grown hbw1 hgrow3 (by omega) (fun j hj => by have := (hrw1.lt _ hj).1; omega)
            have X3 : Aside (w3.ownsRow N 5 1 v' (acc.length + ((⟨#[92, 117]⟩ : ByteArray) ++ (⟨(hexn 8233 4).toArray⟩ : ByteArray)).size) (Lib.byteCells acc ++ Lib.strCells ((⟨#[92, 117]⟩ : ByteArray) ++ (⟨(hexn 8233 4).toArray⟩ : ByteArray))) ∧ Below N W0 w3) := ⟨hown', hbw3⟩
            clear hown' hgrow3 hnil3 hbw3)
        go_roundw
        case rel =>
          have h4 := X3.out.1
          refine ⟨k + 1, acc ++ ([92, 117] ++ hexn 8233 4), by go_num, by omega, ?_, X3.out.2, ?_⟩
          · rw [List.length_append, Lib.byteCells_append]; rw [HXl.out, ← HXs.out, ← HXc.out]; exact h4
          · show _ = _; exact Hacc2.out _ (by rfl)
        case measure => simp [intOf]; omega
      by_cases c65279 : r = 65279
      · subst c65279
        clear hvr hr1 f1 f2 f3 f4 f5 f6
        go_wp2_with fail
        refine (Tryd.hex_any 65279 4 _ (by omega) (by omega) (by omega)).mono ?_
        rintro e W1 ⟨rfl, b1⟩
        have hrw1 := ownsRow_same hrw b1.block
        have hbw1 := hbw.trans (b1.mono hzw1)
        have hzw2 := hbw1.size
        have hXs : ((⟨#[92, 117]⟩ : ByteArray) ++ (⟨(hexn 65279 4).toArray⟩ : ByteArray)).size = 6 := by rw [ByteArray.size_append]; show 2 + (hexn 65279 4).toArray.size = _; rw [List.size_toArray, hexn_length]
        have hXc : Lib.strCells ((⟨#[92, 117]⟩ : ByteArray) ++ (⟨(hexn 65279 4).toArray⟩ : ByteArray)) = Lib.byteCells ([92, 117] ++ hexn 65279 4) := by
          rw [show (⟨#[92, 117]⟩ : ByteArray) = ⟨([92, 117] : List UInt8).toArray⟩ from rfl, str_append]; rfl
        have hXl : ([92, 117] ++ hexn 65279 4).length = 6 := by rw [List.length_append, hexn_length]; rfl
        have HXs := Lib.hid hXs
        have HXc := Lib.hid hXc
        have HXl := Lib.hid hXl
        clear hXs hXc hXl
        go_wp2_with (
            at_builtin; refine Lib.wpList_append_own_string _ rfl _ _ 22 9 rfl N 5 i0 Tryd.underlying22 Tryd.underlying9 hi hz0 hz1 hz2 _ _ _ rfl hrw1 _ rfl (by unfold maxLen; rw [HXs.out]; omega) (by rw [HXs.out]; omega) (by omega) ?_; intro v' w3 hown' hgrow3 hnil3
            have hbw3 : Below N W0 w3 := Below.grown hbw1 hgrow3 (by omega) (fun j hj => by have := (hrw1.lt _ hj).1; omega)
            have X3 : Aside (w3.ownsRow N 5 1 v' (acc.length + ((⟨#[92, 117]⟩ : ByteArray) ++ (⟨(hexn 65279 4).toArray⟩ : ByteArray)).size) (Lib.byteCells acc ++ Lib.strCells ((⟨#[92, 117]⟩ : ByteArray) ++ (⟨(hexn 65279 4).toArray⟩ : ByteArray))) ∧ Below N W0 w3) := ⟨hown', hbw3⟩
            clear hown' hgrow3 hnil3 hbw3)
        go_roundw
        case rel =>
          have h4 := X3.out.1
          refine ⟨k + 1, acc ++ ([92, 117] ++ hexn 65279 4), by go_num, by omega, ?_, X3.out.2, ?_⟩
          · rw [List.length_append, Lib.byteCells_append]; rw [HXl.out, ← HXs.out, ← HXc.out]; exact h4
          · show _ = _; exact Hacc2.out _ (by rfl)
        case measure => simp [intOf]; omega
      have f7 : ((r : Int) == 8232) = false := by rw [beq_eq_false_iff_ne]; omega
      have f8 : ((r : Int) == 8233) = false := by rw [beq_eq_false_iff_ne]; omega
      have f9 : ((r : Int) == 65279) = false := by rw [beq_eq_false_iff_ne]; omega
      by_cases c128 : 128 ≤ r ∧ r ≤ 159
      · have hq := Lib.hid (qr3 (Or.inl c128)).symm
        have fa : decide ((128 : Int) ≤ (r : Int)) = true := decide_eq_true (by omega)
        have fb : decide ((r : Int) ≤ 159) = true := decide_eq_true (by omega)
        clear hvr c39 c92 c10 c9 c127 c32 c8232 c8233 c65279 c128
        go_wp2_with fail
        refine (Tryd.hex_any r 4 _ (by omega) (by omega) (by omega)).mono ?_
        rintro e W1 ⟨rfl, b1⟩
        have hrw1 := ownsRow_same hrw b1.block
        have hbw1 := hbw.trans (b1.mono hzw1)
        have hzw2 := hbw1.size
        have hXs : ((⟨#[92, 117]⟩ : ByteArray) ++ (⟨(hexn r 4).toArray⟩ : ByteArray)).size = 6 := by rw [ByteArray.size_append]; show 2 + (hexn r 4).toArray.size = _; rw [List.size_toArray, hexn_length]
        have hXc : Lib.strCells ((⟨#[92, 117]⟩ : ByteArray) ++ (⟨(hexn r 4).toArray⟩ : ByteArray)) = Lib.byteCells ([92, 117] ++ hexn r 4) := by
          rw [show (⟨#[92, 117]⟩ : ByteArray) = ⟨([92, 117] : List UInt8).toArray⟩ from rfl, str_append]; rfl
        have hXl : ([92, 117] ++ hexn r 4).length = 6 := by rw [List.length_append, hexn_length]; rfl
        have HXs := Lib.hid hXs
        have HXc := Lib.hid hXc
        have HXl := Lib.hid hXl
        clear hXs hXc hXl
        go_wp2_with (
            at_builtin; refine Lib.wpList_append_own_string _ rfl _ _ 22 9 rfl N 5 i0 Tryd.underlying22 Tryd.underlying9 hi hz0 hz1 hz2 _ _ _ rfl hrw1 _ rfl (by unfold maxLen; rw [HXs.out]; omega) (by rw [HXs.out]; omega) (by omega) ?_; intro v' w3 hown' hgrow3 hnil3
            have hbw3 : Below N W0 w3 := Below.grown hbw1 hgrow3 (by omega) (fun j hj => by have := (hrw1.lt _ hj).1; omega)
            have X3 : Aside (w3.ownsRow N 5 1 v' (acc.length + ((⟨#[92, 117]⟩ : ByteArray) ++ (⟨(hexn r 4).toArray⟩ : ByteArray)).size) (Lib.byteCells acc ++ Lib.strCells ((⟨#[92, 117]⟩ : ByteArray) ++ (⟨(hexn r 4).toArray⟩ : ByteArray))) ∧ Below N W0 w3) := ⟨hown', hbw3⟩
            clear hown' hgrow3 hnil3 hbw3)
        go_roundw
        case rel =>
          have h4 := X3.out.1
          refine ⟨k + 1, acc ++ ([92, 117] ++ hexn r 4), by go_num, by omega, ?_, X3.out.2, ?_⟩
          · rw [List.length_append, Lib.byteCells_append]; rw [HXl.out, ← HXs.out, ← HXc.out]; exact h4
          · show _ = _; exact Hacc2.out _ hq.out
        case measure => simp [intOf]; omega
      have hq := Lib.hid (qr4 (r := r) (by omega) (by omega) (by omega)).symm
      by_cases ca : 128 ≤ r
      · have fa : decide ((128 : Int) ≤ (r : Int)) = true := decide_eq_true (by omega)
        have fb : decide ((r : Int) ≤ 159) = false := decide_eq_false (by omega)
        clear ca
        have hX : Utf8.encode (r : Int) = ⟨(enc r).toArray⟩ := encode_enc r
        have h4 := enc_pos r
        have hXs : (Utf8.encode (r : Int)).size = (enc r).length := by rw [hX]; exact List.size_toArray
        have hXc : Lib.strCells (Utf8.encode (r : Int)) = Lib.byteCells (enc r) := by rw [hX]; rfl
        have hX4 : (Utf8.encode (r : Int)).size ≤ 4 := by omega
        have HXs := Lib.hid hXs
        have HXc := Lib.hid hXc
        clear hX hXs hXc h4 hvr c39 c92 c10 c9 c127 c32 c8232 c8233 c65279 c128
        go_wp2_with (
            at_builtin; refine Lib.wpList_append_own_string _ rfl _ _ 22 9 rfl N 5 i0 Tryd.underlying22 Tryd.underlying9 hi hz0 hz1 hz2 _ _ _ rfl hrw _ rfl (by unfold maxLen; omega) (by omega) (by omega) ?_; intro v' w3 hown' hgrow3 hnil3
            have hbw3 : Below N W0 w3 := Below.grown hbw hgrow3 (by omega) (fun j hj => by have := (hrw.lt _ hj).1; omega)
            have X3 : Aside (w3.ownsRow N 5 1 v' (acc.length + (Utf8.encode (r : Int)).size) (Lib.byteCells acc ++ Lib.strCells (Utf8.encode (r : Int))) ∧ Below N W0 w3) := ⟨hown', hbw3⟩
            clear hown' hgrow3 hnil3 hbw3)
        go_roundw
        case rel =>
          have h4 := X3.out.1
          refine ⟨k + 1, acc ++ enc r, by go_num, by omega, ?_, X3.out.2, ?_⟩
          · rw [List.length_append, Lib.byteCells_append]; rw [← HXs.out, ← HXc.out]; exact h4
          · show _ = _; exact Hacc2.out _ hq.out
        case measure => simp [intOf]; omega
      · have fa : decide ((128 : Int) ≤ (r : Int)) = false := decide_eq_false (by omega)
        clear ca
        have hX : Utf8.encode (r : Int) = ⟨(enc r).toArray⟩ := encode_enc r
        have h4 := enc_pos r
        have hXs : (Utf8.encode (r : Int)).size = (enc r).length := by rw [hX]; exact List.size_toArray
        have hXc : Lib.strCells (Utf8.encode (r : Int)) = Lib.byteCells (enc r) := by rw [hX]; rfl
        have hX4 : (Utf8.encode (r : Int)).size ≤ 4 := by omega
        have HXs := Lib.hid hXs
        have HXc := Lib.hid hXc
        clear hX hXs hXc h4 hvr c39 c92 c10 c9 c127 c32 c8232 c8233 c65279 c128
        go_wp2_with (
            at_builtin; refine Lib.wpList_append_own_string _ rfl _ _ 22 9 rfl N 5 i0 Tryd.underlying22 Tryd.underlying9 hi hz0 hz1 hz2 _ _ _ rfl hrw _ rfl (by unfold maxLen; omega) (by omega) (by omega) ?_; intro v' w3 hown' hgrow3 hnil3
            have hbw3 : Below N W0 w3 := Below.grown hbw hgrow3 (by omega) (fun j hj => by have := (hrw.lt _ hj).1; omega)
            have X3 : Aside (w3.ownsRow N 5 1 v' (acc.length + (Utf8.encode (r : Int)).size) (Lib.byteCells acc ++ Lib.strCells (Utf8.encode (r : Int))) ∧ Below N W0 w3) := ⟨hown', hbw3⟩
            clear hown' hgrow3 hnil3 hbw3)
        go_roundw
        case rel =>
          have h4 := X3.out.1
          refine ⟨k + 1, acc ++ enc r, by go_num, by omega, ?_, X3.out.2, ?_⟩
          · rw [List.length_append, Lib.byteCells_append]; rw [← HXs.out, ← HXc.out]; exact h4
          · show _ = _; exact Hacc2.out _ hq.out
        case measure => simp [intOf]; omega
    · obtain rfl : k = rs.length := by omega
      have hA : Hid (acc ++ [39] = [39] ++ rs.flatMap qrune ++ [39]) := by
        show _ = _
        rw [hacc.out, List.take_of_length_le (Nat.le_refl _)]
      have hsz6 : acc.length + 6 ≤ 140737488355328 := by omega
      clear hacc
      go_wp2_with (
        at_builtin; refine wpList_append_own _ rfl _ _ 22 rfl N 5 i0 (.int .u8 0) 1 1 Tryd.underlying22 hi hz0 hz1 hz2 rfl (by decide) _ _ _ rfl (hrw.alloc _) ⟨wr.heap.size, 0, none⟩ 1 1 [.int .u8 39] rfl rfl (cell_one_new' _ _ _) (fun x hx => by simp at hx; rw [hx]; rfl) (by unfold maxLen; omega) (by omega) (by simp; omega) ?_; intro v' w3 hown' hgrow3 hnil3
        have hbw3 : Below N W0 w3 := Below.grown (hbw.alloc (by omega) _) hgrow3 (by simp; omega) (fun j hj => by have := (hrw.lt _ hj).1; omega)
        have hown4 : w3.ownsRow N 5 1 v' (acc ++ [39]).length (Lib.byteCells (acc ++ [39])) := by
          rw [List.length_append, Lib.byteCells_append]; exact hown'
        have hcv := Tryd.bytes_text0 hown4
        clear hown' hgrow3 hnil3)
      go_ret
      exact ⟨by rw [hA.out]; rfl, b0.trans (hbw3.mono hwN)⟩
end Go.Proofs
