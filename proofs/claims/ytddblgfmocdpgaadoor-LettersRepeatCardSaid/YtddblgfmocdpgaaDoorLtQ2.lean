/-
  Walks: letters.Quote, the reference's Good.
-/
import Derived.Test.YtddblgfmocdpgaaDoorLtQ1
set_option linter.unusedVariables false
namespace Go.Proofs
open Go.RowKit Go.Lt

theorem flat_q_len : ∀ rs : List Nat, (rs.flatMap qrune).length ≤ 6 * rs.length
  | [] => by simp
  | r :: rs => by
    have := flat_q_len rs
    have h6 := (qrune_len r).2
    rw [List.flatMap_cons, List.length_append, List.length_cons]; omega
theorem quote_len (l : List UInt8) : (quote l).length ≤ 6 * l.length + 2 := by
  have h1 := flat_q_len (runes l)
  have h2 := runes_len l
  simp only [quote, List.length_append, List.length_cons, List.length_nil]
  omega

set_option maxHeartbeats 4000000 in
set_option maxRecDepth 100000 in
theorem Tryd.quote_any (s : ByteArray) (w : World) (hs : s.size ≤ 8796093022208) :
    Calls Tryd.prog 13 #[.string s] w fun e w' => e = .returned (.string ⟨(quote s.data.toList).toArray⟩) ∧ Below w.heap.size w w' := by
  go_enter Tryd.func13, Tryd.ntmps13
  go_wp2_with fail
  refine (Tryd.Builder_WriteByte_k w.heap.size w.heap.size [] 39 _ (Lib.IsBuilderF.of (Lib.fresh_isBuilder 48 5 w)) (by simp) (by simp)).mono ?_
  rintro e W0 ⟨rfl, hI0, b0, k0⟩
  have hbw0 : Below w.heap.size w W0 := ((Below.refl _ w).alloc (Nat.le_refl _) _).trans b0
  have hz0 := b0.size
  rw [World.size_alloc] at hz0
  have hNw : w.heap.size < W0.heap.size := by omega
  have hI1 : Lib.IsBuilderF 48 5 w.heap.size w.heap.size (Lib.byteCells [39]) W0 := isB_of hI0
  clear k0 b0 hI0
  go_wp2
  go_loopw [] (fun wr => ∃ (pos : Nat) (acc : List UInt8), Lib.IsBuilderF 48 5 w.heap.size w.heap.size (Lib.byteCells acc) wr ∧ wr.heap[W0.heap.size]? = some (.stringIter s pos) ∧ Below w.heap.size w wr ∧ Hid (acc ++ (runes (s.data.toList.drop pos)).flatMap qrune = [39] ++ (runes s.data.toList).flatMap qrune) ∧ pos ≤ s.size ∧ acc.length ≤ 6 * pos + 1) (fun wr => s.size - wr.iterPos W0.heap.size)
  case atStart =>
    refine ⟨0, [39], hI1.alloc _, World.iter_heap W0 s 0, hbw0.alloc (by omega) _, by show _ = _; rw [List.drop_zero], by omega, by simp⟩
  case round =>
    obtain ⟨pos, acc, hI, hit, hbw, hacc, hps, hal⟩ := hrel
    have hsz := lt_of_block hit
    have hpos0 := iterPos_of hit
    by_cases hp : pos < s.size
    · have hnx : ∀ ty, (Instr.next (.pointer (some ⟨W0.heap.size, 0, none⟩)) true ty).run Tryd.prog wr = _ := fun ty => Lib.run_next_any_at wr W0.heap.size s pos ty hit hp
      obtain ⟨r, n, hrn⟩ : ∃ r n, Utf8.decode s pos = (r, n) := ⟨_, _, rfl⟩
      have hdl : Lib.decodeL (s.data.toList.drop pos) = (r, n) := by rw [Lib.decodeL_drop]; exact hrn
      have hn1 : 1 ≤ n := by have := Lib.decodeL_width (s.data.toList.drop pos); rw [hdl] at this; exact this
      have hr1 : r ≤ 1114111 := by have := Lib.decodeL_rune (s.data.toList.drop pos); rw [hdl] at this; exact this
      have hne : s.data.toList.drop pos ≠ [] := by rw [drop_cons s pos hp]; simp
      have hn2 : pos + n ≤ s.size := by
        have := Lib.decodeL_le (s.data.toList.drop pos) hne
        rw [hdl, List.length_drop, ← Lib.size_eq] at this; omega
      have hacc2 : Hid ((acc ++ qrune r) ++ (runes (s.data.toList.drop (pos + n))).flatMap qrune = [39] ++ (runes s.data.toList).flatMap qrune) := by
        show _ = _
        rw [← hacc.out, runes_step _ hne, hdl, List.drop_drop, List.flatMap_cons, List.append_assoc]
      have hq6 := qrune_len r
      rw [hrn] at hnx
      have hI2 := hI.iterAt hit (pos + n)
      have hit2 := Lib.iterAt_heap wr W0.heap.size s pos (pos + n) hit
      have hbw2 := Lib.below_iterAt hbw (k := W0.heap.size) (by omega) s (pos + n)
      obtain ⟨W1, hW1⟩ : ∃ W1, W1 = wr.iterAt W0.heap.size s (pos + n) := ⟨_, rfl⟩
      rw [← hW1] at hnx hI2 hit2 hbw2
      have hz1 := hbw2.size
      clear hW1 hit hI hbw hacc hne hdl hrn
      go_wp2_with fail
      refine (Tryd.quoted_any r _ hr1).mono ?_
      rintro e W2 ⟨rfl, b2⟩
      have hI3 := isB_below hI2 b2
      have hit3 : W2.heap[W0.heap.size]? = some (.stringIter s (pos + n)) := (b2.block _ (lt_of_block hit2)).trans hit2
      have hbw3 := hbw2.trans (b2.mono hz1)
      have hz2 := hbw3.size
      go_wp2_with fail
      refine (Tryd.Builder_WriteString_k w.heap.size w.heap.size (Lib.byteCells acc) _ _ hI3 (by rw [Lib.byteCells_length]; show _ + (qrune r).toArray.size ≤ _; rw [List.size_toArray]; omega) hz2).mono ?_
      rintro e W3 ⟨rfl, hI4, b4, k4⟩
      go_wp2
      go_roundw
      case rel =>
        refine ⟨pos + n, acc ++ qrune r, ?_, k4.iter hit3 (by omega), hbw3.trans b4, hacc2, hn2, by rw [List.length_append]; omega⟩
        rw [Lib.byteCells_append]
        exact isB_of hI4
      case measure =>
        rw [iterPos_of (k4.iter hit3 (by omega)), hpos0]; omega
    · have hnx : ∀ ty, (Instr.next (.pointer (some ⟨W0.heap.size, 0, none⟩)) true ty).run Tryd.prog wr = _ := fun ty => Lib.run_next_end_at wr W0.heap.size s pos ty hit hp
      have hA : Hid (acc ++ [39] = quote s.data.toList) := by
        show _ = _
        have := hacc.out
        rw [List.drop_eq_nil_of_le (by rw [← Lib.size_eq]; omega), runes_nil, List.flatMap_nil, List.append_nil] at this
        rw [this]; rfl
      have hz1 := hbw.size
      clear hacc
      go_wp2_with fail
      refine (Tryd.Builder_WriteByte_k w.heap.size w.heap.size (Lib.byteCells acc) 39 _ hI (by rw [Lib.byteCells_length]; omega) hz1).mono ?_
      rintro e W3 ⟨rfl, hI4, b4, k4⟩
      have hbw4 := hbw.trans b4
      have hz4 := hbw4.size
      have hI5 : Lib.IsBuilderF 48 5 w.heap.size w.heap.size (Lib.byteCells (acc ++ [39])) W3 := by
        rw [Lib.byteCells_append]; exact isB_of hI4
      clear hI4
      go_wp2_with fail
      refine (Tryd.Builder_String_any_k w.heap.size w.heap.size (acc ++ [39]) _ hI5 hz4).mono ?_
      rintro e W5 ⟨rfl, _, b5, _⟩
      go_wp2
      go_ret
      exact ⟨by rw [hA.out]; rfl, hbw4.trans b5⟩

theorem str_eq_iff (s : ByteArray) (l : List UInt8) : ((l == s.toList) : Bool) = decide (l = s.data.toList) := by
  rw [Lib.toList_data, Bool.eq_iff_iff, beq_iff_eq, decide_eq_true_eq]

set_option maxHeartbeats 1000000 in
theorem Tryd.rgood_any (s : ByteArray) (w : World) (hs : s.size ≤ 35184372088832) :
    Calls Tryd.prog 12 #[.string s] w fun e w' => e = .returned (.bool (Lib.validD s.data.toList)) ∧ Below w.heap.size w w' := by
  have hv := Lib.hid (valid_mend s.data.toList)
  have he := Lib.hid (str_eq_iff s (mend s.data.toList))
  go_enter Tryd.func12, Tryd.ntmps12
  go_wp2_with fail
  refine (Tryd.pieces_any _ _ hs).mono ?_
  rintro e W1 ⟨v, rfl, hown, b1⟩
  have hcv := Tryd.runes_text hown 0
  have hcv2 : (convert 57 9 v).run Tryd.prog W1 = .ok (.string ⟨(mend s.data.toList).toArray⟩) W1 := hcv
  clear hcv hown
  go_wp2
  go_ret
  rw [hv.out, ← he.out]
  exact ⟨rfl, b1⟩
end Go.Proofs
