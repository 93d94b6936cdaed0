/-
  Walks of the reference for letters: Pieces, digits, escape, width, Unquote.
-/
import Derived.Test.YtdbkibnplilogaaDoorLtW2
import Derived.Laws.Cover4
set_option linter.unusedVariables false
namespace Go.Proofs
open Go.RowKit Go.Lt

theorem valid_VR (r : Nat) : Utf8.valid (r : Int) = decide (VR r) := by
  unfold Utf8.valid
  rw [Bool.eq_iff_iff, decide_eq_true_eq]
  unfold VR
  simp
  omega
theorem encode_enc (r : Nat) : Utf8.encode (r : Int) = ⟨(enc r).toArray⟩ := by
  have key : ∀ c : Nat, VR c → (if c < 0x80 then (⟨#[UInt8.ofNat c]⟩ : ByteArray)
      else if c < 0x800 then ⟨#[UInt8.ofNat (0xC0 + c / 64), UInt8.ofNat (0x80 + c % 64)]⟩
      else if c < 0x10000 then ⟨#[UInt8.ofNat (0xE0 + c / 4096), UInt8.ofNat (0x80 + c / 64 % 64), UInt8.ofNat (0x80 + c % 64)]⟩
      else ⟨#[UInt8.ofNat (0xF0 + c / 262144), UInt8.ofNat (0x80 + c / 4096 % 64), UInt8.ofNat (0x80 + c / 64 % 64), UInt8.ofNat (0x80 + c % 64)]⟩) = ⟨(enc c).toArray⟩ := by
    intro c hc
    unfold VR at hc
    split
    · rw [enc_one (by omega)]
    split
    · rw [enc_two (by omega) (by omega)]
    split
    · rw [enc_three (by omega)]
    · rw [enc_four (by omega) (by omega)]
  unfold Utf8.encode
  rw [valid_VR]
  by_cases h : VR r
  · simp only [h, decide_true, if_true, Int.toNat_natCast]
    exact key r h
  · simp only [h, decide_false, Bool.false_eq_true, if_false]
    have e : enc r = enc 65533 := by
      unfold enc Lib.encodeRune
      rw [Lib.encodeRuneZ_bad (by unfold VR at h; omega)]
      rfl
    rw [e]
    exact key 65533 (by decide)
theorem runesBytes_flat (rs : List Nat) : runesBytes (rs.map fun r : Nat => (r : Int)) = ⟨(rs.flatMap enc).toArray⟩ := by
  have key : ∀ (rs : List Nat) (s : ByteArray), (rs.map fun r : Nat => (r : Int)).foldl (fun r n => r ++ Utf8.encode n) s = ⟨(s.data.toList ++ rs.flatMap enc).toArray⟩ := by
    intro rs
    induction rs with
    | nil => intro s; simp
    | cons r rs ih =>
      intro s
      rw [List.map_cons, List.foldl_cons, ih, encode_enc]
      have : (s ++ (⟨(enc r).toArray⟩ : ByteArray)).data.toList = s.data.toList ++ enc r := by
        rw [ByteArray.data_append]; simp
      rw [this]
      simp [List.append_assoc]
  have := key rs ByteArray.empty
  unfold runesBytes
  rw [this]
  simp

/-- The cells of runes. -/
def runeVals (rs : List Nat) : List Value := rs.map fun r : Nat => Value.int .i32 (r : Int)
theorem runeVals_len (rs : List Nat) : (runeVals rs).length = rs.length := by simp [runeVals]
theorem runes_len (l : List UInt8) : (runes l).length ≤ l.length := by
  induction l using rune_induct with
  | h0 => simp [runes_nil]
  | h1 l hne ih =>
    have hw := Lib.decodeL_width l
    have hl := Lib.decodeL_le l hne
    rw [runes_step l hne, List.length_cons]
    rw [List.length_drop] at ih
    omega

theorem cell_one_new' (w : World) (a : Value) (t : TypeId) : ∀ j u, [a][j]? = some u → (w.alloc (.cells #[a] t)).cell? ((⟨w.heap.size, 0, none⟩ : Addr).add j) = some u := by
  intro j u hj
  match j, hj with
  | 0, hj => simp at hj; subst hj; simp [Addr.add]
  | j + 1, hj => simp at hj

theorem Tryd.infoI32 : (Tryd.prog.info? 21).map (fun i => (i.zero, i.size, i.bytes)) = some (some (.int .i32 0), 1, 4) := by kernel_rfl

set_option maxHeartbeats 2000000 in
set_option maxRecDepth 100000 in
theorem Tryd.pieces_any (s : ByteArray) (w : World) (hs : s.size ≤ 35184372088832) :
    Calls Tryd.prog 35 #[.string s] w fun e w' => ∃ v, e = .returned v ∧ w'.ownsRow (w.heap.size + 1) 21 1 v (runes s.data.toList).length (runeVals (runes s.data.toList)) ∧ Below w.heap.size w w' := by
  obtain ⟨i0, hi, hz0, hz1, hz2⟩ := info_parts Tryd.infoI32
  obtain ⟨ALL, hALL⟩ : ∃ A, runes s.data.toList = A := ⟨_, rfl⟩
  rw [hALL]
  have HALL := Lib.hid hALL
  have hlenA : ALL.length ≤ s.size := by rw [← hALL, Lib.size_eq]; exact runes_len _
  clear hALL
  go_enter Tryd.func35, Tryd.ntmps35
  go_wp2
  go_loopw [3] (fun v wr => ∃ (pos : Nat) (acc : List Nat), wr.heap[w.heap.size]? = some (.stringIter s pos) ∧ wr.ownsRow (w.heap.size + 1) 21 1 v acc.length (runeVals acc) ∧ Below w.heap.size w wr ∧ Hid (acc ++ runes (s.data.toList.drop pos) = ALL) ∧ acc.length ≤ pos ∧ pos ≤ s.size) (fun _ wr => s.size - wr.iterPos w.heap.size)
  case atStart => exact ⟨0, [], World.iter_heap w s 0, World.ownsRow_nil _ _ _ _, (Below.refl _ _).alloc (Nat.le_refl _) _, by show _ = _; rw [← HALL.out]; simp, by simp, by omega⟩
  case round =>
    obtain ⟨pos, acc, hit, hown, hbw, HS, hlen, hps⟩ := hrel
    have hpos0 := iterPos_of hit
    by_cases hp : pos < s.size
    · have hnx : ∀ ty, (Instr.next (.pointer (some ⟨w.heap.size, 0, none⟩)) true ty).run Tryd.prog wr = _ := fun ty => Lib.run_next_any_at wr w.heap.size s pos ty hit hp
      obtain ⟨r, n, hrn⟩ : ∃ r n, Utf8.decode s pos = (r, n) := ⟨_, _, rfl⟩
      have hdl : Lib.decodeL (s.data.toList.drop pos) = (r, n) := by rw [Lib.decodeL_drop]; exact hrn
      have hn1 : 1 ≤ n := by have := Lib.decodeL_width (s.data.toList.drop pos); rw [hdl] at this; exact this
      have hne : s.data.toList.drop pos ≠ [] := by rw [drop_cons s pos hp]; simp
      have hn2 : pos + n ≤ s.size := by
        have := Lib.decodeL_le (s.data.toList.drop pos) hne
        rw [hdl, List.length_drop, ← Lib.size_eq] at this; omega
      have HS2 : Hid ((acc ++ [r]) ++ runes (s.data.toList.drop (pos + n)) = ALL) := by
        show _ = _
        rw [← HS.out, runes_step _ hne, hdl, List.drop_drop]; simp
      rw [hrn] at hnx
      have hit2 := Lib.iterAt_heap wr w.heap.size s pos (pos + n) hit
      have hbw2 := Lib.below_iterAt hbw (k := w.heap.size) (Nat.le_refl _) s (pos + n)
      have hown2 := ownsRow_iterAt hown (k := w.heap.size) (by omega) s (pos + n)
      obtain ⟨W1, hW1⟩ : ∃ W1, W1 = wr.iterAt w.heap.size s (pos + n) := ⟨_, rfl⟩
      rw [← hW1] at hnx hit2 hbw2 hown2
      have hBlt := lt_of_block hit2
      clear hW1 hit hown hbw HS hne hdl hrn
      go_wp2_with (
        at_builtin; refine wpList_append_own _ rfl _ _ 65 rfl (w.heap.size + 1) 21 i0 (.int .i32 0) 1 4 Tryd.underlying65 hi hz0 hz1 hz2 rfl (by decide) _ _ _ rfl (hown2.alloc _) ⟨W1.heap.size, 0, none⟩ 1 1 [.int .i32 (r : Int)] rfl rfl (cell_one_new' _ _ _) (fun x hx => by simp at hx; rw [hx]; rfl) (by unfold maxLen; omega) (by omega) (by simp; omega) ?_; intro v' w3 hown' hgrow3 hnil3
        have hit3 : w3.heap[w.heap.size]? = some (.stringIter s (pos + n)) := by
          rw [hgrow3.block w.heap.size (by simp; omega) (fun h => by have := (hown2.lt _ h.symm).1; omega), Below.heap_alloc _ _ _ hBlt]; exact hit2
        have hbw3 : Below w.heap.size w w3 := Below.grown (hbw2.alloc (by omega) _) hgrow3 (by simp; omega) (fun j hj => by have := (hown2.lt _ hj).1; omega)
        have X : Aside (w3.ownsRow (w.heap.size + 1) 21 1 v' (acc.length + 1) (runeVals acc ++ [.int .i32 (r : Int)]) ∧ w3.heap[w.heap.size]? = some (.stringIter s (pos + n)) ∧ Below w.heap.size w w3) := ⟨hown', hit3, hbw3⟩
        clear hown' hgrow3 hnil3 hit3 hbw3)
      go_roundw
      case rel =>
        refine ⟨pos + n, acc ++ [r], X.out.2.1, ?_, X.out.2.2, HS2, by simp; omega, hn2⟩
        have := X.out.1
        rw [List.length_append, List.length_singleton]
        unfold runeVals at this ⊢
        rw [List.map_append]
        exact this
      case measure =>
        rw [iterPos_of X.out.2.1, hpos0]; omega
    · have hnx : ∀ ty, (Instr.next (.pointer (some ⟨w.heap.size, 0, none⟩)) true ty).run Tryd.prog wr = _ := fun ty => Lib.run_next_end_at wr w.heap.size s pos ty hit hp
      have hA : acc = ALL := by
        rw [← HS.out, List.drop_eq_nil_of_le (by rw [← Lib.size_eq]; omega), runes_nil, List.append_nil]
      subst hA
      clear HS
      go_wp2
      go_ret
      exact ⟨_, rfl, hown, hbw⟩
end Go.Proofs
