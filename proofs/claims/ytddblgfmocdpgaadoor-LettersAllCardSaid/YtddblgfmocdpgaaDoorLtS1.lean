/-
  Walks: letters.All and its iterator, the law's goes and its yield.
-/
import Derived.Test.YtddblgfmocdpgaaDoorLtQ4
set_option linter.unusedVariables false
namespace Go.Proofs
open Go.RowKit Go.Lt

/-- What goes keeps in memory: the list, the stop, the count, ok, over: five blocks from b on. -/
structure GoesAt (b k : Nat) (st : Int) (lv : Value) (ov : Bool) (w : World) : Prop where
  l : w.heap[b]? = some (.cells #[lv] 34 (0, 0))
  s : w.heap[b + 1]? = some (.cells #[.int .i64 st] 3 (0, 0))
  n : w.heap[b + 2]? = some (.cells #[.int .i64 k] 3 (0, 0))
  o : w.heap[b + 3]? = some (.cells #[.bool true] 4 (0, 0))
  v : w.heap[b + 4]? = some (.cells #[.bool ov] 4 (0, 0))

theorem GoesAt.same {b k : Nat} {st : Int} {lv : Value} {ov : Bool} {w w' : World} (h : GoesAt b k st lv ov w) (hb : ∀ i, b ≤ i → i < b + 5 → w'.heap[i]? = w.heap[i]?) : GoesAt b k st lv ov w' :=
  ⟨(hb b (by omega) (by omega)).trans h.l, (hb (b + 1) (by omega) (by omega)).trans h.s, (hb (b + 2) (by omega) (by omega)).trans h.n, (hb (b + 3) (by omega) (by omega)).trans h.o, (hb (b + 4) (by omega) (by omega)).trans h.v⟩
theorem GoesAt.lt {b k : Nat} {st : Int} {lv : Value} {ov : Bool} {w : World} (h : GoesAt b k st lv ov w) : b + 4 < w.heap.size := lt_of_block h.v

theorem goes_close {b k : Nat} {st : Int} {lv : Value} {ov ov' : Bool} {w : World} (h : GoesAt b k st lv ov w) :
    GoesAt b (k + 1) st lv ov' (((w.setCell ⟨b + 3, 0, none⟩ (.bool true)).setCell ⟨b + 2, 0, none⟩ (.int .i64 ((k : Int) + 1))).setCell ⟨b + 4, 0, none⟩ (.bool ov')) := by
  have o (w : World) (i : Nat) (x : Nat) (u : Value) (h : x ≠ i) : (w.setCell ⟨i, 0, none⟩ u).heap[x]? = w.heap[x]? := Below.heap_setCell w ⟨i, 0, none⟩ u x h
  refine ⟨?_, ?_, ?_, ?_, ?_⟩
  · rw [o _ _ _ _ (by omega), o _ _ _ _ (by omega), o _ _ _ _ (by omega)]; exact h.l
  · rw [o _ _ _ _ (by omega), o _ _ _ _ (by omega), o _ _ _ _ (by omega)]; exact h.s
  · rw [o _ _ _ _ (by omega)]; exact one_setCell (v := .int .i64 k) (by rw [o _ _ _ _ (by omega)]; exact h.n)
  · rw [o _ _ _ _ (by omega), o _ _ _ _ (by omega)]; exact one_setCell h.o
  · exact one_setCell (v := .bool ov) (by rw [o _ _ _ _ (by omega), o _ _ _ _ (by omega)]; exact h.v)
theorem goes_out (b : Nat) (u1 u2 u3 : Value) (w : World) (i : Nat) (hi : i < b ∨ b + 5 ≤ i) :
    (((w.setCell ⟨b + 3, 0, none⟩ u1).setCell ⟨b + 2, 0, none⟩ u2).setCell ⟨b + 4, 0, none⟩ u3).heap[i]? = w.heap[i]? := by
  rw [Below.heap_setCell _ _ _ _ (show i ≠ b + 4 by omega), Below.heap_setCell _ _ _ _ (show i ≠ b + 2 by omega), Below.heap_setCell _ _ _ _ (show i ≠ b + 3 by omega)]
theorem goes_below (b : Nat) (u1 u2 u3 : Value) (w : World) : Below b w (((w.setCell ⟨b + 3, 0, none⟩ u1).setCell ⟨b + 2, 0, none⟩ u2).setCell ⟨b + 4, 0, none⟩ u3) :=
  (((Below.refl b w).setCell (p := ⟨b + 3, 0, none⟩) (by show b ≤ b + 3; omega) _).setCell (p := ⟨b + 2, 0, none⟩) (by show b ≤ b + 2; omega) _).setCell (p := ⟨b + 4, 0, none⟩) (by show b ≤ b + 4; omega) _

set_option maxHeartbeats 2000000 in
theorem Tryd.goes1_any (b k n cap g : Nat) (st : Int) (X : ByteArray) (w : World) (hk : k < n) (hn : n ≤ 1000000) (hst : -9223372036854775808 ≤ st ∧ st ≤ 9223372036854775807)
    (hA : GoesAt b k st (.slice (some ⟨g, 0, none⟩) n cap) false w) (hg : g < b) (hX : w.cell? ⟨g, k, none⟩ = some (.string X)) :
    Calls Tryd.prog 38 #[.int .i64 k, .string X, .pointer (some ⟨b + 3, 0, none⟩), .pointer (some ⟨b + 4, 0, none⟩), .pointer (some ⟨b + 2, 0, none⟩), .pointer (some ⟨b, 0, none⟩), .pointer (some ⟨b + 1, 0, none⟩)] w
      fun e w' => e = .returned (.bool (decide (((k + 1 : Nat) : Int) ≠ st))) ∧ GoesAt b (k + 1) st (.slice (some ⟨g, 0, none⟩) n cap) (decide (((k + 1 : Nat) : Int) = st)) w' ∧ Below b w w' ∧ w'.heap.size = w.heap.size ∧ ∀ i, i < b ∨ b + 5 ≤ i → w'.heap[i]? = w.heap[i]? := by
  have cl := cell_of_one hA.l
  have cs := cell_of_one hA.s
  have cn := cell_of_one hA.n
  have co := cell_of_one hA.o
  have cv := cell_of_one hA.v
  have fn := free_of_one hA.n
  have fo := free_of_one hA.o
  have fv := free_of_one hA.v
  have hlt := hA.lt
  have HA := Lib.hid hA
  obtain ⟨h1, h2⟩ := hst
  have hk2 : decide (k < n) = true := decide_eq_true hk
  have hkI : (k : Int) < (n : Int) := by omega
  clear hA
  by_cases hs : ((k + 1 : Nat) : Int) = st
  · have e1 : decide (((k + 1 : Nat) : Int) ≠ st) = false := by simp; omega
    have e2 : decide (((k + 1 : Nat) : Int) = st) = true := by simp; omega
    rw [e1, e2]
    subst hs
    clear e1 e2
    go_enter Tryd.func38, Tryd.ntmps38
    go_wp2
    go_ret
    exact ⟨rfl, goes_close HA.out, goes_below _ _ _ _ _, by simp [World.setCell], fun i hi => goes_out _ _ _ _ _ _ hi⟩
  · have e1 : decide (((k + 1 : Nat) : Int) ≠ st) = true := by simp; omega
    have e2 : decide (((k + 1 : Nat) : Int) = st) = false := by simp; omega
    have e3 : (((k : Int) + 1) == st) = false := by rw [beq_eq_false_iff_ne]; omega
    rw [e1, e2]
    clear e1 e2 hs
    go_enter Tryd.func38, Tryd.ntmps38
    go_wp2
    go_ret
    exact ⟨rfl, goes_close HA.out, goes_below _ _ _ _ _, by simp [World.setCell], fun i hi => goes_out _ _ _ _ _ _ hi⟩

/-- The iterator of letters.All over the law's yield. -/
theorem Tryd.all1_any (b cap : Nat) (sb : Nat) (g : Option Addr) (st : Int) (s : ByteArray) (rs : List Nat) (w : World) (hs : s.size ≤ 3000) (hst : -9223372036854775808 ≤ st ∧ st ≤ 9223372036854775807)
    (hrs : runes s.data.toList = rs) (hA : GoesAt b 0 st (.slice g rs.length cap) false w) (hsb : sb < b) (hsc : w.cell? ⟨sb, 0, none⟩ = some (.string s))
    (hg : ∀ i (hi : i < rs.length), ∃ g', g = some ⟨g', 0, none⟩ ∧ g' < b ∧ w.cell? ⟨g', i, none⟩ = some (.string (strOf rs[i]))) :
    Calls Tryd.prog 37 #[.func (.func 38) #[] #[.pointer (some ⟨b + 3, 0, none⟩), .pointer (some ⟨b + 4, 0, none⟩), .pointer (some ⟨b + 2, 0, none⟩), .pointer (some ⟨b, 0, none⟩), .pointer (some ⟨b + 1, 0, none⟩)], .pointer (some ⟨sb, 0, none⟩)] w
      fun e w' => e = .returned (.tuple #[]) ∧ (∃ (m : Nat) (ov : Bool), GoesAt b m st (.slice g rs.length cap) ov w' ∧ (((m : Int) = st ∧ 0 < st) ∨ m = rs.length)) ∧ Below b w w' := by
  have hrl : rs.length ≤ s.size := by rw [← hrs, Lib.size_eq]; exact runes_len _
  have hlt := hA.lt
  have HA := Lib.hid hA
  have Hg := Lib.hid hg
  have Hrs := Lib.hid hrs
  have Hst := Lib.hid hst
  clear hA hg hrs hst
  go_enter Tryd.func37, Tryd.ntmps37
  go_wp2
  go_loopw [3] (fun i wr => ∃ (k pos : Nat), i = .int .i64 k ∧ k ≤ rs.length ∧ wr.heap[w.heap.size]? = some (.stringIter s pos) ∧ GoesAt b k st (.slice g rs.length cap) false wr ∧ Below b w wr ∧ Hid (runes (s.data.toList.drop pos) = rs.drop k) ∧ pos ≤ s.size) (fun _ wr => s.size - wr.iterPos w.heap.size)
  case atStart =>
    refine ⟨0, 0, rfl, by omega, World.iter_heap w s 0, HA.out.same (fun i h1 h2 => Below.heap_alloc w _ i (by omega)), (Below.refl _ w).alloc (by omega) _, by show _ = _; rw [List.drop_zero, List.drop_zero, Hrs.out], by omega⟩
  case round =>
    obtain ⟨k, pos, rfl, hk, hit, hA, hbw, hrd, hps⟩ := hrel
    have hsz := lt_of_block hit
    have hpos0 := iterPos_of hit
    by_cases hp : pos < s.size
    · have hnx : ∀ ty, (Instr.next (.pointer (some ⟨w.heap.size, 0, none⟩)) true ty).run Tryd.prog wr = _ := fun ty => Lib.run_next_any_at wr w.heap.size s pos ty hit hp
      obtain ⟨r, n, hrn⟩ : ∃ r n, Utf8.decode s pos = (r, n) := ⟨_, _, rfl⟩
      have hdl : Lib.decodeL (s.data.toList.drop pos) = (r, n) := by rw [Lib.decodeL_drop]; exact hrn
      have hn1 : 1 ≤ n := by have := Lib.decodeL_width (s.data.toList.drop pos); rw [hdl] at this; exact this
      have hne : s.data.toList.drop pos ≠ [] := by rw [drop_cons s pos hp]; simp
      have hn2 : pos + n ≤ s.size := by
        have := Lib.decodeL_le (s.data.toList.drop pos) hne
        rw [hdl, List.length_drop, ← Lib.size_eq] at this; omega
      have hst1 := runes_step _ hne
      rw [hdl, List.drop_drop, hrd.out] at hst1
      have hklt : k < rs.length := by
        have := congrArg List.length hst1
        rw [List.length_drop, List.length_cons] at this; omega
      rw [List.drop_eq_getElem_cons hklt] at hst1
      obtain ⟨hr, hrd2⟩ := List.cons.inj hst1
      have Hrd2 := Lib.hid hrd2.symm
      obtain ⟨g', rfl, hgb, hX0⟩ := Hg.out k hklt
      rw [hrn] at hnx
      have hit2 := Lib.iterAt_heap wr w.heap.size s pos (pos + n) hit
      have hbw2 := Lib.below_iterAt hbw (k := w.heap.size) (by omega) s (pos + n)
      have hA2 : GoesAt b k st (.slice (some ⟨g', 0, none⟩) rs.length cap) false (wr.iterAt w.heap.size s (pos + n)) := hA.same (fun i h1 h2 => Lib.iterAt_other wr w.heap.size i s (pos + n) (by omega))
      obtain ⟨W1, hW1⟩ : ∃ W1, W1 = wr.iterAt w.heap.size s (pos + n) := ⟨_, rfl⟩
      rw [← hW1] at hnx hit2 hbw2 hA2
      have hX : W1.cell? ⟨g', k, none⟩ = some (.string (Utf8.encode (r : Int))) := by
        rw [hbw2.cell (p := ⟨g', k, none⟩) hgb, hX0, hr, encode_enc]; rfl
      have hlen3 : rs.length ≤ 1000000 := by omega
      have HX := Lib.hid hX
      have HA2 := Lib.hid hA2
      clear hW1 hit hbw hA hne hdl hrn hrd hst1 hr hX0 hX hA2
      by_cases hstop : ((k + 1 : Nat) : Int) = st
      · have d1 : Hid (decide (((k + 1 : Nat) : Int) ≠ st) = false) := by show _ = _; simp; omega
        have hpos : 0 < st := by omega
        clear hrd2
        go_wp2_with fail
        refine (Tryd.goes1_any b k rs.length cap g' st (Utf8.encode (r : Int)) W1 hklt hlen3 Hst.out HA2.out hgb HX.out).mono ?_
        rw [d1.out]
        rintro e W2 ⟨rfl, hA3, b3, _, _⟩
        go_wp2
        refine bodyPost_ret (results_none rfl _ _ _) rfl ?_
        exact ⟨rfl, ⟨k + 1, _, hA3, .inl ⟨hstop, hpos⟩⟩, hbw2.trans b3⟩
      · have d1 : Hid (decide (((k + 1 : Nat) : Int) ≠ st) = true) := by show _ = _; simp; omega
        have d2 : Hid (decide (((k + 1 : Nat) : Int) = st) = false) := by show _ = _; simp; omega
        clear hrd2
        go_wp2_with fail
        refine (Tryd.goes1_any b k rs.length cap g' st (Utf8.encode (r : Int)) W1 hklt hlen3 Hst.out HA2.out hgb HX.out).mono ?_
        rw [d1.out, d2.out]
        rintro e W2 ⟨rfl, hA3, b3, hz3, ho3⟩
        have hit3 : W2.heap[w.heap.size]? = some (.stringIter s (pos + n)) := by rw [ho3 _ (by omega)]; exact hit2
        clear ho3
        go_wp2
        go_roundw
        case rel => exact ⟨k + 1, pos + n, by go_num, by omega, hit3, hA3, hbw2.trans b3, Hrd2.out, hn2⟩
        case measure => rw [iterPos_of hit3, hpos0]; omega
    · have hnx : ∀ ty, (Instr.next (.pointer (some ⟨w.heap.size, 0, none⟩)) true ty).run Tryd.prog wr = _ := fun ty => Lib.run_next_end_at wr w.heap.size s pos ty hit hp
      have hkr : k = rs.length := by
        have h1 := hrd.out
        rw [List.drop_eq_nil_of_le (by rw [← Lib.size_eq]; omega), runes_nil] at h1
        have := congrArg List.length h1
        rw [List.length_drop, List.length_nil] at this; omega
      clear hrd
      have HA3 := Lib.hid hA
      clear hA
      go_wp2
      refine bodyPost_end (results_none rfl _ _ _) rfl ?_
      exact ⟨rfl, ⟨k, _, HA3.out, .inr hkr⟩, hbw⟩
end Go.Proofs
