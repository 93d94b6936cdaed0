/-
  Walks: name, number, quoted, sign, token.
-/
import Derived.Test.YtdbkibnplilogaaDoorLxF
set_option linter.unusedVariables false
namespace Go.Proofs
open Go.RowKit Go.Lx

/-- What a method of the lexer leaves. -/
def Tryd.LexOut (B b : Nat) (s : ByteArray) (w0 : World) : Res St → Ending → World → Prop
  | .ok st, e, w => e = .returned (.tuple #[]) ∧ Tryd.LexAt B b s st w ∧ Below B w0 w
  | .error (c, a), e, w => e = .panicked [{ v := Tryd.stopV c a, recovered := false }] ∧ Below B w0 w

/-- The place in the struct. -/
theorem Tryd.LexV.setPos {B b : Nat} {s : ByteArray} {st : St} {lv bv : Value} {w : World} (h : Tryd.LexV B b s st lv bv w) (q : Nat) :
    Tryd.LexV B b s { st with pos := q } lv bv (w.setCell ⟨b, 1, none⟩ (.int .i64 q)) ∧ Below B w (w.setCell ⟨b, 1, none⟩ (.int .i64 q)) := by
  obtain ⟨hBb, h2, h3, h4, n1, n2, n3⟩ := h
  have o3 : ∀ (k : Nat) (u : Value), k ≠ b → (w.setCell ⟨b, 1, none⟩ u).heap[k]? = w.heap[k]? := fun k u hk => Below.heap_setCell w ⟨b, 1, none⟩ u k hk
  exact ⟨⟨hBb, setCell_heap h2 _, ownsRow_keep h3 (fun g hg => o3 g _ (fun e => n1 (by rw [hg, e]))), ownsRow_keep h4 (fun g hg => o3 g _ (fun e => n2 (by rw [hg, e]))), n1, n2, n3⟩, (Below.refl B w).setCell (p := ⟨b, 1, none⟩) hBb _⟩
theorem Tryd.LexV.setOpn {B b : Nat} {s : ByteArray} {st : St} {lv bv : Value} {w : World} (h : Tryd.LexV B b s st lv bv w) (q : Nat) :
    Tryd.LexV B b s { st with opn := q } lv bv (w.setCell ⟨b, 3, none⟩ (.int .i64 q)) ∧ Below B w (w.setCell ⟨b, 3, none⟩ (.int .i64 q)) := by
  obtain ⟨hBb, h2, h3, h4, n1, n2, n3⟩ := h
  have o3 : ∀ (k : Nat) (u : Value), k ≠ b → (w.setCell ⟨b, 3, none⟩ u).heap[k]? = w.heap[k]? := fun k u hk => Below.heap_setCell w ⟨b, 3, none⟩ u k hk
  exact ⟨⟨hBb, setCell_heap h2 _, ownsRow_keep h3 (fun g hg => o3 g _ (fun e => n1 (by rw [hg, e]))), ownsRow_keep h4 (fun g hg => o3 g _ (fun e => n2 (by rw [hg, e]))), n1, n2, n3⟩, (Below.refl B w).setCell (p := ⟨b, 3, none⟩) hBb _⟩
theorem Tryd.LexAt.base {B b : Nat} {s : ByteArray} {st : St} {w : World} (h : Tryd.LexAt B b s st w) : B ≤ w.heap.size :=
  let ⟨_, _, h1, h2, _⟩ := h; Nat.le_trans h1 (Nat.le_of_lt (lt_of_block h2))

set_option maxHeartbeats 2000000 in
theorem Tryd.name_any (B b : Nat) (s : ByteArray) (st : St) (w : World) (h : Tryd.LexAt B b s st w) (hs : s.size ≤ 1000000) (hp : st.pos ≤ s.size) (hl : st.toks.length ≤ 1000000) :
    Calls Tryd.prog 41 #[.pointer (some ⟨b, 0, none⟩)] w
      (Tryd.LexOut B b s w (.ok { st with pos := st.pos + (runOf (s.data.toList.drop st.pos)).length, toks := st.toks ++ [⟨if isWord (runOf (s.data.toList.drop st.pos)) then 2 else 1, runOf (s.data.toList.drop st.pos), st.pos⟩] })) := by
  obtain ⟨R, hR⟩ : ∃ R, runOf (s.data.toList.drop st.pos) = R := ⟨_, rfl⟩
  have hRs : (bs R).size = R.length := by rw [Lib.size_eq]; rfl
  have hRl : R.length + st.pos ≤ s.size := by
    rw [← hR]; unfold runOf
    have h1 := List.Sublist.length_le (List.takeWhile_sublist isRun (l := s.data.toList.drop st.pos))
    rw [List.length_drop, ← Lib.size_eq] at h1; omega
  have HR := Lib.hid hR
  rw [hR]
  clear hR
  have hBw := h.base
  have H := Lib.hid h
  clear h
  obtain ⟨bw, hbw⟩ : ∃ x, isWord R = x := ⟨_, rfl⟩
  rw [hbw]
  have HbW : Hid (isWord (bs R).data.toList = bw) := hbw
  clear hbw
  cases bw
  all_goals
    go_enter Tryd.func41, Tryd.ntmps41
    go_wp2_with fail
    refine (Tryd.run_any B b s st w H.out hs hp).mono ?_
    rw [HR.out]
    rintro e W1 ⟨rfl, b1⟩
    have H1 := Lib.hid (H.out.below b1)
    have hb1 := b1.mono hBw
    go_wp2_with fail
    refine (Tryd.word_any (bs R) W1).mono ?_
    rw [HbW.out]
    rintro e W2 ⟨rfl, rfl⟩
    obtain ⟨lv, bv, hV⟩ := H1.out
    obtain ⟨c0, c1, _⟩ := hV.cells
    clear hV
    go_wp2_with fail
    refine (Tryd.put_any B b s st _ st.pos (bs R) _ H1.out (by rw [hRs]; omega) hl).mono ?_
    rintro e W3 ⟨rfl, H3, b3⟩
    obtain ⟨lv3, bv3, hV3⟩ := H3
    obtain ⟨d0, d1, _, _, _, d2, _⟩ := hV3.cells
    have hX := Lib.hid (hV3.setPos (st.pos + R.length))
    have hb3 := hb1.trans b3
    clear hV3 c0 c1
    go_wp2_with fail
    refine bodyPost_end (results_none rfl _ _ _) rfl ?_
    exact ⟨rfl, ⟨_, _, hX.out.1⟩, hb3.trans hX.out.2⟩
end Go.Proofs
