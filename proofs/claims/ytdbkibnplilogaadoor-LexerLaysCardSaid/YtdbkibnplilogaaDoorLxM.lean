/-
  Walks: put beside a block that is not the struct's, the closure of indent.
-/
import Derived.Test.YtdbkibnplilogaaDoorLxL
import Derived.StillTailTactics
set_option linter.unusedVariables false
namespace Go.Proofs
open Go.RowKit Go.Lx Go.Lt

/-- The struct, and a block x that is none of its own. -/
def Tryd.LexX (B b x : Nat) (s : ByteArray) (st : St) (w : World) : Prop := ∃ lv bv, Tryd.LexV B b s st lv bv w ∧ b ≠ x ∧ lv.ownBlock ≠ some x ∧ bv.ownBlock ≠ some x ∧ x < w.heap.size
theorem Tryd.LexX.at_ {B b x : Nat} {s : ByteArray} {st : St} {w : World} (h : Tryd.LexX B b x s st w) : Tryd.LexAt B b s st w := let ⟨lv, bv, h, _⟩ := h; ⟨lv, bv, h⟩

theorem Tryd.lex_put_x {B b x : Nat} {s : ByteArray} {st : St} {lv bv : Value} {w W1 w3 : World} {g cap : Nat} {o : Obj} {tk : Tok} (h : Tryd.LexV B b s st lv bv w) (x1 : b ≠ x) (x2 : lv.ownBlock ≠ some x) (x3 : bv.ownBlock ≠ some x) (x4 : x < w.heap.size)
    (b1 : Below w.drew.heap.size w.drew W1) (hgrow : (W1.alloc o).grownBy w3 lv.ownBlock)
    (hown : w3.ownsRow B 35 3 (.slice (some ⟨g, 0, none⟩) (st.toks.length + 1) cap) (st.toks.length + 1) (tokCells st.toks ++ tokCells [tk])) (hat : lv.ownBlock = some g ∨ g = W1.heap.size + 1) :
    w3.heap[b]? = some (.cells #[.string s, .int .i64 st.pos, lv, .int .i64 st.opn, bv] 50 (0, 0)) ∧
    Tryd.LexX B b x s { st with toks := st.toks ++ [tk] } (w3.setCell ⟨b, 2, none⟩ (.slice (some ⟨g, 0, none⟩) (st.toks.length + 1) cap)) ∧ Below B w (w3.setCell ⟨b, 2, none⟩ (.slice (some ⟨g, 0, none⟩) (st.toks.length + 1) cap)) ∧
    (w3.setCell ⟨b, 2, none⟩ (.slice (some ⟨g, 0, none⟩) (st.toks.length + 1) cap)).heap[x]? = w.heap[x]? := by
  have hz : w.heap.size ≤ W1.heap.size := b1.size
  obtain ⟨r1, r2, r3⟩ := Tryd.lex_put h b1 hgrow hown hat
  have hx : w3.heap[x]? = w.heap[x]? := by
    have e1 : w3.heap[x]? = (W1.alloc o).heap[x]? := hgrow.block x (by show x < (W1.heap.push o).size; rw [Array.size_push]; omega) (fun e => x2 e.symm)
    have e2 : W1.heap[x]? = w.heap[x]? := b1.block x x4
    rw [e1, Below.heap_alloc _ _ _ (by omega), e2]
  have hgx : g ≠ x := by
    rcases hat with h | h
    · intro e; rw [e] at h; exact x2 h
    · omega
  have hzz : w3.heap.size ≥ w.heap.size := by have := r3.size; simpa [World.setCell] using this
  refine ⟨r1, ?_, r3, by rw [Below.heap_setCell w3 ⟨b, 2, none⟩ _ x (by show x ≠ b; omega)]; exact hx⟩
  obtain ⟨lv', bv', hV'⟩ := r2
  have hblk := hV'.2.1
  rw [setCell_heap r1] at hblk
  have e := Option.some.inj hblk
  simp at e
  obtain ⟨rfl, rfl⟩ := e
  exact ⟨_, _, hV', x1, by show some g ≠ some x; intro e; exact hgx (Option.some.inj e), x3, by have := r3.size; omega⟩

set_option maxHeartbeats 4000000 in
set_option maxRecDepth 100000 in
theorem Tryd.put_x (B b x : Nat) (s : ByteArray) (st : St) (kind at_ : Nat) (X : ByteArray) (w : World) (h : Tryd.LexX B b x s st w) (hX : X.size ≤ 1000000) (hlen : st.toks.length ≤ 1000000) :
    Calls Tryd.prog 28 #[.pointer (some ⟨b, 0, none⟩), .int .i64 kind, .string X, .int .i64 at_] w
      fun e w' => e = .returned (.tuple #[]) ∧ Tryd.LexX B b x s { st with toks := st.toks ++ [⟨kind, X.data.toList, at_⟩] } w' ∧ Below B w w' ∧ w'.heap[x]? = w.heap[x]? := by
  obtain ⟨i0, hi, hz0, hz1, hz2⟩ := info_parts Tryd.infoTok
  obtain ⟨lv, bv, hV, x1, x2, x3, x4⟩ := h
  have HX := Lib.hid (And.intro x1 (And.intro x2 (And.intro x3 x4)))
  clear x1 x2 x3 x4
  obtain ⟨hBb, hb, hl, _⟩ := id hV
  have c2 : w.cell? ⟨b, 2, none⟩ = some lv := (cell_of_heap hb 2).trans rfl
  have hlt := lt_of_block hb
  have HV := Lib.hid hV
  have Hl := Lib.hid hl
  clear hb hV hl
  go_enter Tryd.func28, Tryd.ntmps28
  go_wp2_with fail
  go_region_law (first
    | (go_simp; refine (Tryd.clone_any X _ (by omega)).mono ?_; rintro e W1 ⟨rfl, b1⟩; have hz1' : w.heap.size ≤ W1.heap.size := b1.size; have hbW : b < W1.heap.size := (by omega); have hbN : ¬ b = W1.heap.size := (by omega); have c21 : W1.cell? ⟨b, 2, none⟩ = some lv := (b1.cell (p := ⟨b, 2, none⟩) hlt).trans c2)
    | (refine step_append_lies _ (by rfl) _ _ _ (by rfl) B 35 i0 _ 3 32 Tryd.underlying24 hi hz0 hz1 hz2 rfl (by omega) lv st.toks.length (tokCells st.toks) (by rfl) ((ownsRow_same (w := w.drew) Hl.out.drew b1.block).alloc _)
        ⟨W1.heap.size, 0, none⟩ 1 1 (tokCells [⟨kind, X.data.toList, at_⟩]) (by rfl) (by rfl) (World.news_of_block (cs := #[.int .i64 kind, .string X, .int .i64 at_]) (t := 35) (fr := (0, 0)) (heap_alloc_new W1 _)) (by simp [tokCells, Value.oneCell'])
        (by omega) (by unfold maxLen; omega) (by omega) (by simp; omega) (W1.heap.size + 1) (by simp) ?_; intro g cap w3 hown3 hgrow3 hat3 hlt3
       have X3 := Tryd.lex_put_x HV.out HX.out.1 HX.out.2.1 HX.out.2.2.1 HX.out.2.2.2 b1 hgrow3 hown3 hat3
       have c23 : w3.cell? ⟨b, 2, none⟩ = some lv := (cell_of_heap X3.1 2).trans rfl
       have f23 : w3.frozen? ⟨b, 2, none⟩ = false := free_of_heap X3.1 2
       have X4 := Lib.hid X3.2
       clear X3 hown3 hgrow3 hat3))
  all_goals
    refine bodyPost_end (results_none rfl _ _ _) rfl ?_
    exact ⟨rfl, X4.out⟩

/-- A slice that the call has made, its elements' cells apart from its value. -/
theorem row_open_s {w : World} {B e : Nat} {v : Value} {n : Nat} {xs : List Value} (h : w.ownsRow B e 1 v n xs) :
    ∃ g cap, v = .slice g n cap ∧ (∀ a, g = some a → B ≤ a.block ∧ a.block < w.heap.size) ∧ (∀ i (hi : i < n), ∃ b, g = some ⟨b, 0, none⟩ ∧ w.cell? ⟨b, i, none⟩ = xs[i]?) := by
  have h0 := h
  rcases h.2 with ⟨rfl, hn⟩ | ⟨g, cap, cur, rfl, hgb, hgh, _⟩
  · exact ⟨none, 0, by rw [hn], (fun a ha => by cases ha), (fun i hi => by omega)⟩
  · exact ⟨some ⟨g, 0, none⟩, cap, rfl, (fun a ha => by cases ha; exact ⟨hgb, lt_of_block hgh⟩), (fun i hi => ⟨g, rfl, h0.cellAt i (by omega)⟩)⟩

theorem natCells_len (l : List Nat) : (natCells l).length = l.length := by unfold natCells; simp
theorem last_get (d : Nat) (ds : List Nat) : (natCells (d :: ds).reverse)[ds.length]? = some (.int .i64 d) := by
  unfold natCells
  rw [List.getElem?_map, List.reverse_cons, List.getElem?_append_right (by simp)]
  simp

set_option maxHeartbeats 2000000 in
theorem Tryd.last_any (B b g : Nat) (s : ByteArray) (st : St) (d : Nat) (ds : List Nat) (w : World) (h : Tryd.LexAt B b s st w) (hd : st.deep = d :: ds) (hg : w.cell? ⟨g, 0, none⟩ = some (.pointer (some ⟨b, 0, none⟩))) (hl : st.deep.length ≤ 1000000) :
    Calls Tryd.prog 38 #[.pointer (some ⟨g, 0, none⟩)] w fun e w' => e = .returned (.int .i64 d) ∧ ∃ n, w' = w.drewN n := by
  obtain ⟨lv, bv, hV⟩ := h
  obtain ⟨_, _, _, _, c4, _⟩ := hV.cells
  have hb4 := hV.2.2.2.1
  rw [hd] at hb4 hl
  obtain ⟨A, cap, rfl, _, hget⟩ := row_open_s hb4
  obtain ⟨a, rfl, hcell⟩ := hget ds.length (by simp)
  rw [last_get] at hcell
  rw [List.length_cons] at c4 hl
  have hsub : IntKind.i64.wrap (((ds.length + 1 : Nat) : Int) - 1) = (ds.length : Int) := by rw [IntWalk.i64_in _ (by omega)]; omega
  have hi0 : (0 : Int) ≤ (ds.length : Int) := by omega
  have hi1 : (ds.length : Int) < ((ds.length + 1 : Nat) : Int) := by omega
  clear hb4 hget hV hd
  go_enter Tryd.func38, Tryd.ntmps38
  go_wp2_with fail
  go_quiet (fail)
  go_wp2_with fail
  go_ret
  exact ⟨rfl, _, rfl⟩
end Go.Proofs
