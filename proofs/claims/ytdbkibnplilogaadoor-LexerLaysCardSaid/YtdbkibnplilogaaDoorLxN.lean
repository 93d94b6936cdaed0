/-
  Walks: indent.
-/
import Derived.Test.YtdbkibnplilogaaDoorLxM
set_option linter.unusedVariables false
namespace Go.Proofs
open Go.RowKit Go.Lx Go.Lt

theorem Tryd.LexAt.box {B b : Nat} {s : ByteArray} {st : St} {w : World} (h : Tryd.LexAt B b s st w) (o : Obj) : Tryd.LexX B b w.heap.size s st (w.alloc o) ∧ Below B w (w.alloc o) := by
  have hB := h.base
  obtain ⟨lv, bv, hV⟩ := h
  have hb : Below w.heap.size w (w.alloc o) := (Below.refl _ w).alloc (Nat.le_refl _) _
  refine ⟨⟨lv, bv, hV.below hb, ?_, ?_, ?_, ?_⟩, hb.mono hB⟩
  · have := lt_of_block hV.2.1; omega
  · intro e; have := (ownsRow_lt hV.2.2.1 e).2; omega
  · intro e; have := (ownsRow_lt hV.2.2.2.1 e).2; omega
  · show w.heap.size < (w.heap.push o).size; rw [Array.size_push]; omega
theorem Tryd.LexX.drewN {B b x : Nat} {s : ByteArray} {st : St} {w : World} (h : Tryd.LexX B b x s st w) (n : Nat) : Tryd.LexX B b x s st (w.drewN n) :=
  let ⟨lv, bv, h, h2⟩ := h; ⟨lv, bv, h.below (below_drewN (Below.refl _ w) n), h2⟩
theorem Tryd.LexX.cells {B b x : Nat} {s : ByteArray} {st : St} {w : World} (h : Tryd.LexX B b x s st w) : w.cell? ⟨b, 1, none⟩ = some (.int .i64 st.pos) ∧ ∃ bv, w.cell? ⟨b, 4, none⟩ = some bv ∧ ∃ g cap, bv = .slice g st.deep.length cap := by
  obtain ⟨lv, bv, h, _⟩ := h
  obtain ⟨_, c1, _, _, c4, _⟩ := h.cells
  obtain ⟨g, cap, e, _⟩ := row_open_s h.2.2.2.1
  exact ⟨c1, bv, c4, g, cap, e⟩

set_option maxHeartbeats 4000000 in
set_option maxRecDepth 100000 in
theorem Tryd.indent_deep (B b : Nat) (s : ByteArray) (st : St) (n d : Nat) (ds : List Nat) (w : World) (h : Tryd.LexAt B b s st w) (hd : st.deep = d :: ds) (hl : st.deep.length ≤ 1000000) (hn : d < n) (h40 : 40 < st.deep.length) :
    Calls Tryd.prog 26 #[.pointer (some ⟨b, 0, none⟩), .int .i64 n] w fun e w' => e = .panicked [{ v := Tryd.stopV 107 st.pos, recovered := false }] ∧ Below B w w' := by
  obtain ⟨hbox, hbb⟩ := h.box (.cells #[.pointer (some ⟨b, 0, none⟩)] 48 (0, 0))
  have H := Lib.hid hbox
  have hcx : (w.alloc (.cells #[.pointer (some ⟨b, 0, none⟩)] 48 (0, 0))).cell? ⟨w.heap.size, 0, none⟩ = some (.pointer (some ⟨b, 0, none⟩)) := cells_new w _ _ _ 0
  have HC := Lib.hid hcx
  have hnI : decide ((d : Int) < (n : Int)) = true := by simp; omega
  have h40I : (40 : Int) < (st.deep.length : Int) := by omega
  have HD := Lib.hid hd
  clear h hbox hcx hd
  go_enter Tryd.func26, Tryd.ntmps26
  go_wp2_with fail
  refine (Tryd.last_any B b w.heap.size s st d ds _ H.out.at_ HD.out HC.out hl).mono ?_
  rintro e W1 ⟨rfl, nq, rfl⟩
  have H1 := Lib.hid (H.out.drewN nq)
  have hb1 := below_drewN hbb nq
  have e0 : ((w.alloc (.cells #[.pointer (some ⟨b, 0, none⟩)] 48 (0, 0))).drewN nq).cell? ⟨w.heap.size, 0, none⟩ = some (.pointer (some ⟨b, 0, none⟩)) := HC.out
  obtain ⟨W2, hW2⟩ : ∃ W, W = (w.alloc (.cells #[.pointer (some ⟨b, 0, none⟩)] 48 (0, 0))).drewN nq := ⟨_, rfl⟩
  rw [← hW2] at H1 hb1 e0 ⊢
  obtain ⟨d1, bv, d4, g, cap, rfl⟩ := H1.out.cells
  clear hW2 H HC hbb
  go_wp2_with fail
  go_still_tail 5, (by kernel_rfl)
  change wpList _ _ _ _ _ W2.drew
  have hb2 : Below B w W2.drew := hb1.drew
  obtain ⟨W3, hW3⟩ : ∃ W, W = W2.drew := ⟨_, rfl⟩
  rw [← hW3] at hb2 ⊢
  clear hW3
  go_wp2_with fail
  refine (Tryd.fail_any _ 107 st.pos _).mono ?_
  rintro e W4 ⟨rfl, rfl⟩
  go_wp2_with fail
  exact ⟨rfl, rfl, hb2⟩

theorem natCells_snoc (n : Nat) (l : List Nat) : natCells (n :: l).reverse = natCells l.reverse ++ [.int .i64 n] := by
  unfold natCells; rw [List.reverse_cons, List.map_append]; rfl

/-- A new depth behind the row, and the new row in the struct. -/
theorem Tryd.lex_push {B b n : Nat} {s : ByteArray} {st : St} {lv bv : Value} {w w3 : World} {g cap : Nat} {o : Obj} (h : Tryd.LexV B b s st lv bv w) (hgrow : (w.drew.alloc o).grownBy w3 bv.ownBlock)
    (hown : w3.ownsRow B 3 1 (.slice (some ⟨g, 0, none⟩) (st.deep.length + 1) cap) (st.deep.length + 1) (natCells st.deep.reverse ++ [.int .i64 n])) (hat : bv.ownBlock = some g ∨ g = w.heap.size + 1) :
    (∀ k, k < w.heap.size → bv.ownBlock ≠ some k → w3.heap[k]? = w.heap[k]?) ∧ w3.heap[b]? = some (.cells #[.string s, .int .i64 st.pos, lv, .int .i64 st.opn, bv] 50 (0, 0)) ∧
    Tryd.LexAt B b s { st with deep := n :: st.deep } (w3.setCell ⟨b, 4, none⟩ (.slice (some ⟨g, 0, none⟩) (st.deep.length + 1) cap)) ∧ Below B w (w3.setCell ⟨b, 4, none⟩ (.slice (some ⟨g, 0, none⟩) (st.deep.length + 1) cap)) := by
  obtain ⟨hBb, h2, h3, h4, n1, n2, n3⟩ := h
  have hlt := lt_of_block h2
  have k1 : ∀ k, k < w.heap.size → bv.ownBlock ≠ some k → w3.heap[k]? = w.heap[k]? := fun k hk hne => by
    have e1 : w3.heap[k]? = (w.drew.alloc o).heap[k]? := hgrow.block k (by show k < (w.heap.push o).size; rw [Array.size_push]; omega) (fun e => hne e.symm)
    rw [e1, Below.heap_alloc _ _ _ (show k < w.drew.heap.size from hk)]; rfl
  have hb3 : w3.heap[b]? = some (.cells #[.string s, .int .i64 st.pos, lv, .int .i64 st.opn, bv] 50 (0, 0)) := (k1 b hlt n2).trans h2
  have hg3 : g ≠ b := by
    rcases hat with h | h
    · intro e; rw [e] at h; exact n2 h
    · omega
  have o3 : ∀ (k : Nat) (u : Value), k ≠ b → (w3.setCell ⟨b, 4, none⟩ u).heap[k]? = w3.heap[k]? := fun k u hk => Below.heap_setCell w3 ⟨b, 4, none⟩ u k hk
  refine ⟨k1, hb3, ⟨lv, _, hBb, setCell_heap hb3 _, ?_, ?_, n1, ?_, ?_⟩, ?_⟩
  · refine ownsRow_keep h3 (fun k hk => ?_)
    have hkk := ownsRow_lt h3 hk
    have hkb : k ≠ b := fun e => n1 (by rw [hk, e])
    rw [o3 k _ hkb]
    exact k1 k hkk.2 (fun e => n3 k hk e)
  · show World.ownsRow _ B _ 1 _ (n :: st.deep).length (natCells (n :: st.deep).reverse)
    rw [List.length_cons, natCells_snoc]
    refine ownsRow_keep hown (fun k hk => o3 k _ ?_)
    have : g = k := by simpa [Value.ownBlock] using hk
    omega
  · show some g ≠ some b
    intro e; exact hg3 (Option.some.inj e)
  · intro k hk hk2
    have e : g = k := by simpa [Value.ownBlock] using hk2
    subst e
    rcases hat with h | h
    · exact n3 g hk h
    · have := (ownsRow_lt h3 hk).2; omega
  · have hBw : B ≤ w.heap.size := by omega
    have e1 : Below B w (w.drew.alloc o) := (Below.refl B w).drew.alloc hBw _
    have e2 : Below B w w3 := e1.grown hgrow (by show B ≤ (w.heap.push o).size; rw [Array.size_push]; omega) (fun k hk => (ownsRow_lt h4 hk).1)
    exact e2.setCell (p := ⟨b, 4, none⟩) hBb _

theorem Tryd.infoInt : (Tryd.prog.info? 3).map (fun i => (i.zero, i.size, i.bytes)) = some (some (.int .i64 0), 1, 8) := by kernel_rfl

set_option maxHeartbeats 8000000 in
set_option maxRecDepth 100000 in
theorem Tryd.indent_push (B b : Nat) (s : ByteArray) (st : St) (n d : Nat) (ds : List Nat) (w : World) (h : Tryd.LexAt B b s st w) (hd : st.deep = d :: ds) (hl : st.toks.length ≤ 1000000) (hn : d < n) (h40 : st.deep.length ≤ 40) :
    Calls Tryd.prog 26 #[.pointer (some ⟨b, 0, none⟩), .int .i64 n] w fun e w' => e = .returned (.tuple #[]) ∧ Tryd.LexAt B b s { st with toks := st.toks ++ [⟨7, [], st.pos⟩], deep := n :: st.deep } w' ∧ Below B w w' := by
  obtain ⟨i0, hi, hz0, hz1, hz2⟩ := info_parts Tryd.infoInt
  obtain ⟨hbox, hbb⟩ := h.box (.cells #[.pointer (some ⟨b, 0, none⟩)] 48 (0, 0))
  have H := Lib.hid hbox
  have hcx : (w.alloc (.cells #[.pointer (some ⟨b, 0, none⟩)] 48 (0, 0))).cell? ⟨w.heap.size, 0, none⟩ = some (.pointer (some ⟨b, 0, none⟩)) := cells_new w _ _ _ 0
  have HC := Lib.hid hcx
  have hnI : decide ((d : Int) < (n : Int)) = true := by simp; omega
  have h40I : ¬ (40 : Int) < (st.deep.length : Int) := by omega
  have h40N : ¬ 40 < st.deep.length := by omega
  have HD := Lib.hid hd
  clear h hbox hcx hd
  go_enter Tryd.func26, Tryd.ntmps26
  go_wp2_with fail
  refine (Tryd.last_any B b w.heap.size s st d ds _ H.out.at_ HD.out HC.out (by omega)).mono ?_
  rintro e W1 ⟨rfl, nq, rfl⟩
  have H1 := Lib.hid (H.out.drewN nq)
  have hb1 := below_drewN hbb nq
  have e0 : ((w.alloc (.cells #[.pointer (some ⟨b, 0, none⟩)] 48 (0, 0))).drewN nq).cell? ⟨w.heap.size, 0, none⟩ = some (.pointer (some ⟨b, 0, none⟩)) := HC.out
  obtain ⟨W2, hW2⟩ : ∃ W, W = (w.alloc (.cells #[.pointer (some ⟨b, 0, none⟩)] 48 (0, 0))).drewN nq := ⟨_, rfl⟩
  rw [← hW2] at H1 hb1 e0 ⊢
  obtain ⟨d1, bv, d4, g, cap, rfl⟩ := H1.out.cells
  clear hW2 H HC hbb
  go_wp2_with fail
  go_still_tail 5, (by kernel_rfl)
  change wpList _ _ _ _ _ W2.drew
  have hb2 : Below B w W2.drew := hb1.drew
  have H2 := Lib.hid (H1.out.drewN 1)
  obtain ⟨W3, hW3⟩ : ∃ W, W = W2.drew := ⟨_, rfl⟩
  have hW3' : W3 = W2.drewN 1 := hW3
  rw [← hW3'] at H2
  have e03 : W3.cell? ⟨w.heap.size, 0, none⟩ = some (.pointer (some ⟨b, 0, none⟩)) := by rw [hW3]; exact e0
  have E03 := Lib.hid e03
  rw [← hW3] at hb2 ⊢
  clear hW3 hW3' e0 d1 d4 e03
  go_wp2_with fail
  refine (Tryd.put_x B b w.heap.size s st 7 st.pos ⟨#[]⟩ _ H2.out (by decide) hl).mono ?_
  rintro e W4 ⟨rfl, H4, b4, hx4⟩
  have hb4 := hb2.trans b4
  have e04 : W4.cell? ⟨w.heap.size, 0, none⟩ = some (.pointer (some ⟨b, 0, none⟩)) := (World.cell?_of_block (a := ⟨w.heap.size, 0, none⟩) hx4).trans E03.out
  obtain ⟨lv5, bv5, hV5, _, _, hx5, _⟩ := H4
  have hl5 := hV5.2.2.2.1
  obtain ⟨_, _, _, _, c54, _, _, _⟩ := hV5.cells
  have HV5 := Lib.hid hV5
  have Hl5 := Lib.hid hl5
  have hbL := lt_of_block hV5.2.1
  have hBw4 : B ≤ W4.heap.size := by have := hV5.1; omega
  have hbN : ¬ b = W4.heap.size := by omega
  have hxL : w.heap.size < W4.heap.size := by
    have h1 := b4.size
    have h2 := H2.out
    obtain ⟨_, _, _, _, _, _, h3⟩ := h2
    omega
  have hxN : ¬ w.heap.size = W4.heap.size := by omega
  clear hV5 hl5 hx4
  go_wp2_with fail
  go_region_law (first
    | (refine step_append_lies _ (by rfl) _ _ _ (by rfl) B 3 i0 _ 1 8 Tryd.underlying37 hi hz0 hz1 hz2 rfl (by omega) bv5 st.deep.length (natCells st.deep.reverse) (by rfl) (Hl5.out.drew.alloc _)
        ⟨W4.heap.size, 0, none⟩ 1 1 [.int .i64 n] (by rfl) (by rfl) (World.news_of_block (cs := #[.int .i64 n]) (t := 3) (fr := (0, 0)) (heap_alloc_new W4.drew _)) (by simp [Value.oneCell'])
        (by omega) (by unfold maxLen; omega) (by omega) (by simp; omega) (W4.heap.size + 1) (by simp) ?_; intro g6 cap6 w6 hown6 hgrow6 hat6 hlt6
       have X6 := Tryd.lex_push (n := n) HV5.out hgrow6 hown6 hat6
       have c6x : w6.cell? ⟨w.heap.size, 0, none⟩ = some (.pointer (some ⟨b, 0, none⟩)) := (World.cell?_of_block (a := ⟨w.heap.size, 0, none⟩) (X6.1 w.heap.size hxL hx5)).trans e04
       have c64 : w6.cell? ⟨b, 4, none⟩ = some bv5 := (cell_of_heap X6.2.1 4).trans rfl
       have f64 : w6.frozen? ⟨b, 4, none⟩ = false := free_of_heap X6.2.1 4
       have X7 := Lib.hid X6.2.2
       clear X6 hown6 hgrow6 hat6))
  all_goals
    go_wp2_with fail
    refine bodyPost_ret (results_none rfl _ _ _) rfl ?_
    exact ⟨rfl, X7.out.1, hb4.trans X7.out.2⟩
end Go.Proofs
