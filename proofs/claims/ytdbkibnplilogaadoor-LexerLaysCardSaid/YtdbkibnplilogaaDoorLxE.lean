/-
  Walks: the lexer's state in memory; strings.Clone, put, fail.
-/
import Derived.Test.YtdbkibnplilogaaDoorLxD
import Derived.Test.YtdbkibnplilogaaDoorLtL0
import Derived.Deep.AppendLies
import Derived.Deep.RegionHeld3
import Derived.WalkLawsBesides
set_option linter.unusedVariables false
namespace Go.Proofs
open Go.RowKit Go.Lx

theorem cell_of_heap {w : World} {b : Nat} {cs : Array Value} {t : TypeId} {fz : Nat × Nat} (h : w.heap[b]? = some (.cells cs t fz)) (j : Nat) : w.cell? ⟨b, j, none⟩ = cs[j]? := by
  unfold World.cell?
  rw [h]
  rfl
theorem free_of_heap {w : World} {b : Nat} {cs : Array Value} {t : TypeId} (h : w.heap[b]? = some (.cells cs t (0, 0))) (j : Nat) : w.frozen? ⟨b, j, none⟩ = false := by
  unfold World.frozen?
  rw [h]
  simp
theorem bs_data (X : ByteArray) : bs X.data.toList = X := by cases X with | mk a => cases a; rfl

def tokCells (l : List Tok) : List Value := l.flatMap fun t => [.int .i64 t.kind, .string (bs t.text), .int .i64 t.at_]
def natCells (l : List Nat) : List Value := l.map fun (n : Nat) => Value.int .i64 (n : Int)
theorem tokCells_append (l m : List Tok) : tokCells (l ++ m) = tokCells l ++ tokCells m := by unfold tokCells; rw [List.flatMap_append]
theorem tokCells_len (l : List Tok) : (tokCells l).length = l.length * 3 := by
  induction l with
  | nil => rfl
  | cons a l ih =>
    have : tokCells (a :: l) = [.int .i64 a.kind, .string (bs a.text), .int .i64 a.at_] ++ tokCells l := rfl
    rw [this, List.length_append, ih, List.length_cons]; simp; omega

/-- The lexer's struct at block b: the tokens' row and the depths' row are the call's own, and lie apart. -/
def Tryd.LexV (B b : Nat) (s : ByteArray) (st : St) (lv bv : Value) (w : World) : Prop :=
  B ≤ b ∧ w.heap[b]? = some (.cells #[.string s, .int .i64 st.pos, lv, .int .i64 st.opn, bv] 50 (0, 0)) ∧
  w.ownsRow B 35 3 lv st.toks.length (tokCells st.toks) ∧ w.ownsRow B 3 1 bv st.deep.length (natCells st.deep.reverse) ∧
  lv.ownBlock ≠ some b ∧ bv.ownBlock ≠ some b ∧ ∀ g, lv.ownBlock = some g → bv.ownBlock ≠ some g
def Tryd.LexAt (B b : Nat) (s : ByteArray) (st : St) (w : World) : Prop := ∃ lv bv, Tryd.LexV B b s st lv bv w

theorem ownsRow_keep {B : Nat} {e : TypeId} {sz : Nat} {v : Value} {n : Nat} {xs : List Value} {w w' : World} (h : w.ownsRow B e sz v n xs) (hb : ∀ g, v.ownBlock = some g → w'.heap[g]? = w.heap[g]?) : w'.ownsRow B e sz v n xs := by
  refine ⟨h.1, ?_⟩
  rcases h.2 with hn | ⟨g, cap, cur, hv, hbg, hg, rest⟩
  · exact .inl hn
  · exact .inr ⟨g, cap, cur, hv, hbg, (hb g (by rw [hv]; rfl)).trans hg, rest⟩
theorem ownsRow_lt {B : Nat} {e : TypeId} {sz : Nat} {v : Value} {n : Nat} {xs : List Value} {w : World} (h : w.ownsRow B e sz v n xs) {g : Nat} (hg : v.ownBlock = some g) : B ≤ g ∧ g < w.heap.size := by
  rcases h.2 with ⟨rfl, _⟩ | ⟨g', cap, cur, rfl, hbg, hh, rest⟩
  · cases hg
  · obtain rfl : g' = g := by simpa [Value.ownBlock] using hg
    exact ⟨hbg, lt_of_block hh⟩

/-- The struct when nothing below a world's end has turned. -/
theorem Tryd.LexV.below {B b : Nat} {s : ByteArray} {st : St} {lv bv : Value} {w w' : World} (h : Tryd.LexV B b s st lv bv w) (hb : Below w.heap.size w w') : Tryd.LexV B b s st lv bv w' := by
  obtain ⟨h1, h2, h3, h4, h5⟩ := h
  exact ⟨h1, (hb.block b (lt_of_block h2)).trans h2, ownsRow_keep h3 (fun g hg => hb.block g (ownsRow_lt h3 hg).2), ownsRow_keep h4 (fun g hg => hb.block g (ownsRow_lt h4 hg).2), h5⟩
theorem Tryd.LexAt.below {B b : Nat} {s : ByteArray} {st : St} {w w' : World} (h : Tryd.LexAt B b s st w) (hb : Below w.heap.size w w') : Tryd.LexAt B b s st w' :=
  let ⟨lv, bv, h⟩ := h; ⟨lv, bv, h.below hb⟩

/-- A new token behind the row, and the new row in the struct. -/
theorem Tryd.lex_put {B b : Nat} {s : ByteArray} {st : St} {lv bv : Value} {w W1 w3 : World} {g cap : Nat} {o : Obj} {tk : Tok} (h : Tryd.LexV B b s st lv bv w) (b1 : Below w.drew.heap.size w.drew W1) (hgrow : (W1.alloc o).grownBy w3 lv.ownBlock)
    (hown : w3.ownsRow B 35 3 (.slice (some ⟨g, 0, none⟩) (st.toks.length + 1) cap) (st.toks.length + 1) (tokCells st.toks ++ tokCells [tk])) (hat : lv.ownBlock = some g ∨ g = W1.heap.size + 1) :
    w3.heap[b]? = some (.cells #[.string s, .int .i64 st.pos, lv, .int .i64 st.opn, bv] 50 (0, 0)) ∧
    Tryd.LexAt B b s { st with toks := st.toks ++ [tk] } (w3.setCell ⟨b, 2, none⟩ (.slice (some ⟨g, 0, none⟩) (st.toks.length + 1) cap)) ∧ Below B w (w3.setCell ⟨b, 2, none⟩ (.slice (some ⟨g, 0, none⟩) (st.toks.length + 1) cap)) := by
  obtain ⟨hBb, h2, h3, h4, n1, n2, n3⟩ := h
  have hlt := lt_of_block h2
  have hz : w.heap.size ≤ W1.heap.size := b1.size
  have k1 : ∀ k, k < w.heap.size → lv.ownBlock ≠ some k → w3.heap[k]? = w.heap[k]? := fun k hk hne => by
    have e1 : w3.heap[k]? = (W1.alloc o).heap[k]? := hgrow.block k (by show k < (W1.heap.push o).size; rw [Array.size_push]; omega) (fun e => hne e.symm)
    have e2 : W1.heap[k]? = w.heap[k]? := b1.block k hk
    rw [e1, Below.heap_alloc _ _ _ (by omega), e2]
  have hb3 : w3.heap[b]? = some (.cells #[.string s, .int .i64 st.pos, lv, .int .i64 st.opn, bv] 50 (0, 0)) := (k1 b hlt n1).trans h2
  have hg3 : g ≠ b := by
    rcases hat with h | h
    · intro e; rw [e] at h; exact n1 h
    · omega
  have o3 : ∀ (k : Nat) (u : Value), k ≠ b → (w3.setCell ⟨b, 2, none⟩ u).heap[k]? = w3.heap[k]? := fun k u hk => Below.heap_setCell w3 ⟨b, 2, none⟩ u k hk
  refine ⟨hb3, ⟨_, bv, hBb, setCell_heap hb3 _, ?_, ?_, ?_, n2, ?_⟩, ?_⟩
  · show World.ownsRow _ B _ 3 _ (st.toks ++ [tk]).length (tokCells (st.toks ++ [tk]))
    rw [List.length_append, tokCells_append]
    refine ownsRow_keep hown (fun k hk => o3 k _ ?_)
    have : g = k := by simpa [Value.ownBlock] using hk
    omega
  · refine ownsRow_keep h4 (fun k hk => ?_)
    have hkk := ownsRow_lt h4 hk
    have hkb : k ≠ b := fun e => n2 (by rw [hk, e])
    rw [o3 k _ hkb]
    exact k1 k hkk.2 (fun e => n3 k e hk)
  · show some g ≠ some b
    intro e; exact hg3 (Option.some.inj e)
  · intro k hk hk2
    have e : g = k := by simpa [Value.ownBlock] using hk
    subst e
    rcases hat with h | h
    · exact n3 g h hk2
    · have := (ownsRow_lt h4 hk2).2; omega
  · have hBw : B ≤ w.heap.size := by omega
    have e0 : Below B w W1 := ((Below.refl B w).drew).trans (b1.mono hBw)
    have e1 : Below B w (W1.alloc o) := e0.alloc (by omega) _
    have e2 : Below B w w3 := e1.grown hgrow (by show B ≤ (W1.heap.push o).size; rw [Array.size_push]; omega) (fun k hk => (ownsRow_lt h3 hk).1)
    exact e2.setCell (p := ⟨b, 2, none⟩) hBb _

theorem Tryd.infoTok : (Tryd.prog.info? 35).map (fun i => (i.zero, i.size, i.bytes)) = some (some (.agg #[.int .i64 0, .string ⟨#[]⟩, .int .i64 0]), 3, 32) := by kernel_rfl

set_option maxHeartbeats 1000000 in
theorem Tryd.clone_any (s : ByteArray) (w : World) (hs : s.size ≤ 281474976710656) :
    Calls Tryd.prog 46 #[.string s] w fun e w' => e = .returned (.string s) ∧ Below w.heap.size w w' := by
  go_enter Tryd.func46, Tryd.ntmps46
  go_wp2_with fail
  refine (Tryd.stringslite_Clone s w hs).mono ?_
  rintro e W1 ⟨rfl, b1⟩
  go_wp2_with fail
  go_ret
  exact ⟨rfl, b1⟩

set_option maxHeartbeats 4000000 in
set_option maxRecDepth 100000 in
theorem Tryd.put_any (B b : Nat) (s : ByteArray) (st : St) (kind at_ : Nat) (X : ByteArray) (w : World) (h : Tryd.LexAt B b s st w) (hX : X.size ≤ 1000000) (hlen : st.toks.length ≤ 1000000) :
    Calls Tryd.prog 28 #[.pointer (some ⟨b, 0, none⟩), .int .i64 kind, .string X, .int .i64 at_] w
      fun e w' => e = .returned (.tuple #[]) ∧ Tryd.LexAt B b s { st with toks := st.toks ++ [⟨kind, X.data.toList, at_⟩] } w' ∧ Below B w w' := by
  obtain ⟨i0, hi, hz0, hz1, hz2⟩ := info_parts Tryd.infoTok
  obtain ⟨lv, bv, hV⟩ := h
  obtain ⟨hBb, hb, hl, _⟩ := id hV
  have c2 : w.cell? ⟨b, 2, none⟩ = some lv := (cell_of_heap hb 2).trans rfl
  have hlt := lt_of_block hb
  have HV := Lib.hid hV
  have Hl := Lib.hid hl
  clear hb hV hl
  go_enter Tryd.func28, Tryd.ntmps28
  go_wp2_with fail
  go_region_law (first
    | (go_simp; refine (Tryd.clone_any X _ (by omega)).mono ?_; rintro e W1 ⟨rfl, b1⟩; have hz1' : w.heap.size ≤ W1.heap.size := b1.size; have hbW : b < W1.heap.size := (by omega); have hbN : ¬ b = W1.heap.size := (by omega); have c21 : W1.cell? ⟨b, 2, none⟩ = some lv := (b1.cell (p := ⟨b, 2, none⟩) hlt).trans c2)
    | (refine step_append_lies _ (by rfl) _ _ _ (by rfl) B 35 i0 _ 3 32 Tryd.underlying24 hi hz0 hz1 hz2 rfl (by omega) lv st.toks.length (tokCells st.toks) (by rfl) ((ownsRow_same (w := w.drew) Hl.out.drew b1.block).alloc _)
        ⟨W1.heap.size, 0, none⟩ 1 1 (tokCells [⟨kind, X.data.toList, at_⟩]) (by rfl) (by rfl) (World.news_of_block (cs := #[.int .i64 kind, .string X, .int .i64 at_]) (t := 35) (fr := (0, 0)) (heap_alloc_new W1 _)) (by simp [tokCells, Value.oneCell'])
        (by omega) (by unfold maxLen; omega) (by omega) (by simp; omega) (W1.heap.size + 1) (by simp) ?_; intro g cap w3 hown3 hgrow3 hat3 hlt3
       have X3 := Tryd.lex_put HV.out b1 hgrow3 hown3 hat3
       have c23 : w3.cell? ⟨b, 2, none⟩ = some lv := (cell_of_heap X3.1 2).trans rfl
       have f23 : w3.frozen? ⟨b, 2, none⟩ = false := free_of_heap X3.1 2
       have X4 := Lib.hid X3.2
       clear X3 hown3 hgrow3 hat3))
  all_goals
    refine bodyPost_end (results_none rfl _ _ _) rfl ?_
    exact ⟨rfl, X4.out⟩
end Go.Proofs
