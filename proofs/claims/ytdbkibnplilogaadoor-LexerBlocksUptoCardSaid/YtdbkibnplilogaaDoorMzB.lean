/-
  Walks: the reference's state in memory; add, fault.
  Walks: the reference's Sign.
  Walks: the reference's begin.
  The reference's source: parts of it; what its token leaves.
-/
import Derived.Test.YtdbkibnplilogaaDoorLyA
set_option linter.unusedVariables false
namespace Go.Proofs
open Go.RowKit Go.Lx Go.Lt

/-- The reference's struct at block b: sv its source; the tokens' row and the depths' row are the call's own, and lie apart. -/
def Tryd.RefV (B b : Nat) (sv : Value) (st : St) (fc fa : Nat) (lv bv : Value) (w : World) : Prop :=
  B ≤ b ∧ w.heap[b]? = some (.cells #[sv, lv, bv, .int .i64 st.opn, .int .i64 fc, .int .i64 fa] 53 (0, 0)) ∧
  w.ownsRow B 35 3 lv st.toks.length (tokCells st.toks) ∧ w.ownsRow B 3 1 bv st.deep.length (natCells st.deep.reverse) ∧
  lv.ownBlock ≠ some b ∧ bv.ownBlock ≠ some b ∧ ∀ g, lv.ownBlock = some g → bv.ownBlock ≠ some g
def Tryd.RefAt (B b : Nat) (sv : Value) (st : St) (fc fa : Nat) (w : World) : Prop := ∃ lv bv, Tryd.RefV B b sv st fc fa lv bv w

section
variable {B b : Nat} {sv : Value} {st : St} {fc fa : Nat} {lv bv : Value} {w w' : World}
theorem Tryd.RefV.below (h : Tryd.RefV B b sv st fc fa lv bv w) (hb : Below w.heap.size w w') : Tryd.RefV B b sv st fc fa lv bv w' := by
  obtain ⟨h1, h2, h3, h4, h5⟩ := h
  exact ⟨h1, (hb.block b (lt_of_block h2)).trans h2, ownsRow_keep h3 (fun g hg => hb.block g (ownsRow_lt h3 hg).2), ownsRow_keep h4 (fun g hg => hb.block g (ownsRow_lt h4 hg).2), h5⟩
theorem Tryd.RefAt.below (h : Tryd.RefAt B b sv st fc fa w) (hb : Below w.heap.size w w') : Tryd.RefAt B b sv st fc fa w' := let ⟨lv, bv, h⟩ := h; ⟨lv, bv, h.below hb⟩
theorem Tryd.RefAt.drewN (h : Tryd.RefAt B b sv st fc fa w) (n : Nat) : Tryd.RefAt B b sv st fc fa (w.drewN n) := h.below (below_drewN (Below.refl _ w) n)
theorem Tryd.RefAt.pos (h : Tryd.RefAt B b sv st fc fa w) (q : Nat) : Tryd.RefAt B b sv { st with pos := q } fc fa w := h
theorem Tryd.RefAt.base (h : Tryd.RefAt B b sv st fc fa w) : B ≤ w.heap.size := let ⟨_, _, h1, h2, _⟩ := h; Nat.le_trans h1 (Nat.le_of_lt (lt_of_block h2))
theorem Tryd.RefV.cells (h : Tryd.RefV B b sv st fc fa lv bv w) :
    w.cell? ⟨b, 0, none⟩ = some sv ∧ w.cell? ⟨b, 1, none⟩ = some lv ∧ w.cell? ⟨b, 2, none⟩ = some bv ∧ w.cell? ⟨b, 3, none⟩ = some (.int .i64 st.opn) ∧ w.cell? ⟨b, 4, none⟩ = some (.int .i64 fc) ∧ w.cell? ⟨b, 5, none⟩ = some (.int .i64 fa) ∧ ∀ j, w.frozen? ⟨b, j, none⟩ = false :=
  ⟨(cell_of_heap h.2.1 0).trans rfl, (cell_of_heap h.2.1 1).trans rfl, (cell_of_heap h.2.1 2).trans rfl, (cell_of_heap h.2.1 3).trans rfl, (cell_of_heap h.2.1 4).trans rfl, (cell_of_heap h.2.1 5).trans rfl, fun j => free_of_heap h.2.1 j⟩
theorem Tryd.RefV.other (h : Tryd.RefV B b sv st fc fa lv bv w) {cs : Array Value} {st' : St} {fc' fa' : Nat} (hcs : w'.heap[b]? = some (.cells #[sv, lv, bv, .int .i64 st'.opn, .int .i64 fc', .int .i64 fa'] 53 (0, 0)))
    (ho : ∀ k, k ≠ b → w'.heap[k]? = w.heap[k]?) (ht : st'.toks = st.toks) (hd : st'.deep = st.deep) : Tryd.RefV B b sv st' fc' fa' lv bv w' := by
  obtain ⟨hBb, h2, h3, h4, n1, n2, n3⟩ := h
  refine ⟨hBb, hcs, ?_, ?_, n1, n2, n3⟩
  · rw [ht]; exact ownsRow_keep h3 (fun g hg => ho g (fun e => n1 (by rw [hg, e])))
  · rw [hd]; exact ownsRow_keep h4 (fun g hg => ho g (fun e => n2 (by rw [hg, e])))
theorem Tryd.RefV.setOpn (h : Tryd.RefV B b sv st fc fa lv bv w) (q : Nat) :
    Tryd.RefV B b sv { st with opn := q } fc fa lv bv (w.setCell ⟨b, 3, none⟩ (.int .i64 q)) ∧ Below B w (w.setCell ⟨b, 3, none⟩ (.int .i64 q)) :=
  ⟨h.other (cs := #[]) (setCell_heap h.2.1 _) (fun k hk => Below.heap_setCell w ⟨b, 3, none⟩ _ k hk) rfl rfl, (Below.refl B w).setCell (p := ⟨b, 3, none⟩) h.1 _⟩
theorem Tryd.RefV.setFault (h : Tryd.RefV B b sv st fc fa lv bv w) (c a : Nat) :
    Tryd.RefV B b sv st c a lv bv ((w.setCell ⟨b, 4, none⟩ (.int .i64 c)).setCell ⟨b, 5, none⟩ (.int .i64 a)) ∧ Below B w ((w.setCell ⟨b, 4, none⟩ (.int .i64 c)).setCell ⟨b, 5, none⟩ (.int .i64 a)) :=
  ⟨h.other (cs := #[]) (setCell_heap (setCell_heap h.2.1 _) _) (fun k hk => (Below.heap_setCell (w.setCell ⟨b, 4, none⟩ (.int .i64 c)) ⟨b, 5, none⟩ _ k hk).trans (Below.heap_setCell w ⟨b, 4, none⟩ _ k hk)) rfl rfl, ((Below.refl B w).setCell (p := ⟨b, 4, none⟩) h.1 _).setCell (p := ⟨b, 5, none⟩) h.1 _⟩

/-- A new token behind the row, and the new row in the struct. -/
theorem Tryd.ref_put {w3 : World} {g cap : Nat} {o : Obj} {tk : Tok} (h : Tryd.RefV B b sv st fc fa lv bv w) (hgrow : (w.alloc o).grownBy w3 lv.ownBlock)
    (hown : w3.ownsRow B 35 3 (.slice (some ⟨g, 0, none⟩) (st.toks.length + 1) cap) (st.toks.length + 1) (tokCells st.toks ++ tokCells [tk])) (hat : lv.ownBlock = some g ∨ g = w.heap.size + 1) :
    w3.heap[b]? = some (.cells #[sv, lv, bv, .int .i64 st.opn, .int .i64 fc, .int .i64 fa] 53 (0, 0)) ∧
    Tryd.RefAt B b sv { st with toks := st.toks ++ [tk] } fc fa (w3.setCell ⟨b, 1, none⟩ (.slice (some ⟨g, 0, none⟩) (st.toks.length + 1) cap)) ∧ Below B w (w3.setCell ⟨b, 1, none⟩ (.slice (some ⟨g, 0, none⟩) (st.toks.length + 1) cap)) := by
  obtain ⟨hBb, h2, h3, h4, n1, n2, n3⟩ := h
  have hlt := lt_of_block h2
  have k1 : ∀ k, k < w.heap.size → lv.ownBlock ≠ some k → w3.heap[k]? = w.heap[k]? := fun k hk hne => by
    have e1 : w3.heap[k]? = (w.alloc o).heap[k]? := hgrow.block k (by show k < (w.heap.push o).size; rw [Array.size_push]; omega) (fun e => hne e.symm)
    rw [e1, Below.heap_alloc _ _ _ hk]
  have hb3 : w3.heap[b]? = some (.cells #[sv, lv, bv, .int .i64 st.opn, .int .i64 fc, .int .i64 fa] 53 (0, 0)) := (k1 b hlt n1).trans h2
  have hg3 : g ≠ b := by
    rcases hat with h | h
    · intro e; rw [e] at h; exact n1 h
    · omega
  have o3 : ∀ (k : Nat) (u : Value), k ≠ b → (w3.setCell ⟨b, 1, none⟩ u).heap[k]? = w3.heap[k]? := fun k u hk => Below.heap_setCell w3 ⟨b, 1, none⟩ u k hk
  refine ⟨hb3, ⟨_, bv, hBb, setCell_heap hb3 _, ?_, ?_, ?_, n2, ?_⟩, ?_⟩
  · show World.ownsRow _ B _ 3 _ (st.toks ++ [tk]).length (tokCells (st.toks ++ [tk]))
    rw [List.length_append, tokCells_append]
    refine ownsRow_keep hown (fun k hk => o3 k _ ?_)
    have : g = k := by simpa [Value.ownBlock] using hk
    omega
  · refine ownsRow_keep h4 (fun k hk => ?_)
    have hkk := ownsRow_lt h4 hk
    have hkb : k ≠ b := fun e => n2 (by rw [hk, e])
    rw [o3 k _ hkb]
    exact k1 k hkk.2 (fun e => n3 k e hk)
  · show some g ≠ some b
    intro e; exact hg3 (Option.some.inj e)
  · intro k hk hk2
    have e : g = k := by simpa [Value.ownBlock] using hk
    subst e
    rcases hat with h | h
    · exact n3 g h hk2
    · have := (ownsRow_lt h4 hk2).2; omega
  · have hBw : B ≤ w.heap.size := by omega
    have e1 : Below B w (w.alloc o) := (Below.refl B w).alloc hBw _
    have e2 : Below B w w3 := e1.grown hgrow (by show B ≤ (w.heap.push o).size; rw [Array.size_push]; omega) (fun k hk => (ownsRow_lt h3 hk).1)
    exact e2.setCell (p := ⟨b, 1, none⟩) hBb _

/-- A new depth behind the row, and the new row in the struct. -/
theorem Tryd.ref_push {w3 : World} {n g cap : Nat} {o : Obj} (h : Tryd.RefV B b sv st fc fa lv bv w) (hgrow : (w.alloc o).grownBy w3 bv.ownBlock)
    (hown : w3.ownsRow B 3 1 (.slice (some ⟨g, 0, none⟩) (st.deep.length + 1) cap) (st.deep.length + 1) (natCells st.deep.reverse ++ [.int .i64 n])) (hat : bv.ownBlock = some g ∨ g = w.heap.size + 1) :
    w3.heap[b]? = some (.cells #[sv, lv, bv, .int .i64 st.opn, .int .i64 fc, .int .i64 fa] 53 (0, 0)) ∧
    Tryd.RefAt B b sv { st with deep := n :: st.deep } fc fa (w3.setCell ⟨b, 2, none⟩ (.slice (some ⟨g, 0, none⟩) (st.deep.length + 1) cap)) ∧ Below B w (w3.setCell ⟨b, 2, none⟩ (.slice (some ⟨g, 0, none⟩) (st.deep.length + 1) cap)) := by
  obtain ⟨hBb, h2, h3, h4, n1, n2, n3⟩ := h
  have hlt := lt_of_block h2
  have k1 : ∀ k, k < w.heap.size → bv.ownBlock ≠ some k → w3.heap[k]? = w.heap[k]? := fun k hk hne => by
    have e1 : w3.heap[k]? = (w.alloc o).heap[k]? := hgrow.block k (by show k < (w.heap.push o).size; rw [Array.size_push]; omega) (fun e => hne e.symm)
    rw [e1, Below.heap_alloc _ _ _ hk]
  have hb3 : w3.heap[b]? = some (.cells #[sv, lv, bv, .int .i64 st.opn, .int .i64 fc, .int .i64 fa] 53 (0, 0)) := (k1 b hlt n2).trans h2
  have hg3 : g ≠ b := by
    rcases hat with h | h
    · intro e; rw [e] at h; exact n2 h
    · omega
  have o3 : ∀ (k : Nat) (u : Value), k ≠ b → (w3.setCell ⟨b, 2, none⟩ u).heap[k]? = w3.heap[k]? := fun k u hk => Below.heap_setCell w3 ⟨b, 2, none⟩ u k hk
  refine ⟨hb3, ⟨lv, _, hBb, setCell_heap hb3 _, ?_, ?_, n1, ?_, ?_⟩, ?_⟩
  · refine ownsRow_keep h3 (fun k hk => ?_)
    have hkk := ownsRow_lt h3 hk
    have hkb : k ≠ b := fun e => n1 (by rw [hk, e])
    rw [o3 k _ hkb]
    exact k1 k hkk.2 (fun e => n3 k hk e)
  · show World.ownsRow _ B _ 1 _ (n :: st.deep).length (natCells (n :: st.deep).reverse)
    rw [List.length_cons, natCells_snoc]
    refine ownsRow_keep hown (fun k hk => o3 k _ ?_)
    have : g = k := by simpa [Value.ownBlock] using hk
    omega
  · show some g ≠ some b
    intro e; exact hg3 (Option.some.inj e)
  · intro k hk hk2
    have e : g = k := by simpa [Value.ownBlock] using hk2
    subst e
    rcases hat with h | h
    · exact n3 g hk h
    · have := (ownsRow_lt h3 hk).2; omega
  · have hBw : B ≤ w.heap.size := by omega
    have e1 : Below B w (w.alloc o) := (Below.refl B w).alloc hBw _
    have e2 : Below B w w3 := e1.grown hgrow (by show B ≤ (w.heap.push o).size; rw [Array.size_push]; omega) (fun k hk => (ownsRow_lt h4 hk).1)
    exact e2.setCell (p := ⟨b, 2, none⟩) hBb _

/-- The last depth off the row, and the shorter row in the struct. -/
theorem Tryd.ref_pop {d : Nat} {ds : List Nat} (h : Tryd.RefV B b sv st fc fa lv bv w) (hd : st.deep = d :: ds) :
    ∃ g cap, bv = .slice (some ⟨g, 0, none⟩) (ds.length + 1) cap ∧ ds.length + 1 ≤ cap ∧ ∀ w' : World, w'.heap = w.heap → Tryd.RefV B b sv { st with deep := ds } fc fa lv (.slice (some ⟨g, 0, none⟩) ds.length cap) (w'.setCell ⟨b, 2, none⟩ (.slice (some ⟨g, 0, none⟩) ds.length cap)) := by
  obtain ⟨hBb, h2, h3, h4, n1, n2, n3⟩ := h
  rw [hd, List.length_cons] at h4
  obtain ⟨A, cap, rfl, _⟩ := row_open_s h4
  obtain ⟨g, rfl, h6⟩ := ownsRow_less (g := 0) h4 (natCells_snoc d ds)
  have hcap : ds.length + 1 ≤ cap := by
    rcases h4.2 with ⟨h, _⟩ | ⟨g', cap', cur, hv, _, _, hc, _⟩
    · cases h
    · simp at hv; omega
  refine ⟨g, cap, rfl, hcap, fun w' hw => ?_⟩
  have o3 : ∀ (k : Nat) (u : Value), k ≠ b → (w'.setCell ⟨b, 2, none⟩ u).heap[k]? = w.heap[k]? := fun k u hk => by rw [Below.heap_setCell w' ⟨b, 2, none⟩ u k hk, hw]
  have h2' : w'.heap[b]? = some (.cells #[sv, lv, .slice (some ⟨g, 0, none⟩) (ds.length + 1) cap, .int .i64 st.opn, .int .i64 fc, .int .i64 fa] 53 (0, 0)) := by rw [hw]; exact h2
  exact ⟨hBb, setCell_heap h2' _, ownsRow_keep h3 (fun k hk => o3 k _ (fun e => n1 (by rw [hk, e]))), ownsRow_keep h6 (fun k hk => o3 k _ (fun e => n2 (by rw [← e]; exact hk))), n1, n2, n3⟩
end

set_option maxHeartbeats 4000000 in
set_option maxRecDepth 100000 in
theorem Tryd.radd_any (B b : Nat) (sv : Value) (st : St) (fc fa kind at_ : Nat) (X : ByteArray) (w : World) (h : Tryd.RefAt B b sv st fc fa w) (hlen : st.toks.length ≤ 1000000) :
    Calls Tryd.prog 19 #[.pointer (some ⟨b, 0, none⟩), .int .i64 kind, .string X, .int .i64 at_] w
      fun e w' => e = .returned (.tuple #[]) ∧ Tryd.RefAt B b sv { st with toks := st.toks ++ [⟨kind, X.data.toList, at_⟩] } fc fa w' ∧ Below B w w' := by
  obtain ⟨i0, hi, hz0, hz1, hz2⟩ := info_parts Tryd.infoTok
  have hBw := h.base
  obtain ⟨lv, bv, hV⟩ := h
  obtain ⟨_, c1, _⟩ := hV.cells
  have hlt := lt_of_block hV.2.1
  have hbN : ¬ b = w.heap.size := by omega
  have HV := Lib.hid hV
  have Hl := Lib.hid hV.2.2.1
  clear hV
  go_enter Tryd.func19, Tryd.ntmps19
  go_wp2_with (
    at_builtin; refine wpList_append_lies _ rfl _ _ 24 rfl B 35 i0 _ 3 32 Tryd.underlying24 hi hz0 hz1 hz2 rfl (by omega) lv st.toks.length (tokCells st.toks) rfl (Hl.out.alloc _)
        ⟨w.heap.size, 0, none⟩ 1 1 (tokCells [⟨kind, X.data.toList, at_⟩]) rfl rfl (World.news_of_block (cs := #[.int .i64 kind, .string X, .int .i64 at_]) (t := 35) (fr := (0, 0)) (alloc_new w _)) (by simp [tokCells, Value.oneCell'])
        (by omega) (by unfold maxLen; omega) (by omega) (by simp; omega) (w.heap.size + 1) (by simp) ?_; intro g cap w3 hown3 hgrow3 hat3 hlt3
    have X3 := Tryd.ref_put HV.out hgrow3 hown3 hat3
    have c13 : w3.cell? ⟨b, 1, none⟩ = some lv := (cell_of_heap X3.1 1).trans rfl
    have f13 : w3.frozen? ⟨b, 1, none⟩ = false := free_of_heap X3.1 1
    have X4 := Lib.hid X3.2
    clear X3 hown3 hgrow3 hat3)
  refine bodyPost_end (results_none rfl _ _ _) rfl ?_
  exact ⟨rfl, X4.out⟩

set_option maxHeartbeats 2000000 in
theorem Tryd.rfault_any (B b : Nat) (sv : Value) (st : St) (fc fa c a : Nat) (w : World) (h : Tryd.RefAt B b sv st fc fa w) :
    Calls Tryd.prog 30 #[.pointer (some ⟨b, 0, none⟩), .int .i64 c, .int .i64 a] w
      fun e w' => e = .returned (.tuple #[]) ∧ Tryd.RefAt B b sv st c a w' ∧ Below B w w' := by
  obtain ⟨lv, bv, hV⟩ := h
  obtain ⟨_, _, _, _, c4, c5, hf⟩ := hV.cells
  have f4 := hf 4
  have f5 := hf 5
  have X := Lib.hid (hV.setFault c a)
  clear hV hf
  go_enter Tryd.func30, Tryd.ntmps30
  go_wp2_with fail
  refine bodyPost_end (results_none rfl _ _ _) rfl ?_
  exact ⟨rfl, ⟨_, _, X.out.1⟩, X.out.2⟩
end Go.Proofs

namespace Go.Proofs
open Go.RowKit Go.Lx Go.Lt

theorem bytes_window {w : World} {a : Option Addr} {s : ByteArray} (h : BsIn w a s) (h0 : 0 < s.size) : ∃ b o, a = some ⟨b, o, none⟩ ∧ Lib.Bytes w b o s := by
  obtain ⟨b, o, rfl, _⟩ := h 0 h0
  refine ⟨b, o, rfl, fun i hi => ?_⟩
  obtain ⟨b', o', h1, h2⟩ := h i hi
  cases h1
  exact h2
theorem find_at {l : List (List UInt8)} {p : List UInt8 → Bool} {k : Nat} (hk : k < l.length) (hp : p l[k] = true) (hno : ∀ j (hj : j < l.length), j < k → p l[j] = false) : l.find? p = some l[k] := by
  have e : l = l.take k ++ l[k] :: l.drop (k + 1) := by rw [List.getElem_cons_drop, List.take_append_drop]
  rw [List.find?_eq_some_iff_append]
  refine ⟨hp, l.take k, l.drop (k + 1), e, fun a ha => ?_⟩
  obtain ⟨j, hj, rfl⟩ := List.mem_iff_getElem.1 ha
  rw [List.length_take] at hj
  rw [List.getElem_take, hno j (by omega) (by omega)]
  rfl
theorem is_prefix (s : ByteArray) (p : Nat) (X : List UInt8) (h : p + X.length ≤ s.size) : ((s.extract p (p + X.length)).toList == X) = X.isPrefixOf (s.data.toList.drop p) := by
  rw [Lib.toList_data, Lib.extract_data, show p + X.length - p = X.length by omega, Bool.eq_iff_iff, beq_iff_eq, List.isPrefixOf_iff_prefix, List.prefix_iff_eq_take]
  exact ⟨fun h => h.symm, fun h => h.symm⟩
theorem no_prefix (s : ByteArray) (p : Nat) (X : List UInt8) (h : s.size < p + X.length) (h0 : 0 < X.length) : X.isPrefixOf (s.data.toList.drop p) = false := by
  rw [Bool.eq_false_iff]
  intro h1
  rw [List.isPrefixOf_iff_prefix] at h1
  have := h1.length_le
  rw [List.length_drop, ← Lib.size_eq] at this
  omega

set_option maxHeartbeats 4000000 in
set_option maxRecDepth 100000 in
theorem Tryd.rsign_any (a : Option Addr) (cap : Nat) (s : ByteArray) (p : Nat) (w : World) (hb : BsIn w a s) (hcap : s.size ≤ cap) (hp : p ≤ s.size) (hs : s.size ≤ 1000000) :
    Calls Tryd.prog 34 #[.slice a s.size cap, .int .i64 p] w fun e w' => e = .returned (.string (bs (signOf (s.data.toList.drop p)))) ∧ Below w.heap.size w w' := by
  have hlen : signs.length = 33 := rfl
  have HB0 := Lib.hid hb
  have hpI : (p : Int) ≤ (s.size : Int) := by omega
  clear hb
  go_enter Tryd.func34, Tryd.ntmps34
  go_wp2
  go_loopw [6] (fun i wr => ∃ (k : Nat), i = .int .i64 k ∧ k ≤ 33 ∧ (∀ j, wr.cell? ⟨w.heap.size, j, none⟩ = (textVals signs)[j]?) ∧ Below w.heap.size w wr ∧ Hid (∀ j (hj : j < signs.length), j < k → signs[j].isPrefixOf (s.data.toList.drop p) = false)) (fun i _ => 33 - (intOf i).toNat)
  case atStart =>
    refine ⟨0, rfl, by omega, ?_, (Below.refl _ w).alloc (Nat.le_refl _) _, fun j _ hj => absurd hj (Nat.not_lt_zero _)⟩
    intro j
    have := cells_new w (textVals signs).toArray 9 (0, 0) j
    rw [List.getElem?_toArray] at this
    exact this
  case round =>
    obtain ⟨k, rfl, hk, hc, hbw, hno⟩ := hrel
    by_cases hlt : k < 33
    · have hlt2 : k < signs.length := by omega
      obtain ⟨X, hX⟩ : ∃ X, signs[k] = X := ⟨_, rfl⟩
      have hXl := signs_len X (by rw [← hX]; exact List.getElem_mem hlt2)
      have hcell : wr.cell? ⟨w.heap.size, k, none⟩ = some (.string (bs X)) := by rw [hc k, textVals_get signs k hlt2, hX]
      have hkI : (k : Int) < 33 := by omega
      have Hc := Lib.hid hc
      have hno2 : Hid (X.isPrefixOf (s.data.toList.drop p) = false → ∀ j (hj : j < signs.length), j < k + 1 → signs[j].isPrefixOf (s.data.toList.drop p) = false) := by
        intro h j hj hjk
        rcases Nat.lt_or_ge j k with h1 | h1
        · exact hno.out j hj h1
        · obtain rfl : j = k := by omega
          rw [hX]; exact h
      have hyes : Hid (X.isPrefixOf (s.data.toList.drop p) = true → signOf (s.data.toList.drop p) = X) := by
        intro h
        unfold signOf
        rw [find_at (p := fun x => x.isPrefixOf (s.data.toList.drop p)) hlt2 (by rw [hX]; exact h) hno.out, hX]
        rfl
      obtain ⟨Y, hY⟩ : ∃ Y, bs X = Y := ⟨_, rfl⟩
      have hYs : Y.size = X.length := by rw [← hY, bs_size]
      have hYl : Hid (Y.toList = X) := by show _ = _; rw [← hY, bs_toList]
      rw [hY] at hcell
      have HY := Lib.hid hY
      obtain ⟨n, hn⟩ : ∃ n, X.length = n := ⟨_, rfl⟩
      have Hn := Lib.hid hn
      rw [hn] at hXl hYs
      have HBW := Lib.hid hbw
      clear hc hX hlt2 hlen hno hY hn hbw
      by_cases hfit : p + n ≤ s.size
      · have hfitI : decide ((p : Int) + (n : Int) ≤ (s.size : Int)) = true := by simp; omega
        have hpn : ((p + n : Nat) : Int) = (p : Int) + (n : Int) := by omega
        obtain ⟨b, o, rfl, hw0⟩ := bytes_window (HB0.out) (by omega)
        have hw1 : Lib.Bytes wr b o s := fun i hi => by
          rw [HBW.out.cell (World.block_lt_of_cell? _ _ (hw0 i hi))]; exact hw0 i hi
        have hsl : ∀ W : World, (Instr.slice 22 (.slice (some ⟨b, o, none⟩) s.size cap) (some (.int .i64 (p : Int))) (some (.int .i64 ((p : Int) + (n : Int)))) none).run Tryd.prog W = .ok (.slice (some ⟨b, o + p, none⟩) n (cap - p)) W := by
          intro W
          have := Lib.run_slice_window (P := Tryd.prog) W 22 5 Tryd.underlying22 Tryd.sizeOf5 b o s.size cap p (p + n) (by omega) (by omega)
          rw [hpn, show p + n - p = n by omega] at this
          exact this
        have hcv : ∀ m, (convert 22 9 (.slice (some ⟨b, o + p, none⟩) n (cap - p))).run Tryd.prog (wr.drewN m) = .ok (.string (s.extract p (p + n))) (wr.drewN m) := fun m =>
          Lib.run_convert_window (P := Tryd.prog) (wr.drewN m) 22 5 9 Tryd.underlying22 Tryd.underlying5 Tryd.underlying9 b o s (hw1.drewN m) p n (cap - p) hfit
        have hcv1 := hcv 1
        have hcv2 : (convert 22 9 (.slice (some ⟨b, o + p, none⟩) n (cap - p))).run Tryd.prog wr.drew = .ok (.string (s.extract p (p + n))) wr.drew := hcv 1
        obtain ⟨Z, hZ⟩ : ∃ Z, s.extract p (p + n) = Z := ⟨_, rfl⟩
        have heq : (Z.toList == Y.toList) = X.isPrefixOf (s.data.toList.drop p) := by
          rw [hYl.out, ← hZ, ← Hn.out, is_prefix s p X (by rw [Hn.out]; exact hfit)]
        rw [hZ] at hcv hcv1 hcv2
        have HZ := Lib.hid hZ
        clear hZ hw0 hw1 hpn
        cases hpre : X.isPrefixOf (s.data.toList.drop p)
        · have hno3 := Lib.hid (hno2.out hpre)
          rw [hpre] at heq
          clear hpre hno2 hyes
          go_wp2_with fail
          go_quiet (fail)
          go_wp2_with fail
          go_roundw
          case rel => exact ⟨k + 1, by go_num, by omega, Hc.out, below_drewN HBW.out _, hno3.out⟩
          case measure => simp [intOf]; omega
        · have hr := Lib.hid (hyes.out hpre)
          rw [hpre] at heq
          clear hpre hno2 hyes
          go_wp2_with fail
          go_quiet (fail)
          go_wp2_with fail
          go_ret
          exact ⟨by rw [hr.out, HY.out]; rfl, below_drewN HBW.out _⟩
      · have hfitI : decide ((p : Int) + (n : Int) ≤ (s.size : Int)) = false := by simp; omega
        have hno3 := Lib.hid (hno2.out (no_prefix s p X (by rw [Hn.out]; omega) (by rw [Hn.out]; omega)))
        clear hno2 hyes
        go_wp2_with fail
        go_quiet (fail)
        go_wp2_with fail
        go_roundw
        case rel => exact ⟨k + 1, by go_num, by omega, Hc.out, below_drewN HBW.out _, hno3.out⟩
        case measure => simp [intOf]; omega
    · obtain rfl : k = 33 := by omega
      have hr : Hid (signOf (s.data.toList.drop p) = []) := by
        show _ = _
        unfold signOf
        rw [List.find?_eq_none.2]
        · rfl
        · intro x hx
          obtain ⟨j, hj, rfl⟩ := List.mem_iff_getElem.1 hx
          rw [hno.out j hj (by omega)]; simp
      clear hc
      go_wp2_with fail
      go_ret
      exact ⟨by rw [hr.out]; rfl, hbw⟩
end Go.Proofs

namespace Go.Proofs
open Go.RowKit Go.Lx Go.Lt

/-- What a method of the reference leaves in its struct. -/
def Tryd.RefEnd (B b : Nat) (sv : Value) (w0 : World) : Res St → World → Prop
  | .ok st, w => Tryd.RefAt B b sv st 0 0 w ∧ Below B w0 w
  | .error (c, a), w => (∃ st, Tryd.RefAt B b sv st c a w) ∧ Below B w0 w

/-- The depths' row, opened at its last. -/
theorem Tryd.RefAt.deep {B b : Nat} {sv : Value} {st : St} {fc fa : Nat} {w : World} {d : Nat} {ds : List Nat} (h : Tryd.RefAt B b sv st fc fa w) (hd : st.deep = d :: ds) :
    ∃ g cap, w.cell? ⟨b, 2, none⟩ = some (.slice (some ⟨g, 0, none⟩) (ds.length + 1) cap) ∧ w.cell? ⟨g, ds.length, none⟩ = some (.int .i64 d) := by
  obtain ⟨lv, bv, hV⟩ := h
  obtain ⟨_, _, c2, _⟩ := hV.cells
  have hb4 := hV.2.2.2.1
  rw [hd] at hb4
  obtain ⟨A, cap, rfl, _, hget⟩ := row_open_s hb4
  obtain ⟨g, rfl, hcell⟩ := hget ds.length (by simp)
  rw [last_get] at hcell
  rw [List.length_cons] at c2
  exact ⟨g, cap, c2, hcell⟩

set_option maxHeartbeats 4000000 in
theorem Tryd.rbegin_deep (B b : Nat) (sv : Value) (st : St) (n at_ d : Nat) (ds : List Nat) (w : World) (h : Tryd.RefAt B b sv st 0 0 w) (hd : st.deep = d :: ds) (hl : st.deep.length ≤ 1000000) (hn : d < n) (h40 : 40 < st.deep.length) :
    Calls Tryd.prog 20 #[.pointer (some ⟨b, 0, none⟩), .int .i64 n, .int .i64 at_] w fun e w' => e = .returned (.tuple #[]) ∧ (∃ st', Tryd.RefAt B b sv st' 107 at_ w') ∧ Below B w w' := by
  obtain ⟨g, cap, c2, cg⟩ := h.deep hd
  rw [hd, List.length_cons] at h40 hl
  have hBw := h.base
  have H := Lib.hid h
  have HD := Lib.hid hd
  have hsub : IntKind.i64.wrap (((ds.length + 1 : Nat) : Int) - 1) = (ds.length : Int) := by rw [IntWalk.i64_in _ (by omega)]; omega
  have hi0 : (0 : Int) ≤ (ds.length : Int) := by omega
  have hi1 : (ds.length : Int) < ((ds.length + 1 : Nat) : Int) := by omega
  have hnI : decide ((d : Int) < (n : Int)) = true := by simp; omega
  have h40I : (40 : Int) < ((ds.length + 1 : Nat) : Int) := by omega
  clear h hd
  go_enter Tryd.func20, Tryd.ntmps20
  go_wp2_with fail
  go_quiet (fail)
  have H1 := Lib.hid (H.out.drewN nq)
  have hb1 : Below B w (w.drewN nq) := below_drewN (Below.refl B w) nq
  obtain ⟨W1, hW1⟩ : ∃ W, W = w.drewN nq := ⟨_, rfl⟩
  rw [← hW1] at H1 hb1 ⊢
  obtain ⟨g1, cap1, c21, _⟩ := H1.out.deep HD.out
  clear hW1 c2 cg
  go_wp2_with fail
  refine (Tryd.rfault_any B b sv st 0 0 107 at_ W1 H1.out).mono ?_
  rintro e W2 ⟨rfl, H2, b2⟩
  go_wp2_with fail
  refine bodyPost_ret (results_none rfl _ _ _) rfl ?_
  exact ⟨rfl, ⟨_, H2⟩, hb1.trans b2⟩

set_option maxHeartbeats 8000000 in
set_option maxRecDepth 100000 in
theorem Tryd.rbegin_push (B b : Nat) (sv : Value) (st : St) (n at_ d : Nat) (ds : List Nat) (w : World) (h : Tryd.RefAt B b sv st 0 0 w) (hd : st.deep = d :: ds) (hl : st.toks.length ≤ 1000000) (hn : d < n) (h40 : st.deep.length ≤ 40) :
    Calls Tryd.prog 20 #[.pointer (some ⟨b, 0, none⟩), .int .i64 n, .int .i64 at_] w fun e w' => e = .returned (.tuple #[]) ∧ Tryd.RefAt B b sv { st with toks := st.toks ++ [⟨7, [], at_⟩], deep := n :: st.deep } 0 0 w' ∧ Below B w w' := by
  obtain ⟨i0, hi, hz0, hz1, hz2⟩ := info_parts Tryd.infoInt
  obtain ⟨g, cap, c2, cg⟩ := h.deep hd
  have H := Lib.hid h
  have HD := Lib.hid hd
  have hdl : st.deep.length = ds.length + 1 := by rw [hd, List.length_cons]
  have h40' : ds.length + 1 ≤ 40 := by omega
  have Hdl := Lib.hid hdl
  have hsub : IntKind.i64.wrap (((ds.length + 1 : Nat) : Int) - 1) = (ds.length : Int) := by rw [IntWalk.i64_in _ (by omega)]; omega
  have hi0 : (0 : Int) ≤ (ds.length : Int) := by omega
  have hi1 : (ds.length : Int) < ((ds.length + 1 : Nat) : Int) := by omega
  have hnI : decide ((d : Int) < (n : Int)) = true := by simp; omega
  have h40I : ¬ (40 : Int) < ((ds.length + 1 : Nat) : Int) := by omega
  have h40N : ¬ 40 < ds.length + 1 := by omega
  clear h hd hdl h40
  go_enter Tryd.func20, Tryd.ntmps20
  go_wp2_with fail
  go_quiet (fail)
  have H1 := Lib.hid (H.out.drewN nq)
  have hb1 : Below B w (w.drewN nq) := below_drewN (Below.refl B w) nq
  obtain ⟨W1, hW1⟩ : ∃ W, W = w.drewN nq := ⟨_, rfl⟩
  rw [← hW1] at H1 hb1 ⊢
  have hBw := H1.out.base
  obtain ⟨lv1, bv1, hV1⟩ := H1.out
  obtain ⟨_, _, c21, _⟩ := hV1.cells
  have hform : ∃ g1 cap1, bv1 = .slice g1 (ds.length + 1) cap1 := by
    obtain ⟨g1, cap1, e⟩ := slice_form hV1.2.2.2.1
    exact ⟨g1, cap1, by rw [e, Hdl.out]⟩
  obtain ⟨g1, cap1, rfl⟩ := hform
  have hlt := lt_of_block hV1.2.1
  have hbN : ¬ b = W1.heap.size := by omega
  have HV := Lib.hid hV1
  have Hown : Hid (W1.ownsRow B 3 1 (.slice g1 (ds.length + 1) cap1) (ds.length + 1) (natCells st.deep.reverse)) := by have := hV1.2.2.2.1; rw [Hdl.out] at this; exact this
  clear hW1 c2 cg hV1
  go_wp2_with (
    at_builtin; refine wpList_append_lies _ rfl _ _ 37 rfl B 3 i0 _ 1 8 Tryd.underlying37 hi hz0 hz1 hz2 rfl (by omega) (.slice g1 (ds.length + 1) cap1) (ds.length + 1) (natCells st.deep.reverse) rfl (Hown.out.alloc _)
        ⟨W1.heap.size, 0, none⟩ 1 1 [.int .i64 n] rfl rfl (World.news_of_block (cs := #[.int .i64 n]) (t := 3) (fr := (0, 0)) (alloc_new W1 _)) (by simp [Value.oneCell'])
        (by omega) (by unfold maxLen; omega) (by omega) (by simp; omega) (W1.heap.size + 1) (by simp) ?_; intro g3 cap3 w3 hown3 hgrow3 hat3 hlt3
    have X3 := Tryd.ref_push (n := n) HV.out hgrow3 (by rw [Hdl.out]; exact hown3) hat3
    rw [Hdl.out] at X3
    have c23 : w3.cell? ⟨b, 2, none⟩ = some (.slice g1 (ds.length + 1) cap1) := (cell_of_heap X3.1 2).trans rfl
    have f23 : w3.frozen? ⟨b, 2, none⟩ = false := free_of_heap X3.1 2
    have X4 := Lib.hid X3.2
    clear X3 hown3 hgrow3 hat3)
  refine (Tryd.radd_any B b sv _ 0 0 7 at_ ⟨#[]⟩ _ X4.out.1 hl).mono ?_
  rintro e W5 ⟨rfl, H5, b5⟩
  have hb5 := (hb1.trans X4.out.2).trans b5
  go_wp2_with fail
  refine bodyPost_ret (results_none rfl _ _ _) rfl ?_
  exact ⟨rfl, H5, hb5⟩

def Tryd.rdeep (b : Nat) (w : World) : Nat := match w.cell? ⟨b, 2, none⟩ with | some (.slice _ n _) => n | _ => 0
theorem Tryd.RefAt.rdeep {B b : Nat} {sv : Value} {st : St} {fc fa : Nat} {w : World} (h : Tryd.RefAt B b sv st fc fa w) : Tryd.rdeep b w = st.deep.length := by
  obtain ⟨lv, bv, hV⟩ := h
  obtain ⟨_, _, c2, _⟩ := hV.cells
  obtain ⟨g, cap, rfl⟩ := slice_form hV.2.2.2.1
  unfold Tryd.rdeep; rw [c2]

set_option maxHeartbeats 8000000 in
set_option maxRecDepth 100000 in
theorem Tryd.rbegin_pop (B b : Nat) (sv : Value) (st : St) (n at_ d : Nat) (ds : List Nat) (w : World) (h : Tryd.RefAt B b sv st 0 0 w) (hd : st.deep = d :: ds) (hbot : st.deep.getLast? = some 0) (hl : st.toks.length + st.deep.length ≤ 1000000) (hn : ¬ d < n) :
    Calls Tryd.prog 20 #[.pointer (some ⟨b, 0, none⟩), .int .i64 n, .int .i64 at_] w
      fun e w' => e = .returned (.tuple #[]) ∧ Tryd.RefEnd B b sv w (if (pops n at_ st.deep st.toks).1.headD 0 = n then .ok { st with pos := at_, toks := (pops n at_ st.deep st.toks).2, deep := (pops n at_ st.deep st.toks).1 } else .error (103, at_)) w' := by
  obtain ⟨PP, hPP⟩ : ∃ p, pops n at_ st.deep st.toks = p := ⟨_, rfl⟩
  rw [hPP]
  obtain ⟨RES, hRES⟩ : ∃ r, (if PP.1.headD 0 = n then Except.ok { st with pos := at_, toks := PP.2, deep := PP.1 } else Except.error (103, at_) : Res St) = r := ⟨_, rfl⟩
  rw [hRES]
  have HRES := Lib.hid hRES
  have HPP := Lib.hid hPP
  obtain ⟨g, cap, c2, cg⟩ := h.deep hd
  have H := Lib.hid h
  have HD := Lib.hid hd
  have HBt := Lib.hid hbot
  have HL := Lib.hid hl
  have hdl : ds.length ≤ 1000000 := by rw [hd, List.length_cons] at hl; omega
  have hsub : IntKind.i64.wrap (((ds.length + 1 : Nat) : Int) - 1) = (ds.length : Int) := by rw [IntWalk.i64_in _ (by omega)]; omega
  have hi0 : (0 : Int) ≤ (ds.length : Int) := by omega
  have hi1 : (ds.length : Int) < ((ds.length + 1 : Nat) : Int) := by omega
  have hnI : decide ((d : Int) < (n : Int)) = false := by simp; omega
  clear h hd hRES hPP hbot hl
  go_enter Tryd.func20, Tryd.ntmps20
  go_wp2_with fail
  go_quiet (fail)
  have H1 := Lib.hid (H.out.drewN nq)
  have hb1 : Below B w (w.drewN nq) := below_drewN (Below.refl B w) nq
  obtain ⟨W1, hW1⟩ : ∃ W, W = w.drewN nq := ⟨_, rfl⟩
  rw [← hW1] at H1 hb1 ⊢
  clear hW1 c2 cg hsub hi0 hi1
  go_wp2
  go_loopw [] (fun wr => ∃ (st' : St) (d' : Nat) (ds' : List Nat), Tryd.RefAt B b sv st' 0 0 wr ∧ Below B w wr ∧ Hid (st'.deep = d' :: ds') ∧ Hid (st'.opn = st.opn) ∧ Hid ((d' :: ds').getLast? = some 0) ∧ Hid (pops n at_ (d' :: ds') st'.toks = PP) ∧ Hid (st'.toks.length + (d' :: ds').length ≤ 1000000)) (fun wr => Tryd.rdeep b wr)
  case atStart => exact ⟨st, d, ds, H1.out, hb1, HD.out, rfl, by rw [← HD.out]; exact HBt.out, by rw [← HD.out]; exact HPP.out, by rw [← HD.out]; exact HL.out⟩
  case round =>
    clear H1 hb1 HD HBt HL HPP hnI hn H hdl
    obtain ⟨st', d', ds', hX, hbw, hD, hO, hB0, hPo, hLe⟩ := hrel
    obtain ⟨g, cap, c2, cg⟩ := hX.deep hD.out
    have HX := Lib.hid hX
    have hlen : ds'.length ≤ 1000000 := by have := hLe.out; rw [List.length_cons] at this; omega
    have hsub : IntKind.i64.wrap (((ds'.length + 1 : Nat) : Int) - 1) = (ds'.length : Int) := by rw [IntWalk.i64_in _ (by omega)]; omega
    have hi0 : (0 : Int) ≤ (ds'.length : Int) := by omega
    have hi1 : (ds'.length : Int) < ((ds'.length + 1 : Nat) : Int) := by omega
    clear hX
    by_cases hlt : n < d'
    · have hltI : decide ((n : Int) < (d' : Int)) = true := by simp; omega
      obtain ⟨d2, ds2, hds⟩ : ∃ d2 ds2, ds' = d2 :: ds2 := by
        cases ds' with
        | nil =>
          have := hB0.out
          simp at this
          omega
        | cons a2 l2 => exact Exists.intro a2 (Exists.intro l2 rfl)
      have hPo2 : Hid (pops n at_ (d2 :: ds2) (st'.toks ++ [⟨8, [], at_⟩]) = PP) := by
        show _ = _; rw [← hPo.out, pops_yes _ _ _ _ _ hlt, hds]
      have hB2 : Hid ((d2 :: ds2).getLast? = some 0) := by
        have := hB0.out
        rw [hds] at this
        show _ = _; rw [← this, List.getLast?_cons_cons]
      have hLe2 : Hid ((st'.toks ++ ([⟨8, [], at_⟩] : List Tok)).length + (d2 :: ds2).length ≤ 1000000) := by
        have := hLe.out
        rw [hds] at this
        show _ ≤ _
        simp only [List.length_append, List.length_cons, List.length_nil] at this ⊢; omega
      have htl : st'.toks.length ≤ 1000000 := by have := hLe.out; omega
      have Hds := Lib.hid hds
      have Hlt := Lib.hid hlt
      clear hlt hds
      go_wp2_with fail
      go_quiet (fail)
      have H3 := Lib.hid (HX.out.drewN nq)
      have hb3 : Below B w (wr.drewN nq) := below_drewN hbw nq
      obtain ⟨W6, hW6⟩ : ∃ W, W = wr.drewN nq := ⟨_, rfl⟩
      rw [← hW6] at H3 hb3 ⊢
      clear hW6 c2 cg hi1 hsub
      obtain ⟨lv7, bv7, hV7⟩ := H3.out
      obtain ⟨_, _, c72, _, _, _, hf7⟩ := hV7.cells
      have f72 := hf7 2
      obtain ⟨g7, cap7, rfl, hcap7, hpop⟩ := Tryd.ref_pop hV7 (d := d') (ds := ds') hD.out
      have Hpop := Lib.hid hpop
      have hBb := hV7.1
      have hsub : IntKind.i64.wrap (((ds'.length + 1 : Nat) : Int) - 1) = (ds'.length : Int) := by rw [IntWalk.i64_in _ (by omega)]; omega
      have hwr : IntKind.i64.wrap (ds'.length : Int) = (ds'.length : Int) := IntWalk.i64_in _ (by omega)
      have hi1 : (ds'.length : Int) ≤ (cap7 : Int) := by omega
      have hi2 : ds'.length ≤ cap7 := by omega
      have hsl : ∀ W : World, (Instr.slice 37 (.slice (some ⟨g7, 0, none⟩) (ds'.length + 1) cap7) none (some (.int .i64 (ds'.length : Int))) none).run Tryd.prog W = .ok (.slice (some ⟨g7, 0, none⟩) ds'.length cap7) W := by
        intro W
        rw [run_slice_h W 37 (some ⟨g7, 0, none⟩) (ds'.length + 1) cap7 (ht := by rw [Tryd.underlying37]; rfl) .i64 _ (by omega) (by omega)]
        simp [go_sem, sliced]
      clear hV7 hpop hf7
      go_wp2_with fail
      go_still_tail 14, (by kernel_rfl)
      change wpList _ _ _ _ _ W6.drew
      have hV8 := Lib.hid (Hpop.out W6.drew rfl)
      have hb8 : Below B w (W6.drew.setCell ⟨b, 2, none⟩ (.slice (some ⟨g7, 0, none⟩) ds'.length cap7)) := hb3.drew.setCell (p := ⟨b, 2, none⟩) hBb _
      have Hb8 := Lib.hid hb8
      clear hb8
      go_wp2_with fail
      refine (Tryd.radd_any B b sv { st' with deep := ds' } 0 0 8 at_ ⟨#[]⟩ _ ⟨_, _, hV8.out⟩ htl).mono ?_
      rintro e W9 ⟨rfl, H9, b9⟩
      have HX9 : Hid (Tryd.RefAt B b sv { st' with toks := st'.toks ++ [⟨8, [], at_⟩], deep := ds' } 0 0 W9) := H9
      have Hb9 := Lib.hid (Hb8.out.trans b9)
      clear H9 b9
      go_wp2_with fail
      refine ⟨⟨{ st' with toks := st'.toks ++ [⟨8, [], at_⟩], deep := ds' }, d2, ds2, HX9.out, Hb9.out, Hds.out, hO.out, hB2, hPo2, hLe2⟩, ?_⟩
      rw [HX9.out.rdeep, HX.out.rdeep, hD.out]
      show ds'.length < (d' :: ds').length
      simp
    · have hltI : decide ((n : Int) < (d' : Int)) = false := by simp; omega
      have hpp : PP = (d' :: ds', st'.toks) := by rw [← hPo.out, pops_no _ _ _ _ _ hlt]
      have Hpp := Lib.hid hpp
      clear hpp
      go_wp2_with fail
      go_quiet (fail)
      have H3 := Lib.hid (HX.out.drewN nq)
      have hb3 : Below B w (wr.drewN nq) := below_drewN hbw nq
      obtain ⟨W6, hW6⟩ : ∃ W, W = wr.drewN nq := ⟨_, rfl⟩
      rw [← hW6] at H3 hb3 ⊢
      clear hW6 c2 cg
      obtain ⟨g7, cap7, c72, cg7⟩ := H3.out.deep hD.out
      by_cases hdn : d' = n
      · have hok : RES = Except.ok { st with pos := at_, toks := st'.toks, deep := d' :: ds' } := by rw [← HRES.out, Hpp.out, if_pos (by exact hdn)]
        have hneI : ((n : Int) != (d' : Int)) = false := by rw [bne_eq_false_iff_eq]; omega
        have HH : Hid (∀ W, Tryd.RefAt B b sv st' 0 0 W → Tryd.RefAt B b sv { st with pos := at_, toks := st'.toks, deep := d' :: ds' } 0 0 W) := by
          intro W hW
          have h1 := hD.out; have h3 := hO.out
          obtain ⟨lv, bv, hV⟩ := hW
          refine ⟨lv, bv, ?_⟩
          unfold Tryd.RefV at hV ⊢
          rw [← h1, ← h3]
          exact hV
        subst hok
        go_wp2_with fail
        go_quiet (fail)
        have H9 := Lib.hid (H3.out.drewN nq)
        have hb9 : Below B w (W6.drewN nq) := below_drewN hb3 nq
        obtain ⟨W9, hW9⟩ : ∃ W, W = W6.drewN nq := ⟨_, rfl⟩
        rw [← hW9] at H9 hb9 ⊢
        clear hW9 c72 cg7
        go_wp2_with fail
        refine bodyPost_end (results_none rfl _ _ _) rfl ?_
        exact ⟨rfl, HH.out _ H9.out, hb9⟩
      · have herr : RES = Except.error (103, at_) := by rw [← HRES.out, Hpp.out, if_neg (by exact hdn)]
        have hneI : ((n : Int) != (d' : Int)) = true := by rw [bne_iff_ne]; omega
        subst herr
        go_wp2_with fail
        go_quiet (fail)
        have H9 := Lib.hid (H3.out.drewN nq)
        have hb9 : Below B w (W6.drewN nq) := below_drewN hb3 nq
        obtain ⟨W9, hW9⟩ : ∃ W, W = W6.drewN nq := ⟨_, rfl⟩
        rw [← hW9] at H9 hb9 ⊢
        clear hW9 c72 cg7
        go_wp2_with fail
        refine (Tryd.rfault_any B b sv st' 0 0 103 at_ W9 H9.out).mono ?_
        rintro e W10 ⟨rfl, H10, b10⟩
        go_wp2_with fail
        refine bodyPost_end (results_none rfl _ _ _) rfl ?_
        exact ⟨rfl, ⟨_, H10⟩, hb9.trans b10⟩

/-- begin, whole. -/
theorem Tryd.rbegin_any (B b : Nat) (sv : Value) (st : St) (n at_ : Nat) (w : World) (h : Tryd.RefAt B b sv st 0 0 w) (hbot : st.deep.getLast? = some 0) (hl : st.toks.length + st.deep.length ≤ 1000000) :
    Calls Tryd.prog 20 #[.pointer (some ⟨b, 0, none⟩), .int .i64 n, .int .i64 at_] w fun e w' => e = .returned (.tuple #[]) ∧ Tryd.RefEnd B b sv w (Lx.indent n { st with pos := at_ }) w' := by
  obtain ⟨d, ds, hd⟩ : ∃ d ds, st.deep = d :: ds := by
    cases hh : st.deep with
    | nil => rw [hh] at hbot; cases hbot
    | cons a l => exact ⟨a, l, rfl⟩
  unfold Lx.indent
  by_cases hn : d < n
  · rw [if_pos (by show st.deep.headD 0 < n; rw [hd]; exact hn)]
    by_cases h40 : 40 < st.deep.length
    · rw [if_pos h40]
      exact Tryd.rbegin_deep B b sv st n at_ d ds w h hd (by omega) hn h40
    · rw [if_neg h40]
      exact Tryd.rbegin_push B b sv st n at_ d ds w h hd (by omega) hn (by omega)
  · rw [if_neg (by show ¬ st.deep.headD 0 < n; rw [hd]; exact hn)]
    exact Tryd.rbegin_pop B b sv st n at_ d ds w h hd hbot hl hn
end Go.Proofs

namespace Go.Proofs
open Go.RowKit Go.Lx Go.Lt

/-- The source stands, whatever is turned above B. -/
def SrcIn (B : Nat) (w : World) (a : Option Addr) (s : ByteArray) : Prop := ∀ w', Below B w w' → BsIn w' a s
theorem SrcIn.below {B : Nat} {w w' : World} {a : Option Addr} {s : ByteArray} (h : SrcIn B w a s) (hb : Below B w w') : SrcIn B w' a s := fun w2 h2 => h w2 (hb.trans h2)
theorem SrcIn.now {B : Nat} {w : World} {a : Option Addr} {s : ByteArray} (h : SrcIn B w a s) : BsIn w a s := h w (Below.refl _ _)

/-- A part of a slice of bytes: its value; its bytes. -/
theorem Tryd.bytes_sub {w : World} {a : Option Addr} {cap : Nat} {s : ByteArray} (hb : BsIn w a s) (hcap : s.size ≤ cap) (l h : Nat) (hl : l ≤ h) (hh : h ≤ s.size) :
    ∃ a' c', (∀ W : World, (Instr.slice 22 (.slice a s.size cap) (some (.int .i64 (l : Int))) (some (.int .i64 (h : Int))) none).run Tryd.prog W = .ok (.slice a' (h - l) c') W) ∧ BsIn w a' (s.extract l h) := by
  refine ⟨if cap = l then a else a.map (·.add l), cap - l, fun W => ?_, fun i hi => ?_⟩
  · rw [run_slice_lh W 22 _ _ _ (ht := by rw [Tryd.underlying22]; rfl) .i64 .i64 _ _ (by omega) (by omega) (by omega)]
    simp [go_sem, sliced]
  · rw [ByteArray.size_extract] at hi
    obtain ⟨b, o, h1, h2⟩ := hb (l + i) (by omega)
    subst h1
    rw [if_neg (by omega)]
    refine ⟨b, o + l, ?_, ?_⟩
    · simp [Go.WideShapes.add_plain]
    · rw [show o + l + i = o + (l + i) by omega, h2]
      congr 3
      rw [ByteArray.getElem_extract]
theorem Tryd.bytes_from {w : World} {a : Option Addr} {cap : Nat} {s : ByteArray} (hb : BsIn w a s) (hcap : s.size ≤ cap) (l : Nat) (hl : l ≤ s.size) :
    ∃ a' c', (∀ W : World, (Instr.slice 22 (.slice a s.size cap) (some (.int .i64 (l : Int))) none none).run Tryd.prog W = .ok (.slice a' (s.size - l) c') W) ∧ BsIn w a' (s.extract l s.size) := by
  refine ⟨if cap = l then a else a.map (·.add l), cap - l, fun W => ?_, fun i hi => ?_⟩
  · rw [run_slice_l W 22 _ _ _ (ht := by rw [Tryd.underlying22]; rfl) .i64 _ (by omega) (by omega)]
    simp [go_sem, sliced]
  · rw [ByteArray.size_extract] at hi
    obtain ⟨b, o, h1, h2⟩ := hb (l + i) (by omega)
    subst h1
    rw [if_neg (by omega)]
    refine ⟨b, o + l, ?_, ?_⟩
    · simp [Go.WideShapes.add_plain]
    · rw [show o + l + i = o + (l + i) by omega, h2]
      congr 3
      rw [ByteArray.getElem_extract]

/-- What token leaves. -/
def Tryd.RefRes (B b : Nat) (sv : Value) (w0 : World) : Res St → Ending → World → Prop
  | .ok st, e, w => e = .returned (.int .i64 st.pos) ∧ Tryd.RefAt B b sv st 0 0 w ∧ Below B w0 w
  | .error (c, a), e, w => (∃ v : Int, e = .returned (.int .i64 v)) ∧ (∃ st, Tryd.RefAt B b sv st c a w) ∧ Below B w0 w
theorem RefRes_ok {A : Prop} (h : A) : A := h
theorem src_at {w : World} {bb o : Nat} {s : ByteArray} {p : Nat} {c : UInt8} {t : List UInt8} (hw : Lib.Bytes w bb o s) (hp : p < s.size) (hct : s.data.toList.drop p = c :: t) : w.cell? ⟨bb, o + p, none⟩ = some (.int .u8 (c.toNat : Int)) ∧ s[p] = c := by
  have h1 : s[p] = c := by
    have h := drop_cons s p hp
    rw [hct] at h
    exact ((List.cons.inj h).1).symm
  exact ⟨by rw [hw p hp, h1], h1⟩
end Go.Proofs
