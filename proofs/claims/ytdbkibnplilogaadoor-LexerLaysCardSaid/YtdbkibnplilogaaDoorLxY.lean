/-
  Walks: Tokens.
-/
import Derived.Test.YtdbkibnplilogaaDoorLxWd
import Derived.Test.YtdbkibnplilogaaDoorLxX
import Derived.Lib.SlBytesRow
set_option linter.unusedVariables false
namespace Go.Proofs
open Go.RowKit Go.Lx Go.Lt

/-- A slice's bytes are those of s. -/
def BsIn (w : World) (a : Option Addr) (s : ByteArray) : Prop := ∀ i (h : i < s.size), ∃ b o, a = some ⟨b, o, none⟩ ∧ w.cell? ⟨b, o + i, none⟩ = some (.int .u8 (s[i].toNat : Int))
theorem BsIn.ext {w w' : World} {a : Option Addr} {s : ByteArray} (h : BsIn w a s) (hb : ∀ p v, w.cell? p = some v → w'.cell? p = some v) : BsIn w' a s := fun i hi =>
  let ⟨b, o, h1, h2⟩ := h i hi; ⟨b, o, h1, hb _ _ h2⟩
theorem BsIn.below {w w' : World} {a : Option Addr} {s : ByteArray} (h : BsIn w a s) (hb : Below w.heap.size w w') : BsIn w' a s := h.ext fun p v hp => by
  rw [hb.cell (World.block_lt_of_cell? _ _ hp)]; exact hp
theorem bytes_empty {s : ByteArray} (h : s.size = 0) : s = ByteArray.empty := by simpa using h

theorem run_convert_bs {P : Program} (w : World) (src e dst : TypeId) (hs : P.underlying src = some (.slice e)) (he : P.underlying e = some (.int .u8)) (hd : P.underlying dst = some .string) (a : Option Addr) (cap : Nat) (s : ByteArray) (h : BsIn w a s) :
    (convert src dst (.slice a s.size cap)).run P w = .ok (.string s) w := by
  by_cases h0 : s.size = 0
  · obtain rfl := bytes_empty h0
    cases a with
    | none => exact run_convert_bytes_nil w src e hs he _ cap dst hd
    | some x =>
      rw [run_convert_bytes_string w src dst e _ _ cap hs he hd]
      have := run_bytesToString (P := P) w x 0 cap [] (by simp [loadCells, loadCellsFrom, Sem.run_pure])
      exact this
  · obtain ⟨b, o, rfl, _⟩ := h 0 (by omega)
    refine Lib.run_convert_whole w src e dst hs he hd b o s (fun i hi => ?_) cap
    obtain ⟨b', o', h1, h2⟩ := h i hi
    cases h1
    exact h2

/-- What Tokens hands back. -/
def Tryd.TokOut (w0 : World) : Res (List Tok) → Ending → World → Prop
  | .ok l, e, w => (∃ lv, e = .returned (.tuple #[lv, .agg #[.int .i64 0, .int .i64 0]]) ∧ w.ownsRow w0.heap.size 35 3 lv l.length (tokCells l)) ∧ Below w0.heap.size w0 w
  | .error (c, a), e, w => e = .returned (.tuple #[.slice none 0 0, .agg #[.int .i64 c, .int .i64 a]]) ∧ Below w0.heap.size w0 w

set_option maxHeartbeats 4000000 in
set_option maxRecDepth 100000 in
theorem Tryd.tokens_long (a : Option Addr) (cap : Nat) (s : ByteArray) (w : World) (hs : 65536 < s.size) :
    Calls Tryd.prog 10 #[.slice a s.size cap] w (Tryd.TokOut w (.error (101, 65536))) := by
  have hsI : (65536 : Int) < (s.size : Int) := by omega
  go_enter_defers Tryd.func10, Tryd.ntmps10
  go_wp2_with fail
  simp [bodyPostD, Leaves, results, Tryd.results10, go_sem]
  refine ⟨rfl, Below.alloc (Below.alloc (Below.refl _ w) (Nat.le_refl _) _) ?_ _⟩
  show _ ≤ (w.heap.push _).size; rw [Array.size_push]; omega

theorem ownsRow_base {B B' : Nat} {e : TypeId} {sz : Nat} {v : Value} {n : Nat} {xs : List Value} {w : World} (h : w.ownsRow B e sz v n xs) (hB : B' ≤ B) : w.ownsRow B' e sz v n xs := by
  refine ⟨h.1, ?_⟩
  rcases h.2 with hn | ⟨g, cap, cur, hv, hbg, hg, rest⟩
  · exact .inl hn
  · exact .inr ⟨g, cap, cur, hv, by omega, hg, rest⟩

theorem push_at {a : Array Obj} {x : Obj} {k : Nat} (h : k = a.size) : (a.push x)[k]? = some x := by subst h; simp
theorem push_lt {a : Array Obj} {x : Obj} {k : Nat} (h : k < a.size) : (a.push x)[k]? = a[k]? := by rw [Array.getElem?_push, if_neg (by omega)]

/-- The world in which all begins. -/
def Tryd.tokW (s : ByteArray) (w : World) : World :=
  (((w.alloc (.cells #[.slice none 0 0] 24 (0, 0))).alloc (.cells #[.int .i64 0, .int .i64 0] 26 (0, 0))).alloc (.cells #[.int .i64 0] 3 (0, 0))).alloc
    (.cells #[.string s, .int .i64 0, .slice none 0 0, .int .i64 0, .slice (some ⟨w.heap.size + 2, 0, none⟩) 1 1] 50 (0, 0))
theorem Tryd.tokW_ok (s : ByteArray) (w : World) : Tryd.LexAt (w.heap.size + 2) (w.heap.size + 3) s ⟨0, [], 0, [0]⟩ (Tryd.tokW s w) ∧ Below w.heap.size w (Tryd.tokW s w) ∧ (Tryd.tokW s w).heap.size = w.heap.size + 4 ∧
    (Tryd.tokW s w).heap[w.heap.size]? = some (.cells #[.slice none 0 0] 24 (0, 0)) ∧ (Tryd.tokW s w).heap[w.heap.size + 1]? = some (.cells #[.int .i64 0, .int .i64 0] 26 (0, 0)) := by
  have hh : (Tryd.tokW s w).heap = (((w.heap.push (.cells #[.slice none 0 0] 24 (0, 0))).push (.cells #[.int .i64 0, .int .i64 0] 26 (0, 0))).push (.cells #[.int .i64 0] 3 (0, 0))).push
    (.cells #[.string s, .int .i64 0, .slice none 0 0, .int .i64 0, .slice (some ⟨w.heap.size + 2, 0, none⟩) 1 1] 50 (0, 0)) := rfl
  have h0 : (Tryd.tokW s w).heap[w.heap.size]? = some (.cells #[.slice none 0 0] 24 (0, 0)) := by rw [hh, push_lt (by simp only [Array.size_push]; omega), push_lt (by simp only [Array.size_push]; omega), push_lt (by simp only [Array.size_push]; omega), push_at rfl]
  have h1 : (Tryd.tokW s w).heap[w.heap.size + 1]? = some (.cells #[.int .i64 0, .int .i64 0] 26 (0, 0)) := by rw [hh, push_lt (by simp only [Array.size_push]; omega), push_lt (by simp only [Array.size_push]; omega), push_at (by simp only [Array.size_push])]
  have h2 : (Tryd.tokW s w).heap[w.heap.size + 2]? = some (.cells #[.int .i64 0] 3 (0, 0)) := by rw [hh, push_lt (by simp only [Array.size_push]; omega), push_at (by simp only [Array.size_push])]
  have h3 : (Tryd.tokW s w).heap[w.heap.size + 3]? = some (.cells #[.string s, .int .i64 0, .slice none 0 0, .int .i64 0, .slice (some ⟨w.heap.size + 2, 0, none⟩) 1 1] 50 (0, 0)) := by rw [hh, push_at (by simp only [Array.size_push])]
  refine ⟨⟨_, _, by omega, h3, ⟨rfl, .inl ⟨rfl, rfl⟩⟩, ⟨rfl, .inr ⟨w.heap.size + 2, 1, _, rfl, Nat.le_refl _, h2, Nat.le_refl _, by unfold maxLen; omega, rfl, rfl⟩⟩, ?_, ?_, ?_⟩, ?_, ?_, h0, h1⟩
  · intro e; cases e
  · show some (w.heap.size + 2) ≠ some (w.heap.size + 3)
    intro e; have := Option.some.inj e; omega
  · intro g e; cases e
  · refine Below.alloc (Below.alloc (Below.alloc (Below.alloc (Below.refl _ w) (Nat.le_refl _) _) ?_ _) ?_ _) ?_ _
    · show _ ≤ (w.heap.push _).size; rw [Array.size_push]; omega
    · show _ ≤ ((w.heap.push _).push _).size; rw [Array.size_push, Array.size_push]; omega
    · show _ ≤ (((w.heap.push _).push _).push _).size; rw [Array.size_push, Array.size_push, Array.size_push]; omega
  · rw [hh]; simp

set_option maxHeartbeats 4000000 in
set_option maxRecDepth 100000 in
theorem Tryd.tokens_short (a : Option Addr) (cap : Nat) (s : ByteArray) (w : World) (hs : s.size ≤ 65536) (hb : BsIn w a s) (hT : Tryd.Tabs w) :
    Calls Tryd.prog 10 #[.slice a s.size cap] w (Tryd.TokOut w (goes s.data.toList ⟨0, [], 0, [0]⟩ true 0)) := by
  have hsI : ¬ (65536 : Int) < (s.size : Int) := by omega
  have hsN : ¬ 65536 < s.size := by omega
  have hmf : ∀ (fn : Fn) (first cap : Array Value) (w : World), (Instr.makeFunc fn first cap).run Tryd.prog w = .ok (.func fn first cap) w := fun _ _ _ _ => rfl
  have hB2 : Below w.heap.size w ((w.alloc (.cells #[.slice none 0 0] 24 (0, 0))).alloc (.cells #[.int .i64 0, .int .i64 0] 26 (0, 0))) := by
    refine Below.alloc (Below.alloc (Below.refl _ w) (Nat.le_refl _) _) ?_ _
    show _ ≤ (w.heap.push _).size; rw [Array.size_push]; omega
  have hcv := run_convert_bs (P := Tryd.prog) _ 22 5 9 Tryd.underlying22 Tryd.underlying5 Tryd.underlying9 a cap s (hb.below hB2)
  obtain ⟨hL, hBW, hsz, hc0, hc1⟩ := Tryd.tokW_ok s w
  have HTI : Hid (Tryd.TabsIn (w.heap.size + 2) (Tryd.tokW s w)) := fun w' h' => Tryd.Tabs_below hT (hBW.trans (h'.mono (by omega))) (Nat.le_refl _)
  have HW : Hid (Below w.heap.size w (Tryd.tokW s w) ∧ (Tryd.tokW s w).heap[w.heap.size]? = some (.cells #[.slice none 0 0] 24 (0, 0)) ∧ (Tryd.tokW s w).heap[w.heap.size + 1]? = some (.cells #[.int .i64 0, .int .i64 0] 26 (0, 0)) ∧ (Tryd.tokW s w).heap.size = w.heap.size + 4) := ⟨hBW, hc0, hc1, hsz⟩
  have HL := Lib.hid hL
  clear hL hBW hsz hc0 hc1 hB2 hb hT
  go_enter_defers Tryd.func10, Tryd.ntmps10
  go_wp2_with fail
  refine (Tryd.all_any (w.heap.size + 2) (w.heap.size + 3) s (Tryd.tokW s w) HL.out HTI.out hs).mono ?_
  intro e W1 h1
  cases hR : goes s.data.toList ⟨0, [], 0, [0]⟩ true 0 with
  | error ca =>
    obtain ⟨c, a'⟩ := ca
    rw [hR] at h1
    obtain ⟨rfl, b1⟩ := h1
    have hp : W1.heap[w.heap.size]? = some (.cells #[.slice none 0 0] 24 (0, 0)) := (b1.block _ (by omega)).trans HW.out.2.1
    have hq : W1.heap[w.heap.size + 1]? = some (.cells #[.int .i64 0, .int .i64 0] 26 (0, 0)) := (b1.block _ (by omega)).trans HW.out.2.2.1
    have hB1 := HW.out.1.trans (b1.mono (by omega))
    have Hp := Lib.hid hp
    have Hq := Lib.hid hq
    have HB1 := Lib.hid hB1
    clear hp hq hB1 b1 HL HTI
    go_wp2_with fail
    refine leaves_cons (f := 17) (args := #[.pointer (some ⟨w.heap.size, 0, none⟩), .pointer (some ⟨w.heap.size + 1, 0, none⟩)]) (by simp) (by simp [go_sem]) ?_
    refine (Tryd.caught_any w.heap.size (w.heap.size + 1) c a' _ _ _ [] _ Hp.out Hq.out (by omega)).mono ?_
    rintro e u' w'' ⟨rfl, rfl, k0, k1, k2, kb⟩
    have hz : w.heap.size ≤ W1.heap.size := HB1.out.size
    have HF := Lib.hid (HB1.out.trans (kb w.heap.size (Nat.le_refl _) (by omega) hz))
    simp [Leaves, settle, results, Tryd.results10, go_sem, k0, k1, k2]
    exact ⟨rfl, HF.out⟩
  | ok l =>
    rw [hR] at h1
    obtain ⟨rfl, ⟨st, hst, H1⟩, b1⟩ := h1
    obtain ⟨lv, bv, hV⟩ := H1
    obtain ⟨c0, c1, c2, _⟩ := hV.cells
    have c2 : W1.cell? ⟨w.heap.size + 1 + 1 + 1, 2, none⟩ = some lv := c2
    have hp : W1.heap[w.heap.size]? = some (.cells #[.slice none 0 0] 24 (0, 0)) := (b1.block _ (by omega)).trans HW.out.2.1
    have hq : W1.heap[w.heap.size + 1]? = some (.cells #[.int .i64 0, .int .i64 0] 26 (0, 0)) := (b1.block _ (by omega)).trans HW.out.2.2.1
    have kp : W1.cell? ⟨w.heap.size, 0, none⟩ = some (.slice none 0 0) := (cell_of_heap hp 0).trans rfl
    have fp : W1.frozen? ⟨w.heap.size, 0, none⟩ = false := free_of_heap hp 0
    have kq0 : W1.cell? ⟨w.heap.size + 1, 0, none⟩ = some (.int .i64 0) := (cell_of_heap hq 0).trans rfl
    have kq1 : W1.cell? ⟨w.heap.size + 1, 1, none⟩ = some (.int .i64 0) := (cell_of_heap hq 1).trans rfl
    have fq0 : W1.frozen? ⟨w.heap.size + 1, 0, none⟩ = false := free_of_heap hq 0
    have fq1 : W1.frozen? ⟨w.heap.size + 1, 1, none⟩ = false := free_of_heap hq 1
    have hown := hV.2.2.1
    rw [hst] at hown
    obtain ⟨g, cap', rfl⟩ : ∃ g cap', lv = .slice g l.length cap' := by
      rcases hown.2 with ⟨h, h0⟩ | ⟨g, cap', cur, h, _⟩
      · exact ⟨none, 0, by rw [h0]; exact h⟩
      · exact ⟨_, _, h⟩
    have HO := Lib.hid hown
    have HB1 := Lib.hid (HW.out.1.trans (b1.mono (by omega)))
    clear hp hq b1 HL HTI hV hown c0 c1
    go_wp2_with fail
    refine leaves_cons (f := 17) (args := #[.pointer (some ⟨w.heap.size, 0, none⟩), .pointer (some ⟨w.heap.size + 1, 0, none⟩)]) (by simp) (by simp [go_sem]) ?_
    refine (Tryd.idle_any _ _ _).mono ?_
    rintro e u' w'' ⟨rfl, rfl, rfl⟩
    simp [Leaves, settle, results, Tryd.results10, go_sem, kp, kq0, kq1]
    rw [hR]
    refine ⟨⟨_, rfl, ownsRow_base (ownsRow_setCell_below (a := ⟨w.heap.size + 1, 1, none⟩) (ownsRow_setCell_below (a := ⟨w.heap.size + 1, 0, none⟩) (ownsRow_setCell_below (a := ⟨w.heap.size, 0, none⟩) HO.out ?_ _) ?_ _) ?_ _) (by omega)⟩,
      ((HB1.out.setCell (p := ⟨w.heap.size, 0, none⟩) (Nat.le_refl _) _).setCell (p := ⟨w.heap.size + 1, 0, none⟩) ?_ _).setCell (p := ⟨w.heap.size + 1, 1, none⟩) ?_ _⟩
    · show w.heap.size < w.heap.size + 2; omega
    · show w.heap.size + 1 < w.heap.size + 2; omega
    · show w.heap.size + 1 < w.heap.size + 2; omega
    · show w.heap.size ≤ w.heap.size + 1; omega
    · show w.heap.size ≤ w.heap.size + 1; omega

/-- Tokens, whole. -/
theorem Tryd.tokens_any (a : Option Addr) (cap : Nat) (s : ByteArray) (w : World) (hb : BsIn w a s) (hT : Tryd.Tabs w) :
    Calls Tryd.prog 10 #[.slice a s.size cap] w (Tryd.TokOut w (lex s.data.toList)) := by
  unfold lex
  rw [← Lib.size_eq]
  by_cases h : 65536 < s.size
  · rw [if_pos h]; exact Tryd.tokens_long a cap s w h
  · rw [if_neg h, Lib.size_eq]; exact Tryd.tokens_short a cap s w (by omega) hb hT
end Go.Proofs
