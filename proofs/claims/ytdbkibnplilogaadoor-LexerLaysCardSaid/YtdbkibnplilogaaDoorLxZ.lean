/-
  Walks: awake, LexerWords.
-/
import Derived.Test.YtdbkibnplilogaaDoorLxY
import Derived.Lib.SlBytesConst
set_option linter.unusedVariables false
namespace Go.Lx
theorem lex_awake : lex [97, 61, 49] = .ok [⟨1, [97], 0⟩, ⟨5, [61], 1⟩, ⟨3, [49], 2⟩, ⟨6, [], 3⟩, ⟨9, [], 3⟩] := by rfl
end Go.Lx
namespace Go.Proofs
open Go.RowKit Go.Lx Go.Lt

/-- The tokens' row, opened: its value, its cells. -/
theorem row_open3 {w : World} {B e : Nat} {v : Value} {l : List Tok} (h : w.ownsRow B e 3 v l.length (tokCells l)) :
    ∃ a cap, v = .slice a l.length cap ∧ (0 < l.length → ∃ g, a = some ⟨g, 0, none⟩ ∧ B ≤ g ∧ g < w.heap.size ∧ ∀ i (hi : i < l.length), w.cell? ⟨g, 3 * i, none⟩ = some (.int .i64 l[i].kind) ∧ w.cell? ⟨g, 3 * i + 1, none⟩ = some (.string (bs l[i].text)) ∧ w.cell? ⟨g, 3 * i + 2, none⟩ = some (.int .i64 l[i].at_)) := by
  have h0 := h
  rcases h.2 with ⟨rfl, hn⟩ | ⟨g, cap, cur, rfl, hgb, hgh, _⟩
  · exact ⟨none, 0, by rw [hn], fun h => by omega⟩
  · refine ⟨_, cap, rfl, fun _ => ⟨g, rfl, hgb, lt_of_block hgh, fun i hi => ?_⟩⟩
    have key : ∀ k, k < 3 → w.cell? ⟨g, 3 * i + k, none⟩ = ([.int .i64 l[i].kind, .string (bs l[i].text), .int .i64 l[i].at_] : List Value)[k]? := by
      intro k hk
      rw [h0.cellAt (3 * i + k) (by omega)]
      have e : l = l.take i ++ l[i] :: l.drop (i + 1) := by rw [List.getElem_cons_drop, List.take_append_drop]
      have e2 : tokCells l = tokCells (l.take i) ++ ([.int .i64 l[i].kind, .string (bs l[i].text), .int .i64 l[i].at_] ++ tokCells (l.drop (i + 1))) := by
        conv => lhs; rw [e]
        rw [tokCells_append]; rfl
      have e3 : (tokCells (l.take i)).length = 3 * i := by rw [tokCells_len, List.length_take]; omega
      rw [e2, List.getElem?_append_right (by omega), e3, show 3 * i + k - 3 * i = k by omega, List.getElem?_append_left (by simpa using hk)]
    exact ⟨(key 0 (by omega)).trans rfl, (key 1 (by omega)).trans rfl, (key 2 (by omega)).trans rfl⟩

set_option maxHeartbeats 2000000 in
theorem Tryd.awake13_any (w : World) (hT : Tryd.Tabs w) :
    Calls Tryd.prog 9 #[] w fun e w' => e = .returned (.bool true) ∧ Below w.heap.size w w' := by
  have hB : Below w.heap.size w (w.alloc (.cells #[.int .u8 97, .int .u8 61, .int .u8 49] 5 (3, 4))) := (Below.refl _ w).alloc (Nat.le_refl _) _
  have hbs : BsIn (w.alloc (.cells #[.int .u8 97, .int .u8 61, .int .u8 49] 5 (3, 4))) (some ⟨w.heap.size, 0, none⟩) ⟨#[97, 61, 49]⟩ := by
    intro i hi
    refine ⟨w.heap.size, 0, rfl, ?_⟩
    rw [cells_new]
    have hi3 : i < 3 := hi
    match i, hi3 with
    | 0, _ => rfl
    | 1, _ => rfl
    | 2, _ => rfl
  have H := Lib.hid (Tryd.tokens_any (some ⟨w.heap.size, 0, none⟩) 3 ⟨#[97, 61, 49]⟩ _ hbs (Tryd.Tabs_below hT hB (Nat.le_refl _)))
  have HB := Lib.hid hB
  clear hbs hB hT
  have kc := fun (w : World) (C : Array Value) (n c : Nat) => Lib.run_convert_bytes_const (P := Tryd.prog) w 22 5 C n c Tryd.underlying22 Tryd.underlying5
  go_enter Tryd.func9, Tryd.ntmps9
  go_wp2_with fail
  refine (H.out).mono ?_
  show ∀ e w', Tryd.TokOut _ (lex [97, 61, 49]) e w' → _
  rw [lex_awake]
  rintro e W1 ⟨⟨lv, rfl, hown⟩, b1⟩
  obtain ⟨a, cap, rfl, h0⟩ := row_open3 hown
  obtain ⟨g, rfl, hg1, hg2, hc⟩ := h0 (by decide)
  have c0 : W1.cell? ⟨g, 0, none⟩ = some (.int .i64 1) := (hc 0 (by decide)).1
  have c1 : W1.cell? ⟨g, 1, none⟩ = some (.string ⟨#[97]⟩) := (hc 0 (by decide)).2.1
  have c2 : W1.cell? ⟨g, 2, none⟩ = some (.int .i64 0) := (hc 0 (by decide)).2.2
  have c6 : W1.cell? ⟨g, 6, none⟩ = some (.int .i64 3) := (hc 2 (by decide)).1
  have c7 : W1.cell? ⟨g, 7, none⟩ = some (.string ⟨#[49]⟩) := (hc 2 (by decide)).2.1
  have c8 : W1.cell? ⟨g, 8, none⟩ = some (.int .i64 2) := (hc 2 (by decide)).2.2
  have HB1 := Lib.hid (HB.out.trans (b1.mono (by simp)))
  clear hc hown h0 b1
  go_wp2_with fail
  refine (Tryd.word_any ⟨#[101, 108, 105, 102]⟩ _).mono ?_
  rw [show isWord (⟨#[101, 108, 105, 102]⟩ : ByteArray).data.toList = true from by decide]
  rintro e W2 ⟨rfl, rfl⟩
  have hz : w.heap.size ≤ W1.heap.size := HB1.out.size
  go_wp2_with fail
  go_ret
  exact ⟨rfl, HB1.out.alloc hz _⟩

set_option maxHeartbeats 2000000 in
theorem Tryd.lexerWords_any (s : ByteArray) (w : World) (hs : s.size ≤ 9223372036854775807) (hT : Tryd.Tabs w) :
    Calls Tryd.prog 4 #[.string s] w fun e w' => e = .returned (.bool true) ∧ Below w.heap.size w w' := by
  by_cases h : 70000 < s.size
  · have hI : (70000 : Int) < (s.size : Int) := by omega
    go_enter Tryd.func4, Tryd.ntmps4
    go_wp2_with fail
    go_ret
    exact ⟨rfl, Below.refl _ _⟩
  · have hI : ¬ (70000 : Int) < (s.size : Int) := by omega
    obtain ⟨x, hx⟩ : ∃ x, isWord s.data.toList = x := ⟨_, rfl⟩
    have Hx := Lib.hid hx
    clear hx
    cases x
    all_goals
      go_enter Tryd.func4, Tryd.ntmps4
      go_wp2_with fail
      refine (Tryd.word_any s _).mono ?_
      rw [Hx.out]
      rintro e W1 ⟨rfl, rfl⟩
      go_wp2_with fail
      refine (Tryd.rword_any s _).mono ?_
      rw [Hx.out]
      rintro e W2 ⟨rfl, b2⟩
      have HB2 := Lib.hid b2
      clear b2
      go_wp2_with fail
      refine (Tryd.awake13_any _ (Tryd.Tabs_below hT HB2.out (Nat.le_refl _))).mono ?_
      rintro e W3 ⟨rfl, b3⟩
      have HB3 := Lib.hid (HB2.out.trans (b3.mono HB2.out.size))
      clear b3
      go_wp2_with fail
      go_ret
      exact ⟨rfl, HB3.out⟩
end Go.Proofs
