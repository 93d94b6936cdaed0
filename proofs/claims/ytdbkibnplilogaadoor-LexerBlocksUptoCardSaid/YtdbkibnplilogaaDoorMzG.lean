/-
  Walks: LexerReads.
-/
import Derived.Test.YtdbkibnplilogaaDoorMzF
import Derived.Test.YtdbkibnplilogaaDoorMzA
set_option linter.unusedVariables false
namespace Go.Lx
def tokAns : Res (List Tok) → List Tok × Nat × Nat
  | .ok l => (l, 0, 0)
  | .error (c, a) => ([], c, a)
end Go.Lx
namespace Go.Proofs
open Go.RowKit Go.Lx Go.Lt

/-- What Tokens hands back, tokens or fault alike. -/
theorem Tryd.TokOut.open {w0 w : World} {R : Res (List Tok)} {e : Ending} (h : Tryd.TokOut w0 R e w) :
    ∃ a cap, e = .returned (.tuple #[.slice a (tokAns R).1.length cap, .agg #[.int .i64 (tokAns R).2.1, .int .i64 (tokAns R).2.2]]) ∧ w.ownsRow w0.heap.size 35 3 (.slice a (tokAns R).1.length cap) (tokAns R).1.length (tokCells (tokAns R).1) ∧ Below w0.heap.size w0 w := by
  cases R with
  | ok l =>
    obtain ⟨⟨lv, h1, h2⟩, h3⟩ := h
    obtain ⟨a, cap, rfl⟩ := slice_form h2
    exact ⟨a, cap, h1, h2, h3⟩
  | error ca =>
    obtain ⟨c, a⟩ := ca
    exact ⟨none, 0, h.1, ⟨rfl, .inl ⟨rfl, rfl⟩⟩, h.2⟩

set_option maxHeartbeats 16000000 in
set_option maxRecDepth 100000 in
/-- From the world on in which x holds the source and one byte more. -/
theorem Tryd.lexerReads_any (a : Option Addr) (cap : Nat) (s : ByteArray) (w : World) (hb : BsIn w a s) (hs : s.size ≤ 9223372036854775807) (hcap : s.size ≤ cap) (hT : Tryd.Tabs w) :
    Calls Tryd.prog 3 #[.slice a s.size cap] w fun e w' => e = .returned (.bool true) ∧ Below w.heap.size w w' := by
  obtain ⟨i0, hi, hz0, hz1, hz2⟩ := info_parts Tryd.infoU8
  by_cases h7 : 70000 < s.size
  · have h7I : (70000 : Int) < (s.size : Int) := by omega
    have H := Lib.hid (Tryd.awake13_any w hT)
    go_enter Tryd.func3, Tryd.ntmps3
    go_wp2_with fail
    refine H.out.mono ?_
    rintro e W1 ⟨rfl, b1⟩
    go_wp2_with fail
    go_ret
    exact ⟨rfl, b1⟩
  · have h7I : ¬ (70000 : Int) < (s.size : Int) := by omega
    have HB := Lib.hid hb
    have HT := Lib.hid hT
    clear hb hT
    by_cases h0 : s.size = 0
    · obtain rfl := bytes_empty h0
      cases a with
      | none =>
        go_enter Tryd.func3, Tryd.ntmps3
        go_wp2_with (
          at_builtin; refine wpList_append_lies _ rfl _ _ 22 rfl w.heap.size 5 i0 (.int .u8 0) 1 1 Tryd.underlying22 hi hz0 hz1 hz2 rfl (by decide) (.slice none 0 0) 0 [] rfl ⟨rfl, .inl ⟨rfl, rfl⟩⟩ ⟨w.heap.size, 0, none⟩ 1 1 [.int .u8 77] rfl rfl (World.news_of_block (cs := #[.int .u8 77]) (t := 5) (fr := (0, 0)) (alloc_new w _)) (fun u hu => by simp at hu; subst hu; rfl) (by omega) (by unfold maxLen; omega) (by omega) (by simp) (w.heap.size + 1) (by simp) ?_; intro g c2 W2 hown2 hgrow2 hat2 hlt2
          have X2 : Hid (W2.ownsRow w.heap.size 5 1 (.slice (some ⟨g, 0, none⟩) 1 c2) 1 (u8Cells (ByteArray.empty.data.toList ++ [77])) ∧ Below w.heap.size w W2) := ⟨hown2, ((Below.refl _ w).alloc (Nat.le_refl _) _).grown hgrow2 (by simp) (fun k hk => by cases hk)⟩
          clear hown2 hgrow2 hat2 hlt2)
        have hg0 := ownsRow_lt X2.out.1 (g := g) rfl
        have hl2 : (ByteArray.empty.data.toList ++ [77]).length = 1 := by rw [List.length_append, ← Lib.size_eq]; rfl
        have hcells : ∀ i (h : i < 1), W2.cell? ⟨g, i, none⟩ = some (.int .u8 (((ByteArray.empty.data.toList ++ [77])[i]'(by rw [hl2]; exact h)).toNat : Int)) := by
          intro i h
          rw [X2.out.1.cellAt i (by rw [Nat.mul_one]; exact h)]
          unfold u8Cells
          rw [List.getElem?_map, List.getElem?_eq_getElem (by rw [hl2]; exact h)]
          rfl
        have hbx : BsIn W2 (some ⟨g, 0, none⟩) ByteArray.empty := by
          intro i h
          refine ⟨g, 0, rfl, ?_⟩
          rw [Nat.zero_add, hcells i (Nat.lt_succ_of_lt h), List.getElem_append_left (by rw [← Lib.size_eq]; exact h)]
          rfl
        have hlast : W2.cell? ⟨g, 0, none⟩ = some (.int .u8 77) := by
          rw [hcells 0 (Nat.lt_succ_self _), List.getElem_append_right (by rw [← Lib.size_eq]; exact Nat.le_refl _)]
          simp
        have hblk : ∃ cs : Array Value, W2.heap[g]? = some (.cells cs 5 (0, 0)) ∧ 1 ≤ cs.size ∧ 1 ≤ c2 := by
          rcases X2.out.1.2 with ⟨e, _⟩ | ⟨g', cap', cur, e, _, hg, hc, _, hz, _⟩
          · cases e
          · cases e
            exact ⟨cur, hg, by rw [hz]; omega, hc⟩
        obtain ⟨cs0, hcs0, hcs1, hcc⟩ := hblk
        have hsl : ∀ W : World, (Instr.slice 22 (.slice (some ⟨g, 0, none⟩) 1 c2) none (some (.int .i64 0)) none).run Tryd.prog W = .ok (.slice (some ⟨g, 0, none⟩) 0 c2) W := by
          intro W
          rw [run_slice_h W 22 (some ⟨g, 0, none⟩) 1 c2 (ht := by rw [Tryd.underlying22]; rfl) .i64 _ (by omega) (by omega)]
          simp [go_sem, sliced]
        have HC := Lib.hid (And.intro hlast (And.intro hcs0 hcs1))
        have HX := Lib.hid hbx
        have HB2 := Lib.hid X2.out.2
        have HTok := Lib.hid (Tryd.tokens_any (some ⟨g, 0, none⟩) c2 ByteArray.empty W2 hbx (Tryd.Tabs_below HT.out HB2.out (Nat.le_refl _)))
        clear hcells hlast hcs0 hcs1 hbx hl2 X2
        obtain ⟨TA, hTA⟩ : ∃ x, tokAns (lex ByteArray.empty.data.toList) = x := ⟨_, rfl⟩
        obtain ⟨L, C, A⟩ := TA
        have HTA := Lib.hid hTA
        clear hTA
        go_wp2_with fail
        refine HTok.out.mono ?_
        intro e W3 h3
        obtain ⟨q3, k3, rfl, o3, b3⟩ := h3.open
        rw [HTA.out] at o3 ⊢
        have hz3 := b3.size
        have HB3 := Lib.hid (HB2.out.trans (b3.mono HB2.out.size))
        have HO3 := Lib.hid o3
        have Hb3 := Lib.hid b3
        clear h3 o3 b3
        have HR := Lib.hid (Tryd.rtokens_any none cap ByteArray.empty (W3.alloc (.cells #[.int .i64 C, .int .i64 A] 26 (0, 0))) (HB.out.below (HB3.out.alloc HB3.out.size _)) hcap)
        go_wp2_with fail
        refine HR.out.mono ?_
        intro e W5 h5
        obtain ⟨q5, k5, rfl, o5, b5⟩ := h5.open
        rw [HTA.out] at o5 ⊢
        have hz4 : (W3.alloc (.cells #[.int .i64 C, .int .i64 A] 26 (0, 0))).heap.size = W3.heap.size + 1 := by show (W3.heap.push _).size = _; rw [Array.size_push]
        have hz5 : W3.heap.size + 1 ≤ W5.heap.size := by rw [← hz4]; exact b5.size
        have hb35 : Below W3.heap.size W3 W5 := ((Below.refl _ W3).alloc (Nat.le_refl _) _).trans (b5.mono (by omega))
        have hf3 : W5.heap[W3.heap.size]? = some (.cells #[.int .i64 C, .int .i64 A] 26 (0, 0)) := (b5.block _ (by omega)).trans (alloc_new W3 _)
        have hb36 : Below W3.heap.size W3 (W5.alloc (.cells #[.int .i64 C, .int .i64 A] 26 (0, 0))) := hb35.alloc (by omega) _
        have hf36 : (W5.alloc (.cells #[.int .i64 C, .int .i64 A] 26 (0, 0))).heap[W3.heap.size]? = some (.cells #[.int .i64 C, .int .i64 A] 26 (0, 0)) := (Below.heap_alloc _ _ _ (by omega)).trans hf3
        have hf56 : (W5.alloc (.cells #[.int .i64 C, .int .i64 A] 26 (0, 0))).heap[W5.heap.size]? = some (.cells #[.int .i64 C, .int .i64 A] 26 (0, 0)) := alloc_new W5 _
        have hz6 : (W5.alloc (.cells #[.int .i64 C, .int .i64 A] 26 (0, 0))).heap.size = W5.heap.size + 1 := by show (W5.heap.push _).size = _; rw [Array.size_push]
        have ho6 : (W5.alloc (.cells #[.int .i64 C, .int .i64 A] 26 (0, 0))).ownsRow W3.heap.size 35 3 (.slice q5 L.length k5) L.length (tokCells L) := (ownsRow_base o5 (by omega)).alloc _
        have ho36 : (W5.alloc (.cells #[.int .i64 C, .int .i64 A] 26 (0, 0))).ownsRow W2.heap.size 35 3 (.slice q3 L.length k3) L.length (tokCells L) := ownsRow_keep HO3.out (fun k hk => hb36.block k (ownsRow_lt HO3.out hk).2)
        have hb26 : Below W2.heap.size W2 (W5.alloc (.cells #[.int .i64 C, .int .i64 A] 26 (0, 0))) := Hb3.out.trans (hb36.mono hz3)
        have H6 := Lib.hid (And.intro hf36 (And.intro hf56 (And.intro ho6 (And.intro ho36 hb26))))
        have hx6 := Lib.hid (HX.out.below hb26)
        have hs6 := Lib.hid (HB.out.below (HB2.out.trans (hb26.mono HB2.out.size)))
        clear h5 o5 b5 hb35 hf3 hb36 hf36 hf56 ho6 ho36 hb26
        go_wp2_with fail
        refine (Tryd.bytes13_any (some ⟨g, 0, none⟩) none c2 cap ByteArray.empty _ hx6.out hs6.out (by omega)).mono ?_
        rintro e W7 ⟨rfl, b7⟩
        rw [hz6] at b7
        have hb27 : Below W2.heap.size W2 W7 := H6.out.2.2.2.2.trans (b7.mono (by omega))
        have y7 : W7.cell? ⟨g, 0, none⟩ = some (.int .u8 77) := (hb27.cell (p := ⟨g, 0, none⟩) hg0.2).trans HC.out.1
        have h7 : Hid (W7.heap[g]? = some (.cells cs0 5 (0, 0)) ∧ W7.heap[W3.heap.size]? = some (.cells #[.int .i64 C, .int .i64 A] 26 (0, 0)) ∧ W7.heap[W5.heap.size]? = some (.cells #[.int .i64 C, .int .i64 A] 26 (0, 0)) ∧
            W7.ownsRow W3.heap.size 35 3 (.slice q5 L.length k5) L.length (tokCells L) ∧ W7.ownsRow W2.heap.size 35 3 (.slice q3 L.length k3) L.length (tokCells L) ∧ Below w.heap.size w W7 ∧ W5.heap.size + 1 ≤ W7.heap.size) :=
          ⟨(hb27.block g hg0.2).trans HC.out.2.1, (b7.block _ (by omega)).trans H6.out.1, (b7.block _ (by omega)).trans H6.out.2.1,
           ownsRow_keep H6.out.2.2.1 (fun k hk => b7.block k (by have := (ownsRow_lt H6.out.2.2.1 hk).2; omega)), ownsRow_keep H6.out.2.2.2.1 (fun k hk => b7.block k (by have := (ownsRow_lt H6.out.2.2.2.1 hk).2; omega)),
           HB2.out.trans (hb27.mono HB2.out.size), by have := b7.size; omega⟩
        clear b7 hb27 hz4
        go_wp2
        go_loopw [8] (fun i wr => ∃ (k : Nat) (cs : Array Value), i = .int .i64 k ∧ k ≤ 1 ∧ wr.heap[g]? = some (.cells cs 5 (0, 0)) ∧ cs.size = cs0.size ∧ Below w.heap.size w wr ∧ Hid (∀ j, j ≠ g → wr.heap[j]? = W7.heap[j]?)) (fun i _ => 1 - (intOf i).toNat)
        case atStart => exact ⟨0, cs0, rfl, Nat.zero_le _, h7.out.1, rfl, h7.out.2.2.2.2.2.1, fun _ _ => rfl⟩
        case round =>
          obtain ⟨k, cs, rfl, hk, hgk, hcsz, hbw, hot⟩ := hrel
          clear y7
          by_cases hlt : k < 1
          · have hkI : (k : Int) < (1 : Int) := by omega
            have hcs1 := HC.out.2.2
            have kc : wr.cell? ⟨g, k, none⟩ = some (cs[k]'(by omega)) := (cell_of_heap hgk k).trans (Array.getElem?_eq_getElem (by omega))
            have kf : wr.frozen? ⟨g, k, none⟩ = false := free_of_heap hgk k
            have hg2 := setCell_heap (o := k) hgk (.int .u8 33)
            have HG2 := Lib.hid hg2
            have HB8 := Lib.hid (hbw.setCell (p := ⟨g, k, none⟩) hg0.1 (.int .u8 33))
            have hot2 : Hid (∀ j, j ≠ g → (wr.setCell ⟨g, k, none⟩ (.int .u8 33)).heap[j]? = W7.heap[j]?) := fun j hj => (Below.heap_setCell wr ⟨g, k, none⟩ _ j hj).trans (hot.out j hj)
            clear hg2 hgk hbw hot
            go_wp2_with fail
            go_roundw
            case rel => exact ⟨k + 1, _, by go_num, by omega, HG2.out, by simp; exact hcsz, HB8.out, hot2⟩
            case measure => simp [intOf]; omega
          · have hkN : ¬ k < 1 := hlt
            have hkI : ¬ (k : Int) < (1 : Int) := by omega
            have e3 : wr.heap[W3.heap.size]? = some (.cells #[.int .i64 C, .int .i64 A] 26 (0, 0)) := (hot.out _ (by omega)).trans h7.out.2.1
            have e5 : wr.heap[W5.heap.size]? = some (.cells #[.int .i64 C, .int .i64 A] 26 (0, 0)) := (hot.out _ (by omega)).trans h7.out.2.2.1
            have m30 : wr.cell? ⟨W3.heap.size, 0, none⟩ = some (.int .i64 C) := (cell_of_heap e3 0).trans rfl
            have m31 : wr.cell? ⟨W3.heap.size, 1, none⟩ = some (.int .i64 A) := (cell_of_heap e3 1).trans rfl
            have m50 : wr.cell? ⟨W5.heap.size, 0, none⟩ = some (.int .i64 C) := (cell_of_heap e5 0).trans rfl
            have m51 : wr.cell? ⟨W5.heap.size, 1, none⟩ = some (.int .i64 A) := (cell_of_heap e5 1).trans rfl
            have oa : wr.ownsRow W2.heap.size 35 3 (.slice q3 L.length k3) L.length (tokCells L) := ownsRow_keep h7.out.2.2.2.2.1 (fun j hj => hot.out j (by have := (ownsRow_lt h7.out.2.2.2.2.1 hj).1; omega))
            have ob : wr.ownsRow W3.heap.size 35 3 (.slice q5 L.length k5) L.length (tokCells L) := ownsRow_keep h7.out.2.2.2.1 (fun j hj => hot.out j (by have := (ownsRow_lt h7.out.2.2.2.1 hj).1; omega))
            have HT13 := Lib.hid (Tryd.tokens13_any _ _ _ _ L L true wr oa ob rfl (fun i hi => ⟨rfl, rfl, fun _ => rfl⟩))
            have HB9 := Lib.hid hbw
            clear e3 e5 oa ob hbw hgk hot
            go_wp2_with fail
            refine HT13.out.mono ?_
            rintro e W9 ⟨rfl, b9⟩
            have HB10 := Lib.hid (HB9.out.trans (b9.mono HB9.out.size))
            clear b9 m30 m31 m50 m51
            go_wp2_with fail
            refine (Tryd.awake13_any _ (Tryd.Tabs_below HT.out HB10.out (Nat.le_refl _))).mono ?_
            rintro e W11 ⟨rfl, b11⟩
            have HB11 := Lib.hid (HB10.out.trans (b11.mono HB10.out.size))
            clear b11
            go_wp2_with fail
            go_ret
            exact ⟨rfl, HB11.out⟩
      | some ad =>
        go_enter Tryd.func3, Tryd.ntmps3
        go_wp2_with (
          at_builtin; refine wpList_append_lies _ rfl _ _ 22 rfl w.heap.size 5 i0 (.int .u8 0) 1 1 Tryd.underlying22 hi hz0 hz1 hz2 rfl (by decide) (.slice none 0 0) 0 [] rfl ⟨rfl, .inl ⟨rfl, rfl⟩⟩ ⟨w.heap.size, 0, none⟩ 1 1 [.int .u8 77] rfl rfl (World.news_of_block (cs := #[.int .u8 77]) (t := 5) (fr := (0, 0)) (alloc_new w _)) (fun u hu => by simp at hu; subst hu; rfl) (by omega) (by unfold maxLen; omega) (by omega) (by simp) (w.heap.size + 1) (by simp) ?_; intro g c2 W2 hown2 hgrow2 hat2 hlt2
          have X2 : Hid (W2.ownsRow w.heap.size 5 1 (.slice (some ⟨g, 0, none⟩) 1 c2) 1 (u8Cells (ByteArray.empty.data.toList ++ [77])) ∧ Below w.heap.size w W2) := ⟨hown2, ((Below.refl _ w).alloc (Nat.le_refl _) _).grown hgrow2 (by simp) (fun k hk => by cases hk)⟩
          clear hown2 hgrow2 hat2 hlt2)
        have hg0 := ownsRow_lt X2.out.1 (g := g) rfl
        have hl2 : (ByteArray.empty.data.toList ++ [77]).length = 1 := by rw [List.length_append, ← Lib.size_eq]; rfl
        have hcells : ∀ i (h : i < 1), W2.cell? ⟨g, i, none⟩ = some (.int .u8 (((ByteArray.empty.data.toList ++ [77])[i]'(by rw [hl2]; exact h)).toNat : Int)) := by
          intro i h
          rw [X2.out.1.cellAt i (by rw [Nat.mul_one]; exact h)]
          unfold u8Cells
          rw [List.getElem?_map, List.getElem?_eq_getElem (by rw [hl2]; exact h)]
          rfl
        have hbx : BsIn W2 (some ⟨g, 0, none⟩) ByteArray.empty := by
          intro i h
          refine ⟨g, 0, rfl, ?_⟩
          rw [Nat.zero_add, hcells i (Nat.lt_succ_of_lt h), List.getElem_append_left (by rw [← Lib.size_eq]; exact h)]
          rfl
        have hlast : W2.cell? ⟨g, 0, none⟩ = some (.int .u8 77) := by
          rw [hcells 0 (Nat.lt_succ_self _), List.getElem_append_right (by rw [← Lib.size_eq]; exact Nat.le_refl _)]
          simp
        have hblk : ∃ cs : Array Value, W2.heap[g]? = some (.cells cs 5 (0, 0)) ∧ 1 ≤ cs.size ∧ 1 ≤ c2 := by
          rcases X2.out.1.2 with ⟨e, _⟩ | ⟨g', cap', cur, e, _, hg, hc, _, hz, _⟩
          · cases e
          · cases e
            exact ⟨cur, hg, by rw [hz]; omega, hc⟩
        obtain ⟨cs0, hcs0, hcs1, hcc⟩ := hblk
        have hsl : ∀ W : World, (Instr.slice 22 (.slice (some ⟨g, 0, none⟩) 1 c2) none (some (.int .i64 0)) none).run Tryd.prog W = .ok (.slice (some ⟨g, 0, none⟩) 0 c2) W := by
          intro W
          rw [run_slice_h W 22 (some ⟨g, 0, none⟩) 1 c2 (ht := by rw [Tryd.underlying22]; rfl) .i64 _ (by omega) (by omega)]
          simp [go_sem, sliced]
        have HC := Lib.hid (And.intro hlast (And.intro hcs0 hcs1))
        have HX := Lib.hid hbx
        have HB2 := Lib.hid X2.out.2
        have HTok := Lib.hid (Tryd.tokens_any (some ⟨g, 0, none⟩) c2 ByteArray.empty W2 hbx (Tryd.Tabs_below HT.out HB2.out (Nat.le_refl _)))
        clear hcells hlast hcs0 hcs1 hbx hl2 X2
        obtain ⟨TA, hTA⟩ : ∃ x, tokAns (lex ByteArray.empty.data.toList) = x := ⟨_, rfl⟩
        obtain ⟨L, C, A⟩ := TA
        have HTA := Lib.hid hTA
        clear hTA
        go_wp2_with fail
        refine HTok.out.mono ?_
        intro e W3 h3
        obtain ⟨q3, k3, rfl, o3, b3⟩ := h3.open
        rw [HTA.out] at o3 ⊢
        have hz3 := b3.size
        have HB3 := Lib.hid (HB2.out.trans (b3.mono HB2.out.size))
        have HO3 := Lib.hid o3
        have Hb3 := Lib.hid b3
        clear h3 o3 b3
        have HR := Lib.hid (Tryd.rtokens_any (some ad) cap ByteArray.empty (W3.alloc (.cells #[.int .i64 C, .int .i64 A] 26 (0, 0))) (HB.out.below (HB3.out.alloc HB3.out.size _)) hcap)
        go_wp2_with fail
        refine HR.out.mono ?_
        intro e W5 h5
        obtain ⟨q5, k5, rfl, o5, b5⟩ := h5.open
        rw [HTA.out] at o5 ⊢
        have hz4 : (W3.alloc (.cells #[.int .i64 C, .int .i64 A] 26 (0, 0))).heap.size = W3.heap.size + 1 := by show (W3.heap.push _).size = _; rw [Array.size_push]
        have hz5 : W3.heap.size + 1 ≤ W5.heap.size := by rw [← hz4]; exact b5.size
        have hb35 : Below W3.heap.size W3 W5 := ((Below.refl _ W3).alloc (Nat.le_refl _) _).trans (b5.mono (by omega))
        have hf3 : W5.heap[W3.heap.size]? = some (.cells #[.int .i64 C, .int .i64 A] 26 (0, 0)) := (b5.block _ (by omega)).trans (alloc_new W3 _)
        have hb36 : Below W3.heap.size W3 (W5.alloc (.cells #[.int .i64 C, .int .i64 A] 26 (0, 0))) := hb35.alloc (by omega) _
        have hf36 : (W5.alloc (.cells #[.int .i64 C, .int .i64 A] 26 (0, 0))).heap[W3.heap.size]? = some (.cells #[.int .i64 C, .int .i64 A] 26 (0, 0)) := (Below.heap_alloc _ _ _ (by omega)).trans hf3
        have hf56 : (W5.alloc (.cells #[.int .i64 C, .int .i64 A] 26 (0, 0))).heap[W5.heap.size]? = some (.cells #[.int .i64 C, .int .i64 A] 26 (0, 0)) := alloc_new W5 _
        have hz6 : (W5.alloc (.cells #[.int .i64 C, .int .i64 A] 26 (0, 0))).heap.size = W5.heap.size + 1 := by show (W5.heap.push _).size = _; rw [Array.size_push]
        have ho6 : (W5.alloc (.cells #[.int .i64 C, .int .i64 A] 26 (0, 0))).ownsRow W3.heap.size 35 3 (.slice q5 L.length k5) L.length (tokCells L) := (ownsRow_base o5 (by omega)).alloc _
        have ho36 : (W5.alloc (.cells #[.int .i64 C, .int .i64 A] 26 (0, 0))).ownsRow W2.heap.size 35 3 (.slice q3 L.length k3) L.length (tokCells L) := ownsRow_keep HO3.out (fun k hk => hb36.block k (ownsRow_lt HO3.out hk).2)
        have hb26 : Below W2.heap.size W2 (W5.alloc (.cells #[.int .i64 C, .int .i64 A] 26 (0, 0))) := Hb3.out.trans (hb36.mono hz3)
        have H6 := Lib.hid (And.intro hf36 (And.intro hf56 (And.intro ho6 (And.intro ho36 hb26))))
        have hx6 := Lib.hid (HX.out.below hb26)
        have hs6 := Lib.hid (HB.out.below (HB2.out.trans (hb26.mono HB2.out.size)))
        clear h5 o5 b5 hb35 hf3 hb36 hf36 hf56 ho6 ho36 hb26
        go_wp2_with fail
        refine (Tryd.bytes13_any (some ⟨g, 0, none⟩) (some ad) c2 cap ByteArray.empty _ hx6.out hs6.out (by omega)).mono ?_
        rintro e W7 ⟨rfl, b7⟩
        rw [hz6] at b7
        have hb27 : Below W2.heap.size W2 W7 := H6.out.2.2.2.2.trans (b7.mono (by omega))
        have y7 : W7.cell? ⟨g, 0, none⟩ = some (.int .u8 77) := (hb27.cell (p := ⟨g, 0, none⟩) hg0.2).trans HC.out.1
        have h7 : Hid (W7.heap[g]? = some (.cells cs0 5 (0, 0)) ∧ W7.heap[W3.heap.size]? = some (.cells #[.int .i64 C, .int .i64 A] 26 (0, 0)) ∧ W7.heap[W5.heap.size]? = some (.cells #[.int .i64 C, .int .i64 A] 26 (0, 0)) ∧
            W7.ownsRow W3.heap.size 35 3 (.slice q5 L.length k5) L.length (tokCells L) ∧ W7.ownsRow W2.heap.size 35 3 (.slice q3 L.length k3) L.length (tokCells L) ∧ Below w.heap.size w W7 ∧ W5.heap.size + 1 ≤ W7.heap.size) :=
          ⟨(hb27.block g hg0.2).trans HC.out.2.1, (b7.block _ (by omega)).trans H6.out.1, (b7.block _ (by omega)).trans H6.out.2.1,
           ownsRow_keep H6.out.2.2.1 (fun k hk => b7.block k (by have := (ownsRow_lt H6.out.2.2.1 hk).2; omega)), ownsRow_keep H6.out.2.2.2.1 (fun k hk => b7.block k (by have := (ownsRow_lt H6.out.2.2.2.1 hk).2; omega)),
           HB2.out.trans (hb27.mono HB2.out.size), by have := b7.size; omega⟩
        clear b7 hb27 hz4
        go_wp2
        go_loopw [8] (fun i wr => ∃ (k : Nat) (cs : Array Value), i = .int .i64 k ∧ k ≤ 1 ∧ wr.heap[g]? = some (.cells cs 5 (0, 0)) ∧ cs.size = cs0.size ∧ Below w.heap.size w wr ∧ Hid (∀ j, j ≠ g → wr.heap[j]? = W7.heap[j]?)) (fun i _ => 1 - (intOf i).toNat)
        case atStart => exact ⟨0, cs0, rfl, Nat.zero_le _, h7.out.1, rfl, h7.out.2.2.2.2.2.1, fun _ _ => rfl⟩
        case round =>
          obtain ⟨k, cs, rfl, hk, hgk, hcsz, hbw, hot⟩ := hrel
          clear y7
          by_cases hlt : k < 1
          · have hkI : (k : Int) < (1 : Int) := by omega
            have hcs1 := HC.out.2.2
            have kc : wr.cell? ⟨g, k, none⟩ = some (cs[k]'(by omega)) := (cell_of_heap hgk k).trans (Array.getElem?_eq_getElem (by omega))
            have kf : wr.frozen? ⟨g, k, none⟩ = false := free_of_heap hgk k
            have hg2 := setCell_heap (o := k) hgk (.int .u8 33)
            have HG2 := Lib.hid hg2
            have HB8 := Lib.hid (hbw.setCell (p := ⟨g, k, none⟩) hg0.1 (.int .u8 33))
            have hot2 : Hid (∀ j, j ≠ g → (wr.setCell ⟨g, k, none⟩ (.int .u8 33)).heap[j]? = W7.heap[j]?) := fun j hj => (Below.heap_setCell wr ⟨g, k, none⟩ _ j hj).trans (hot.out j hj)
            clear hg2 hgk hbw hot
            go_wp2_with fail
            go_roundw
            case rel => exact ⟨k + 1, _, by go_num, by omega, HG2.out, by simp; exact hcsz, HB8.out, hot2⟩
            case measure => simp [intOf]; omega
          · have hkN : ¬ k < 1 := hlt
            have hkI : ¬ (k : Int) < (1 : Int) := by omega
            have e3 : wr.heap[W3.heap.size]? = some (.cells #[.int .i64 C, .int .i64 A] 26 (0, 0)) := (hot.out _ (by omega)).trans h7.out.2.1
            have e5 : wr.heap[W5.heap.size]? = some (.cells #[.int .i64 C, .int .i64 A] 26 (0, 0)) := (hot.out _ (by omega)).trans h7.out.2.2.1
            have m30 : wr.cell? ⟨W3.heap.size, 0, none⟩ = some (.int .i64 C) := (cell_of_heap e3 0).trans rfl
            have m31 : wr.cell? ⟨W3.heap.size, 1, none⟩ = some (.int .i64 A) := (cell_of_heap e3 1).trans rfl
            have m50 : wr.cell? ⟨W5.heap.size, 0, none⟩ = some (.int .i64 C) := (cell_of_heap e5 0).trans rfl
            have m51 : wr.cell? ⟨W5.heap.size, 1, none⟩ = some (.int .i64 A) := (cell_of_heap e5 1).trans rfl
            have oa : wr.ownsRow W2.heap.size 35 3 (.slice q3 L.length k3) L.length (tokCells L) := ownsRow_keep h7.out.2.2.2.2.1 (fun j hj => hot.out j (by have := (ownsRow_lt h7.out.2.2.2.2.1 hj).1; omega))
            have ob : wr.ownsRow W3.heap.size 35 3 (.slice q5 L.length k5) L.length (tokCells L) := ownsRow_keep h7.out.2.2.2.1 (fun j hj => hot.out j (by have := (ownsRow_lt h7.out.2.2.2.1 hj).1; omega))
            have HT13 := Lib.hid (Tryd.tokens13_any _ _ _ _ L L true wr oa ob rfl (fun i hi => ⟨rfl, rfl, fun _ => rfl⟩))
            have HB9 := Lib.hid hbw
            clear e3 e5 oa ob hbw hgk hot
            go_wp2_with fail
            refine HT13.out.mono ?_
            rintro e W9 ⟨rfl, b9⟩
            have HB10 := Lib.hid (HB9.out.trans (b9.mono HB9.out.size))
            clear b9 m30 m31 m50 m51
            go_wp2_with fail
            refine (Tryd.awake13_any _ (Tryd.Tabs_below HT.out HB10.out (Nat.le_refl _))).mono ?_
            rintro e W11 ⟨rfl, b11⟩
            have HB11 := Lib.hid (HB10.out.trans (b11.mono HB10.out.size))
            clear b11
            go_wp2_with fail
            go_ret
            exact ⟨rfl, HB11.out⟩
    · have hn0 : 0 < s.size := by omega
      obtain ⟨ad, rfl, hnews⟩ := HB.out.news hn0
      have HN := Lib.hid hnews
      clear hnews h0
      go_enter Tryd.func3, Tryd.ntmps3
      go_wp2_with (first
        | (
          at_builtin; refine wpList_append_lies _ rfl _ _ 22 rfl w.heap.size 5 i0 (.int .u8 0) 1 1 Tryd.underlying22 hi hz0 hz1 hz2 rfl (by decide) (.slice none 0 0) 0 [] rfl ⟨rfl, .inl ⟨rfl, rfl⟩⟩ ad s.size cap (u8Cells s.data.toList) rfl (by rw [u8Cells_len, Lib.size_eq, Nat.mul_one]) HN.out (u8Cells_one _) hn0 (by unfold maxLen; omega) (by omega) (Nat.le_refl _) _ rfl ?_; intro g1 c1 w1 hown1 hgrow1 hat1 hlt1
          have X1 : Hid (w1.ownsRow w.heap.size 5 1 (.slice (some ⟨g1, 0, none⟩) s.size c1) s.size (u8Cells s.data.toList) ∧ Below w.heap.size w w1) := ⟨by have h9 := hown1; rw [Nat.zero_add, List.nil_append] at h9; exact h9, (Below.refl _ w).grown hgrow1 (Nat.le_refl _) (fun k hk => by cases hk)⟩
          clear hown1 hgrow1 hat1 hlt1)
        | (
          at_builtin; refine wpList_append_lies _ rfl _ _ 22 rfl w.heap.size 5 i0 (.int .u8 0) 1 1 Tryd.underlying22 hi hz0 hz1 hz2 rfl (by decide) (.slice (some ⟨g1, 0, none⟩) s.size c1) s.size (u8Cells s.data.toList) rfl (X1.out.1.alloc _) ⟨w1.heap.size, 0, none⟩ 1 1 [.int .u8 77] rfl rfl (World.news_of_block (cs := #[.int .u8 77]) (t := 5) (fr := (0, 0)) (alloc_new w1 _)) (fun u hu => by simp at hu; subst hu; rfl) (by omega) (by unfold maxLen; omega) (by omega) (by have := X1.out.2.size; simp; omega) (w1.heap.size + 1) (by simp) ?_; intro g c2 W2 hown2 hgrow2 hat2 hlt2
          have X2 : Hid (W2.ownsRow w.heap.size 5 1 (.slice (some ⟨g, 0, none⟩) (s.size + 1) c2) (s.size + 1) (u8Cells (s.data.toList ++ [77])) ∧ Below w.heap.size w W2) := ⟨by rw [u8Cells_append]; exact hown2, (X1.out.2.alloc X1.out.2.size _).grown hgrow2 (by have := X1.out.2.size; simp; omega) (fun k hk => (ownsRow_lt X1.out.1 hk).1)⟩
          clear hown2 hgrow2 hat2 hlt2
          have hcc2 : s.size + 1 ≤ c2 := by
            rcases X2.out.1.2 with ⟨e, _⟩ | ⟨g', cap', cur, e, _, hg, hc, _⟩
            · cases e
            · cases e
              exact hc
          have hcc3 : s.size ≤ c2 := by omega
          have hsl0 : ∀ W : World, (Instr.slice 22 (.slice (some ⟨g, 0, none⟩) (s.size + 1) c2) none (some (.int .i64 (s.size : Int))) none).run Tryd.prog W = .ok (.slice (some ⟨g, 0, none⟩) s.size c2) W := by
            intro W
            rw [run_slice_h W 22 (some ⟨g, 0, none⟩) (s.size + 1) c2 (ht := by rw [Tryd.underlying22]; rfl) .i64 _ (by omega) (by omega)]
            simp [go_sem, sliced]))
      have hg0 := ownsRow_lt X2.out.1 (g := g) rfl
      have hl2 : (s.data.toList ++ [77]).length = (s.size + 1) := by rw [List.length_append, ← Lib.size_eq]; rfl
      have hcells : ∀ i (h : i < (s.size + 1)), W2.cell? ⟨g, i, none⟩ = some (.int .u8 (((s.data.toList ++ [77])[i]'(by rw [hl2]; exact h)).toNat : Int)) := by
        intro i h
        rw [X2.out.1.cellAt i (by rw [Nat.mul_one]; exact h)]
        unfold u8Cells
        rw [List.getElem?_map, List.getElem?_eq_getElem (by rw [hl2]; exact h)]
        rfl
      have hbx : BsIn W2 (some ⟨g, 0, none⟩) s := by
        intro i h
        refine ⟨g, 0, rfl, ?_⟩
        rw [Nat.zero_add, hcells i (Nat.lt_succ_of_lt h), List.getElem_append_left (by rw [← Lib.size_eq]; exact h)]
        rfl
      have hlast : W2.cell? ⟨g, s.size, none⟩ = some (.int .u8 77) := by
        rw [hcells s.size (Nat.lt_succ_self _), List.getElem_append_right (by rw [← Lib.size_eq]; exact Nat.le_refl _)]
        simp
      have hblk : ∃ cs : Array Value, W2.heap[g]? = some (.cells cs 5 (0, 0)) ∧ (s.size + 1) ≤ cs.size ∧ (s.size + 1) ≤ c2 := by
        rcases X2.out.1.2 with ⟨e, _⟩ | ⟨g', cap', cur, e, _, hg, hc, _, hz, _⟩
        · cases e
        · cases e
          exact ⟨cur, hg, by rw [hz]; omega, hc⟩
      obtain ⟨cs0, hcs0, hcs1, hcc⟩ := hblk
      have hsl : ∀ W : World, (Instr.slice 22 (.slice (some ⟨g, 0, none⟩) (s.size + 1) c2) none (some (.int .i64 (s.size : Int))) none).run Tryd.prog W = .ok (.slice (some ⟨g, 0, none⟩) s.size c2) W := by
        intro W
        rw [run_slice_h W 22 (some ⟨g, 0, none⟩) (s.size + 1) c2 (ht := by rw [Tryd.underlying22]; rfl) .i64 _ (by omega) (by omega)]
        simp [go_sem, sliced]
      have HC := Lib.hid (And.intro hlast (And.intro hcs0 hcs1))
      have HX := Lib.hid hbx
      have HB2 := Lib.hid X2.out.2
      have HTok := Lib.hid (Tryd.tokens_any (some ⟨g, 0, none⟩) c2 s W2 hbx (Tryd.Tabs_below HT.out HB2.out (Nat.le_refl _)))
      clear hcells hlast hcs0 hcs1 hbx hl2 X2
      obtain ⟨TA, hTA⟩ : ∃ x, tokAns (lex s.data.toList) = x := ⟨_, rfl⟩
      obtain ⟨L, C, A⟩ := TA
      have HTA := Lib.hid hTA
      clear hTA
      go_wp2_with fail
      refine HTok.out.mono ?_
      intro e W3 h3
      obtain ⟨q3, k3, rfl, o3, b3⟩ := h3.open
      rw [HTA.out] at o3 ⊢
      have hz3 := b3.size
      have HB3 := Lib.hid (HB2.out.trans (b3.mono HB2.out.size))
      have HO3 := Lib.hid o3
      have Hb3 := Lib.hid b3
      clear h3 o3 b3
      have HR := Lib.hid (Tryd.rtokens_any (some ad) cap s (W3.alloc (.cells #[.int .i64 C, .int .i64 A] 26 (0, 0))) (HB.out.below (HB3.out.alloc HB3.out.size _)) hcap)
      go_wp2_with fail
      refine HR.out.mono ?_
      intro e W5 h5
      obtain ⟨q5, k5, rfl, o5, b5⟩ := h5.open
      rw [HTA.out] at o5 ⊢
      have hz4 : (W3.alloc (.cells #[.int .i64 C, .int .i64 A] 26 (0, 0))).heap.size = W3.heap.size + 1 := by show (W3.heap.push _).size = _; rw [Array.size_push]
      have hz5 : W3.heap.size + 1 ≤ W5.heap.size := by rw [← hz4]; exact b5.size
      have hb35 : Below W3.heap.size W3 W5 := ((Below.refl _ W3).alloc (Nat.le_refl _) _).trans (b5.mono (by omega))
      have hf3 : W5.heap[W3.heap.size]? = some (.cells #[.int .i64 C, .int .i64 A] 26 (0, 0)) := (b5.block _ (by omega)).trans (alloc_new W3 _)
      have hb36 : Below W3.heap.size W3 (W5.alloc (.cells #[.int .i64 C, .int .i64 A] 26 (0, 0))) := hb35.alloc (by omega) _
      have hf36 : (W5.alloc (.cells #[.int .i64 C, .int .i64 A] 26 (0, 0))).heap[W3.heap.size]? = some (.cells #[.int .i64 C, .int .i64 A] 26 (0, 0)) := (Below.heap_alloc _ _ _ (by omega)).trans hf3
      have hf56 : (W5.alloc (.cells #[.int .i64 C, .int .i64 A] 26 (0, 0))).heap[W5.heap.size]? = some (.cells #[.int .i64 C, .int .i64 A] 26 (0, 0)) := alloc_new W5 _
      have hz6 : (W5.alloc (.cells #[.int .i64 C, .int .i64 A] 26 (0, 0))).heap.size = W5.heap.size + 1 := by show (W5.heap.push _).size = _; rw [Array.size_push]
      have ho6 : (W5.alloc (.cells #[.int .i64 C, .int .i64 A] 26 (0, 0))).ownsRow W3.heap.size 35 3 (.slice q5 L.length k5) L.length (tokCells L) := (ownsRow_base o5 (by omega)).alloc _
      have ho36 : (W5.alloc (.cells #[.int .i64 C, .int .i64 A] 26 (0, 0))).ownsRow W2.heap.size 35 3 (.slice q3 L.length k3) L.length (tokCells L) := ownsRow_keep HO3.out (fun k hk => hb36.block k (ownsRow_lt HO3.out hk).2)
      have hb26 : Below W2.heap.size W2 (W5.alloc (.cells #[.int .i64 C, .int .i64 A] 26 (0, 0))) := Hb3.out.trans (hb36.mono hz3)
      have H6 := Lib.hid (And.intro hf36 (And.intro hf56 (And.intro ho6 (And.intro ho36 hb26))))
      have hx6 := Lib.hid (HX.out.below hb26)
      have hs6 := Lib.hid (HB.out.below (HB2.out.trans (hb26.mono HB2.out.size)))
      clear h5 o5 b5 hb35 hf3 hb36 hf36 hf56 ho6 ho36 hb26
      go_wp2_with fail
      refine (Tryd.bytes13_any (some ⟨g, 0, none⟩) (some ad) c2 cap s _ hx6.out hs6.out (by omega)).mono ?_
      rintro e W7 ⟨rfl, b7⟩
      rw [hz6] at b7
      have hb27 : Below W2.heap.size W2 W7 := H6.out.2.2.2.2.trans (b7.mono (by omega))
      have y7 : W7.cell? ⟨g, s.size, none⟩ = some (.int .u8 77) := (hb27.cell (p := ⟨g, s.size, none⟩) hg0.2).trans HC.out.1
      have h7 : Hid (W7.heap[g]? = some (.cells cs0 5 (0, 0)) ∧ W7.heap[W3.heap.size]? = some (.cells #[.int .i64 C, .int .i64 A] 26 (0, 0)) ∧ W7.heap[W5.heap.size]? = some (.cells #[.int .i64 C, .int .i64 A] 26 (0, 0)) ∧
          W7.ownsRow W3.heap.size 35 3 (.slice q5 L.length k5) L.length (tokCells L) ∧ W7.ownsRow W2.heap.size 35 3 (.slice q3 L.length k3) L.length (tokCells L) ∧ Below w.heap.size w W7 ∧ W5.heap.size + 1 ≤ W7.heap.size) :=
        ⟨(hb27.block g hg0.2).trans HC.out.2.1, (b7.block _ (by omega)).trans H6.out.1, (b7.block _ (by omega)).trans H6.out.2.1,
         ownsRow_keep H6.out.2.2.1 (fun k hk => b7.block k (by have := (ownsRow_lt H6.out.2.2.1 hk).2; omega)), ownsRow_keep H6.out.2.2.2.1 (fun k hk => b7.block k (by have := (ownsRow_lt H6.out.2.2.2.1 hk).2; omega)),
         HB2.out.trans (hb27.mono HB2.out.size), by have := b7.size; omega⟩
      clear b7 hb27 hz4
      go_wp2
      go_loopw [8] (fun i wr => ∃ (k : Nat) (cs : Array Value), i = .int .i64 k ∧ k ≤ (s.size + 1) ∧ wr.heap[g]? = some (.cells cs 5 (0, 0)) ∧ cs.size = cs0.size ∧ Below w.heap.size w wr ∧ Hid (∀ j, j ≠ g → wr.heap[j]? = W7.heap[j]?)) (fun i _ => (s.size + 1) - (intOf i).toNat)
      case atStart => exact ⟨0, cs0, rfl, Nat.zero_le _, h7.out.1, rfl, h7.out.2.2.2.2.2.1, fun _ _ => rfl⟩
      case round =>
        obtain ⟨k, cs, rfl, hk, hgk, hcsz, hbw, hot⟩ := hrel
        clear y7
        by_cases hlt : k < (s.size + 1)
        · have hkI : (k : Int) < (((s.size + 1 : Nat) : Int) : Int) := by omega
          have hcs1 := HC.out.2.2
          have kc : wr.cell? ⟨g, k, none⟩ = some (cs[k]'(by omega)) := (cell_of_heap hgk k).trans (Array.getElem?_eq_getElem (by omega))
          have kf : wr.frozen? ⟨g, k, none⟩ = false := free_of_heap hgk k
          have hg2 := setCell_heap (o := k) hgk (.int .u8 33)
          have HG2 := Lib.hid hg2
          have HB8 := Lib.hid (hbw.setCell (p := ⟨g, k, none⟩) hg0.1 (.int .u8 33))
          have hot2 : Hid (∀ j, j ≠ g → (wr.setCell ⟨g, k, none⟩ (.int .u8 33)).heap[j]? = W7.heap[j]?) := fun j hj => (Below.heap_setCell wr ⟨g, k, none⟩ _ j hj).trans (hot.out j hj)
          clear hg2 hgk hbw hot
          go_wp2_with fail
          go_roundw
          case rel => exact ⟨k + 1, _, by go_num, by omega, HG2.out, by simp; exact hcsz, HB8.out, hot2⟩
          case measure => simp [intOf]; omega
        · have hkN : ¬ k < (s.size + 1) := hlt
          have hkI : ¬ (k : Int) < (((s.size + 1 : Nat) : Int) : Int) := by omega
          have e3 : wr.heap[W3.heap.size]? = some (.cells #[.int .i64 C, .int .i64 A] 26 (0, 0)) := (hot.out _ (by omega)).trans h7.out.2.1
          have e5 : wr.heap[W5.heap.size]? = some (.cells #[.int .i64 C, .int .i64 A] 26 (0, 0)) := (hot.out _ (by omega)).trans h7.out.2.2.1
          have m30 : wr.cell? ⟨W3.heap.size, 0, none⟩ = some (.int .i64 C) := (cell_of_heap e3 0).trans rfl
          have m31 : wr.cell? ⟨W3.heap.size, 1, none⟩ = some (.int .i64 A) := (cell_of_heap e3 1).trans rfl
          have m50 : wr.cell? ⟨W5.heap.size, 0, none⟩ = some (.int .i64 C) := (cell_of_heap e5 0).trans rfl
          have m51 : wr.cell? ⟨W5.heap.size, 1, none⟩ = some (.int .i64 A) := (cell_of_heap e5 1).trans rfl
          have oa : wr.ownsRow W2.heap.size 35 3 (.slice q3 L.length k3) L.length (tokCells L) := ownsRow_keep h7.out.2.2.2.2.1 (fun j hj => hot.out j (by have := (ownsRow_lt h7.out.2.2.2.2.1 hj).1; omega))
          have ob : wr.ownsRow W3.heap.size 35 3 (.slice q5 L.length k5) L.length (tokCells L) := ownsRow_keep h7.out.2.2.2.1 (fun j hj => hot.out j (by have := (ownsRow_lt h7.out.2.2.2.1 hj).1; omega))
          have HT13 := Lib.hid (Tryd.tokens13_any _ _ _ _ L L true wr oa ob rfl (fun i hi => ⟨rfl, rfl, fun _ => rfl⟩))
          have HB9 := Lib.hid hbw
          clear e3 e5 oa ob hbw hgk hot
          go_wp2_with fail
          refine HT13.out.mono ?_
          rintro e W9 ⟨rfl, b9⟩
          have HB10 := Lib.hid (HB9.out.trans (b9.mono HB9.out.size))
          clear b9 m30 m31 m50 m51
          go_wp2_with fail
          refine (Tryd.awake13_any _ (Tryd.Tabs_below HT.out HB10.out (Nat.le_refl _))).mono ?_
          rintro e W11 ⟨rfl, b11⟩
          have HB11 := Lib.hid (HB10.out.trans (b11.mono HB10.out.size))
          clear b11
          go_wp2_with fail
          go_ret
          exact ⟨rfl, HB11.out⟩
end Go.Proofs
