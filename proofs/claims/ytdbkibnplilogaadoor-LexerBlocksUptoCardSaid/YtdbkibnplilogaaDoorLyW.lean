/-
  Walks: LexerBlocks.
-/
import Derived.Test.YtdbkibnplilogaaDoorLyV
import Derived.Test.YtdbkibnplilogaaDoorMzG
import Derived.Lib.AppendStr
set_option linter.unusedVariables false
namespace Go.Proofs
open Go.RowKit Go.Lx Go.Lt

def sliceLen (v : Value) : Nat := match v with | .slice _ n _ => n | _ => 0

set_option maxHeartbeats 32000000 in
set_option maxRecDepth 100000 in
theorem Tryd.lexerBlocks_any (a : Option Addr) (cap : Nat) (xs : List Int) (w : World) (hx : IsIn w a xs) (hT : Tryd.Tabs w) (hs : xs.length ≤ 9223372036854775807) :
    Calls Tryd.prog 8 #[.slice a xs.length cap] w fun e w' => e = .returned (.bool true) ∧ Below w.heap.size w w' := by
  obtain ⟨iu, hui, hu0, hu1, hu2⟩ := info_parts Tryd.infoU8
  obtain ⟨it, hti, ht0, ht1, ht2⟩ := info_parts Tryd.infoTok
  obtain ⟨ii, hii, hi0', hi1', hi2'⟩ := info_parts Tryd.infoInt
  obtain ⟨n, hn⟩ : ∃ n, xs.length = n := ⟨_, rfl⟩
  rw [hn]
  by_cases h100 : 100 < n
  · have h100I : (100 : Int) < (n : Int) := by omega
    have H := Lib.hid (Tryd.awake13_any w hT)
    clear hx hT
    go_enter Tryd.func8, Tryd.ntmps8
    go_wp2_with fail
    refine H.out.mono ?_
    rintro e W1 ⟨rfl, b1⟩
    go_wp2_with fail
    go_ret
    exact ⟨rfl, b1⟩
  have h100I : ¬ (100 : Int) < (n : Int) := by omega
  have HX := Lib.hid hx
  have HT := Lib.hid hT
  have HN := Lib.hid hn
  have hR0 : Tryd.Rows3 w (blockSrc []) [] [0] (.slice none 0 0) (.slice none 0 0) (.slice (some ⟨w.heap.size, 0, none⟩) 1 1) (w.alloc (.cells #[.int .i64 0] 3 (0, 0))) := by
    refine ⟨⟨rfl, .inl ⟨rfl, rfl⟩⟩, ⟨rfl, .inl ⟨rfl, rfl⟩⟩, ⟨rfl, .inr ⟨w.heap.size, 1, #[.int .i64 0], rfl, Nat.le_refl _, alloc_new w _, by decide, by decide, by decide, rfl⟩⟩, (Below.refl _ w).alloc (Nat.le_refl _) _⟩
  have HR0 := Lib.hid hR0
  clear hx hT hs hR0
  go_enter Tryd.func8, Tryd.ntmps8
  go_wp2
  go_loopw [3, 4, 5, 6, 7] (fun i3 i4 i5 i6 i7 wr => ∃ (i : Nat) (bl : List Nat) (t : List Tok) (d : List Nat), i7 = .int .i64 i ∧ i ≤ n ∧ Hid (Tryd.Rows3 w (blockSrc bl) t d i3 i4 i5 wr) ∧ Hid ((blockSrc bl).length ≤ 62 * i) ∧ Hid (t.length + d.length ≤ 4 * i + 1) ∧
      ((i6 = .int .i64 (-1) ∧ Hid (blocks bl 0 [] [0] = .ok (t, d) ∧ d.getLast? = some 0)) ∨ (∃ m : Nat, i6 = .int .i64 m ∧ Hid (blocks bl 0 [] [0] = .error (103, m))))) (fun _ _ _ _ i7 _ => n - (intOf i7).toNat)
  case atStart => exact ⟨0, [], [], [0], rfl, Nat.zero_le _, HR0.out, Nat.le_refl _, Nat.le_refl _, .inl ⟨rfl, rfl, rfl⟩⟩
  case round =>
    obtain ⟨i, bl, t, d, rfl, hi, HR, HSL, HTL, hmode⟩ := hrel
    obtain ⟨q3, c3, rfl⟩ := slice_form HR.out.1
    obtain ⟨q4, c4, rfl⟩ := slice_form HR.out.2.1
    obtain ⟨q5, c5, rfl⟩ := slice_form HR.out.2.2.1
    by_cases hin : i < n
    · have hinI : (i : Int) < (n : Int) := by omega
      obtain ⟨b, o, rfl, hb1, hb2⟩ := (HX.out.below HR.out.2.2.2) i (by rw [HN.out]; exact hin)
      obtain ⟨x, hx⟩ : ∃ x, xs[i]'(by rw [HN.out]; exact hin) = x := ⟨_, rfl⟩
      rw [hx] at hb2
      have H13 := Lib.hid (Tryd.awake13_any wr (Tryd.Tabs_below HT.out HR.out.2.2.2 (Nat.le_refl _)))
      by_cases hx0 : x < 0
      · clear hx
        go_wp2_with fail
        refine H13.out.mono ?_
        rintro e W1 ⟨rfl, b1⟩
        have B1 := Lib.hid (HR.out.2.2.2.trans (b1.mono HR.out.size))
        clear b1
        go_wp2_with fail
        go_ret
        exact ⟨rfl, B1.out⟩
      by_cases hx6 : 60 < x
      · clear hx
        have hx0d : decide (x < 0) = false := by rw [decide_eq_false_iff_not]; exact hx0
        go_wp2_with fail
        refine H13.out.mono ?_
        rintro e W1 ⟨rfl, b1⟩
        have B1 := Lib.hid (HR.out.2.2.2.trans (b1.mono HR.out.size))
        clear b1
        go_wp2_with fail
        go_ret
        exact ⟨rfl, B1.out⟩
      obtain ⟨k, rfl⟩ : ∃ k : Nat, x = (k : Int) := ⟨x.toNat, by omega⟩
      have hk60 : ¬ (60 : Int) < (k : Int) := hx6
      have hk0 : ¬ (k : Int) < 0 := hx0
      have hk0d : decide ((k : Int) < 0) = false := by rw [decide_eq_false_iff_not]; exact hx0
      have hkn : k ≤ 60 := by omega
      clear hx hx0 hx6
      have hsl : (blockSrc bl).length ≤ 6200 := by have := HSL.out; omega
      go_wp2
      go_loopw [3, 9] (fun i3 i9 wr2 => ∃ j : Nat, i9 = .int .i64 j ∧ j ≤ k ∧ Hid (Tryd.Rows3 w (blockSrc bl ++ List.replicate j 32) t d i3 (.slice q4 t.length c4) (.slice q5 d.length c5) wr2)) (fun _ i9 _ => k - (intOf i9).toNat)
      case atStart => exact ⟨0, rfl, Nat.zero_le _, by show Tryd.Rows3 _ _ _ _ _ _ _ _; rw [List.replicate_zero, List.append_nil]; exact HR.out⟩
      case round =>
        obtain ⟨j, rfl, hj, HR2⟩ := hrel
        obtain ⟨q6, c6, rfl⟩ := slice_form HR2.out.1
        obtain ⟨L, hL⟩ : ∃ L, (blockSrc bl ++ List.replicate j (32 : UInt8)).length = L := ⟨_, rfl⟩
        have hLb : L ≤ 6300 := by rw [← hL, List.length_append, List.length_replicate]; omega
        have HO := HR2.out.1
        rw [hL] at HO
        have HOh := Lib.hid HO
        clear HO
        have hbase := HR2.out.size
        rw [hL]
        by_cases hjk : j < k
        · have hjkI : (j : Int) < (k : Int) := by omega
          go_wp2_with (
            at_builtin; refine wpList_append_lies _ rfl _ _ 22 rfl w.heap.size 5 iu (.int .u8 0) 1 1 Tryd.underlying22 hui hu0 hu1 hu2 rfl (by decide) _ _ _ rfl (HOh.out.alloc _) ⟨wr.heap.size, 0, none⟩ 1 1 (u8Cells [32]) rfl rfl (World.news_of_block (cs := #[.int .u8 32]) (t := 5) (fr := (0, 0)) (alloc_new wr _)) (u8Cells_one _) (by omega) (by unfold maxLen; omega) (by omega) (by simp; omega) _ rfl ?_; intro g c' w3 hown3 hgrow3 hat3 hlt3
            have HR3 : Hid (Tryd.Rows3 w (blockSrc bl ++ List.replicate (j + 1) 32) t d (.slice (some ⟨g, 0, none⟩) (L + 1) c') (.slice q4 t.length c4) (.slice q5 d.length c5) w3) := by
              refine (HR2.out.alloc _).growS (by rw [hL]; exact hgrow3) ?_
              rw [List.replicate_succ', ← List.append_assoc, u8Cells_append, List.length_append, hL]; exact hown3
            clear hown3 hgrow3 hat3 hlt3)
          go_roundw
          case rel => exact ⟨j + 1, by go_num, by omega, HR3⟩
          case measure => simp [intOf]; omega
        · obtain rfl : j = k := by omega
          have hjkI : ¬ (j : Int) < (j : Int) := by omega
          have hL2 : L = (blockSrc bl).length + j := by rw [← hL, List.length_append, List.length_replicate]
          have Hk := Lib.hid hkn
          have HIN := Lib.hid hinI
          rcases hmode with ⟨rfl, hm⟩ | ⟨m, rfl, hm⟩
          · have hneg : ¬ (0 : Int) ≤ -1 := by decide
            obtain ⟨d0, ds, rfl⟩ : ∃ d0 ds, d = d0 :: ds := by
              cases d with
              | nil => exact absurd hm.out.2 (by simp)
              | cons d0 ds => exact ⟨d0, ds, rfl⟩
            obtain ⟨g5, c5', e5, hc5, _, _⟩ := HR.out.top
            cases e5
            have hdl : ds.length ≤ 401 := by have := HTL.out; rw [List.length_cons] at this; omega
            have hdc : (d0 :: ds).length = ds.length + 1 := rfl
            rw [hdc]
            have hsub : IntKind.i64.wrap (((ds.length + 1 : Nat) : Int) - 1) = (ds.length : Int) := by rw [IntWalk.i64_in _ (by omega)]; omega
            have hi0 : (0 : Int) ≤ (ds.length : Int) := by omega
            have hi1 : (ds.length : Int) < ((ds.length + 1 : Nat) : Int) := by omega
            by_cases hjd : d0 < j
            · have hjdI : (d0 : Int) < (j : Int) := by omega
              by_cases h40 : 40 < ds.length + 1
              · have h40I : (40 : Int) < ((ds.length + 1 : Nat) : Int) := by omega
                go_wp2_with (
                  at_builtin; refine Lib.wpList_append_own_string _ rfl _ _ 22 9 rfl w.heap.size 5 iu Tryd.underlying22 Tryd.underlying9 hui hu0 hu1 hu2 _ _ _ rfl HOh.out _ rfl (by unfold maxLen; show L + 2 ≤ _; omega) (by show L + 2 ≤ _; omega) (by omega) ?_; intro v' w3 hown' hgrow3 hnil3
                  have HR3 : Hid (Tryd.Rows3 w (blockSrc (bl ++ [j])) t (d0 :: ds) v' (.slice q4 t.length c4) (.slice (some ⟨g5, 0, none⟩) (ds.length + 1) c5) w3) := by
                    refine HR2.out.growS (by rw [hL]; exact hgrow3) ?_
                    rw [blockSrc_snoc, ← List.append_assoc, u8Cells_append, List.length_append, hL]; exact hown'
                  have htop : w3.cell? ⟨g5, ds.length, none⟩ = some (.int .i64 d0) := by
                    obtain ⟨g6, c6', e6, _, h6, _⟩ := HR3.out.top
                    cases e6; exact h6
                  clear hown' hgrow3 hnil3)
                obtain ⟨q7, c7, rfl⟩ := slice_form HR3.out.1
                have H13b := Lib.hid (Tryd.awake13_any _ (Tryd.Tabs_below HT.out HR3.out.2.2.2 (Nat.le_refl _)))
                go_wp2_with fail
                refine H13b.out.mono ?_
                rintro e W1 ⟨rfl, b1⟩
                have B1 := Lib.hid (HR3.out.2.2.2.trans (b1.mono HR3.out.size))
                clear b1
                go_wp2_with fail
                go_ret
                exact ⟨rfl, B1.out⟩
              · skip
                have HL := Lib.hid hL
                have HL2 := Lib.hid hL2
                clear hL hL2
                have h40I : ¬ (40 : Int) < ((ds.length + 1 : Nat) : Int) := by omega
                have htl : t.length ≤ 401 := by have := HTL.out; omega
                go_wp2_with (first
                  | (
                    at_builtin; refine Lib.wpList_append_own_string _ rfl _ _ 22 9 rfl w.heap.size 5 iu Tryd.underlying22 Tryd.underlying9 hui hu0 hu1 hu2 _ _ _ rfl HOh.out _ rfl (by unfold maxLen; show L + 2 ≤ _; omega) (by show L + 2 ≤ _; omega) (by omega) ?_; intro v' w3 hown' hgrow3 hnil3
                    have HR3 : Hid (Tryd.Rows3 w (blockSrc (bl ++ [j])) t (d0 :: ds) v' (.slice q4 t.length c4) (.slice (some ⟨g5, 0, none⟩) (ds.length + 1) c5) w3) := by
                      refine HR2.out.growS (by rw [HL.out]; exact hgrow3) ?_
                      rw [blockSrc_snoc, ← List.append_assoc, u8Cells_append, List.length_append, HL.out]; exact hown'
                    obtain ⟨q7, c7, rfl⟩ := slice_form HR3.out.1
                    have hb3 := HR3.out.size
                    have htop : w3.cell? ⟨g5, ds.length, none⟩ = some (.int .i64 d0) := by
                      obtain ⟨g6, c6', e6, _, h6, _⟩ := HR3.out.top
                      cases e6; exact h6
                    clear hown' hgrow3 hnil3)
                  | (
                    at_builtin; refine wpList_append_lies _ rfl _ _ 37 rfl w.heap.size 3 ii _ 1 8 Tryd.underlying37 hii hi0' hi1' hi2' rfl (by omega) _ (ds.length + 1) (natCells (d0 :: ds).reverse) rfl (HR3.out.2.2.1.alloc _) ⟨w3.heap.size, 0, none⟩ 1 1 (natCells [j]) rfl rfl (World.news_of_block (cs := #[.int .i64 j]) (t := 3) (fr := (0, 0)) (alloc_new w3 _)) (by simp [natCells, Value.oneCell']) (by omega) (by unfold maxLen; omega) (by omega) (by simp; omega) (w3.heap.size + 1) (by simp) ?_; intro g c' w4 hown4 hgrow4 hat4 hlt4
                    have HR4 : Hid (Tryd.Rows3 w (blockSrc (bl ++ [j])) t (j :: d0 :: ds) (.slice q7 (blockSrc (bl ++ [j])).length c7) (.slice q4 t.length c4) (.slice (some ⟨g, 0, none⟩) (ds.length + 1 + 1) c') w4) := by
                      refine (HR3.out.alloc _).growD hgrow4 ?_
                      rw [natCells_snoc]; exact hown4
                    have hb4 := HR4.out.size
                    clear hown4 hgrow4 hat4 hlt4)
                  | (
                    at_builtin; refine wpList_append_lies _ rfl _ _ 24 rfl w.heap.size 35 it _ 3 32 Tryd.underlying24 hti ht0 ht1 ht2 rfl (by omega) _ t.length (tokCells t) rfl (HR4.out.2.1.alloc _) ⟨w4.heap.size, 0, none⟩ 1 1 (tokCells [⟨7, [], L⟩]) rfl rfl (World.news_of_block (cs := #[.int .i64 (7 : Int), .string ⟨#[]⟩, .int .i64 (L : Int)]) (t := 35) (fr := (0, 0)) (alloc_new w4 _)) (by simp [tokCells, Value.oneCell']) (by omega) (by unfold maxLen; omega) (by omega) (by simp; omega) (w4.heap.size + 1) (by simp) ?_; intro gt ct w5 hownt hgrowt hatt hltt
                    have HR5 : Hid (Tryd.Rows3 w (blockSrc (bl ++ [j])) (t ++ [⟨7, [], L⟩]) (j :: d0 :: ds) (.slice q7 (blockSrc (bl ++ [j])).length c7) (.slice (some ⟨gt, 0, none⟩) (t.length + 1) ct) (.slice (some ⟨g, 0, none⟩) (ds.length + 1 + 1) c') w5) := by
                      refine (HR4.out.alloc _).growT hgrowt ?_
                      rw [List.length_append, tokCells_append]; exact hownt
                    have HO5 : Hid (w5.ownsRow w.heap.size 35 3 (.slice (some ⟨gt, 0, none⟩) (t.length + 1) ct) (t.length + 1) (tokCells (t ++ [⟨7, [], L⟩]))) := by
                      show World.ownsRow _ _ _ _ _ _ _; rw [tokCells_append]; exact hownt
                    have hb5 := HR5.out.size
                    have htop5 : w5.cell? ⟨g, ds.length + 1, none⟩ = some (.int .i64 j) := by
                      obtain ⟨g6, c6', e6, _, h6, _⟩ := HR5.out.top
                      cases e6; exact h6
                    clear hownt hgrowt hatt hltt))
                have hsub5 : IntKind.i64.wrap (((ds.length + 1 + 1 : Nat) : Int) - 1) = ((ds.length + 1 : Nat) : Int) := by rw [IntWalk.i64_in _ (by omega)]; omega
                have hi05 : (0 : Int) ≤ ((ds.length + 1 : Nat) : Int) := by omega
                have hi15 : ((ds.length + 1 : Nat) : Int) < ((ds.length + 1 + 1 : Nat) : Int) := by omega
                clear htop hb3 hb4 HR3 HR4 HR2 HOh HR
                go_loopw [4, 5] (fun i4 i5 wr3 => i4 = .slice (some ⟨gt, 0, none⟩) (t.length + 1) ct ∧ i5 = .slice (some ⟨g, 0, none⟩) (ds.length + 1 + 1) c' ∧ wr3 = w5) (fun _ _ _ => 0)
                case atStart => exact ⟨rfl, rfl, rfl⟩
                case round =>
                  obtain ⟨rfl, rfl, e5⟩ := hrel
                  subst e5

                  go_wp2_with (
                    at_builtin; refine wpList_append_lies _ rfl _ _ 24 rfl w.heap.size 35 it _ 3 32 Tryd.underlying24 hti ht0 ht1 ht2 rfl (by omega) _ (t.length + 1) (tokCells (t ++ [⟨7, [], L⟩])) rfl (HO5.out.alloc _) ⟨wr.heap.size, 0, none⟩ 2 2 [.int .i64 (1 : Int), .string ⟨#[97]⟩, .int .i64 (L : Int), .int .i64 (6 : Int), .string ⟨#[]⟩, .int .i64 ((L : Int) + 1)] rfl rfl (World.news_of_block (cs := #[.int .i64 (1 : Int), .string ⟨#[97]⟩, .int .i64 (L : Int), .int .i64 (6 : Int), .string ⟨#[]⟩, .int .i64 ((L : Int) + 1)]) (t := 35) (fr := (0, 0)) (alloc_new wr _)) (by simp [Value.oneCell']) (by omega) (by unfold maxLen; omega) (by omega) (by simp; omega) (wr.heap.size + 1) (by simp) ?_; intro gt ct w9 hownt hgrowt hatt hltt
                    have HR9 : Hid (Tryd.Rows3 w (blockSrc (bl ++ [j])) ((t ++ [⟨7, [], L⟩]) ++ [⟨1, [97], L⟩, ⟨6, [], L + 1⟩]) (j :: d0 :: ds) (.slice q7 (blockSrc (bl ++ [j])).length c7) (.slice (some ⟨gt, 0, none⟩) ((t.length + 1) + 2) ct) (.slice (some ⟨g, 0, none⟩) (ds.length + 1 + 1) c') w9) := by
                      refine (HR5.out.alloc _).growT hgrowt ?_
                      rw [show List.length (((t ++ [⟨7, [], L⟩]) : List Tok) ++ ([⟨1, [97], L⟩, ⟨6, [], L + 1⟩] : List Tok)) = (t.length + 1) + 2 by simp, tokCells_append, show tokCells [⟨1, [97], L⟩, ⟨6, [], L + 1⟩] = [.int .i64 (1 : Int), .string ⟨#[97]⟩, .int .i64 (L : Int), .int .i64 (6 : Int), .string ⟨#[]⟩, .int .i64 ((L : Int) + 1)] by simp [tokCells, bs]]; exact hownt
                    clear hownt hgrowt hatt hltt)
                  go_roundw
                  case rel => exact ⟨i + 1, bl ++ [j], _, j :: d0 :: ds, by go_num, by omega, HR9, by show _ ≤ _; rw [blockSrc_snoc]; have := HSL.out; have := Hk.out; simp; omega, by show _ ≤ _; have := HTL.out; simp at this ⊢; omega, .inl ⟨rfl, by rw [HL2.out]; exact ⟨blocks_in hm.out.1 hjd (by simp; omega), by have := hm.out.2; rw [List.getLast?_cons_cons]; exact this⟩⟩⟩
                  case measure => simp [intOf]; omega
            · skip
              have HL := Lib.hid hL
              have HL2 := Lib.hid hL2
              clear hL hL2
              have hjdI : ¬ (d0 : Int) < (j : Int) := by omega
              have htl : t.length + ds.length ≤ 402 := by have := HTL.out; rw [List.length_cons] at this; omega
              obtain ⟨PP, hPP⟩ : ∃ p, pops j L (d0 :: ds) t = p := ⟨_, rfl⟩
              have HPP := Lib.hid hPP
              clear hPP
              go_wp2_with (
                at_builtin; refine Lib.wpList_append_own_string _ rfl _ _ 22 9 rfl w.heap.size 5 iu Tryd.underlying22 Tryd.underlying9 hui hu0 hu1 hu2 _ _ _ rfl HOh.out _ rfl (by unfold maxLen; show L + 2 ≤ _; omega) (by show L + 2 ≤ _; omega) (by omega) ?_; intro v' w3 hown' hgrow3 hnil3
                have HR3 : Hid (Tryd.Rows3 w (blockSrc (bl ++ [j])) t (d0 :: ds) v' (.slice q4 t.length c4) (.slice (some ⟨g5, 0, none⟩) (ds.length + 1) c5) w3) := by
                  refine HR2.out.growS (by rw [HL.out]; exact hgrow3) ?_
                  rw [blockSrc_snoc, ← List.append_assoc, u8Cells_append, List.length_append, HL.out]; exact hown'
                obtain ⟨q7, c7, rfl⟩ := slice_form HR3.out.1
                have hb3 := HR3.out.size
                have htop : w3.cell? ⟨g5, ds.length, none⟩ = some (.int .i64 d0) := by
                  obtain ⟨g6, c6', e6, _, h6, _⟩ := HR3.out.top
                  cases e6; exact h6
                clear hown' hgrow3 hnil3)

              clear htop hb3 HR2 HOh HR
              go_loopw [4, 5] (fun i4 i5 wr3 => ∃ (t' : List Tok) (d' : Nat) (ds' : List Nat), Hid (Tryd.Rows3 w (blockSrc (bl ++ [j])) t' (d' :: ds') (.slice q7 (blockSrc (bl ++ [j])).length c7) i4 i5 wr3) ∧ Hid (pops j L (d' :: ds') t' = PP) ∧ Hid ((d' :: ds').getLast? = some 0) ∧ t'.length + ds'.length = t.length + ds.length) (fun _ i5 _ => sliceLen i5)
              case atStart => exact ⟨t, d0, ds, HR3, HPP, hm.out.2, rfl⟩
              case round =>
                obtain ⟨t', d', ds', HR6, HP6, HB6, hN6⟩ := hrel
                obtain ⟨g6, c6', rfl, hc6, htop6, hR6b⟩ := HR6.out.top
                obtain ⟨q8, c8, rfl⟩ := slice_form HR6.out.2.1
                have hR6c := Lib.hid hR6b
                have hb6 := HR6.out.size
                have hdl6 : ds'.length ≤ 402 := by omega
                have htl6 : t'.length ≤ 402 := by omega
                have hN7 := Lib.hid hN6
                clear hR6b hN6
                have hsub6 : IntKind.i64.wrap (((ds'.length + 1 : Nat) : Int) - 1) = (ds'.length : Int) := by rw [IntWalk.i64_in _ (by omega)]; omega
                have hwr6 : IntKind.i64.wrap (ds'.length : Int) = (ds'.length : Int) := IntWalk.i64_in _ (by omega)
                have hi06 : (0 : Int) ≤ (ds'.length : Int) := by omega
                have hi16 : (ds'.length : Int) < ((ds'.length + 1 : Nat) : Int) := by omega
                by_cases hlt : j < d'
                · have hltI : (j : Int) < (d' : Int) := by omega
                  obtain ⟨d2, ds2, hds⟩ : ∃ d2 ds2, ds' = d2 :: ds2 := by
                    cases ds' with
                    | nil =>
                      have := HB6.out
                      simp at this
                      omega
                    | cons a2 l2 => exact Exists.intro a2 (Exists.intro l2 rfl)
                  have HPo2 : Hid (pops j L (d2 :: ds2) (t' ++ [⟨8, [], L⟩]) = PP) := by
                    show _ = _; rw [← HP6.out, pops_yes _ _ _ _ _ hlt, hds]
                  have HB2 : Hid ((d2 :: ds2).getLast? = some 0) := by
                    have := HB6.out
                    rw [hds] at this
                    show _ = _; rw [← this, List.getLast?_cons_cons]
                  have Hds := Lib.hid hds
                  clear hds
                  have hsl : ∀ W : World, (Instr.slice 37 (.slice (some ⟨g6, 0, none⟩) (ds'.length + 1) c6') none (some (.int .i64 (ds'.length : Int))) none).run Tryd.prog W = .ok (.slice (some ⟨g6, 0, none⟩) ds'.length c6') W := by
                    intro W
                    rw [run_slice_h W 37 (some ⟨g6, 0, none⟩) (ds'.length + 1) c6' (ht := by rw [Tryd.underlying37]; rfl) .i64 _ (by omega) (by omega)]
                    simp [go_sem, sliced]
                  go_wp2_with (
                    at_builtin; refine wpList_append_lies _ rfl _ _ 24 rfl w.heap.size 35 it _ 3 32 Tryd.underlying24 hti ht0 ht1 ht2 rfl (by omega) _ t'.length (tokCells t') rfl (hR6c.out.2.1.alloc _) ⟨wr.heap.size, 0, none⟩ 1 1 (tokCells [⟨8, [], L⟩]) rfl rfl (World.news_of_block (cs := #[.int .i64 (8 : Int), .string ⟨#[]⟩, .int .i64 (L : Int)]) (t := 35) (fr := (0, 0)) (alloc_new wr _)) (by simp [tokCells, Value.oneCell']) (by omega) (by unfold maxLen; omega) (by omega) (by simp; omega) (wr.heap.size + 1) (by simp) ?_; intro gt ct w7 hownt hgrowt hatt hltt
                    have HR7 : Hid (Tryd.Rows3 w (blockSrc (bl ++ [j])) (t' ++ [⟨8, [], L⟩]) (d2 :: ds2) (.slice q7 (blockSrc (bl ++ [j])).length c7) (.slice (some ⟨gt, 0, none⟩) (t'.length + 1) ct) (.slice (some ⟨g6, 0, none⟩) ds'.length c6') w7) := by
                      rw [← Hds.out]
                      refine (hR6c.out.alloc _).growT hgrowt ?_
                      rw [List.length_append, tokCells_append]; exact hownt
                    clear hownt hgrowt hatt hltt)
                  go_roundw
                  case rel => exact ⟨_, d2, ds2, HR7, HPo2, HB2, by have := hN7.out; rw [Hds.out] at this; simp at this ⊢; omega⟩
                  case measure => simp [sliceLen]
                · have hltI : ¬ (j : Int) < (d' : Int) := by omega
                  have HPP6 : Hid (PP = (d' :: ds', t')) := by show _ = _; rw [← HP6.out, pops_no _ _ _ _ _ hlt]
                  by_cases hne : j = d'
                  · subst hne
                    go_wp2_with (
                      at_builtin; refine wpList_append_lies _ rfl _ _ 24 rfl w.heap.size 35 it _ 3 32 Tryd.underlying24 hti ht0 ht1 ht2 rfl (by omega) _ t'.length (tokCells t') rfl (HR6.out.2.1.alloc _) ⟨wr.heap.size, 0, none⟩ 2 2 [.int .i64 (1 : Int), .string ⟨#[97]⟩, .int .i64 (L : Int), .int .i64 (6 : Int), .string ⟨#[]⟩, .int .i64 ((L : Int) + 1)] rfl rfl (World.news_of_block (cs := #[.int .i64 (1 : Int), .string ⟨#[97]⟩, .int .i64 (L : Int), .int .i64 (6 : Int), .string ⟨#[]⟩, .int .i64 ((L : Int) + 1)]) (t := 35) (fr := (0, 0)) (alloc_new wr _)) (by simp [Value.oneCell']) (by omega) (by unfold maxLen; omega) (by omega) (by simp; omega) (wr.heap.size + 1) (by simp) ?_; intro gt ct w9 hownt hgrowt hatt hltt
                      have HR9 : Hid (Tryd.Rows3 w (blockSrc (bl ++ [j])) (t' ++ [⟨1, [97], L⟩, ⟨6, [], L + 1⟩]) (j :: ds') (.slice q7 (blockSrc (bl ++ [j])).length c7) (.slice (some ⟨gt, 0, none⟩) (t'.length + 2) ct) (.slice (some ⟨g6, 0, none⟩) (ds'.length + 1) c6') w9) := by
                        refine (HR6.out.alloc _).growT hgrowt ?_
                        rw [show List.length ((t' : List Tok) ++ ([⟨1, [97], L⟩, ⟨6, [], L + 1⟩] : List Tok)) = t'.length + 2 by simp, tokCells_append, show tokCells [⟨1, [97], L⟩, ⟨6, [], L + 1⟩] = [.int .i64 (1 : Int), .string ⟨#[97]⟩, .int .i64 (L : Int), .int .i64 (6 : Int), .string ⟨#[]⟩, .int .i64 ((L : Int) + 1)] by simp [tokCells, bs]]; exact hownt
                      clear hownt hgrowt hatt hltt)
                    go_roundw
                    case rel => exact ⟨i + 1, bl ++ [j], _, j :: ds', by go_num, by omega, HR9, by show _ ≤ _; rw [blockSrc_snoc]; have := HSL.out; have := Hk.out; simp; omega, by show _ ≤ _; have := HTL.out; have := hN7.out; simp at *; omega, .inl ⟨rfl, by rw [HL2.out]; refine ⟨?_, HB6.out⟩; have := blocks_out hm.out.1 hjd t' (j :: ds') (by rw [← HL2.out, HPP.out, HPP6.out]); rw [this]; simp⟩⟩
                    case measure => simp [intOf]; omega
                  · have hneI : ((j : Int) != (d' : Int)) = true := by rw [bne_iff_ne]; omega
                    go_wp2_with (
                      at_builtin; refine wpList_append_lies _ rfl _ _ 24 rfl w.heap.size 35 it _ 3 32 Tryd.underlying24 hti ht0 ht1 ht2 rfl (by omega) _ t'.length (tokCells t') rfl (HR6.out.2.1.alloc _) ⟨wr.heap.size, 0, none⟩ 2 2 [.int .i64 (1 : Int), .string ⟨#[97]⟩, .int .i64 (L : Int), .int .i64 (6 : Int), .string ⟨#[]⟩, .int .i64 ((L : Int) + 1)] rfl rfl (World.news_of_block (cs := #[.int .i64 (1 : Int), .string ⟨#[97]⟩, .int .i64 (L : Int), .int .i64 (6 : Int), .string ⟨#[]⟩, .int .i64 ((L : Int) + 1)]) (t := 35) (fr := (0, 0)) (alloc_new wr _)) (by simp [Value.oneCell']) (by omega) (by unfold maxLen; omega) (by omega) (by simp; omega) (wr.heap.size + 1) (by simp) ?_; intro gt ct w9 hownt hgrowt hatt hltt
                      have HR9 : Hid (Tryd.Rows3 w (blockSrc (bl ++ [j])) (t' ++ [⟨1, [97], L⟩, ⟨6, [], L + 1⟩]) (d' :: ds') (.slice q7 (blockSrc (bl ++ [j])).length c7) (.slice (some ⟨gt, 0, none⟩) (t'.length + 2) ct) (.slice (some ⟨g6, 0, none⟩) (ds'.length + 1) c6') w9) := by
                        refine (HR6.out.alloc _).growT hgrowt ?_
                        rw [show List.length ((t' : List Tok) ++ ([⟨1, [97], L⟩, ⟨6, [], L + 1⟩] : List Tok)) = t'.length + 2 by simp, tokCells_append, show tokCells [⟨1, [97], L⟩, ⟨6, [], L + 1⟩] = [.int .i64 (1 : Int), .string ⟨#[97]⟩, .int .i64 (L : Int), .int .i64 (6 : Int), .string ⟨#[]⟩, .int .i64 ((L : Int) + 1)] by simp [tokCells, bs]]; exact hownt
                      clear hownt hgrowt hatt hltt)
                    go_roundw
                    case rel => exact ⟨i + 1, bl ++ [j], _, d' :: ds', by go_num, by omega, HR9, by show _ ≤ _; rw [blockSrc_snoc]; have := HSL.out; have := Hk.out; simp; omega, by show _ ≤ _; have := HTL.out; have := hN7.out; simp at *; omega, .inr ⟨L, rfl, by rw [HL2.out]; have := blocks_out hm.out.1 hjd t' (d' :: ds') (by rw [← HL2.out, HPP.out, HPP6.out]); rw [this]; exact if_neg (fun h => hne h.symm)⟩⟩
                    case measure => simp [intOf]; omega
          · have hm0 : (0 : Int) ≤ (m : Int) := by omega
            go_wp2_with (
              at_builtin; refine Lib.wpList_append_own_string _ rfl _ _ 22 9 rfl w.heap.size 5 iu Tryd.underlying22 Tryd.underlying9 hui hu0 hu1 hu2 _ _ _ rfl HOh.out _ rfl (by unfold maxLen; show L + 2 ≤ _; omega) (by show L + 2 ≤ _; omega) (by omega) ?_; intro v' w3 hown' hgrow3 hnil3
              have HR3 : Hid (Tryd.Rows3 w (blockSrc (bl ++ [j])) t d v' (.slice q4 t.length c4) (.slice q5 d.length c5) w3) := by
                refine HR2.out.growS (by rw [hL]; exact hgrow3) ?_
                rw [blockSrc_snoc, ← List.append_assoc, u8Cells_append, List.length_append, hL]; exact hown'
              clear hown' hgrow3 hnil3)
            obtain ⟨q7, c7, rfl⟩ := slice_form HR3.out.1
            clear HOh hL hLb hjk hjkI hbase HR2 hk0 hk60 hk0d
            go_wp2_with fail
            go_roundw
            case rel => exact ⟨i + 1, bl ++ [j], t, d, by go_num, by omega, HR3, by show _ ≤ _; rw [blockSrc_snoc]; have := HSL.out; have := Hk.out; simp; omega, by show _ ≤ _; have := HTL.out; omega, .inr ⟨m, rfl, blocks_err hm.out⟩⟩
            case measure => simp [intOf]; omega
    · skip
      have hinI : ¬ (i : Int) < (n : Int) := by omega
      have htl : t.length ≤ 401 := by have := HTL.out; omega
      have hdl : d.length ≤ 401 := by have := HTL.out; omega
      have hsl : (blockSrc bl).length ≤ 6200 := by have := HSL.out; omega
      have HMODE := Lib.hid hmode
      clear hmode
      go_wp2_with fail
      go_loopw [4, 11] (fun i4 i11 wr2 => ∃ k : Nat, i11 = .int .i64 k ∧ 1 ≤ k ∧ (k = 1 ∨ k ≤ d.length) ∧ Hid (Tryd.Rows3 w (blockSrc bl) (t ++ List.replicate (k - 1) ⟨8, [], (blockSrc bl).length⟩) d (.slice q3 (blockSrc bl).length c3) i4 (.slice q5 d.length c5) wr2)) (fun _ i11 _ => d.length + 1 - (intOf i11).toNat)
      case atStart => exact ⟨1, rfl, Nat.le_refl _, .inl rfl, by show Tryd.Rows3 _ _ _ _ _ _ _ _; rw [Nat.sub_self, List.replicate_zero, List.append_nil]; exact HR.out⟩
      case round =>
        clear HR
        obtain ⟨k, rfl, hk1, hk2, HR6⟩ := hrel
        obtain ⟨TT, hTT⟩ : ∃ TT, t ++ List.replicate (k - 1) ⟨8, [], (blockSrc bl).length⟩ = TT := ⟨_, rfl⟩
        rw [hTT] at HR6
        obtain ⟨q8, c8, rfl⟩ := slice_form HR6.out.2.1
        have hb6 := HR6.out.size
        have hTl : TT.length ≤ 1000 := by rw [← hTT, List.length_append, List.length_replicate]; omega
        have HTT := Lib.hid hTT
        have HK2 := Lib.hid hk2
        clear hTT hk2
        by_cases hkd : k < d.length
        · have hkI : (k : Int) < (d.length : Int) := by omega
          go_wp2_with (
            at_builtin; refine wpList_append_lies _ rfl _ _ 24 rfl w.heap.size 35 it _ 3 32 Tryd.underlying24 hti ht0 ht1 ht2 rfl (by omega) _ TT.length (tokCells TT) rfl (HR6.out.2.1.alloc _) ⟨wr.heap.size, 0, none⟩ 1 1 (tokCells [⟨8, [], (blockSrc bl).length⟩]) rfl rfl (World.news_of_block (cs := #[.int .i64 (8 : Int), .string ⟨#[]⟩, .int .i64 ((blockSrc bl).length : Int)]) (t := 35) (fr := (0, 0)) (alloc_new wr _)) (by simp [tokCells, Value.oneCell']) (by omega) (by unfold maxLen; omega) (by omega) (by simp; omega) (wr.heap.size + 1) (by simp) ?_; intro gt ct w7 hownt hgrowt hatt hltt
            have HR7 : Hid (Tryd.Rows3 w (blockSrc bl) (TT ++ [⟨8, [], (blockSrc bl).length⟩]) d (.slice q3 (blockSrc bl).length c3) (.slice (some ⟨gt, 0, none⟩) (TT.length + 1) ct) (.slice q5 d.length c5) w7) := by
              refine (HR6.out.alloc _).growT hgrowt ?_
              rw [List.length_append, tokCells_append]; exact hownt
            clear hownt hgrowt hatt hltt)
          go_roundw
          case rel => exact ⟨k + 1, by go_num, by omega, .inr (by omega), by have e : t ++ List.replicate (k + 1 - 1) ⟨8, [], (blockSrc bl).length⟩ = TT ++ [⟨8, [], (blockSrc bl).length⟩] := by { rw [← HTT.out, List.append_assoc, ← List.replicate_succ', show k - 1 + 1 = k + 1 - 1 by omega] }; rw [e]; exact HR7⟩
          case measure => simp [intOf]; omega
        · have hkI : ¬ (k : Int) < (d.length : Int) := by omega
          obtain ⟨TE, hTE⟩ : ∃ TE, TT ++ [⟨9, [], (blockSrc bl).length⟩] = TE := ⟨_, rfl⟩
          have HTE := Lib.hid hTE
          clear hTE
          go_wp2_with (
            at_builtin; refine wpList_append_lies _ rfl _ _ 24 rfl w.heap.size 35 it _ 3 32 Tryd.underlying24 hti ht0 ht1 ht2 rfl (by omega) _ TT.length (tokCells TT) rfl (HR6.out.2.1.alloc _) ⟨wr.heap.size, 0, none⟩ 1 1 (tokCells [⟨9, [], (blockSrc bl).length⟩]) rfl rfl (World.news_of_block (cs := #[.int .i64 (9 : Int), .string ⟨#[]⟩, .int .i64 ((blockSrc bl).length : Int)]) (t := 35) (fr := (0, 0)) (alloc_new wr _)) (by simp [tokCells, Value.oneCell']) (by omega) (by unfold maxLen; omega) (by omega) (by simp; omega) (wr.heap.size + 1) (by simp) ?_; intro gt ct w8 hownt hgrowt hatt hltt
            have HR8 : Hid (Tryd.Rows3 w (blockSrc bl) TE d (.slice q3 (blockSrc bl).length c3) (.slice (some ⟨gt, 0, none⟩) (TT.length + 1) ct) (.slice q5 d.length c5) w8) := by
              rw [← HTE.out]
              refine (HR6.out.alloc _).growT hgrowt ?_
              rw [List.length_append, tokCells_append]; exact hownt
            clear hownt hgrowt hatt hltt)
          have hb8 := HR8.out.size
          obtain ⟨_, hbs⟩ := BsIn.of_own HR8.out.1
          have HTok : Hid (Calls Tryd.prog 10 #[.slice q3 (blockSrc bl).length c3] w8 (Tryd.TokOut w8 (lex (blockSrc bl)))) := Tryd.tokens_any q3 c3 (bs (blockSrc bl)) w8 hbs (Tryd.Tabs_below HT.out HR8.out.2.2.2 (Nat.le_refl _))
          clear hbs HR6 hb6
          refine HTok.out.mono ?_
          rcases HMODE.out with ⟨rfl, hm⟩ | ⟨m, rfl, hm⟩
          · have hlex : lex (blockSrc bl) = .ok TE := by
              have hkk : k - 1 = d.length - 1 := by have := HK2.out; omega
              rw [lex_blocks_ok bl (by omega) (t, d) hm.out.1, ← HTE.out, ← HTT.out, hkk]
            rw [hlex]
            clear hlex HTok
            rintro e W9 ⟨⟨lv, rfl, o9⟩, b9⟩
            obtain ⟨q9, c9, rfl⟩ := slice_form o9
            have hneg : ¬ (0 : Int) ≤ -1 := by decide
            have hz9 := b9.size
            have h1 := o9.alloc (.cells #[.int .i64 0, .int .i64 0] 26 (0, 0))
            have h2 := (ownsRow_keep HR8.out.2.1 (fun g hg => b9.block g (ownsRow_lt HR8.out.2.1 hg).2)).alloc (.cells #[.int .i64 0, .int .i64 0] 26 (0, 0))
            have HT13 := Lib.hid (Tryd.tokens13_any _ _ _ _ TE TE true _ h1 h2 rfl (fun i hi => ⟨rfl, rfl, fun _ => rfl⟩))
            have HB9 := Lib.hid ((HR8.out.2.2.2.trans (b9.mono hb8)).alloc (show w.heap.size ≤ W9.heap.size by omega) (.cells #[.int .i64 0, .int .i64 0] 26 (0, 0)))
            clear h1 h2 o9 b9
            go_wp2_with fail
            refine HT13.out.mono ?_
            rintro e W10 ⟨rfl, b10⟩
            have HB10 := Lib.hid (HB9.out.trans (b10.mono HB9.out.size))
            clear b10
            go_wp2_with fail
            refine (Tryd.awake13_any _ (Tryd.Tabs_below HT.out HB10.out (Nat.le_refl _))).mono ?_
            rintro e W11 ⟨rfl, b11⟩
            have HB11 := Lib.hid (HB10.out.trans (b11.mono HB10.out.size))
            clear b11
            go_wp2_with fail
            go_ret
            exact ⟨rfl, HB11.out⟩
          · have hlex : lex (blockSrc bl) = .error (103, m) := by rw [lex_blocks bl (by omega), hm.out]
            rw [hlex]
            clear hlex HTok
            rintro e W9 ⟨rfl, b9⟩
            have hm0 : (0 : Int) ≤ (m : Int) := by omega
            have hz9 := b9.size
            have HB9 := Lib.hid ((HR8.out.2.2.2.trans (b9.mono hb8)).alloc (show w.heap.size ≤ W9.heap.size by omega) (.cells #[.int .i64 103, .int .i64 m] 26 (0, 0)))
            clear b9
            go_wp2_with fail
            refine (Tryd.awake13_any _ (Tryd.Tabs_below HT.out HB9.out (Nat.le_refl _))).mono ?_
            rintro e W11 ⟨rfl, b11⟩
            have HB11 := Lib.hid (HB9.out.trans (b11.mono HB9.out.size))
            clear b11
            go_wp2_with fail
            go_ret
            exact ⟨rfl, HB11.out⟩
end Go.Proofs
