/-
  Walks: LexerLays.
-/
import Derived.Test.YtdbkibnplilogaaDoorLwD
import Derived.Test.YtdbkibnplilogaaDoorLwE
set_option linter.unusedVariables false
namespace Go.Proofs
open Go.RowKit Go.Lx Go.Lt

set_option maxHeartbeats 32000000 in
set_option maxRecDepth 100000 in
theorem Tryd.lexerLays_any (qa : Option Addr) (ca : Nat) (ls : List (List P3)) (qr : Option Addr) (cr : Nat) (rs : List Int) (w : World) (hl : LinesIn w qa ls) (hr : IsIn w qr rs) (hT : Tryd.Tabs w) :
    Calls Tryd.prog 7 #[.slice qa ls.length ca, .slice qr rs.length cr] w fun e w' => e = .returned (.bool true) ∧ Below w.heap.size w w' := by
  obtain ⟨iu, hui, hu0, hu1, hu2⟩ := info_parts Tryd.infoU8
  obtain ⟨it, hti, ht0, ht1, ht2⟩ := info_parts Tryd.infoTok
  obtain ⟨n, hn⟩ : ∃ n, ls.length = n := ⟨_, rfl⟩
  obtain ⟨m, hm⟩ : ∃ m, rs.length = m := ⟨_, rfl⟩
  rw [hn, hm]
  have HL := Lib.hid hl
  have HRM := Lib.hid hr
  have HT := Lib.hid hT
  have HN := Lib.hid hn
  have HM := Lib.hid hm
  have H13 := Lib.hid (Tryd.awake13_any w hT)
  clear hl hr hT hn hm
  by_cases h40 : 40 < n
  · have h40I : (40 : Int) < (n : Int) := by omega
    have h40d : decide ((40 : Int) < (n : Int)) = true := by simp; omega
    go_enter Tryd.func7, Tryd.ntmps7
    go_wp2_with fail
    refine H13.out.mono ?_
    rintro e W1 ⟨rfl, b1⟩
    go_wp2_with fail
    go_ret
    exact ⟨rfl, b1⟩
  have h40d : decide ((40 : Int) < (n : Int)) = false := by simp; omega
  by_cases h100 : 100 < m
  · have h100I : (100 : Int) < (m : Int) := by omega
    go_enter Tryd.func7, Tryd.ntmps7
    go_wp2_with fail
    refine H13.out.mono ?_
    rintro e W1 ⟨rfl, b1⟩
    go_wp2_with fail
    go_ret
    exact ⟨rfl, b1⟩
  have h100I : ¬ (100 : Int) < (m : Int) := by omega
  have HR0 : Hid (Tryd.RowsL w [] [] [] (.slice none 0 0) (.slice none 0 0) (.slice none 0 0) w) := ⟨⟨rfl, .inl ⟨rfl, rfl⟩⟩, ⟨rfl, .inl ⟨rfl, rfl⟩⟩, ⟨rfl, .inl ⟨rfl, rfl⟩⟩, fun g h => by (cases h), Below.refl _ _⟩
  clear H13
  go_enter Tryd.func7, Tryd.ntmps7
  go_wp2
  go_loopw [5, 6, 7, 8] (fun i5 i6 i7 i8 wr => ∃ (i : Nat) (a b : List UInt8) (t : List Tok), i8 = .int .i64 i ∧ i ≤ n ∧ Hid (LaidL i a b t) ∧ Hid (Tryd.RowsL w a b t i5 i6 i7 wr)) (fun _ _ _ i8 _ => n - (intOf i8).toNat)
  case atStart => exact ⟨0, [], [], [], rfl, Nat.zero_le _, laidL_zero, HR0⟩
  case round =>
    clear HR0
    obtain ⟨i, a, b, t, rfl, hi, HLD, HR⟩ := hrel
    obtain ⟨q5, c5, rfl⟩ := slice_form HR.out.1
    obtain ⟨q6, c6, rfl⟩ := slice_form HR.out.2.1
    obtain ⟨q7, c7, rfl⟩ := slice_form HR.out.2.2.1
    have hn40 : n ≤ 40 := by omega
    have hbd : a.length ≤ 52000 ∧ b.length ≤ 52000 ∧ t.length ≤ 1640 := by
      obtain ⟨_, _, _, _, _, _, _, _, h7, h8, h9⟩ := HLD.out
      omega
    obtain ⟨hba, hbb, hbt⟩ := hbd
    by_cases hin : i < n
    · have hinI : (i : Int) < (n : Int) := by omega
      obtain ⟨lb, lo, lq, lc, rfl, hlb, hlc0, hlp⟩ := HL.out i (by rw [HN.out]; exact hin)
      have hlc := (HR.out.2.2.2.2.cell (p := ⟨lb, lo + i, none⟩) hlb).trans hlc0
      clear hlc0
      obtain ⟨l, hlx⟩ : ∃ l, ls[i]'(by rw [HN.out]; exact hin) = l := ⟨_, rfl⟩
      rw [hlx] at hlc hlp
      obtain ⟨u, hu⟩ : ∃ u, l.length = u := ⟨_, rfl⟩
      rw [hu] at hlc
      have HU := Lib.hid hu
      have HLP := Lib.hid hlp
      clear hlx hu hlp
      by_cases hu40 : 40 < u
      · have hu40I : (40 : Int) < (u : Int) := by omega
        have H13 := Lib.hid (Tryd.awake13_any wr (Tryd.Tabs_below HT.out HR.out.2.2.2.2 (Nat.le_refl _)))
        go_wp2_with fail
        refine H13.out.mono ?_
        rintro e W1 ⟨rfl, b1⟩
        have B1 := Lib.hid (HR.out.2.2.2.2.trans (b1.mono HR.out.size))
        clear b1
        go_wp2_with fail
        go_ret
        exact ⟨rfl, B1.out⟩
      have hu40I : ¬ (40 : Int) < (u : Int) := by omega
      by_cases hu0' : u = 0
      · subst hu0'
        go_wp2_with fail
        go_roundw
        case rel => exact ⟨i + 1, a, b, t, by go_num, by omega, HLD.out.skip, HR⟩
        case measure => simp [intOf]; omega
      have hu0I : ((u : Int) == 0) = false := by rw [beq_eq_false_iff_ne]; omega
      have hu40n : u ≤ 40 := by omega
      have HNI := Lib.hid hinI
      clear hu40
      obtain ⟨wo, hwo⟩ : ∃ wo : World, wo = wr := ⟨_, rfl⟩
      have HB0 : Hid (Below w.heap.size w wr) := HR.out.2.2.2.2
      go_wp2_with fail
      go_loopw [5, 6, 7, 10] (fun i5 i6 i7 i10 wr2 => ∃ k : Nat, i10 = .int .i64 k ∧ k ≤ u ∧ Hid (Tryd.RowsL w (a ++ seg (fun _ => 1) (l.take k)) (b ++ seg gapOf (l.take k)) (t ++ (l.take k).map tokP) i5 i6 i7 wr2)) (fun _ _ _ i10 _ => u - (intOf i10).toNat)
      case atStart => exact ⟨0, rfl, Nat.zero_le _, by show Tryd.RowsL _ _ _ _ _ _ _ _; simp only [List.take_zero, seg, List.map_nil, List.append_nil]; exact HR.out⟩
      case round =>
        obtain ⟨k, rfl, hk, HR2⟩ := hrel
        have sa := seg_len (fun _ => 1) (fun _ => by decide) (l.take k)
        have sb := seg_len gapOf (fun q => (gapOf_bd q).2) (l.take k)
        have tl : (l.take k).length ≤ 40 := by have := List.length_take_le k l; omega
        obtain ⟨a1, ha1⟩ : ∃ a1, a ++ seg (fun _ => 1) (l.take k) = a1 := ⟨_, rfl⟩
        obtain ⟨b1, hb1⟩ : ∃ b1, b ++ seg gapOf (l.take k) = b1 := ⟨_, rfl⟩
        obtain ⟨t1, ht1'⟩ : ∃ t1, t ++ (l.take k).map tokP = t1 := ⟨_, rfl⟩
        have la1 : a1.length ≤ 54000 := by rw [← ha1, List.length_append]; omega
        have lb1 : b1.length ≤ 54000 := by rw [← hb1, List.length_append]; omega
        have lt1 : t1.length ≤ 1700 := by rw [← ht1', List.length_append, List.length_map]; omega
        rw [ha1, hb1, ht1'] at HR2
        have Ha1 := Lib.hid ha1
        have Hb1 := Lib.hid hb1
        have Ht1 := Lib.hid ht1'
        clear ha1 hb1 ht1' sa sb tl
        obtain ⟨q51, c51, rfl⟩ := slice_form HR2.out.1
        obtain ⟨q61, c61, rfl⟩ := slice_form HR2.out.2.1
        obtain ⟨q71, c71, rfl⟩ := slice_form HR2.out.2.2.1
        have z0 := HR2.out.size
        by_cases hku : k < u
        · have hkuI : (k : Int) < (u : Int) := by omega
          have hkl : k < l.length := by rw [HU.out]; exact hku
          obtain ⟨pb, po, rfl, hpb, p0', p1', p2', wb1, wb2⟩ := HLP.out k hkl
          obtain ⟨p, hp⟩ : ∃ p, l[k] = p := ⟨_, rfl⟩
          rw [hp] at p0' p1' p2' wb1 wb2
          have Hp := Lib.hid hp
          clear hp
          obtain ⟨x1, x2, x3⟩ := p
          simp only at p0' p1' p2' wb1 wb2
          have p0 := (HR2.out.2.2.2.2.cell (p := ⟨pb, po + k * 3, none⟩) hpb).trans p0'
          have p1 := (HR2.out.2.2.2.2.cell (p := ⟨pb, po + k * 3 + 1, none⟩) hpb).trans p1'
          have p2 := (HR2.out.2.2.2.2.cell (p := ⟨pb, po + k * 3 + 2, none⟩) hpb).trans p2'
          have HP2 := Lib.hid p2'
          clear p0' p1' p2'
          obtain ⟨x, hx⟩ : ∃ x, pcP (x1, x2, x3) = x := ⟨_, rfl⟩
          have hok : Pc.Ok x := by rw [← hx]; exact pcOf_ok _ _
          have hxl : x.w.length ≤ 20 := by rw [← hx]; exact pcOf_len _ _
          have hx0 : 0 < (bs x.w).size := by
            obtain ⟨⟨c, r, e, _⟩, _⟩ := hok
            rw [bs_size, e, List.length_cons]; omega
          have hxs : (bs x.w).size ≤ 20 := by rw [bs_size]; exact hxl
          have HPC := Lib.hid (Tryd.piece_any x1 x2 x3 wr wb1)
          rw [show pcOf x1 x2 = x from hx] at HPC
          have Hx := Lib.hid hx
          clear hok hx wb1
          go_wp2_with fail
          refine HPC.out.mono ?_
          intro e W2 h2
          obtain ⟨rfl, b2⟩ := h2
          have HR3 := Lib.hid ((HR2.out.below b2).beside (.cells #[.int .i64 (x.kind : Int), .string (bs x.text), .int .i64 0] 35 (0, 0)))
          have z3 := HR3.out.size
          have z2 : w.heap.size ≤ W2.heap.size := by have := b2.size; omega
          clear b2 p0 p1 p2 HPC
          by_cases hk0 : k = 0
          · skip
            subst hk0
            have hk0I : ¬ (0 : Int) < ((0 : Nat) : Int) := by decide
            have hsw : x.w.length = (bs x.w).size := (bs_size _).symm
            obtain ⟨a2, ha2⟩ : ∃ a2, a1 ++ (x.w : List UInt8) = a2 := ⟨_, rfl⟩
            have la2 : a2.length ≤ a1.length + x.w.length := by rw [← ha2, List.length_append]; exact Nat.le_refl _
            have Ha2 := Lib.hid ha2
            clear ha2
            obtain ⟨b2, hb2⟩ : ∃ b2, b1 ++ (x.w : List UInt8) = b2 := ⟨_, rfl⟩
            have lb2 : b2.length ≤ b1.length + x.w.length := by rw [← hb2, List.length_append]; exact Nat.le_refl _
            have Hb2 := Lib.hid hb2
            clear hb2
            obtain ⟨t2, ht2⟩ : ∃ t2, t1 ++ ([⟨x.kind, x.text, 0⟩] : List Tok) = t2 := ⟨_, rfl⟩
            have lt2 : t2.length ≤ t1.length + 1 := by rw [← ht2, List.length_append]; exact Nat.le_refl _
            have Ht2 := Lib.hid ht2
            clear ht2
            go_wp2_with (first
              | (
                at_builtin; refine wpList_append_str_lies _ rfl _ _ 22 9 rfl w.heap.size 5 iu Tryd.underlying22 Tryd.underlying9 hui hu0 hu1 hu2 _ _ _ rfl HR3.out.1.1 (bs x.w) rfl (by show 0 < (bs x.w).size; omega) (by unfold maxLen; show a1.length + (bs x.w).size ≤ _; omega) (by show a1.length + (bs x.w).size ≤ _; omega) (by omega) ?_; intro gw4 kw4 w4 hown hgrow hat
                have HR4 : Hid (Tryd.RowsK w W2.heap.size (.cells #[.int .i64 (x.kind : Int), .string (bs x.text), .int .i64 0] 35 (0, 0)) a2 b1 t1 (.slice (some ⟨gw4, 0, none⟩) (a1.length + (bs x.w).size) kw4) (.slice q61 b1.length c61) (.slice q71 t1.length c71) w4) := by
                  refine HR3.out.growP hgrow ?_ hat
                  rw [← Ha2.out, u8Cells_append, List.length_append]; exact hown
                have zw4 := HR4.out.size
                clear hown hgrow hat)
              | (
                at_builtin; refine wpList_append_str_lies _ rfl _ _ 22 9 rfl w.heap.size 5 iu Tryd.underlying22 Tryd.underlying9 hui hu0 hu1 hu2 _ _ _ rfl HR4.out.1.2.1 (bs x.w) rfl (by show 0 < (bs x.w).size; omega) (by unfold maxLen; show b1.length + (bs x.w).size ≤ _; omega) (by show b1.length + (bs x.w).size ≤ _; omega) (by omega) ?_; intro gw5 kw5 w5 hown hgrow hat
                have HR5 : Hid (Tryd.RowsK w W2.heap.size (.cells #[.int .i64 (x.kind : Int), .string (bs x.text), .int .i64 0] 35 (0, 0)) a2 b2 t1 (.slice (some ⟨gw4, 0, none⟩) (a1.length + (bs x.w).size) kw4) (.slice (some ⟨gw5, 0, none⟩) (b1.length + (bs x.w).size) kw5) (.slice q71 t1.length c71) w5) := by
                  refine HR4.out.growL hgrow ?_ hat
                  rw [← Hb2.out, u8Cells_append, List.length_append]; exact hown
                have zw5 := HR5.out.size
                have c0 : w5.cell? ⟨W2.heap.size, 0, none⟩ = some (.int .i64 (x.kind : Int)) := (cell_of_heap HR5.out.2.1 0).trans rfl
                have c1 : w5.cell? ⟨W2.heap.size, 1, none⟩ = some (.string (bs x.text)) := (cell_of_heap HR5.out.2.1 1).trans rfl
                have c2 : w5.cell? ⟨W2.heap.size, 2, none⟩ = some (.int .i64 0) := (cell_of_heap HR5.out.2.1 2).trans rfl
                clear hown hgrow hat)
              | (
                at_builtin; refine wpList_append_lies _ rfl _ _ 24 rfl w.heap.size 35 it _ 3 32 Tryd.underlying24 hti ht0 ht1 ht2 rfl (by omega) _ _ _ rfl (HR5.out.1.2.2.1.alloc _) ⟨w5.heap.size, 0, none⟩ 1 1 [.int .i64 (x.kind : Int), .string (bs x.text), .int .i64 (0 : Int)] rfl rfl (World.news_of_block (cs := #[.int .i64 (x.kind : Int), .string (bs x.text), .int .i64 (0 : Int)]) (t := 35) (fr := (0, 0)) (alloc_new w5 _)) (by simp [Value.oneCell']) (by omega) (by unfold maxLen; omega) (by omega) (by simp; omega) (w5.heap.size + 1) (by simp) ?_; intro gw6 kw6 w6 hown hgrow hat hlt
                have HR6 : Hid (Tryd.RowsL w a2 b2 t2 (.slice (some ⟨gw4, 0, none⟩) (a1.length + (bs x.w).size) kw4) (.slice (some ⟨gw5, 0, none⟩) (b1.length + (bs x.w).size) kw5) (.slice (some ⟨gw6, 0, none⟩) (t1.length + 1) kw6) w6) := by
                  refine (HR5.out.1.alloc _).growT hgrow ?_
                  rw [← Ht2.out, tokCells_append, List.length_append]; exact hown
                have zw6 := HR6.out.size
                clear hown hgrow hat hlt))
            go_roundw
            case rel =>
              have e1 : l.take (0 + 1) = [(x1, x2, x3)] := by rw [List.take_succ_eq_append_getElem hkl, Hp.out]; rfl
              have ea : a ++ seg (fun _ => 1) (l.take (0 + 1)) = a2 := by rw [e1, seg_one, Hx.out, ← Ha2.out, ← Ha1.out]; simp [seg]
              have eb : b ++ seg gapOf (l.take (0 + 1)) = b2 := by rw [e1, seg_one, Hx.out, ← Hb2.out, ← Hb1.out]; simp [seg]
              have et : t ++ (l.take (0 + 1)).map tokP = t2 := by rw [e1, ← Ht2.out, ← Ht1.out]; simp [tokP, Hx.out]
              refine ⟨0 + 1, by go_num, by omega, ?_⟩
              rw [ea, eb, et]
              exact HR6
            case measure => simp [intOf]; omega
          · skip
            have hk0I : (0 : Int) < (k : Int) := by omega
            have hkz : l.take k ≠ [] := by
              intro e
              have := congrArg List.length e
              rw [List.length_take, List.length_nil] at this
              omega
            have hsw : x.w.length = (bs x.w).size := (bs_size _).symm
            obtain ⟨g, hg⟩ : ∃ g, (min x3 9).toNat = g := ⟨_, rfl⟩
            have hg9 : g ≤ 9 := by omega
            have hgj : ∀ j : Nat, (j < g → (j : Int) < x3 ∧ (j : Int) < 9) ∧ (¬ j < g → (j : Int) < x3 → ¬ (j : Int) < 9) := fun j => ⟨fun h => ⟨by omega, by omega⟩, fun h h2 => by omega⟩
            have Hgj := Lib.hid hgj
            have Hg := Lib.hid hg
            clear hgj hg wb2
            obtain ⟨a2, ha2⟩ : ∃ a2, a1 ++ ([32] : List UInt8) = a2 := ⟨_, rfl⟩
            have la2 : a2.length ≤ a1.length + 1 := by rw [← ha2, List.length_append]; exact Nat.le_refl _
            have Ha2 := Lib.hid ha2
            clear ha2
            obtain ⟨b2, hb2⟩ : ∃ b2, b1 ++ ([32] : List UInt8) = b2 := ⟨_, rfl⟩
            have lb2 : b2.length ≤ b1.length + 1 := by rw [← hb2, List.length_append]; exact Nat.le_refl _
            have Hb2 := Lib.hid hb2
            clear hb2
            obtain ⟨a3, ha3⟩ : ∃ a3, a2 ++ (x.w : List UInt8) = a3 := ⟨_, rfl⟩
            have la3 : a3.length ≤ a2.length + x.w.length := by rw [← ha3, List.length_append]; exact Nat.le_refl _
            have Ha3 := Lib.hid ha3
            clear ha3
            obtain ⟨t2, ht2⟩ : ∃ t2, t1 ++ ([⟨x.kind, x.text, 0⟩] : List Tok) = t2 := ⟨_, rfl⟩
            have lt2 : t2.length ≤ t1.length + 1 := by rw [← ht2, List.length_append]; exact Nat.le_refl _
            have Ht2 := Lib.hid ht2
            clear ht2
            go_wp2_with (first
              | (
                at_builtin; refine wpList_append_lies _ rfl _ _ 22 rfl w.heap.size 5 iu (.int .u8 0) 1 1 Tryd.underlying22 hui hu0 hu1 hu2 rfl (by decide) _ _ _ rfl (HR3.out.1.1.alloc _) ⟨W2.heap.size + 1, 0, none⟩ 1 1 (u8Cells [32]) rfl rfl (World.news_of_block (cs := #[.int .u8 32]) (t := 5) (fr := (0, 0)) (alloc_at (W2.alloc (.cells #[.int .i64 (x.kind : Int), .string (bs x.text), .int .i64 0] 35 (0, 0))) _ _ (by simp))) (u8Cells_one _) (by omega) (by unfold maxLen; omega) (by omega) (by simp; omega) (W2.heap.size + 1 + 1) (by simp) ?_; intro gw4 kw4 w4 hown hgrow hat hlt
                have HR4 : Hid (Tryd.RowsK w W2.heap.size (.cells #[.int .i64 (x.kind : Int), .string (bs x.text), .int .i64 0] 35 (0, 0)) a2 b1 t1 (.slice (some ⟨gw4, 0, none⟩) (a1.length + 1) kw4) (.slice q61 b1.length c61) (.slice q71 t1.length c71) w4) := by
                  refine (HR3.out.alloc _).growP hgrow ?_ (hat.imp id (fun h => by rw [h]; simp))
                  rw [← Ha2.out, u8Cells_append, List.length_append]; exact hown
                have zw4 := HR4.out.size
                clear hown hgrow hat hlt)
              | (
                at_builtin; refine wpList_append_lies _ rfl _ _ 22 rfl w.heap.size 5 iu (.int .u8 0) 1 1 Tryd.underlying22 hui hu0 hu1 hu2 rfl (by decide) _ _ _ rfl (HR4.out.1.2.1.alloc _) ⟨w4.heap.size, 0, none⟩ 1 1 (u8Cells [32]) rfl rfl (World.news_of_block (cs := #[.int .u8 32]) (t := 5) (fr := (0, 0)) (alloc_at w4 _ _ (by simp))) (u8Cells_one _) (by omega) (by unfold maxLen; omega) (by omega) (by simp; omega) (w4.heap.size + 1) (by simp) ?_; intro gw5 kw5 w5 hown hgrow hat hlt
                have HR5 : Hid (Tryd.RowsK w W2.heap.size (.cells #[.int .i64 (x.kind : Int), .string (bs x.text), .int .i64 0] 35 (0, 0)) a2 b2 t1 (.slice (some ⟨gw4, 0, none⟩) (a1.length + 1) kw4) (.slice (some ⟨gw5, 0, none⟩) (b1.length + 1) kw5) (.slice q71 t1.length c71) w5) := by
                  refine (HR4.out.alloc _).growL hgrow ?_ (hat.imp id (fun h => by rw [h]; simp))
                  rw [← Hb2.out, u8Cells_append, List.length_append]; exact hown
                have zw5 := HR5.out.size
                clear hown hgrow hat hlt))
            clear HR3 HR4 z3 zw4
            go_loopw [6, 13] (fun i6 i13 wr3 => ∃ j : Nat, i13 = .int .i64 j ∧ j ≤ g ∧ Hid (Tryd.RowsK w W2.heap.size (.cells #[.int .i64 (x.kind : Int), .string (bs x.text), .int .i64 0] 35 (0, 0)) a2 (b2 ++ List.replicate j 32) t1 (.slice (some ⟨gw4, 0, none⟩) (a1.length + 1) kw4) i6 (.slice q71 t1.length c71) wr3)) (fun _ i13 _ => g - (intOf i13).toNat)
            case atStart => exact ⟨0, rfl, Nat.zero_le _, by show Tryd.RowsK _ _ _ _ _ _ _ _ _ _; rw [List.replicate_zero, List.append_nil]; exact HR5.out⟩
            case round =>
              clear HR5 zw5
              obtain ⟨j, rfl, hj, HR7⟩ := hrel
              obtain ⟨b3, hb3⟩ : ∃ b3, b2 ++ List.replicate j (32 : UInt8) = b3 := ⟨_, rfl⟩
              rw [hb3] at HR7
              have lb3 : b3.length ≤ 54010 := by rw [← hb3, List.length_append, List.length_replicate]; omega
              have Hb3 := Lib.hid hb3
              clear hb3
              obtain ⟨q63, c63, rfl⟩ := slice_form HR7.out.1.2.1
              have z7 := HR7.out.size
              have p7 := (HR7.out.1.2.2.2.2.cell (p := ⟨pb, po + k * 3 + 2, none⟩) hpb).trans HP2.out
              by_cases hjg : j < g
              · obtain ⟨y1, y2⟩ := (Hgj.out j).1 hjg
                have y1d : decide ((j : Int) < x3) = true := by simpa using y1
                have y2d : decide ((j : Int) < 9) = true := by simpa using y2
                obtain ⟨b4, hb4⟩ : ∃ b4, b3 ++ ([32] : List UInt8) = b4 := ⟨_, rfl⟩
                have lb4 : b4.length ≤ b3.length + 1 := by rw [← hb4, List.length_append]; exact Nat.le_refl _
                have Hb4 := Lib.hid hb4
                clear hb4
                go_wp2_with (
                  at_builtin; refine wpList_append_lies _ rfl _ _ 22 rfl w.heap.size 5 iu (.int .u8 0) 1 1 Tryd.underlying22 hui hu0 hu1 hu2 rfl (by decide) _ _ _ rfl (HR7.out.1.2.1.alloc _) ⟨wr.heap.size, 0, none⟩ 1 1 (u8Cells [32]) rfl rfl (World.news_of_block (cs := #[.int .u8 32]) (t := 5) (fr := (0, 0)) (alloc_at wr _ _ (by simp))) (u8Cells_one _) (by omega) (by unfold maxLen; omega) (by omega) (by simp; omega) (wr.heap.size + 1) (by simp) ?_; intro gw8 kw8 w8 hown hgrow hat hlt
                  have HR8 : Hid (Tryd.RowsK w W2.heap.size (.cells #[.int .i64 (x.kind : Int), .string (bs x.text), .int .i64 0] 35 (0, 0)) a2 b4 t1 (.slice (some ⟨gw4, 0, none⟩) (a1.length + 1) kw4) (.slice (some ⟨gw8, 0, none⟩) (b3.length + 1) kw8) (.slice q71 t1.length c71) w8) := by
                    refine (HR7.out.alloc _).growL hgrow ?_ (hat.imp id (fun h => by rw [h]; simp))
                    rw [← Hb4.out, u8Cells_append, List.length_append]; exact hown
                  have zw8 := HR8.out.size
                  clear hown hgrow hat hlt)
                go_roundw
                case rel => exact ⟨j + 1, by go_num, by omega, by rw [List.replicate_succ', ← List.append_assoc, Hb3.out, Hb4.out]; exact HR8⟩
                case measure => simp [intOf]; omega
              · obtain rfl : j = g := by omega
                have y2 := (Hgj.out j).2 hjg
                have H13 : True := trivial
                by_cases hx3 : (j : Int) < x3
                all_goals
                  first | (have y1d : decide ((j : Int) < x3) = true := by simpa using hx3) | (have y1d : decide ((j : Int) < x3) = false := by simpa using hx3)
                  first | (have y2d : decide ((j : Int) < 9) = false := by simpa using y2 hx3) | skip
                  clear y2 hx3
                  obtain ⟨b4, hb4⟩ : ∃ b4, b3 ++ (x.w : List UInt8) = b4 := ⟨_, rfl⟩
                  have lb4 : b4.length ≤ b3.length + x.w.length := by rw [← hb4, List.length_append]; exact Nat.le_refl _
                  have Hb4 := Lib.hid hb4
                  clear hb4
                  go_wp2_with (first
                    | (
                      at_builtin; refine wpList_append_str_lies _ rfl _ _ 22 9 rfl w.heap.size 5 iu Tryd.underlying22 Tryd.underlying9 hui hu0 hu1 hu2 _ _ _ rfl HR7.out.1.1 (bs x.w) rfl (by show 0 < (bs x.w).size; omega) (by unfold maxLen; show a2.length + (bs x.w).size ≤ _; omega) (by show a2.length + (bs x.w).size ≤ _; omega) (by omega) ?_; intro gw8 kw8 w8 hown hgrow hat
                      have HR8 : Hid (Tryd.RowsK w W2.heap.size (.cells #[.int .i64 (x.kind : Int), .string (bs x.text), .int .i64 0] 35 (0, 0)) a3 b3 t1 (.slice (some ⟨gw8, 0, none⟩) (a2.length + (bs x.w).size) kw8) (.slice q63 b3.length c63) (.slice q71 t1.length c71) w8) := by
                        refine HR7.out.growP hgrow ?_ hat
                        rw [← Ha3.out, u8Cells_append, List.length_append]; exact hown
                      have zw8 := HR8.out.size
                      clear hown hgrow hat)
                    | (
                      at_builtin; refine wpList_append_str_lies _ rfl _ _ 22 9 rfl w.heap.size 5 iu Tryd.underlying22 Tryd.underlying9 hui hu0 hu1 hu2 _ _ _ rfl HR8.out.1.2.1 (bs x.w) rfl (by show 0 < (bs x.w).size; omega) (by unfold maxLen; show b3.length + (bs x.w).size ≤ _; omega) (by show b3.length + (bs x.w).size ≤ _; omega) (by omega) ?_; intro gw9 kw9 w9 hown hgrow hat
                      have HR9 : Hid (Tryd.RowsK w W2.heap.size (.cells #[.int .i64 (x.kind : Int), .string (bs x.text), .int .i64 0] 35 (0, 0)) a3 b4 t1 (.slice (some ⟨gw8, 0, none⟩) (a2.length + (bs x.w).size) kw8) (.slice (some ⟨gw9, 0, none⟩) (b3.length + (bs x.w).size) kw9) (.slice q71 t1.length c71) w9) := by
                        refine HR8.out.growL hgrow ?_ hat
                        rw [← Hb4.out, u8Cells_append, List.length_append]; exact hown
                      have zw9 := HR9.out.size
                      have c0 : w9.cell? ⟨W2.heap.size, 0, none⟩ = some (.int .i64 (x.kind : Int)) := (cell_of_heap HR9.out.2.1 0).trans rfl
                      have c1 : w9.cell? ⟨W2.heap.size, 1, none⟩ = some (.string (bs x.text)) := (cell_of_heap HR9.out.2.1 1).trans rfl
                      have c2 : w9.cell? ⟨W2.heap.size, 2, none⟩ = some (.int .i64 0) := (cell_of_heap HR9.out.2.1 2).trans rfl
                      clear hown hgrow hat)
                    | (
                      at_builtin; refine wpList_append_lies _ rfl _ _ 24 rfl w.heap.size 35 it _ 3 32 Tryd.underlying24 hti ht0 ht1 ht2 rfl (by omega) _ _ _ rfl (HR9.out.1.2.2.1.alloc _) ⟨w9.heap.size, 0, none⟩ 1 1 [.int .i64 (x.kind : Int), .string (bs x.text), .int .i64 (0 : Int)] rfl rfl (World.news_of_block (cs := #[.int .i64 (x.kind : Int), .string (bs x.text), .int .i64 (0 : Int)]) (t := 35) (fr := (0, 0)) (alloc_new w9 _)) (by simp [Value.oneCell']) (by omega) (by unfold maxLen; omega) (by omega) (by simp; omega) (w9.heap.size + 1) (by simp) ?_; intro gw10 kw10 w10 hown hgrow hat hlt
                      have HR10 : Hid (Tryd.RowsL w a3 b4 t2 (.slice (some ⟨gw8, 0, none⟩) (a2.length + (bs x.w).size) kw8) (.slice (some ⟨gw9, 0, none⟩) (b3.length + (bs x.w).size) kw9) (.slice (some ⟨gw10, 0, none⟩) (t1.length + 1) kw10) w10) := by
                        refine (HR9.out.1.alloc _).growT hgrow ?_
                        rw [← Ht2.out, tokCells_append, List.length_append]; exact hown
                      have zw10 := HR10.out.size
                      clear hown hgrow hat hlt))
                  go_roundw
                  case rel =>
                    have e1 : l.take (k + 1) = l.take k ++ [(x1, x2, x3)] := by rw [List.take_succ_eq_append_getElem hkl, Hp.out]
                    have eg : gapOf (x1, x2, x3) = 1 + j := by unfold gapOf; rw [Hg.out]
                    have ea : a ++ seg (fun _ => 1) (l.take (k + 1)) = a3 := by rw [e1, seg_snoc _ _ _ hkz, Hx.out, ← Ha3.out, ← Ha2.out, ← Ha1.out]; simp
                    have eb : b ++ seg gapOf (l.take (k + 1)) = b4 := by rw [e1, seg_snoc _ _ _ hkz, Hx.out, ← Hb4.out, ← Hb3.out, ← Hb2.out, ← Hb1.out, eg, Nat.add_comm 1 j, List.replicate_succ]; simp
                    have et : t ++ (l.take (k + 1)).map tokP = t2 := by rw [e1, ← Ht2.out, ← Ht1.out]; simp [tokP, Hx.out]
                    refine ⟨k + 1, by go_num, by omega, ?_⟩
                    rw [ea, eb, et]
                    exact HR10
                  case measure => simp [intOf]; omega
        · obtain rfl : k = u := by omega
          have hkuI : ¬ (k : Int) < (k : Int) := by omega
          clear hku
          by_cases him : i < m
          · have himI : (i : Int) < (m : Int) := by omega
            have himd : decide ((i : Int) < (m : Int)) = true := by simpa using himI
            obtain ⟨rb, ro, rfl, hrb, hrc⟩ := HRM.out i (by rw [HM.out]; exact him)
            obtain ⟨z, hz⟩ : ∃ z, rs[i]'(by rw [HM.out]; exact him) = z := ⟨_, rfl⟩
            rw [hz] at hrc
            have hrc2 := (HR2.out.2.2.2.2.cell (p := ⟨rb, ro + i, none⟩) hrb).trans hrc
            have HRC := Lib.hid hrc
            clear hrc hz
            obtain ⟨rm, hrm⟩ : ∃ rm, (bits BinOp.and IntKind.i64 z 1 == 1) = rm := ⟨_, rfl⟩
            obtain ⟨tr, htr⟩ : ∃ tr, (bits BinOp.and IntKind.i64 z 2 == 2) = tr := ⟨_, rfl⟩
            cases rm <;> cases tr
            · skip
              obtain ⟨a2, ha2⟩ : ∃ a2, a1 ++ ([10] : List UInt8) = a2 := ⟨_, rfl⟩
              have la2 : a2.length ≤ a1.length + 1 := by rw [← ha2, List.length_append]; exact Nat.le_refl _
              have Ha2 := Lib.hid ha2
              clear ha2
              obtain ⟨b3, hb3⟩ : ∃ b3, b1 ++ ([10] : List UInt8) = b3 := ⟨_, rfl⟩
              have lb3 : b3.length ≤ b1.length + 1 := by rw [← hb3, List.length_append]; exact Nat.le_refl _
              have Hb3 := Lib.hid hb3
              clear hb3
              obtain ⟨t2, ht2⟩ : ∃ t2, t1 ++ ([⟨6, [], 0⟩] : List Tok) = t2 := ⟨_, rfl⟩
              have lt2 : t2.length ≤ t1.length + 1 := by rw [← ht2, List.length_append]; exact Nat.le_refl _
              have Ht2 := Lib.hid ht2
              clear ht2
              go_wp2_with (first
                | (
                  at_builtin; refine wpList_append_lies _ rfl _ _ 22 rfl w.heap.size 5 iu (.int .u8 0) 1 1 Tryd.underlying22 hui hu0 hu1 hu2 rfl (by decide) _ _ _ rfl (HR2.out.1.alloc _) ⟨wr.heap.size, 0, none⟩ 1 1 (u8Cells [10]) rfl rfl (World.news_of_block (cs := #[.int .u8 10]) (t := 5) (fr := (0, 0)) (alloc_at wr _ _ (by simp))) (u8Cells_one _) (by omega) (by unfold maxLen; omega) (by omega) (by simp; omega) (wr.heap.size + 1) (by simp) ?_; intro gw4 kw4 w4 hown hgrow hat hlt
                  have HR4 : Hid (Tryd.RowsL w a2 b1 t1 (.slice (some ⟨gw4, 0, none⟩) (a1.length + 1) kw4) (.slice q61 b1.length c61) (.slice q71 t1.length c71) w4) := by
                    refine (HR2.out.alloc _).growP hgrow ?_ (hat.imp id (fun h => by rw [h]; simp))
                    rw [← Ha2.out, u8Cells_append, List.length_append]; exact hown
                  have zw4 := HR4.out.size
                  clear hown hgrow hat hlt)
                | (
                  at_builtin; refine wpList_append_lies _ rfl _ _ 22 rfl w.heap.size 5 iu (.int .u8 0) 1 1 Tryd.underlying22 hui hu0 hu1 hu2 rfl (by decide) _ _ _ rfl (HR4.out.2.1.alloc _) ⟨w4.heap.size, 0, none⟩ 1 1 (u8Cells [10]) rfl rfl (World.news_of_block (cs := #[.int .u8 10]) (t := 5) (fr := (0, 0)) (alloc_at w4 _ _ (by simp))) (u8Cells_one _) (by omega) (by unfold maxLen; omega) (by omega) (by simp; omega) (w4.heap.size + 1) (by simp) ?_; intro gw5 kw5 w5 hown hgrow hat hlt
                  have HR5 : Hid (Tryd.RowsL w a2 b3 t1 (.slice (some ⟨gw4, 0, none⟩) (a1.length + 1) kw4) (.slice (some ⟨gw5, 0, none⟩) (b1.length + 1) kw5) (.slice q71 t1.length c71) w5) := by
                    refine (HR4.out.alloc _).growL hgrow ?_ (hat.imp id (fun h => by rw [h]; simp))
                    rw [← Hb3.out, u8Cells_append, List.length_append]; exact hown
                  have zw5 := HR5.out.size
                  have hrc3 := (HR5.out.2.2.2.2.cell (p := ⟨rb, ro + i, none⟩) hrb).trans HRC.out
                  clear hown hgrow hat hlt)
                | (
                  at_builtin; refine wpList_append_lies _ rfl _ _ 24 rfl w.heap.size 35 it _ 3 32 Tryd.underlying24 hti ht0 ht1 ht2 rfl (by omega) _ _ _ rfl (HR5.out.2.2.1.alloc _) ⟨w5.heap.size, 0, none⟩ 1 1 [.int .i64 (6 : Int), .string ⟨#[]⟩, .int .i64 (0 : Int)] rfl rfl (World.news_of_block (cs := #[.int .i64 (6 : Int), .string ⟨#[]⟩, .int .i64 (0 : Int)]) (t := 35) (fr := (0, 0)) (alloc_new w5 _)) (by simp [Value.oneCell']) (by omega) (by unfold maxLen; omega) (by omega) (by simp; omega) (w5.heap.size + 1) (by simp) ?_; intro gw6 kw6 w6 hown hgrow hat hlt
                  have HR6 : Hid (Tryd.RowsL w a2 b3 t2 (.slice (some ⟨gw4, 0, none⟩) (a1.length + 1) kw4) (.slice (some ⟨gw5, 0, none⟩) (b1.length + 1) kw5) (.slice (some ⟨gw6, 0, none⟩) (t1.length + 1) kw6) w6) := by
                    refine (HR5.out.alloc _).growT hgrow ?_
                    rw [← Ht2.out, tokCells_append, List.length_append]; exact hown
                  have zw6 := HR6.out.size
                  clear hown hgrow hat hlt))
              go_roundw
              case rel =>
                have hlk : l.take k = l := List.take_of_length_le (by rw [HU.out]; exact Nat.le_refl _)
                have hln : l ≠ [] := by
                  intro e
                  have := HU.out
                  rw [e] at this
                  exact hu0' this.symm
                have ea : a2 = a ++ seg (fun _ => 1) l ++ [10] := by rw [← Ha2.out, ← Ha1.out, hlk]
                have eb : b3 = b ++ seg gapOf l ++ rmk false ++ [10] ++ trl false := by rw [← Hb3.out, ← Hb1.out, hlk]; try simp [rmk, trl]
                have et : t2 = t ++ l.map tokP ++ [⟨6, [], 0⟩] := by rw [← Ht2.out, ← Ht1.out, hlk]
                exact ⟨i + 1, a2, b3, t2, by go_num, by have := HNI.out; omega, by show LaidL _ _ _ _; rw [ea, eb, et]; exact HLD.out.line l hln (by rw [HU.out]; exact hu40n) false false, HR6⟩
              case measure => have := HNI.out; simp [intOf]; omega
            · skip
              obtain ⟨a2, ha2⟩ : ∃ a2, a1 ++ ([10] : List UInt8) = a2 := ⟨_, rfl⟩
              have la2 : a2.length ≤ a1.length + 1 := by rw [← ha2, List.length_append]; exact Nat.le_refl _
              have Ha2 := Lib.hid ha2
              clear ha2
              obtain ⟨b3, hb3⟩ : ∃ b3, b1 ++ ([10] : List UInt8) = b3 := ⟨_, rfl⟩
              have lb3 : b3.length ≤ b1.length + 1 := by rw [← hb3, List.length_append]; exact Nat.le_refl _
              have Hb3 := Lib.hid hb3
              clear hb3
              obtain ⟨b4, hb4⟩ : ∃ b4, b3 ++ (trl true : List UInt8) = b4 := ⟨_, rfl⟩
              have lb4 : b4.length ≤ b3.length + 11 := by rw [← hb4, List.length_append]; exact Nat.le_refl _
              have Hb4 := Lib.hid hb4
              clear hb4
              obtain ⟨t2, ht2⟩ : ∃ t2, t1 ++ ([⟨6, [], 0⟩] : List Tok) = t2 := ⟨_, rfl⟩
              have lt2 : t2.length ≤ t1.length + 1 := by rw [← ht2, List.length_append]; exact Nat.le_refl _
              have Ht2 := Lib.hid ht2
              clear ht2
              go_wp2_with (first
                | (
                  at_builtin; refine wpList_append_lies _ rfl _ _ 22 rfl w.heap.size 5 iu (.int .u8 0) 1 1 Tryd.underlying22 hui hu0 hu1 hu2 rfl (by decide) _ _ _ rfl (HR2.out.1.alloc _) ⟨wr.heap.size, 0, none⟩ 1 1 (u8Cells [10]) rfl rfl (World.news_of_block (cs := #[.int .u8 10]) (t := 5) (fr := (0, 0)) (alloc_at wr _ _ (by simp))) (u8Cells_one _) (by omega) (by unfold maxLen; omega) (by omega) (by simp; omega) (wr.heap.size + 1) (by simp) ?_; intro gw4 kw4 w4 hown hgrow hat hlt
                  have HR4 : Hid (Tryd.RowsL w a2 b1 t1 (.slice (some ⟨gw4, 0, none⟩) (a1.length + 1) kw4) (.slice q61 b1.length c61) (.slice q71 t1.length c71) w4) := by
                    refine (HR2.out.alloc _).growP hgrow ?_ (hat.imp id (fun h => by rw [h]; simp))
                    rw [← Ha2.out, u8Cells_append, List.length_append]; exact hown
                  have zw4 := HR4.out.size
                  clear hown hgrow hat hlt)
                | (
                  at_builtin; refine wpList_append_lies _ rfl _ _ 22 rfl w.heap.size 5 iu (.int .u8 0) 1 1 Tryd.underlying22 hui hu0 hu1 hu2 rfl (by decide) _ _ _ rfl (HR4.out.2.1.alloc _) ⟨w4.heap.size, 0, none⟩ 1 1 (u8Cells [10]) rfl rfl (World.news_of_block (cs := #[.int .u8 10]) (t := 5) (fr := (0, 0)) (alloc_at w4 _ _ (by simp))) (u8Cells_one _) (by omega) (by unfold maxLen; omega) (by omega) (by simp; omega) (w4.heap.size + 1) (by simp) ?_; intro gw5 kw5 w5 hown hgrow hat hlt
                  have HR5 : Hid (Tryd.RowsL w a2 b3 t1 (.slice (some ⟨gw4, 0, none⟩) (a1.length + 1) kw4) (.slice (some ⟨gw5, 0, none⟩) (b1.length + 1) kw5) (.slice q71 t1.length c71) w5) := by
                    refine (HR4.out.alloc _).growL hgrow ?_ (hat.imp id (fun h => by rw [h]; simp))
                    rw [← Hb3.out, u8Cells_append, List.length_append]; exact hown
                  have zw5 := HR5.out.size
                  have hrc3 := (HR5.out.2.2.2.2.cell (p := ⟨rb, ro + i, none⟩) hrb).trans HRC.out
                  clear hown hgrow hat hlt)
                | (
                  at_builtin; refine wpList_append_str_lies _ rfl _ _ 22 9 rfl w.heap.size 5 iu Tryd.underlying22 Tryd.underlying9 hui hu0 hu1 hu2 _ _ _ rfl HR5.out.2.1 ⟨#[32, 32, 32, 35, 32, 40, 10, 10, 32, 32, 10]⟩ rfl (by show 0 < 11; omega) (by unfold maxLen; show b3.length + 11 ≤ _; omega) (by show b3.length + 11 ≤ _; omega) (by omega) ?_; intro gw6 kw6 w6 hown hgrow hat
                  have HR6 : Hid (Tryd.RowsL w a2 b4 t1 (.slice (some ⟨gw4, 0, none⟩) (a1.length + 1) kw4) (.slice (some ⟨gw6, 0, none⟩) (b3.length + 11) kw6) (.slice q71 t1.length c71) w6) := by
                    refine HR5.out.growL hgrow ?_ hat
                    rw [← Hb4.out, u8Cells_append, List.length_append]; exact hown
                  have zw6 := HR6.out.size
                  clear hown hgrow hat)
                | (
                  at_builtin; refine wpList_append_lies _ rfl _ _ 24 rfl w.heap.size 35 it _ 3 32 Tryd.underlying24 hti ht0 ht1 ht2 rfl (by omega) _ _ _ rfl (HR6.out.2.2.1.alloc _) ⟨w6.heap.size, 0, none⟩ 1 1 [.int .i64 (6 : Int), .string ⟨#[]⟩, .int .i64 (0 : Int)] rfl rfl (World.news_of_block (cs := #[.int .i64 (6 : Int), .string ⟨#[]⟩, .int .i64 (0 : Int)]) (t := 35) (fr := (0, 0)) (alloc_new w6 _)) (by simp [Value.oneCell']) (by omega) (by unfold maxLen; omega) (by omega) (by simp; omega) (w6.heap.size + 1) (by simp) ?_; intro gw7 kw7 w7 hown hgrow hat hlt
                  have HR7 : Hid (Tryd.RowsL w a2 b4 t2 (.slice (some ⟨gw4, 0, none⟩) (a1.length + 1) kw4) (.slice (some ⟨gw6, 0, none⟩) (b3.length + 11) kw6) (.slice (some ⟨gw7, 0, none⟩) (t1.length + 1) kw7) w7) := by
                    refine (HR6.out.alloc _).growT hgrow ?_
                    rw [← Ht2.out, tokCells_append, List.length_append]; exact hown
                  have zw7 := HR7.out.size
                  clear hown hgrow hat hlt))
              go_roundw
              case rel =>
                have hlk : l.take k = l := List.take_of_length_le (by rw [HU.out]; exact Nat.le_refl _)
                have hln : l ≠ [] := by
                  intro e
                  have := HU.out
                  rw [e] at this
                  exact hu0' this.symm
                have ea : a2 = a ++ seg (fun _ => 1) l ++ [10] := by rw [← Ha2.out, ← Ha1.out, hlk]
                have eb : b4 = b ++ seg gapOf l ++ rmk false ++ [10] ++ trl true := by rw [← Hb4.out, ← Hb3.out, ← Hb1.out, hlk]; try simp [rmk, trl]
                have et : t2 = t ++ l.map tokP ++ [⟨6, [], 0⟩] := by rw [← Ht2.out, ← Ht1.out, hlk]
                exact ⟨i + 1, a2, b4, t2, by go_num, by have := HNI.out; omega, by show LaidL _ _ _ _; rw [ea, eb, et]; exact HLD.out.line l hln (by rw [HU.out]; exact hu40n) false true, HR7⟩
              case measure => have := HNI.out; simp [intOf]; omega
            · skip
              obtain ⟨a2, ha2⟩ : ∃ a2, a1 ++ ([10] : List UInt8) = a2 := ⟨_, rfl⟩
              have la2 : a2.length ≤ a1.length + 1 := by rw [← ha2, List.length_append]; exact Nat.le_refl _
              have Ha2 := Lib.hid ha2
              clear ha2
              obtain ⟨b2, hb2⟩ : ∃ b2, b1 ++ (rmk true : List UInt8) = b2 := ⟨_, rfl⟩
              have lb2 : b2.length ≤ b1.length + 9 := by rw [← hb2, List.length_append]; exact Nat.le_refl _
              have Hb2 := Lib.hid hb2
              clear hb2
              obtain ⟨b3, hb3⟩ : ∃ b3, b2 ++ ([10] : List UInt8) = b3 := ⟨_, rfl⟩
              have lb3 : b3.length ≤ b2.length + 1 := by rw [← hb3, List.length_append]; exact Nat.le_refl _
              have Hb3 := Lib.hid hb3
              clear hb3
              obtain ⟨t2, ht2⟩ : ∃ t2, t1 ++ ([⟨6, [], 0⟩] : List Tok) = t2 := ⟨_, rfl⟩
              have lt2 : t2.length ≤ t1.length + 1 := by rw [← ht2, List.length_append]; exact Nat.le_refl _
              have Ht2 := Lib.hid ht2
              clear ht2
              go_wp2_with (first
                | (
                  at_builtin; refine wpList_append_str_lies _ rfl _ _ 22 9 rfl w.heap.size 5 iu Tryd.underlying22 Tryd.underlying9 hui hu0 hu1 hu2 _ _ _ rfl HR2.out.2.1 ⟨#[32, 35, 32, 39, 120, 255, 9, 105, 102]⟩ rfl (by show 0 < 9; omega) (by unfold maxLen; show b1.length + 9 ≤ _; omega) (by show b1.length + 9 ≤ _; omega) (by omega) ?_; intro gw4 kw4 w4 hown hgrow hat
                  have HR4 : Hid (Tryd.RowsL w a1 b2 t1 (.slice q51 a1.length c51) (.slice (some ⟨gw4, 0, none⟩) (b1.length + 9) kw4) (.slice q71 t1.length c71) w4) := by
                    refine HR2.out.growL hgrow ?_ hat
                    rw [← Hb2.out, u8Cells_append, List.length_append]; exact hown
                  have zw4 := HR4.out.size
                  clear hown hgrow hat)
                | (
                  at_builtin; refine wpList_append_lies _ rfl _ _ 22 rfl w.heap.size 5 iu (.int .u8 0) 1 1 Tryd.underlying22 hui hu0 hu1 hu2 rfl (by decide) _ _ _ rfl (HR4.out.1.alloc _) ⟨w4.heap.size, 0, none⟩ 1 1 (u8Cells [10]) rfl rfl (World.news_of_block (cs := #[.int .u8 10]) (t := 5) (fr := (0, 0)) (alloc_at w4 _ _ (by simp))) (u8Cells_one _) (by omega) (by unfold maxLen; omega) (by omega) (by simp; omega) (w4.heap.size + 1) (by simp) ?_; intro gw5 kw5 w5 hown hgrow hat hlt
                  have HR5 : Hid (Tryd.RowsL w a2 b2 t1 (.slice (some ⟨gw5, 0, none⟩) (a1.length + 1) kw5) (.slice (some ⟨gw4, 0, none⟩) (b1.length + 9) kw4) (.slice q71 t1.length c71) w5) := by
                    refine (HR4.out.alloc _).growP hgrow ?_ (hat.imp id (fun h => by rw [h]; simp))
                    rw [← Ha2.out, u8Cells_append, List.length_append]; exact hown
                  have zw5 := HR5.out.size
                  clear hown hgrow hat hlt)
                | (
                  at_builtin; refine wpList_append_lies _ rfl _ _ 22 rfl w.heap.size 5 iu (.int .u8 0) 1 1 Tryd.underlying22 hui hu0 hu1 hu2 rfl (by decide) _ _ _ rfl (HR5.out.2.1.alloc _) ⟨w5.heap.size, 0, none⟩ 1 1 (u8Cells [10]) rfl rfl (World.news_of_block (cs := #[.int .u8 10]) (t := 5) (fr := (0, 0)) (alloc_at w5 _ _ (by simp))) (u8Cells_one _) (by omega) (by unfold maxLen; omega) (by omega) (by simp; omega) (w5.heap.size + 1) (by simp) ?_; intro gw6 kw6 w6 hown hgrow hat hlt
                  have HR6 : Hid (Tryd.RowsL w a2 b3 t1 (.slice (some ⟨gw5, 0, none⟩) (a1.length + 1) kw5) (.slice (some ⟨gw6, 0, none⟩) (b2.length + 1) kw6) (.slice q71 t1.length c71) w6) := by
                    refine (HR5.out.alloc _).growL hgrow ?_ (hat.imp id (fun h => by rw [h]; simp))
                    rw [← Hb3.out, u8Cells_append, List.length_append]; exact hown
                  have zw6 := HR6.out.size
                  have hrc3 := (HR6.out.2.2.2.2.cell (p := ⟨rb, ro + i, none⟩) hrb).trans HRC.out
                  clear hown hgrow hat hlt)
                | (
                  at_builtin; refine wpList_append_lies _ rfl _ _ 24 rfl w.heap.size 35 it _ 3 32 Tryd.underlying24 hti ht0 ht1 ht2 rfl (by omega) _ _ _ rfl (HR6.out.2.2.1.alloc _) ⟨w6.heap.size, 0, none⟩ 1 1 [.int .i64 (6 : Int), .string ⟨#[]⟩, .int .i64 (0 : Int)] rfl rfl (World.news_of_block (cs := #[.int .i64 (6 : Int), .string ⟨#[]⟩, .int .i64 (0 : Int)]) (t := 35) (fr := (0, 0)) (alloc_new w6 _)) (by simp [Value.oneCell']) (by omega) (by unfold maxLen; omega) (by omega) (by simp; omega) (w6.heap.size + 1) (by simp) ?_; intro gw7 kw7 w7 hown hgrow hat hlt
                  have HR7 : Hid (Tryd.RowsL w a2 b3 t2 (.slice (some ⟨gw5, 0, none⟩) (a1.length + 1) kw5) (.slice (some ⟨gw6, 0, none⟩) (b2.length + 1) kw6) (.slice (some ⟨gw7, 0, none⟩) (t1.length + 1) kw7) w7) := by
                    refine (HR6.out.alloc _).growT hgrow ?_
                    rw [← Ht2.out, tokCells_append, List.length_append]; exact hown
                  have zw7 := HR7.out.size
                  clear hown hgrow hat hlt))
              go_roundw
              case rel =>
                have hlk : l.take k = l := List.take_of_length_le (by rw [HU.out]; exact Nat.le_refl _)
                have hln : l ≠ [] := by
                  intro e
                  have := HU.out
                  rw [e] at this
                  exact hu0' this.symm
                have ea : a2 = a ++ seg (fun _ => 1) l ++ [10] := by rw [← Ha2.out, ← Ha1.out, hlk]
                have eb : b3 = b ++ seg gapOf l ++ rmk true ++ [10] ++ trl false := by rw [← Hb3.out, ← Hb2.out, ← Hb1.out, hlk]; try simp [rmk, trl]
                have et : t2 = t ++ l.map tokP ++ [⟨6, [], 0⟩] := by rw [← Ht2.out, ← Ht1.out, hlk]
                exact ⟨i + 1, a2, b3, t2, by go_num, by have := HNI.out; omega, by show LaidL _ _ _ _; rw [ea, eb, et]; exact HLD.out.line l hln (by rw [HU.out]; exact hu40n) true false, HR7⟩
              case measure => have := HNI.out; simp [intOf]; omega
            · skip
              obtain ⟨a2, ha2⟩ : ∃ a2, a1 ++ ([10] : List UInt8) = a2 := ⟨_, rfl⟩
              have la2 : a2.length ≤ a1.length + 1 := by rw [← ha2, List.length_append]; exact Nat.le_refl _
              have Ha2 := Lib.hid ha2
              clear ha2
              obtain ⟨b2, hb2⟩ : ∃ b2, b1 ++ (rmk true : List UInt8) = b2 := ⟨_, rfl⟩
              have lb2 : b2.length ≤ b1.length + 9 := by rw [← hb2, List.length_append]; exact Nat.le_refl _
              have Hb2 := Lib.hid hb2
              clear hb2
              obtain ⟨b3, hb3⟩ : ∃ b3, b2 ++ ([10] : List UInt8) = b3 := ⟨_, rfl⟩
              have lb3 : b3.length ≤ b2.length + 1 := by rw [← hb3, List.length_append]; exact Nat.le_refl _
              have Hb3 := Lib.hid hb3
              clear hb3
              obtain ⟨b4, hb4⟩ : ∃ b4, b3 ++ (trl true : List UInt8) = b4 := ⟨_, rfl⟩
              have lb4 : b4.length ≤ b3.length + 11 := by rw [← hb4, List.length_append]; exact Nat.le_refl _
              have Hb4 := Lib.hid hb4
              clear hb4
              obtain ⟨t2, ht2⟩ : ∃ t2, t1 ++ ([⟨6, [], 0⟩] : List Tok) = t2 := ⟨_, rfl⟩
              have lt2 : t2.length ≤ t1.length + 1 := by rw [← ht2, List.length_append]; exact Nat.le_refl _
              have Ht2 := Lib.hid ht2
              clear ht2
              go_wp2_with (first
                | (
                  at_builtin; refine wpList_append_str_lies _ rfl _ _ 22 9 rfl w.heap.size 5 iu Tryd.underlying22 Tryd.underlying9 hui hu0 hu1 hu2 _ _ _ rfl HR2.out.2.1 ⟨#[32, 35, 32, 39, 120, 255, 9, 105, 102]⟩ rfl (by show 0 < 9; omega) (by unfold maxLen; show b1.length + 9 ≤ _; omega) (by show b1.length + 9 ≤ _; omega) (by omega) ?_; intro gw4 kw4 w4 hown hgrow hat
                  have HR4 : Hid (Tryd.RowsL w a1 b2 t1 (.slice q51 a1.length c51) (.slice (some ⟨gw4, 0, none⟩) (b1.length + 9) kw4) (.slice q71 t1.length c71) w4) := by
                    refine HR2.out.growL hgrow ?_ hat
                    rw [← Hb2.out, u8Cells_append, List.length_append]; exact hown
                  have zw4 := HR4.out.size
                  clear hown hgrow hat)
                | (
                  at_builtin; refine wpList_append_lies _ rfl _ _ 22 rfl w.heap.size 5 iu (.int .u8 0) 1 1 Tryd.underlying22 hui hu0 hu1 hu2 rfl (by decide) _ _ _ rfl (HR4.out.1.alloc _) ⟨w4.heap.size, 0, none⟩ 1 1 (u8Cells [10]) rfl rfl (World.news_of_block (cs := #[.int .u8 10]) (t := 5) (fr := (0, 0)) (alloc_at w4 _ _ (by simp))) (u8Cells_one _) (by omega) (by unfold maxLen; omega) (by omega) (by simp; omega) (w4.heap.size + 1) (by simp) ?_; intro gw5 kw5 w5 hown hgrow hat hlt
                  have HR5 : Hid (Tryd.RowsL w a2 b2 t1 (.slice (some ⟨gw5, 0, none⟩) (a1.length + 1) kw5) (.slice (some ⟨gw4, 0, none⟩) (b1.length + 9) kw4) (.slice q71 t1.length c71) w5) := by
                    refine (HR4.out.alloc _).growP hgrow ?_ (hat.imp id (fun h => by rw [h]; simp))
                    rw [← Ha2.out, u8Cells_append, List.length_append]; exact hown
                  have zw5 := HR5.out.size
                  clear hown hgrow hat hlt)
                | (
                  at_builtin; refine wpList_append_lies _ rfl _ _ 22 rfl w.heap.size 5 iu (.int .u8 0) 1 1 Tryd.underlying22 hui hu0 hu1 hu2 rfl (by decide) _ _ _ rfl (HR5.out.2.1.alloc _) ⟨w5.heap.size, 0, none⟩ 1 1 (u8Cells [10]) rfl rfl (World.news_of_block (cs := #[.int .u8 10]) (t := 5) (fr := (0, 0)) (alloc_at w5 _ _ (by simp))) (u8Cells_one _) (by omega) (by unfold maxLen; omega) (by omega) (by simp; omega) (w5.heap.size + 1) (by simp) ?_; intro gw6 kw6 w6 hown hgrow hat hlt
                  have HR6 : Hid (Tryd.RowsL w a2 b3 t1 (.slice (some ⟨gw5, 0, none⟩) (a1.length + 1) kw5) (.slice (some ⟨gw6, 0, none⟩) (b2.length + 1) kw6) (.slice q71 t1.length c71) w6) := by
                    refine (HR5.out.alloc _).growL hgrow ?_ (hat.imp id (fun h => by rw [h]; simp))
                    rw [← Hb3.out, u8Cells_append, List.length_append]; exact hown
                  have zw6 := HR6.out.size
                  have hrc3 := (HR6.out.2.2.2.2.cell (p := ⟨rb, ro + i, none⟩) hrb).trans HRC.out
                  clear hown hgrow hat hlt)
                | (
                  at_builtin; refine wpList_append_str_lies _ rfl _ _ 22 9 rfl w.heap.size 5 iu Tryd.underlying22 Tryd.underlying9 hui hu0 hu1 hu2 _ _ _ rfl HR6.out.2.1 ⟨#[32, 32, 32, 35, 32, 40, 10, 10, 32, 32, 10]⟩ rfl (by show 0 < 11; omega) (by unfold maxLen; show b3.length + 11 ≤ _; omega) (by show b3.length + 11 ≤ _; omega) (by omega) ?_; intro gw7 kw7 w7 hown hgrow hat
                  have HR7 : Hid (Tryd.RowsL w a2 b4 t1 (.slice (some ⟨gw5, 0, none⟩) (a1.length + 1) kw5) (.slice (some ⟨gw7, 0, none⟩) (b3.length + 11) kw7) (.slice q71 t1.length c71) w7) := by
                    refine HR6.out.growL hgrow ?_ hat
                    rw [← Hb4.out, u8Cells_append, List.length_append]; exact hown
                  have zw7 := HR7.out.size
                  clear hown hgrow hat)
                | (
                  at_builtin; refine wpList_append_lies _ rfl _ _ 24 rfl w.heap.size 35 it _ 3 32 Tryd.underlying24 hti ht0 ht1 ht2 rfl (by omega) _ _ _ rfl (HR7.out.2.2.1.alloc _) ⟨w7.heap.size, 0, none⟩ 1 1 [.int .i64 (6 : Int), .string ⟨#[]⟩, .int .i64 (0 : Int)] rfl rfl (World.news_of_block (cs := #[.int .i64 (6 : Int), .string ⟨#[]⟩, .int .i64 (0 : Int)]) (t := 35) (fr := (0, 0)) (alloc_new w7 _)) (by simp [Value.oneCell']) (by omega) (by unfold maxLen; omega) (by omega) (by simp; omega) (w7.heap.size + 1) (by simp) ?_; intro gw8 kw8 w8 hown hgrow hat hlt
                  have HR8 : Hid (Tryd.RowsL w a2 b4 t2 (.slice (some ⟨gw5, 0, none⟩) (a1.length + 1) kw5) (.slice (some ⟨gw7, 0, none⟩) (b3.length + 11) kw7) (.slice (some ⟨gw8, 0, none⟩) (t1.length + 1) kw8) w8) := by
                    refine (HR7.out.alloc _).growT hgrow ?_
                    rw [← Ht2.out, tokCells_append, List.length_append]; exact hown
                  have zw8 := HR8.out.size
                  clear hown hgrow hat hlt))
              go_roundw
              case rel =>
                have hlk : l.take k = l := List.take_of_length_le (by rw [HU.out]; exact Nat.le_refl _)
                have hln : l ≠ [] := by
                  intro e
                  have := HU.out
                  rw [e] at this
                  exact hu0' this.symm
                have ea : a2 = a ++ seg (fun _ => 1) l ++ [10] := by rw [← Ha2.out, ← Ha1.out, hlk]
                have eb : b4 = b ++ seg gapOf l ++ rmk true ++ [10] ++ trl true := by rw [← Hb4.out, ← Hb3.out, ← Hb2.out, ← Hb1.out, hlk]; try simp [rmk, trl]
                have et : t2 = t ++ l.map tokP ++ [⟨6, [], 0⟩] := by rw [← Ht2.out, ← Ht1.out, hlk]
                exact ⟨i + 1, a2, b4, t2, by go_num, by have := HNI.out; omega, by show LaidL _ _ _ _; rw [ea, eb, et]; exact HLD.out.line l hln (by rw [HU.out]; exact hu40n) true true, HR8⟩
              case measure => have := HNI.out; simp [intOf]; omega
          · have himI : ¬ (i : Int) < (m : Int) := by omega
            have himd : decide ((i : Int) < (m : Int)) = false := by simpa using himI
            obtain ⟨a2, ha2⟩ : ∃ a2, a1 ++ ([10] : List UInt8) = a2 := ⟨_, rfl⟩
            have la2 : a2.length ≤ a1.length + 1 := by rw [← ha2, List.length_append]; exact Nat.le_refl _
            have Ha2 := Lib.hid ha2
            clear ha2
            obtain ⟨b3, hb3⟩ : ∃ b3, b1 ++ ([10] : List UInt8) = b3 := ⟨_, rfl⟩
            have lb3 : b3.length ≤ b1.length + 1 := by rw [← hb3, List.length_append]; exact Nat.le_refl _
            have Hb3 := Lib.hid hb3
            clear hb3
            obtain ⟨t2, ht2⟩ : ∃ t2, t1 ++ ([⟨6, [], 0⟩] : List Tok) = t2 := ⟨_, rfl⟩
            have lt2 : t2.length ≤ t1.length + 1 := by rw [← ht2, List.length_append]; exact Nat.le_refl _
            have Ht2 := Lib.hid ht2
            clear ht2
            go_wp2_with (first
              | (
                at_builtin; refine wpList_append_lies _ rfl _ _ 22 rfl w.heap.size 5 iu (.int .u8 0) 1 1 Tryd.underlying22 hui hu0 hu1 hu2 rfl (by decide) _ _ _ rfl (HR2.out.1.alloc _) ⟨wr.heap.size, 0, none⟩ 1 1 (u8Cells [10]) rfl rfl (World.news_of_block (cs := #[.int .u8 10]) (t := 5) (fr := (0, 0)) (alloc_at wr _ _ (by simp))) (u8Cells_one _) (by omega) (by unfold maxLen; omega) (by omega) (by simp; omega) (wr.heap.size + 1) (by simp) ?_; intro gw4 kw4 w4 hown hgrow hat hlt
                have HR4 : Hid (Tryd.RowsL w a2 b1 t1 (.slice (some ⟨gw4, 0, none⟩) (a1.length + 1) kw4) (.slice q61 b1.length c61) (.slice q71 t1.length c71) w4) := by
                  refine (HR2.out.alloc _).growP hgrow ?_ (hat.imp id (fun h => by rw [h]; simp))
                  rw [← Ha2.out, u8Cells_append, List.length_append]; exact hown
                have zw4 := HR4.out.size
                clear hown hgrow hat hlt)
              | (
                at_builtin; refine wpList_append_lies _ rfl _ _ 22 rfl w.heap.size 5 iu (.int .u8 0) 1 1 Tryd.underlying22 hui hu0 hu1 hu2 rfl (by decide) _ _ _ rfl (HR4.out.2.1.alloc _) ⟨w4.heap.size, 0, none⟩ 1 1 (u8Cells [10]) rfl rfl (World.news_of_block (cs := #[.int .u8 10]) (t := 5) (fr := (0, 0)) (alloc_at w4 _ _ (by simp))) (u8Cells_one _) (by omega) (by unfold maxLen; omega) (by omega) (by simp; omega) (w4.heap.size + 1) (by simp) ?_; intro gw5 kw5 w5 hown hgrow hat hlt
                have HR5 : Hid (Tryd.RowsL w a2 b3 t1 (.slice (some ⟨gw4, 0, none⟩) (a1.length + 1) kw4) (.slice (some ⟨gw5, 0, none⟩) (b1.length + 1) kw5) (.slice q71 t1.length c71) w5) := by
                  refine (HR4.out.alloc _).growL hgrow ?_ (hat.imp id (fun h => by rw [h]; simp))
                  rw [← Hb3.out, u8Cells_append, List.length_append]; exact hown
                have zw5 := HR5.out.size
                clear hown hgrow hat hlt)
              | (
                at_builtin; refine wpList_append_lies _ rfl _ _ 24 rfl w.heap.size 35 it _ 3 32 Tryd.underlying24 hti ht0 ht1 ht2 rfl (by omega) _ _ _ rfl (HR5.out.2.2.1.alloc _) ⟨w5.heap.size, 0, none⟩ 1 1 [.int .i64 (6 : Int), .string ⟨#[]⟩, .int .i64 (0 : Int)] rfl rfl (World.news_of_block (cs := #[.int .i64 (6 : Int), .string ⟨#[]⟩, .int .i64 (0 : Int)]) (t := 35) (fr := (0, 0)) (alloc_new w5 _)) (by simp [Value.oneCell']) (by omega) (by unfold maxLen; omega) (by omega) (by simp; omega) (w5.heap.size + 1) (by simp) ?_; intro gw6 kw6 w6 hown hgrow hat hlt
                have HR6 : Hid (Tryd.RowsL w a2 b3 t2 (.slice (some ⟨gw4, 0, none⟩) (a1.length + 1) kw4) (.slice (some ⟨gw5, 0, none⟩) (b1.length + 1) kw5) (.slice (some ⟨gw6, 0, none⟩) (t1.length + 1) kw6) w6) := by
                  refine (HR5.out.alloc _).growT hgrow ?_
                  rw [← Ht2.out, tokCells_append, List.length_append]; exact hown
                have zw6 := HR6.out.size
                clear hown hgrow hat hlt))
            go_roundw
            case rel =>
              have hlk : l.take k = l := List.take_of_length_le (by rw [HU.out]; exact Nat.le_refl _)
              have hln : l ≠ [] := by
                intro e
                have := HU.out
                rw [e] at this
                exact hu0' this.symm
              have ea : a2 = a ++ seg (fun _ => 1) l ++ [10] := by rw [← Ha2.out, ← Ha1.out, hlk]
              have eb : b3 = b ++ seg gapOf l ++ rmk false ++ [10] ++ trl false := by rw [← Hb3.out, ← Hb1.out, hlk]; try simp [rmk, trl]
              have et : t2 = t ++ l.map tokP ++ [⟨6, [], 0⟩] := by rw [← Ht2.out, ← Ht1.out, hlk]
              exact ⟨i + 1, a2, b3, t2, by go_num, by have := HNI.out; omega, by show LaidL _ _ _ _; rw [ea, eb, et]; exact HLD.out.line l hln (by rw [HU.out]; exact hu40n) false false, HR6⟩
            case measure => have := HNI.out; simp [intOf]; omega
    · have hinI : ¬ (i : Int) < (n : Int) := by omega
      obtain ⟨ta, tb, hla, hlb, hka, hkb⟩ := HLD.out.lex (show i ≤ 40 by omega)
      have z0 := HR.out.size
      obtain ⟨t2, ht2⟩ : ∃ t2, t ++ ([⟨9, [], 0⟩] : List Tok) = t2 := ⟨_, rfl⟩
      have lt2 : t2.length ≤ t.length + 1 := by rw [← ht2, List.length_append]; exact Nat.le_refl _
      have Ht2 := Lib.hid ht2
      clear ht2
      rw [Ht2.out] at hka hkb
      have HKA := Lib.hid (like_kt ta t2 hka)
      have HKB := Lib.hid (like_kt tb t2 hkb)
      have HLA := Lib.hid hla
      have HLB := Lib.hid hlb
      clear hka hkb hla hlb HLD
      go_wp2_with (
        at_builtin; refine wpList_append_lies _ rfl _ _ 24 rfl w.heap.size 35 it _ 3 32 Tryd.underlying24 hti ht0 ht1 ht2 rfl (by omega) _ _ _ rfl (HR.out.2.2.1.alloc _) ⟨wr.heap.size, 0, none⟩ 1 1 [.int .i64 (9 : Int), .string ⟨#[]⟩, .int .i64 (0 : Int)] rfl rfl (World.news_of_block (cs := #[.int .i64 (9 : Int), .string ⟨#[]⟩, .int .i64 (0 : Int)]) (t := 35) (fr := (0, 0)) (alloc_new wr _)) (by simp [Value.oneCell']) (by omega) (by unfold maxLen; omega) (by omega) (by simp; omega) (wr.heap.size + 1) (by simp) ?_; intro gw3 kw3 w3 hown hgrow hat hlt
        have HR3 : Hid (Tryd.RowsL w a b t2 (.slice q5 a.length c5) (.slice q6 b.length c6) (.slice (some ⟨gw3, 0, none⟩) (t.length + 1) kw3) w3) := by
          refine (HR.out.alloc _).growT hgrow ?_
          rw [← Ht2.out, tokCells_append, List.length_append]; exact hown
        have zw3 := HR3.out.size
        clear hown hgrow hat hlt)
      obtain ⟨_, hbs⟩ := BsIn.of_own HR3.out.1
      have HTok : Hid (Calls Tryd.prog 10 #[.slice q5 a.length c5] w3 (Tryd.TokOut w3 (lex a))) := Tryd.tokens_any q5 c5 (bs a) w3 hbs (Tryd.Tabs_below HT.out HR3.out.2.2.2.2 (Nat.le_refl _))
      clear hbs HR z0
      refine HTok.out.mono ?_
      rw [HLA.out]
      rintro e W4 ⟨⟨lv, rfl, o4⟩, b4⟩
      obtain ⟨q8, c8, rfl⟩ := slice_form o4
      have z4 := b4.size
      have HR5 := Lib.hid ((HR3.out.below b4).alloc (.cells #[.int .i64 0, .int .i64 0] 26 (0, 0)))
      have o4' := o4.alloc (.cells #[.int .i64 0, .int .i64 0] 26 (0, 0))
      have hf4 := alloc_new W4 (.cells #[.int .i64 0, .int .i64 0] 26 (0, 0))
      have HO4 := Lib.hid (And.intro o4' hf4)
      obtain ⟨_, hbs2⟩ := BsIn.of_own HR5.out.2.1
      have HTok2 : Hid (Calls Tryd.prog 10 #[.slice q6 b.length c6] (W4.alloc (.cells #[.int .i64 0, .int .i64 0] 26 (0, 0))) (Tryd.TokOut (W4.alloc (.cells #[.int .i64 0, .int .i64 0] 26 (0, 0))) (lex b))) := Tryd.tokens_any q6 c6 (bs b) (W4.alloc (.cells #[.int .i64 0, .int .i64 0] 26 (0, 0))) hbs2 (Tryd.Tabs_below HT.out HR5.out.2.2.2.2 (Nat.le_refl _))
      clear hbs2 HTok o4 b4 o4' hf4 HR3 zw3
      go_wp2_with fail
      refine HTok2.out.mono ?_
      rw [HLB.out]
      rintro e W6 ⟨⟨lv, rfl, o6⟩, b6⟩
      obtain ⟨q9, c9, rfl⟩ := slice_form o6
      have hz5 : (W4.alloc (.cells #[.int .i64 0, .int .i64 0] 26 (0, 0))).heap.size = W4.heap.size + 1 := by simp
      have z6 := b6.size
      rw [hz5] at z6
      have HR7 := Lib.hid ((HR5.out.below b6).alloc (.cells #[.int .i64 0, .int .i64 0] 26 (0, 0)))
      have hf7 : (W6.alloc (.cells #[.int .i64 0, .int .i64 0] 26 (0, 0))).heap[W4.heap.size]? = some (.cells #[.int .i64 0, .int .i64 0] 26 (0, 0)) := (Below.heap_alloc _ _ _ (by omega)).trans ((b6.block _ (by omega)).trans HO4.out.2)
      have m40 : (W6.alloc (.cells #[.int .i64 0, .int .i64 0] 26 (0, 0))).cell? ⟨W4.heap.size, 0, none⟩ = some (.int .i64 0) := (cell_of_heap hf7 0).trans rfl
      have o47 := (ownsRow_keep HO4.out.1 (fun g hg => b6.block g (ownsRow_lt HO4.out.1 hg).2)).alloc (.cells #[.int .i64 0, .int .i64 0] 26 (0, 0))
      have o67 := o6.alloc (.cells #[.int .i64 0, .int .i64 0] 26 (0, 0))
      have HO7 := Lib.hid (And.intro o47 o67)
      have HTa := Lib.hid (Tryd.tokens13_any _ _ _ _ ta t2 false _ o47 HR7.out.2.2.1 HKA.out.1 (fun i hi => ⟨(HKA.out.2 i hi (by have := HKA.out.1; omega)).1, (HKA.out.2 i hi (by have := HKA.out.1; omega)).2, fun h => by cases h⟩))
      clear o47 o67 o6 b6 hf7 HTok2 HO4 HR5 hz5
      go_wp2_with fail
      refine HTa.out.mono ?_
      rintro e W8 ⟨rfl, b8⟩
      have HR8 := Lib.hid (HR7.out.below b8)
      have HTb := Lib.hid (Tryd.tokens13_any _ _ _ _ tb t2 false W8 (ownsRow_keep HO7.out.2 (fun g hg => b8.block g (ownsRow_lt HO7.out.2 hg).2)) HR8.out.2.2.1 HKB.out.1 (fun i hi => ⟨(HKB.out.2 i hi (by have := HKB.out.1; omega)).1, (HKB.out.2 i hi (by have := HKB.out.1; omega)).2, fun h => by cases h⟩))
      clear b8 m40 HR7 HO7 HTa
      go_wp2_with fail
      refine HTb.out.mono ?_
      rintro e W9 ⟨rfl, b9⟩
      have HB9 := Lib.hid (HR8.out.2.2.2.2.trans (b9.mono HR8.out.size))
      clear b9
      go_wp2_with fail
      refine (Tryd.awake13_any _ (Tryd.Tabs_below HT.out HB9.out (Nat.le_refl _))).mono ?_
      rintro e W11 ⟨rfl, b11⟩
      have HB11 := Lib.hid (HB9.out.trans (b11.mono HB9.out.size))
      clear b11
      go_wp2_with fail
      go_ret
      exact ⟨rfl, HB11.out⟩
end Go.Proofs
