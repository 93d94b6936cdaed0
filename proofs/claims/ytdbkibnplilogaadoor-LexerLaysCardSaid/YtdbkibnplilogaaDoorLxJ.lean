/-
  Walks: the method sign (printed by gen_lxj.py).
-/
import Derived.Test.YtdbkibnplilogaaDoorLxI
set_option linter.unusedVariables false
namespace Go.Proofs
open Go.RowKit Go.Lx Go.Lt

theorem signOf_le (l : List UInt8) : (signOf l).length ≤ l.length ∧ (signOf l).length ≤ 3 := by
  unfold signOf
  cases hf : signs.find? (·.isPrefixOf l) with
  | none => exact ⟨Nat.zero_le _, by decide⟩
  | some y =>
    have hy := List.find?_some hf
    have hys := List.mem_of_find?_eq_some hf
    exact ⟨(prefix_take hy).2, (signs_len y hys).2⟩
theorem bs_beq (l m : List UInt8) (X : ByteArray) (h : bs l = X) : (X.toList == m) = (l == m) := by rw [← h, bs_toList]
theorem isEmpty_beq (l : List UInt8) : l.isEmpty = (l == []) := by cases l <;> rfl


set_option maxHeartbeats 4000000 in
set_option maxRecDepth 100000 in
theorem Tryd.lsign_none (B b : Nat) (s X : ByteArray) (S : List UInt8) (st : St) (w : World) (h : Tryd.LexAt B b s st w) (hs : s.size ≤ 1000000) (hp : st.pos ≤ s.size) (hl : st.toks.length ≤ 1000000) (ho : st.opn ≤ 60)
    (hS : signOf (s.data.toList.drop st.pos) = S) (hX : bs S = X) (hSc : S = []) :
    Calls Tryd.prog 45 #[.pointer (some ⟨b, 0, none⟩)] w (Tryd.LexOut B b s w (.error (102, st.pos))) := by
  have hBw := h.base
  obtain ⟨lv, bv, hV⟩ := id h
  obtain ⟨c0, c1, _⟩ := hV.cells
  have hlt := lt_of_block hV.2.1
  have H := Lib.hid h
  have hpI : (st.pos : Int) ≤ (s.size : Int) := by omega
  have hSl : S.length ≤ 3 ∧ S.length + st.pos ≤ s.size := by
    have := signOf_le (s.data.toList.drop st.pos)
    rw [hS, List.length_drop, ← Lib.size_eq] at this; omega
  have HXs : Hid (X.size = S.length) := by show _ = _; rw [← hX, Lib.size_eq]; rfl
  have HXd : Hid (X.data.toList = S) := by show _ = _; rw [← hX]; rfl
  have hsg : Hid (∀ W, Calls Tryd.prog 52 #[.string (s.extract st.pos s.size)] W fun e w' => e = .returned (.string X) ∧ w' = W) := by
    intro W
    have := Tryd.sign_any (s.extract st.pos s.size) W (by rw [ByteArray.size_extract]; omega)
    rw [suffix_list, hS, hX] at this; exact this
  have gE : X.toList.isEmpty = true := by rw [isEmpty_beq, bs_beq S _ X hX]; rw [hSc]; rfl
  have g0 : (X.toList == []) = true := by rw [bs_beq S _ X hX]; rw [hSc]; rfl
  clear h hV hS hX hSc
  go_enter Tryd.func45, Tryd.ntmps45
  go_wp2_with fail
  go_quiet ((go_at_call 52; exact Calls.quiet_of_same (hsg.out _)))
  have H1 := Lib.hid (H.out.below (below_drewN (Below.refl _ w) nq))
  have hb1 : Below B w (w.drewN nq) := below_drewN (Below.refl B w) nq
  have d0 : (w.drewN nq).cell? ⟨b, 0, none⟩ = some (.string s) := c0
  have d1 : (w.drewN nq).cell? ⟨b, 1, none⟩ = some (.int .i64 st.pos) := c1
  obtain ⟨W1, hW1⟩ : ∃ W1, W1 = w.drewN nq := ⟨_, rfl⟩
  rw [← hW1] at H1 hb1 d0 d1 ⊢
  clear c0 c1 hW1
  go_wp2_with fail
  refine (Tryd.fail_any _ 102 st.pos _).mono ?_
  rintro e W3 ⟨rfl, rfl⟩
  go_wp2_with fail
  exact ⟨rfl, rfl, hb1⟩


set_option maxHeartbeats 4000000 in
set_option maxRecDepth 100000 in
theorem Tryd.lsign_deep40 (B b : Nat) (s X : ByteArray) (S : List UInt8) (st : St) (w : World) (h : Tryd.LexAt B b s st w) (hs : s.size ≤ 1000000) (hp : st.pos ≤ s.size) (hl : st.toks.length ≤ 1000000) (ho : st.opn ≤ 60)
    (hS : signOf (s.data.toList.drop st.pos) = S) (hX : bs S = X) (hSc : S = [40]) (ho60 : st.opn = 60) :
    Calls Tryd.prog 45 #[.pointer (some ⟨b, 0, none⟩)] w (Tryd.LexOut B b s w (.error (107, st.pos))) := by
  have hBw := h.base
  obtain ⟨lv, bv, hV⟩ := id h
  obtain ⟨c0, c1, _⟩ := hV.cells
  have hlt := lt_of_block hV.2.1
  have H := Lib.hid h
  have hpI : (st.pos : Int) ≤ (s.size : Int) := by omega
  have hSl : S.length ≤ 3 ∧ S.length + st.pos ≤ s.size := by
    have := signOf_le (s.data.toList.drop st.pos)
    rw [hS, List.length_drop, ← Lib.size_eq] at this; omega
  have HXs : Hid (X.size = S.length) := by show _ = _; rw [← hX, Lib.size_eq]; rfl
  have HXd : Hid (X.data.toList = S) := by show _ = _; rw [← hX]; rfl
  have hsg : Hid (∀ W, Calls Tryd.prog 52 #[.string (s.extract st.pos s.size)] W fun e w' => e = .returned (.string X) ∧ w' = W) := by
    intro W
    have := Tryd.sign_any (s.extract st.pos s.size) W (by rw [ByteArray.size_extract]; omega)
    rw [suffix_list, hS, hX] at this; exact this
  have gE : X.toList.isEmpty = false := by rw [isEmpty_beq, bs_beq S _ X hX]; rw [hSc]; rfl
  have g0 : (X.toList == []) = false := by rw [bs_beq S _ X hX]; rw [hSc]; rfl
  have g1 : (X.toList == [40]) = true := by rw [bs_beq S _ X hX]; rw [hSc]; rfl
  clear h hV hS hX hSc
  go_enter Tryd.func45, Tryd.ntmps45
  go_wp2_with fail
  go_quiet ((go_at_call 52; exact Calls.quiet_of_same (hsg.out _)))
  have H1 := Lib.hid (H.out.below (below_drewN (Below.refl _ w) nq))
  have hb1 : Below B w (w.drewN nq) := below_drewN (Below.refl B w) nq
  have d0 : (w.drewN nq).cell? ⟨b, 0, none⟩ = some (.string s) := c0
  have d1 : (w.drewN nq).cell? ⟨b, 1, none⟩ = some (.int .i64 st.pos) := c1
  obtain ⟨W1, hW1⟩ : ∃ W1, W1 = w.drewN nq := ⟨_, rfl⟩
  rw [← hW1] at H1 hb1 d0 d1 ⊢
  clear c0 c1 hW1
  obtain ⟨lv1, bv1, hV1⟩ := H1.out
  obtain ⟨_, _, _, d3, _⟩ := hV1.cells
  rw [ho60] at d3
  clear hV1
  go_wp2_with fail
  refine (Tryd.fail_any _ 107 st.pos _).mono ?_
  rintro e W3 ⟨rfl, rfl⟩
  go_wp2_with fail
  exact ⟨rfl, rfl, hb1⟩


set_option maxHeartbeats 4000000 in
set_option maxRecDepth 100000 in
theorem Tryd.lsign_open40 (B b : Nat) (s X : ByteArray) (S : List UInt8) (st : St) (w : World) (h : Tryd.LexAt B b s st w) (hs : s.size ≤ 1000000) (hp : st.pos ≤ s.size) (hl : st.toks.length ≤ 1000000) (ho : st.opn ≤ 60)
    (hS : signOf (s.data.toList.drop st.pos) = S) (hX : bs S = X) (hSc : S = [40]) (ho60 : st.opn < 60) :
    Calls Tryd.prog 45 #[.pointer (some ⟨b, 0, none⟩)] w (Tryd.LexOut B b s w (.ok { st with pos := st.pos + S.length, toks := st.toks ++ [⟨5, S, st.pos⟩], opn := st.opn + 1 })) := by
  have hBw := h.base
  obtain ⟨lv, bv, hV⟩ := id h
  obtain ⟨c0, c1, _⟩ := hV.cells
  have hlt := lt_of_block hV.2.1
  have H := Lib.hid h
  have hpI : (st.pos : Int) ≤ (s.size : Int) := by omega
  have hSl : S.length ≤ 3 ∧ S.length + st.pos ≤ s.size := by
    have := signOf_le (s.data.toList.drop st.pos)
    rw [hS, List.length_drop, ← Lib.size_eq] at this; omega
  have HXs : Hid (X.size = S.length) := by show _ = _; rw [← hX, Lib.size_eq]; rfl
  have HXd : Hid (X.data.toList = S) := by show _ = _; rw [← hX]; rfl
  have hsg : Hid (∀ W, Calls Tryd.prog 52 #[.string (s.extract st.pos s.size)] W fun e w' => e = .returned (.string X) ∧ w' = W) := by
    intro W
    have := Tryd.sign_any (s.extract st.pos s.size) W (by rw [ByteArray.size_extract]; omega)
    rw [suffix_list, hS, hX] at this; exact this
  have gE : X.toList.isEmpty = false := by rw [isEmpty_beq, bs_beq S _ X hX]; rw [hSc]; rfl
  have g0 : (X.toList == []) = false := by rw [bs_beq S _ X hX]; rw [hSc]; rfl
  have g1 : (X.toList == [40]) = true := by rw [bs_beq S _ X hX]; rw [hSc]; rfl
  clear h hV hS hX hSc
  go_enter Tryd.func45, Tryd.ntmps45
  go_wp2_with fail
  go_quiet ((go_at_call 52; exact Calls.quiet_of_same (hsg.out _)))
  have H1 := Lib.hid (H.out.below (below_drewN (Below.refl _ w) nq))
  have hb1 : Below B w (w.drewN nq) := below_drewN (Below.refl B w) nq
  have d0 : (w.drewN nq).cell? ⟨b, 0, none⟩ = some (.string s) := c0
  have d1 : (w.drewN nq).cell? ⟨b, 1, none⟩ = some (.int .i64 st.pos) := c1
  obtain ⟨W1, hW1⟩ : ∃ W1, W1 = w.drewN nq := ⟨_, rfl⟩
  rw [← hW1] at H1 hb1 d0 d1 ⊢
  clear c0 c1 hW1
  obtain ⟨lv1, bv1, hV1⟩ := H1.out
  obtain ⟨_, _, _, d3, _, _, d4, _⟩ := hV1.cells
  have h60 : ((st.opn : Int) == 60) = false := by rw [beq_eq_false_iff_ne]; omega
  have h60' : ¬ st.opn = 60 := by omega
  have hO := hV1.setOpn (st.opn + 1)
  have HO := Lib.hid (⟨_, _, hO.1⟩ : Tryd.LexAt B b s { st with opn := st.opn + 1 } _)
  have hbO := hb1.trans hO.2
  obtain ⟨f0, f1, _⟩ := hO.1.cells
  clear hV1 hO
  go_wp2_with fail
  refine (Tryd.put_any B b s { st with opn := st.opn + 1 } 5 st.pos X _ HO.out (by rw [HXs.out]; omega) hl).mono ?_
  rw [HXd.out]
  rintro e W3 ⟨rfl, H3, b3⟩
  obtain ⟨lv3, bv3, hV3⟩ := H3
  obtain ⟨e0, e1, _, _, _, e2, _⟩ := hV3.cells
  have hX4 := Lib.hid (hV3.setPos (st.pos + S.length))
  have hb3 := hbO.trans b3
  have hXs := HXs.out
  clear hV3 d0 d1
  go_wp2_with fail
  refine bodyPost_end (results_none rfl _ _ _) rfl ?_
  exact ⟨rfl, ⟨_, _, hX4.out.1⟩, hb3.trans hX4.out.2⟩


set_option maxHeartbeats 4000000 in
set_option maxRecDepth 100000 in
theorem Tryd.lsign_deep91 (B b : Nat) (s X : ByteArray) (S : List UInt8) (st : St) (w : World) (h : Tryd.LexAt B b s st w) (hs : s.size ≤ 1000000) (hp : st.pos ≤ s.size) (hl : st.toks.length ≤ 1000000) (ho : st.opn ≤ 60)
    (hS : signOf (s.data.toList.drop st.pos) = S) (hX : bs S = X) (hSc : S = [91]) (ho60 : st.opn = 60) :
    Calls Tryd.prog 45 #[.pointer (some ⟨b, 0, none⟩)] w (Tryd.LexOut B b s w (.error (107, st.pos))) := by
  have hBw := h.base
  obtain ⟨lv, bv, hV⟩ := id h
  obtain ⟨c0, c1, _⟩ := hV.cells
  have hlt := lt_of_block hV.2.1
  have H := Lib.hid h
  have hpI : (st.pos : Int) ≤ (s.size : Int) := by omega
  have hSl : S.length ≤ 3 ∧ S.length + st.pos ≤ s.size := by
    have := signOf_le (s.data.toList.drop st.pos)
    rw [hS, List.length_drop, ← Lib.size_eq] at this; omega
  have HXs : Hid (X.size = S.length) := by show _ = _; rw [← hX, Lib.size_eq]; rfl
  have HXd : Hid (X.data.toList = S) := by show _ = _; rw [← hX]; rfl
  have hsg : Hid (∀ W, Calls Tryd.prog 52 #[.string (s.extract st.pos s.size)] W fun e w' => e = .returned (.string X) ∧ w' = W) := by
    intro W
    have := Tryd.sign_any (s.extract st.pos s.size) W (by rw [ByteArray.size_extract]; omega)
    rw [suffix_list, hS, hX] at this; exact this
  have gE : X.toList.isEmpty = false := by rw [isEmpty_beq, bs_beq S _ X hX]; rw [hSc]; rfl
  have g0 : (X.toList == []) = false := by rw [bs_beq S _ X hX]; rw [hSc]; rfl
  have g1 : (X.toList == [40]) = false := by rw [bs_beq S _ X hX]; rw [hSc]; rfl
  have g2 : (X.toList == [91]) = true := by rw [bs_beq S _ X hX]; rw [hSc]; rfl
  clear h hV hS hX hSc
  go_enter Tryd.func45, Tryd.ntmps45
  go_wp2_with fail
  go_quiet ((go_at_call 52; exact Calls.quiet_of_same (hsg.out _)))
  have H1 := Lib.hid (H.out.below (below_drewN (Below.refl _ w) nq))
  have hb1 : Below B w (w.drewN nq) := below_drewN (Below.refl B w) nq
  have d0 : (w.drewN nq).cell? ⟨b, 0, none⟩ = some (.string s) := c0
  have d1 : (w.drewN nq).cell? ⟨b, 1, none⟩ = some (.int .i64 st.pos) := c1
  obtain ⟨W1, hW1⟩ : ∃ W1, W1 = w.drewN nq := ⟨_, rfl⟩
  rw [← hW1] at H1 hb1 d0 d1 ⊢
  clear c0 c1 hW1
  obtain ⟨lv1, bv1, hV1⟩ := H1.out
  obtain ⟨_, _, _, d3, _⟩ := hV1.cells
  rw [ho60] at d3
  clear hV1
  go_wp2_with fail
  refine (Tryd.fail_any _ 107 st.pos _).mono ?_
  rintro e W3 ⟨rfl, rfl⟩
  go_wp2_with fail
  exact ⟨rfl, rfl, hb1⟩


set_option maxHeartbeats 4000000 in
set_option maxRecDepth 100000 in
theorem Tryd.lsign_open91 (B b : Nat) (s X : ByteArray) (S : List UInt8) (st : St) (w : World) (h : Tryd.LexAt B b s st w) (hs : s.size ≤ 1000000) (hp : st.pos ≤ s.size) (hl : st.toks.length ≤ 1000000) (ho : st.opn ≤ 60)
    (hS : signOf (s.data.toList.drop st.pos) = S) (hX : bs S = X) (hSc : S = [91]) (ho60 : st.opn < 60) :
    Calls Tryd.prog 45 #[.pointer (some ⟨b, 0, none⟩)] w (Tryd.LexOut B b s w (.ok { st with pos := st.pos + S.length, toks := st.toks ++ [⟨5, S, st.pos⟩], opn := st.opn + 1 })) := by
  have hBw := h.base
  obtain ⟨lv, bv, hV⟩ := id h
  obtain ⟨c0, c1, _⟩ := hV.cells
  have hlt := lt_of_block hV.2.1
  have H := Lib.hid h
  have hpI : (st.pos : Int) ≤ (s.size : Int) := by omega
  have hSl : S.length ≤ 3 ∧ S.length + st.pos ≤ s.size := by
    have := signOf_le (s.data.toList.drop st.pos)
    rw [hS, List.length_drop, ← Lib.size_eq] at this; omega
  have HXs : Hid (X.size = S.length) := by show _ = _; rw [← hX, Lib.size_eq]; rfl
  have HXd : Hid (X.data.toList = S) := by show _ = _; rw [← hX]; rfl
  have hsg : Hid (∀ W, Calls Tryd.prog 52 #[.string (s.extract st.pos s.size)] W fun e w' => e = .returned (.string X) ∧ w' = W) := by
    intro W
    have := Tryd.sign_any (s.extract st.pos s.size) W (by rw [ByteArray.size_extract]; omega)
    rw [suffix_list, hS, hX] at this; exact this
  have gE : X.toList.isEmpty = false := by rw [isEmpty_beq, bs_beq S _ X hX]; rw [hSc]; rfl
  have g0 : (X.toList == []) = false := by rw [bs_beq S _ X hX]; rw [hSc]; rfl
  have g1 : (X.toList == [40]) = false := by rw [bs_beq S _ X hX]; rw [hSc]; rfl
  have g2 : (X.toList == [91]) = true := by rw [bs_beq S _ X hX]; rw [hSc]; rfl
  clear h hV hS hX hSc
  go_enter Tryd.func45, Tryd.ntmps45
  go_wp2_with fail
  go_quiet ((go_at_call 52; exact Calls.quiet_of_same (hsg.out _)))
  have H1 := Lib.hid (H.out.below (below_drewN (Below.refl _ w) nq))
  have hb1 : Below B w (w.drewN nq) := below_drewN (Below.refl B w) nq
  have d0 : (w.drewN nq).cell? ⟨b, 0, none⟩ = some (.string s) := c0
  have d1 : (w.drewN nq).cell? ⟨b, 1, none⟩ = some (.int .i64 st.pos) := c1
  obtain ⟨W1, hW1⟩ : ∃ W1, W1 = w.drewN nq := ⟨_, rfl⟩
  rw [← hW1] at H1 hb1 d0 d1 ⊢
  clear c0 c1 hW1
  obtain ⟨lv1, bv1, hV1⟩ := H1.out
  obtain ⟨_, _, _, d3, _, _, d4, _⟩ := hV1.cells
  have h60 : ((st.opn : Int) == 60) = false := by rw [beq_eq_false_iff_ne]; omega
  have h60' : ¬ st.opn = 60 := by omega
  have hO := hV1.setOpn (st.opn + 1)
  have HO := Lib.hid (⟨_, _, hO.1⟩ : Tryd.LexAt B b s { st with opn := st.opn + 1 } _)
  have hbO := hb1.trans hO.2
  obtain ⟨f0, f1, _⟩ := hO.1.cells
  clear hV1 hO
  go_wp2_with fail
  refine (Tryd.put_any B b s { st with opn := st.opn + 1 } 5 st.pos X _ HO.out (by rw [HXs.out]; omega) hl).mono ?_
  rw [HXd.out]
  rintro e W3 ⟨rfl, H3, b3⟩
  obtain ⟨lv3, bv3, hV3⟩ := H3
  obtain ⟨e0, e1, _, _, _, e2, _⟩ := hV3.cells
  have hX4 := Lib.hid (hV3.setPos (st.pos + S.length))
  have hb3 := hbO.trans b3
  have hXs := HXs.out
  clear hV3 d0 d1
  go_wp2_with fail
  refine bodyPost_end (results_none rfl _ _ _) rfl ?_
  exact ⟨rfl, ⟨_, _, hX4.out.1⟩, hb3.trans hX4.out.2⟩


set_option maxHeartbeats 4000000 in
set_option maxRecDepth 100000 in
theorem Tryd.lsign_deep123 (B b : Nat) (s X : ByteArray) (S : List UInt8) (st : St) (w : World) (h : Tryd.LexAt B b s st w) (hs : s.size ≤ 1000000) (hp : st.pos ≤ s.size) (hl : st.toks.length ≤ 1000000) (ho : st.opn ≤ 60)
    (hS : signOf (s.data.toList.drop st.pos) = S) (hX : bs S = X) (hSc : S = [123]) (ho60 : st.opn = 60) :
    Calls Tryd.prog 45 #[.pointer (some ⟨b, 0, none⟩)] w (Tryd.LexOut B b s w (.error (107, st.pos))) := by
  have hBw := h.base
  obtain ⟨lv, bv, hV⟩ := id h
  obtain ⟨c0, c1, _⟩ := hV.cells
  have hlt := lt_of_block hV.2.1
  have H := Lib.hid h
  have hpI : (st.pos : Int) ≤ (s.size : Int) := by omega
  have hSl : S.length ≤ 3 ∧ S.length + st.pos ≤ s.size := by
    have := signOf_le (s.data.toList.drop st.pos)
    rw [hS, List.length_drop, ← Lib.size_eq] at this; omega
  have HXs : Hid (X.size = S.length) := by show _ = _; rw [← hX, Lib.size_eq]; rfl
  have HXd : Hid (X.data.toList = S) := by show _ = _; rw [← hX]; rfl
  have hsg : Hid (∀ W, Calls Tryd.prog 52 #[.string (s.extract st.pos s.size)] W fun e w' => e = .returned (.string X) ∧ w' = W) := by
    intro W
    have := Tryd.sign_any (s.extract st.pos s.size) W (by rw [ByteArray.size_extract]; omega)
    rw [suffix_list, hS, hX] at this; exact this
  have gE : X.toList.isEmpty = false := by rw [isEmpty_beq, bs_beq S _ X hX]; rw [hSc]; rfl
  have g0 : (X.toList == []) = false := by rw [bs_beq S _ X hX]; rw [hSc]; rfl
  have g1 : (X.toList == [40]) = false := by rw [bs_beq S _ X hX]; rw [hSc]; rfl
  have g2 : (X.toList == [91]) = false := by rw [bs_beq S _ X hX]; rw [hSc]; rfl
  have g3 : (X.toList == [123]) = true := by rw [bs_beq S _ X hX]; rw [hSc]; rfl
  clear h hV hS hX hSc
  go_enter Tryd.func45, Tryd.ntmps45
  go_wp2_with fail
  go_quiet ((go_at_call 52; exact Calls.quiet_of_same (hsg.out _)))
  have H1 := Lib.hid (H.out.below (below_drewN (Below.refl _ w) nq))
  have hb1 : Below B w (w.drewN nq) := below_drewN (Below.refl B w) nq
  have d0 : (w.drewN nq).cell? ⟨b, 0, none⟩ = some (.string s) := c0
  have d1 : (w.drewN nq).cell? ⟨b, 1, none⟩ = some (.int .i64 st.pos) := c1
  obtain ⟨W1, hW1⟩ : ∃ W1, W1 = w.drewN nq := ⟨_, rfl⟩
  rw [← hW1] at H1 hb1 d0 d1 ⊢
  clear c0 c1 hW1
  obtain ⟨lv1, bv1, hV1⟩ := H1.out
  obtain ⟨_, _, _, d3, _⟩ := hV1.cells
  rw [ho60] at d3
  clear hV1
  go_wp2_with fail
  refine (Tryd.fail_any _ 107 st.pos _).mono ?_
  rintro e W3 ⟨rfl, rfl⟩
  go_wp2_with fail
  exact ⟨rfl, rfl, hb1⟩


set_option maxHeartbeats 4000000 in
set_option maxRecDepth 100000 in
theorem Tryd.lsign_open123 (B b : Nat) (s X : ByteArray) (S : List UInt8) (st : St) (w : World) (h : Tryd.LexAt B b s st w) (hs : s.size ≤ 1000000) (hp : st.pos ≤ s.size) (hl : st.toks.length ≤ 1000000) (ho : st.opn ≤ 60)
    (hS : signOf (s.data.toList.drop st.pos) = S) (hX : bs S = X) (hSc : S = [123]) (ho60 : st.opn < 60) :
    Calls Tryd.prog 45 #[.pointer (some ⟨b, 0, none⟩)] w (Tryd.LexOut B b s w (.ok { st with pos := st.pos + S.length, toks := st.toks ++ [⟨5, S, st.pos⟩], opn := st.opn + 1 })) := by
  have hBw := h.base
  obtain ⟨lv, bv, hV⟩ := id h
  obtain ⟨c0, c1, _⟩ := hV.cells
  have hlt := lt_of_block hV.2.1
  have H := Lib.hid h
  have hpI : (st.pos : Int) ≤ (s.size : Int) := by omega
  have hSl : S.length ≤ 3 ∧ S.length + st.pos ≤ s.size := by
    have := signOf_le (s.data.toList.drop st.pos)
    rw [hS, List.length_drop, ← Lib.size_eq] at this; omega
  have HXs : Hid (X.size = S.length) := by show _ = _; rw [← hX, Lib.size_eq]; rfl
  have HXd : Hid (X.data.toList = S) := by show _ = _; rw [← hX]; rfl
  have hsg : Hid (∀ W, Calls Tryd.prog 52 #[.string (s.extract st.pos s.size)] W fun e w' => e = .returned (.string X) ∧ w' = W) := by
    intro W
    have := Tryd.sign_any (s.extract st.pos s.size) W (by rw [ByteArray.size_extract]; omega)
    rw [suffix_list, hS, hX] at this; exact this
  have gE : X.toList.isEmpty = false := by rw [isEmpty_beq, bs_beq S _ X hX]; rw [hSc]; rfl
  have g0 : (X.toList == []) = false := by rw [bs_beq S _ X hX]; rw [hSc]; rfl
  have g1 : (X.toList == [40]) = false := by rw [bs_beq S _ X hX]; rw [hSc]; rfl
  have g2 : (X.toList == [91]) = false := by rw [bs_beq S _ X hX]; rw [hSc]; rfl
  have g3 : (X.toList == [123]) = true := by rw [bs_beq S _ X hX]; rw [hSc]; rfl
  clear h hV hS hX hSc
  go_enter Tryd.func45, Tryd.ntmps45
  go_wp2_with fail
  go_quiet ((go_at_call 52; exact Calls.quiet_of_same (hsg.out _)))
  have H1 := Lib.hid (H.out.below (below_drewN (Below.refl _ w) nq))
  have hb1 : Below B w (w.drewN nq) := below_drewN (Below.refl B w) nq
  have d0 : (w.drewN nq).cell? ⟨b, 0, none⟩ = some (.string s) := c0
  have d1 : (w.drewN nq).cell? ⟨b, 1, none⟩ = some (.int .i64 st.pos) := c1
  obtain ⟨W1, hW1⟩ : ∃ W1, W1 = w.drewN nq := ⟨_, rfl⟩
  rw [← hW1] at H1 hb1 d0 d1 ⊢
  clear c0 c1 hW1
  obtain ⟨lv1, bv1, hV1⟩ := H1.out
  obtain ⟨_, _, _, d3, _, _, d4, _⟩ := hV1.cells
  have h60 : ((st.opn : Int) == 60) = false := by rw [beq_eq_false_iff_ne]; omega
  have h60' : ¬ st.opn = 60 := by omega
  have hO := hV1.setOpn (st.opn + 1)
  have HO := Lib.hid (⟨_, _, hO.1⟩ : Tryd.LexAt B b s { st with opn := st.opn + 1 } _)
  have hbO := hb1.trans hO.2
  obtain ⟨f0, f1, _⟩ := hO.1.cells
  clear hV1 hO
  go_wp2_with fail
  refine (Tryd.put_any B b s { st with opn := st.opn + 1 } 5 st.pos X _ HO.out (by rw [HXs.out]; omega) hl).mono ?_
  rw [HXd.out]
  rintro e W3 ⟨rfl, H3, b3⟩
  obtain ⟨lv3, bv3, hV3⟩ := H3
  obtain ⟨e0, e1, _, _, _, e2, _⟩ := hV3.cells
  have hX4 := Lib.hid (hV3.setPos (st.pos + S.length))
  have hb3 := hbO.trans b3
  have hXs := HXs.out
  clear hV3 d0 d1
  go_wp2_with fail
  refine bodyPost_end (results_none rfl _ _ _) rfl ?_
  exact ⟨rfl, ⟨_, _, hX4.out.1⟩, hb3.trans hX4.out.2⟩


set_option maxHeartbeats 4000000 in
set_option maxRecDepth 100000 in
theorem Tryd.lsign_close41 (B b : Nat) (s X : ByteArray) (S : List UInt8) (st : St) (w : World) (h : Tryd.LexAt B b s st w) (hs : s.size ≤ 1000000) (hp : st.pos ≤ s.size) (hl : st.toks.length ≤ 1000000) (ho : st.opn ≤ 60)
    (hS : signOf (s.data.toList.drop st.pos) = S) (hX : bs S = X) (hSc : S = [41]) :
    Calls Tryd.prog 45 #[.pointer (some ⟨b, 0, none⟩)] w (Tryd.LexOut B b s w (.ok { st with pos := st.pos + S.length, toks := st.toks ++ [⟨5, S, st.pos⟩], opn := st.opn - 1 })) := by
  have hBw := h.base
  obtain ⟨lv, bv, hV⟩ := id h
  obtain ⟨c0, c1, _⟩ := hV.cells
  have hlt := lt_of_block hV.2.1
  have H := Lib.hid h
  have hpI : (st.pos : Int) ≤ (s.size : Int) := by omega
  have hSl : S.length ≤ 3 ∧ S.length + st.pos ≤ s.size := by
    have := signOf_le (s.data.toList.drop st.pos)
    rw [hS, List.length_drop, ← Lib.size_eq] at this; omega
  have HXs : Hid (X.size = S.length) := by show _ = _; rw [← hX, Lib.size_eq]; rfl
  have HXd : Hid (X.data.toList = S) := by show _ = _; rw [← hX]; rfl
  have hsg : Hid (∀ W, Calls Tryd.prog 52 #[.string (s.extract st.pos s.size)] W fun e w' => e = .returned (.string X) ∧ w' = W) := by
    intro W
    have := Tryd.sign_any (s.extract st.pos s.size) W (by rw [ByteArray.size_extract]; omega)
    rw [suffix_list, hS, hX] at this; exact this
  have gE : X.toList.isEmpty = false := by rw [isEmpty_beq, bs_beq S _ X hX]; rw [hSc]; rfl
  have g0 : (X.toList == []) = false := by rw [bs_beq S _ X hX]; rw [hSc]; rfl
  have g1 : (X.toList == [40]) = false := by rw [bs_beq S _ X hX]; rw [hSc]; rfl
  have g2 : (X.toList == [91]) = false := by rw [bs_beq S _ X hX]; rw [hSc]; rfl
  have g3 : (X.toList == [123]) = false := by rw [bs_beq S _ X hX]; rw [hSc]; rfl
  have g4 : (X.toList == [41]) = true := by rw [bs_beq S _ X hX]; rw [hSc]; rfl
  clear h hV hS hX hSc
  go_enter Tryd.func45, Tryd.ntmps45
  go_wp2_with fail
  go_quiet ((go_at_call 52; exact Calls.quiet_of_same (hsg.out _)))
  have H1 := Lib.hid (H.out.below (below_drewN (Below.refl _ w) nq))
  have hb1 : Below B w (w.drewN nq) := below_drewN (Below.refl B w) nq
  have d0 : (w.drewN nq).cell? ⟨b, 0, none⟩ = some (.string s) := c0
  have d1 : (w.drewN nq).cell? ⟨b, 1, none⟩ = some (.int .i64 st.pos) := c1
  obtain ⟨W1, hW1⟩ : ∃ W1, W1 = w.drewN nq := ⟨_, rfl⟩
  rw [← hW1] at H1 hb1 d0 d1 ⊢
  clear c0 c1 hW1
  obtain ⟨lv1, bv1, hV1⟩ := H1.out
  obtain ⟨_, _, _, d3, _, _, d4, _⟩ := hV1.cells
  have hmax : max (0 : Int) ((st.opn : Int) - 1) = ((st.opn - 1 : Nat) : Int) := by omega
  have hO := hV1.setOpn (st.opn - 1)
  have HO := Lib.hid (⟨_, _, hO.1⟩ : Tryd.LexAt B b s { st with opn := st.opn - 1 } _)
  have hbO := hb1.trans hO.2
  obtain ⟨f0, f1, _⟩ := hO.1.cells
  clear hV1 hO
  go_wp2_with fail
  refine (Tryd.put_any B b s { st with opn := st.opn - 1 } 5 st.pos X _ HO.out (by rw [HXs.out]; omega) hl).mono ?_
  rw [HXd.out]
  rintro e W3 ⟨rfl, H3, b3⟩
  obtain ⟨lv3, bv3, hV3⟩ := H3
  obtain ⟨e0, e1, _, _, _, e2, _⟩ := hV3.cells
  have hX4 := Lib.hid (hV3.setPos (st.pos + S.length))
  have hb3 := hbO.trans b3
  have hXs := HXs.out
  clear hV3 d0 d1
  go_wp2_with fail
  refine bodyPost_end (results_none rfl _ _ _) rfl ?_
  exact ⟨rfl, ⟨_, _, hX4.out.1⟩, hb3.trans hX4.out.2⟩


set_option maxHeartbeats 4000000 in
set_option maxRecDepth 100000 in
theorem Tryd.lsign_close93 (B b : Nat) (s X : ByteArray) (S : List UInt8) (st : St) (w : World) (h : Tryd.LexAt B b s st w) (hs : s.size ≤ 1000000) (hp : st.pos ≤ s.size) (hl : st.toks.length ≤ 1000000) (ho : st.opn ≤ 60)
    (hS : signOf (s.data.toList.drop st.pos) = S) (hX : bs S = X) (hSc : S = [93]) :
    Calls Tryd.prog 45 #[.pointer (some ⟨b, 0, none⟩)] w (Tryd.LexOut B b s w (.ok { st with pos := st.pos + S.length, toks := st.toks ++ [⟨5, S, st.pos⟩], opn := st.opn - 1 })) := by
  have hBw := h.base
  obtain ⟨lv, bv, hV⟩ := id h
  obtain ⟨c0, c1, _⟩ := hV.cells
  have hlt := lt_of_block hV.2.1
  have H := Lib.hid h
  have hpI : (st.pos : Int) ≤ (s.size : Int) := by omega
  have hSl : S.length ≤ 3 ∧ S.length + st.pos ≤ s.size := by
    have := signOf_le (s.data.toList.drop st.pos)
    rw [hS, List.length_drop, ← Lib.size_eq] at this; omega
  have HXs : Hid (X.size = S.length) := by show _ = _; rw [← hX, Lib.size_eq]; rfl
  have HXd : Hid (X.data.toList = S) := by show _ = _; rw [← hX]; rfl
  have hsg : Hid (∀ W, Calls Tryd.prog 52 #[.string (s.extract st.pos s.size)] W fun e w' => e = .returned (.string X) ∧ w' = W) := by
    intro W
    have := Tryd.sign_any (s.extract st.pos s.size) W (by rw [ByteArray.size_extract]; omega)
    rw [suffix_list, hS, hX] at this; exact this
  have gE : X.toList.isEmpty = false := by rw [isEmpty_beq, bs_beq S _ X hX]; rw [hSc]; rfl
  have g0 : (X.toList == []) = false := by rw [bs_beq S _ X hX]; rw [hSc]; rfl
  have g1 : (X.toList == [40]) = false := by rw [bs_beq S _ X hX]; rw [hSc]; rfl
  have g2 : (X.toList == [91]) = false := by rw [bs_beq S _ X hX]; rw [hSc]; rfl
  have g3 : (X.toList == [123]) = false := by rw [bs_beq S _ X hX]; rw [hSc]; rfl
  have g4 : (X.toList == [41]) = false := by rw [bs_beq S _ X hX]; rw [hSc]; rfl
  have g5 : (X.toList == [93]) = true := by rw [bs_beq S _ X hX]; rw [hSc]; rfl
  clear h hV hS hX hSc
  go_enter Tryd.func45, Tryd.ntmps45
  go_wp2_with fail
  go_quiet ((go_at_call 52; exact Calls.quiet_of_same (hsg.out _)))
  have H1 := Lib.hid (H.out.below (below_drewN (Below.refl _ w) nq))
  have hb1 : Below B w (w.drewN nq) := below_drewN (Below.refl B w) nq
  have d0 : (w.drewN nq).cell? ⟨b, 0, none⟩ = some (.string s) := c0
  have d1 : (w.drewN nq).cell? ⟨b, 1, none⟩ = some (.int .i64 st.pos) := c1
  obtain ⟨W1, hW1⟩ : ∃ W1, W1 = w.drewN nq := ⟨_, rfl⟩
  rw [← hW1] at H1 hb1 d0 d1 ⊢
  clear c0 c1 hW1
  obtain ⟨lv1, bv1, hV1⟩ := H1.out
  obtain ⟨_, _, _, d3, _, _, d4, _⟩ := hV1.cells
  have hmax : max (0 : Int) ((st.opn : Int) - 1) = ((st.opn - 1 : Nat) : Int) := by omega
  have hO := hV1.setOpn (st.opn - 1)
  have HO := Lib.hid (⟨_, _, hO.1⟩ : Tryd.LexAt B b s { st with opn := st.opn - 1 } _)
  have hbO := hb1.trans hO.2
  obtain ⟨f0, f1, _⟩ := hO.1.cells
  clear hV1 hO
  go_wp2_with fail
  refine (Tryd.put_any B b s { st with opn := st.opn - 1 } 5 st.pos X _ HO.out (by rw [HXs.out]; omega) hl).mono ?_
  rw [HXd.out]
  rintro e W3 ⟨rfl, H3, b3⟩
  obtain ⟨lv3, bv3, hV3⟩ := H3
  obtain ⟨e0, e1, _, _, _, e2, _⟩ := hV3.cells
  have hX4 := Lib.hid (hV3.setPos (st.pos + S.length))
  have hb3 := hbO.trans b3
  have hXs := HXs.out
  clear hV3 d0 d1
  go_wp2_with fail
  refine bodyPost_end (results_none rfl _ _ _) rfl ?_
  exact ⟨rfl, ⟨_, _, hX4.out.1⟩, hb3.trans hX4.out.2⟩


set_option maxHeartbeats 4000000 in
set_option maxRecDepth 100000 in
theorem Tryd.lsign_close125 (B b : Nat) (s X : ByteArray) (S : List UInt8) (st : St) (w : World) (h : Tryd.LexAt B b s st w) (hs : s.size ≤ 1000000) (hp : st.pos ≤ s.size) (hl : st.toks.length ≤ 1000000) (ho : st.opn ≤ 60)
    (hS : signOf (s.data.toList.drop st.pos) = S) (hX : bs S = X) (hSc : S = [125]) :
    Calls Tryd.prog 45 #[.pointer (some ⟨b, 0, none⟩)] w (Tryd.LexOut B b s w (.ok { st with pos := st.pos + S.length, toks := st.toks ++ [⟨5, S, st.pos⟩], opn := st.opn - 1 })) := by
  have hBw := h.base
  obtain ⟨lv, bv, hV⟩ := id h
  obtain ⟨c0, c1, _⟩ := hV.cells
  have hlt := lt_of_block hV.2.1
  have H := Lib.hid h
  have hpI : (st.pos : Int) ≤ (s.size : Int) := by omega
  have hSl : S.length ≤ 3 ∧ S.length + st.pos ≤ s.size := by
    have := signOf_le (s.data.toList.drop st.pos)
    rw [hS, List.length_drop, ← Lib.size_eq] at this; omega
  have HXs : Hid (X.size = S.length) := by show _ = _; rw [← hX, Lib.size_eq]; rfl
  have HXd : Hid (X.data.toList = S) := by show _ = _; rw [← hX]; rfl
  have hsg : Hid (∀ W, Calls Tryd.prog 52 #[.string (s.extract st.pos s.size)] W fun e w' => e = .returned (.string X) ∧ w' = W) := by
    intro W
    have := Tryd.sign_any (s.extract st.pos s.size) W (by rw [ByteArray.size_extract]; omega)
    rw [suffix_list, hS, hX] at this; exact this
  have gE : X.toList.isEmpty = false := by rw [isEmpty_beq, bs_beq S _ X hX]; rw [hSc]; rfl
  have g0 : (X.toList == []) = false := by rw [bs_beq S _ X hX]; rw [hSc]; rfl
  have g1 : (X.toList == [40]) = false := by rw [bs_beq S _ X hX]; rw [hSc]; rfl
  have g2 : (X.toList == [91]) = false := by rw [bs_beq S _ X hX]; rw [hSc]; rfl
  have g3 : (X.toList == [123]) = false := by rw [bs_beq S _ X hX]; rw [hSc]; rfl
  have g4 : (X.toList == [41]) = false := by rw [bs_beq S _ X hX]; rw [hSc]; rfl
  have g5 : (X.toList == [93]) = false := by rw [bs_beq S _ X hX]; rw [hSc]; rfl
  have g6 : (X.toList == [125]) = true := by rw [bs_beq S _ X hX]; rw [hSc]; rfl
  clear h hV hS hX hSc
  go_enter Tryd.func45, Tryd.ntmps45
  go_wp2_with fail
  go_quiet ((go_at_call 52; exact Calls.quiet_of_same (hsg.out _)))
  have H1 := Lib.hid (H.out.below (below_drewN (Below.refl _ w) nq))
  have hb1 : Below B w (w.drewN nq) := below_drewN (Below.refl B w) nq
  have d0 : (w.drewN nq).cell? ⟨b, 0, none⟩ = some (.string s) := c0
  have d1 : (w.drewN nq).cell? ⟨b, 1, none⟩ = some (.int .i64 st.pos) := c1
  obtain ⟨W1, hW1⟩ : ∃ W1, W1 = w.drewN nq := ⟨_, rfl⟩
  rw [← hW1] at H1 hb1 d0 d1 ⊢
  clear c0 c1 hW1
  obtain ⟨lv1, bv1, hV1⟩ := H1.out
  obtain ⟨_, _, _, d3, _, _, d4, _⟩ := hV1.cells
  have hmax : max (0 : Int) ((st.opn : Int) - 1) = ((st.opn - 1 : Nat) : Int) := by omega
  have hO := hV1.setOpn (st.opn - 1)
  have HO := Lib.hid (⟨_, _, hO.1⟩ : Tryd.LexAt B b s { st with opn := st.opn - 1 } _)
  have hbO := hb1.trans hO.2
  obtain ⟨f0, f1, _⟩ := hO.1.cells
  clear hV1 hO
  go_wp2_with fail
  refine (Tryd.put_any B b s { st with opn := st.opn - 1 } 5 st.pos X _ HO.out (by rw [HXs.out]; omega) hl).mono ?_
  rw [HXd.out]
  rintro e W3 ⟨rfl, H3, b3⟩
  obtain ⟨lv3, bv3, hV3⟩ := H3
  obtain ⟨e0, e1, _, _, _, e2, _⟩ := hV3.cells
  have hX4 := Lib.hid (hV3.setPos (st.pos + S.length))
  have hb3 := hbO.trans b3
  have hXs := HXs.out
  clear hV3 d0 d1
  go_wp2_with fail
  refine bodyPost_end (results_none rfl _ _ _) rfl ?_
  exact ⟨rfl, ⟨_, _, hX4.out.1⟩, hb3.trans hX4.out.2⟩


set_option maxHeartbeats 4000000 in
set_option maxRecDepth 100000 in
theorem Tryd.lsign_plain (B b : Nat) (s X : ByteArray) (S : List UInt8) (st : St) (w : World) (h : Tryd.LexAt B b s st w) (hs : s.size ≤ 1000000) (hp : st.pos ≤ s.size) (hl : st.toks.length ≤ 1000000) (ho : st.opn ≤ 60)
    (hS : signOf (s.data.toList.drop st.pos) = S) (hX : bs S = X) (hSc : S ≠ []) (hS0 : S ≠ [40]) (hS1 : S ≠ [91]) (hS2 : S ≠ [123]) (hS3 : S ≠ [41]) (hS4 : S ≠ [93]) (hS5 : S ≠ [125]) :
    Calls Tryd.prog 45 #[.pointer (some ⟨b, 0, none⟩)] w (Tryd.LexOut B b s w (.ok { st with pos := st.pos + S.length, toks := st.toks ++ [⟨5, S, st.pos⟩] })) := by
  have hBw := h.base
  obtain ⟨lv, bv, hV⟩ := id h
  obtain ⟨c0, c1, _⟩ := hV.cells
  have hlt := lt_of_block hV.2.1
  have H := Lib.hid h
  have hpI : (st.pos : Int) ≤ (s.size : Int) := by omega
  have hSl : S.length ≤ 3 ∧ S.length + st.pos ≤ s.size := by
    have := signOf_le (s.data.toList.drop st.pos)
    rw [hS, List.length_drop, ← Lib.size_eq] at this; omega
  have HXs : Hid (X.size = S.length) := by show _ = _; rw [← hX, Lib.size_eq]; rfl
  have HXd : Hid (X.data.toList = S) := by show _ = _; rw [← hX]; rfl
  have hsg : Hid (∀ W, Calls Tryd.prog 52 #[.string (s.extract st.pos s.size)] W fun e w' => e = .returned (.string X) ∧ w' = W) := by
    intro W
    have := Tryd.sign_any (s.extract st.pos s.size) W (by rw [ByteArray.size_extract]; omega)
    rw [suffix_list, hS, hX] at this; exact this
  have gE : X.toList.isEmpty = false := by rw [isEmpty_beq, bs_beq S _ X hX, beq_eq_false_iff_ne]; exact hSc
  have gN : (X.toList == []) = false := by rw [bs_beq S _ X hX, beq_eq_false_iff_ne]; exact hSc
  have g0 : (X.toList == [40]) = false := by rw [bs_beq S _ X hX, beq_eq_false_iff_ne]; exact hS0
  have g1 : (X.toList == [91]) = false := by rw [bs_beq S _ X hX, beq_eq_false_iff_ne]; exact hS1
  have g2 : (X.toList == [123]) = false := by rw [bs_beq S _ X hX, beq_eq_false_iff_ne]; exact hS2
  have g3 : (X.toList == [41]) = false := by rw [bs_beq S _ X hX, beq_eq_false_iff_ne]; exact hS3
  have g4 : (X.toList == [93]) = false := by rw [bs_beq S _ X hX, beq_eq_false_iff_ne]; exact hS4
  have g5 : (X.toList == [125]) = false := by rw [bs_beq S _ X hX, beq_eq_false_iff_ne]; exact hS5
  clear h hV hS hX hSc hS0 hS1 hS2 hS3 hS4 hS5
  go_enter Tryd.func45, Tryd.ntmps45
  go_wp2_with fail
  go_quiet ((go_at_call 52; exact Calls.quiet_of_same (hsg.out _)))
  have H1 := Lib.hid (H.out.below (below_drewN (Below.refl _ w) nq))
  have hb1 : Below B w (w.drewN nq) := below_drewN (Below.refl B w) nq
  have d0 : (w.drewN nq).cell? ⟨b, 0, none⟩ = some (.string s) := c0
  have d1 : (w.drewN nq).cell? ⟨b, 1, none⟩ = some (.int .i64 st.pos) := c1
  obtain ⟨W1, hW1⟩ : ∃ W1, W1 = w.drewN nq := ⟨_, rfl⟩
  rw [← hW1] at H1 hb1 d0 d1 ⊢
  clear c0 c1 hW1
  go_wp2_with fail
  refine (Tryd.put_any B b s st 5 st.pos X _ H1.out (by rw [HXs.out]; omega) hl).mono ?_
  rw [HXd.out]
  rintro e W3 ⟨rfl, H3, b3⟩
  obtain ⟨lv3, bv3, hV3⟩ := H3
  obtain ⟨e0, e1, _, _, _, e2, _⟩ := hV3.cells
  have hX4 := Lib.hid (hV3.setPos (st.pos + S.length))
  have hb3 := hb1.trans b3
  have hXs := HXs.out
  clear hV3 d0 d1
  go_wp2_with fail
  refine bodyPost_end (results_none rfl _ _ _) rfl ?_
  exact ⟨rfl, ⟨_, _, hX4.out.1⟩, hb3.trans hX4.out.2⟩

end Go.Proofs