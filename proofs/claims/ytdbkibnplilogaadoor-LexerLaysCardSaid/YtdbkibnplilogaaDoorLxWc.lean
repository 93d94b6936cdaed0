/-
  Walks: all: from its label line.
-/
import Derived.Test.YtdbkibnplilogaaDoorLxW
set_option linter.unusedVariables false
namespace Go.Proofs
open Go.RowKit Go.Lx Go.Lt

set_option maxHeartbeats 16000000 in
set_option maxRecDepth 100000 in
theorem Tryd.all_line (B b : Nat) (s : ByteArray) (w : World) (RES : Res (List Tok)) (hs : s.size ≤ 65536) (R2 : Code) (hR2 : findLabel Tryd.allBody 2 = some (.seq .skip R2)) (hnext : Hid (Tryd.AllWp B b s w RES 2 R2)) (R0 : Code) (hR0 : findLabel Tryd.allBody 0 = some (.seq .skip R0)) : Tryd.AllWp B b s w RES 0 R0 := by
  obtain rfl : _ = R2 := by
    have h2 : findLabel Tryd.allBody 2 = some (.seq .skip _) := rfl
    have e := Option.some.inj (h2.symm.trans hR2)
    injection e
  obtain rfl : _ = R0 := by
    have h2 : findLabel Tryd.allBody 0 = some (.seq .skip _) := rfl
    have e := Option.some.inj (h2.symm.trans hR0)
    injection e
  -- line
  rintro n a wr0 ⟨l, hl, rfl⟩ ⟨st0, hA0, hbw0, hp0, ho60, hd, ho, hlen, hR⟩ hm
  obtain ⟨x1, x2, x3, x4, x5, x6, x7, x8, x9, x10, x11, x12, x13, x14, x15, x16, x17, x18, x19, x20, x21, x22, x23, x24, x25, x26, x27, x28, x29, x30, x31, x32, x33, x34, x35, x36, x37, x38, x39, x40, x41, x42, x43, x44, x45, x46, x47, x48, x49, x50, x51, x52, x53, x54, x55, x56, x57, x58, x59, x60, x61, x62, x63, x64, x65, x66, x67, x68, x69, x70, x71, x72, x73, x74, x75, x76, x77, x78, x79, x80, x81, x82, x83, x84, x85, x86, x87, x88, x89, x90, x91, x92, x93, x94, x95, x96, x97, x98, x99, x100, x101, x102, rfl⟩ := list_open102 l hl
  have HA0 := Lib.hid hA0
  have HB0 := Lib.hid hbw0
  have Hm : Hid (4 * (s.size - st0.pos) + 3 ≤ n) := by have := hm; unfold Tryd.allM at this; rw [hA0.mpos] at this; exact this
  obtain ⟨lv, bv, hV⟩ := hA0
  obtain ⟨c0, c1, _, c3, _, f1, _⟩ := hV.cells
  have hbl := blanksOf_le (s.data.toList.drop st0.pos)
  rw [List.length_drop, ← Lib.size_eq] at hbl
  have hno := blanks_next (s.data.toList.drop st0.pos)
  obtain ⟨P, hP⟩ : ∃ P, st0.pos + blanksOf (s.data.toList.drop st0.pos) = P := ⟨_, rfl⟩
  have hpP : P ≤ s.size := by omega
  have hpl := pastOf_le (s.data.toList.drop P)
  rw [List.length_drop, ← Lib.size_eq] at hpl
  have hnx := past_next (s.data.toList.drop P)
  rw [List.drop_drop] at hnx
  obtain ⟨Q, hQ⟩ : ∃ Q, P + pastOf (s.data.toList.drop P) = Q := ⟨_, rfl⟩
  rw [hQ] at hnx
  have hpQ : Q ≤ s.size := by omega
  have hPQ : P ≤ Q := by omega
  have hp0P : st0.pos ≤ P := by omega
  have hgl := goes_line s.data.toList st0 P Q hP hQ
  obtain ⟨D, hD⟩ : ∃ D, P - st0.pos = D := ⟨_, rfl⟩
  rw [hD, hR] at hgl
  have hsub : (P : Int) - (st0.pos : Int) = (D : Int) := by omega
  have hwr : IntKind.i64.wrap (D : Int) = (D : Int) := IntWalk.i64_in _ (by omega)
  have HO : Hid (st0.opn = 0 ∧ st0.toks.length + st0.deep.length ≤ 4 * st0.pos + 1 ∧ goes s.data.toList { st0 with pos := Q } true D = RES ∧ st0.deep.getLast? = some 0 ∧ st0.opn ≤ 60) := ⟨ho, hlen, hgl.symm, hd, ho60⟩
  have Hn := Lib.hid hnx
  have HP := Lib.hid hP
  have HQ := Lib.hid hQ
  have Hno := Lib.hid hno
  have hends : endsOf (s.data.toList.drop Q) = true ∨ endsOf (s.data.toList.drop Q) = false := by cases endsOf (s.data.toList.drop Q) <;> simp
  have Hends := Lib.hid hends
  clear hends hno hQ hP hnx hgl hD ho hlen hR hd ho60 hV hm hl hbw0 hbl hpl
  go_wp2_with fail
  go_loopw [] (fun wr => ∃ (p : Nat), Tryd.LexAt B b s { st0 with pos := p } wr ∧ Below B w wr ∧ p ≤ s.size ∧ Hid (p + blanksOf (s.data.toList.drop p) = P)) (fun wr => s.size + 1 - Tryd.mpos b wr)
  case atStart => exact ⟨st0.pos, HA0.out, HB0.out, hp0, HP.out⟩
  case round =>
    clear HA0 HB0 HP c0 c1 c3 f1
    obtain ⟨p, hA, hbw, hps, hq⟩ := hrel
    have HA := Lib.hid hA
    obtain ⟨lv, bv, hV⟩ := hA
    obtain ⟨c0, c1, _, _, _, f1, _⟩ := hV.cells
    clear hV
    have c1 : wr.cell? ⟨b, 1, none⟩ = some (.int .i64 p) := c1
    by_cases hlt : p < s.size
    · have hpI : (p : Int) < (s.size : Int) := by omega
      have hpI2 : (p : Int) ≤ (s.size : Int) := by omega
      have hdk := drop_cons s p hlt
      obtain ⟨c, hc⟩ : ∃ c, s[p] = c := ⟨_, rfl⟩
      rw [hc] at hdk
      have Hdk := Lib.hid hdk
      clear hdk
      have f32 : ((c.toNat : Int) == 32) = (c == 32) := u8_beq c 32 (by omega)
      by_cases h32 : c = 32
      · have hq2 : Hid ((p + 1) + blanksOf (s.data.toList.drop (p + 1)) = P) := by
          show _ = _
          rw [← hq.out, Hdk.out, h32, blanksOf_blank]; omega
        have e32 : (c == 32) = true := by rw [beq_iff_eq]; exact h32
        rw [e32] at f32
        have HB : Hid (∀ n, Tryd.LexAt B b s { st0 with pos := p + 1 } ((wr.drewN n).setCell ⟨b, 1, none⟩ (.int .i64 ((p : Int) + 1))) ∧ Below B w ((wr.drewN n).setCell ⟨b, 1, none⟩ (.int .i64 ((p : Int) + 1)))) := by
          intro n
          have h1 := (HA.out.drewN n).setPos (p + 1)
          rw [show ((p + 1 : Nat) : Int) = (p : Int) + 1 by omega] at h1
          exact ⟨h1.1, (below_drewN hbw n).trans h1.2⟩
        clear e32 h32
        go_wp2_with fail
        go_quiet (fail)
        go_wp2_with fail
        refine ⟨⟨p + 1, (HB.out nq).1, (HB.out nq).2, by omega, hq2⟩, ?_⟩
        rw [(HB.out nq).1.mpos, HA.out.mpos]
        show s.size + 1 - (p + 1) < s.size + 1 - p
        omega
      · have e32 : (c == 32) = false := by rw [beq_eq_false_iff_ne]; exact h32
        rw [e32] at f32
        have hPp : P = p := by
          rw [← hq.out]; rw [Hdk.out, blanksOf_other _ _ h32]; rfl
        subst hPp
        clear hq
        go_wp2_with fail
        go_quiet (fail)
        have HA1 := Lib.hid ((HA.out).drewN nq)
        have HB1 := Lib.hid (below_drewN hbw nq)
        obtain ⟨W1, hW1⟩ : ∃ W, W = wr.drewN nq := ⟨_, rfl⟩
        rw [← hW1] at HA1 HB1 ⊢
        clear hW1 c0 c1 f1
        obtain ⟨lv1, bv1, hV1⟩ := HA1.out
        obtain ⟨d0, d1, _, _, _, g1, _⟩ := hV1.cells
        have d1 : W1.cell? ⟨b, 1, none⟩ = some (.int .i64 P) := d1
        clear hV1
        go_wp2_with fail
        refine (Tryd.past_any B b s { st0 with pos := P } _ HA1.out (by omega) hpP).mono ?_
        rw [show ({ st0 with pos := P } : St).pos + pastOf (s.data.toList.drop ({ st0 with pos := P } : St).pos) = Q from HQ.out]
        rintro e W2 ⟨rfl, H2, b2⟩
        have HA2 : Hid (Tryd.LexAt B b s { st0 with pos := Q } W2) := H2
        have HB2 := Lib.hid (HB1.out.trans b2)
        clear H2 b2 HA1 HB1
        go_wp2_with fail
        refine (Tryd.ends_any B b s { st0 with pos := Q } _ HA2.out (by omega) hpQ).mono ?_
        rintro e W3 ⟨he, b3⟩
        have HA3 := Lib.hid (HA2.out.below b3)
        have HB3 := Lib.hid (HB2.out.trans (b3.mono HA2.out.base))
        clear b3 HA2 HB2
        rcases Hends.out with hends | hends
        · rw [show endsOf (s.data.toList.drop ({ st0 with pos := Q } : St).pos) = true from hends] at he
          subst he
          go_wp2_with fail
          go_step3
          refine ⟨⟨_, ?_, rfl⟩, ⟨{ st0 with pos := Q }, HA3.out, HB3.out, hpQ, HO.out.2.2.2.2, HO.out.2.2.2.1, HO.out.1, ?_, ?_, ?_, hends⟩, ?_⟩
          · rfl
          · have := HO.out.2.1; show st0.toks.length + st0.deep.length ≤ 4 * Q + 4; omega
          · intro t' ht'
            rw [← HO.out.2.2.1, ← goes_over s.data.toList { st0 with pos := Q } D t' HO.out.1 ht']
          · intro hnil
            rw [← HO.out.2.2.1]
            exact goes_end _ _ _ _ (by have h1 := congrArg List.length (show s.data.toList.drop Q = [] from hnil); rw [List.length_drop, ← Lib.size_eq, List.length_nil] at h1; rw [← Lib.size_eq]; show _ ≤ Q; omega)
          · unfold Tryd.allM; rw [HA3.out.mpos]; have := Hm.out; show 4 * (s.size - Q) + 1 < n; omega
        · rw [show endsOf (s.data.toList.drop ({ st0 with pos := Q } : St).pos) = false from hends] at he
          subst he
          obtain ⟨c', t', hct, hc10⟩ : ∃ c t, s.data.toList.drop Q = c :: t ∧ c ≠ 10 := by
            cases hl : s.data.toList.drop Q with
            | nil => rw [hl] at hends; cases hends
            | cons c t => exact ⟨c, t, rfl, by rw [hl] at hends; simpa [endsOf] using hends⟩
          obtain ⟨hc32, hc35⟩ := Hn.out c' t' hct
          have Hind := Lib.hid (goes_indent s.data.toList { st0 with pos := Q } D c' t' hc35 hc32 hc10 hct)
          clear hends hc10 hc32 hc35 hct
          go_wp2_with fail
          refine (Tryd.indent_any B b s { st0 with pos := Q } D _ HA3.out HO.out.2.2.2.1 (by have := HO.out.2.1; show st0.toks.length + st0.deep.length ≤ 1000000; omega)).mono ?_
          intro e W4 h4
          cases hin : Lx.indent D { st0 with pos := Q } with
          | error ca =>
            obtain ⟨c'', a''⟩ := ca
            rw [hin] at h4
            obtain ⟨rfl, b4⟩ := h4
            have hRE : RES = .error (c'', a'') := by rw [← HO.out.2.2.1, Hind.out, hin]
            have HB4 := Lib.hid (HB3.out.trans b4)
            subst hRE
            clear b4 Hind hin
            go_wp2_with fail
            exact ⟨rfl, rfl, HB4.out⟩
          | ok st1 =>
            rw [hin] at h4
            obtain ⟨rfl, H4, b4⟩ := h4
            have HRO := Lib.hid (show goes s.data.toList st1 false 0 = RES by rw [← HO.out.2.2.1, Hind.out, hin])
            have Hip := Lib.hid (indent_pos hin)
            have Hio := Lib.hid (indent_ok hin HO.out.2.2.2.1)
            have HA4 := Lib.hid H4
            have HB4 := Lib.hid (HB3.out.trans b4)
            clear H4 b4 Hind hin
            go_wp2_with fail
            go_step3
            rename_i K hK
            have q1 : st1.pos = Q := Hip.out.1
            refine hK _ _ (hnext.out n _ _ ⟨_, ?_, rfl⟩ ⟨st1, HA4.out, HB4.out, by omega, by rw [Hip.out.2]; exact HO.out.2.2.2.2, Hio.out.1, ?_, HRO.out⟩ ?_)
            · rfl
            · have h5 : st1.toks.length + st1.deep.length ≤ st0.toks.length + st0.deep.length + 2 := Hio.out.2; have := HO.out.2.1; omega
            · unfold Tryd.allM; rw [HA4.out.mpos]; have := Hm.out; show 4 * (s.size - st1.pos) + 2 ≤ n; omega
    · have hpI : decide ((p : Int) < (s.size : Int)) = false := by simp; omega
      have hPp : P = p := by
        rw [← hq.out]; rw [List.drop_eq_nil_of_le (by rw [← Lib.size_eq]; omega)]; rfl
      subst hPp
      clear hq
      go_wp2_with fail
      go_quiet (fail)
      have HA1 := Lib.hid ((HA.out).drewN nq)
      have HB1 := Lib.hid (below_drewN hbw nq)
      obtain ⟨W1, hW1⟩ : ∃ W, W = wr.drewN nq := ⟨_, rfl⟩
      rw [← hW1] at HA1 HB1 ⊢
      clear hW1 c0 c1 f1
      obtain ⟨lv1, bv1, hV1⟩ := HA1.out
      obtain ⟨d0, d1, _, _, _, g1, _⟩ := hV1.cells
      have d1 : W1.cell? ⟨b, 1, none⟩ = some (.int .i64 P) := d1
      clear hV1
      go_wp2_with fail
      refine (Tryd.past_any B b s { st0 with pos := P } _ HA1.out (by omega) hpP).mono ?_
      rw [show ({ st0 with pos := P } : St).pos + pastOf (s.data.toList.drop ({ st0 with pos := P } : St).pos) = Q from HQ.out]
      rintro e W2 ⟨rfl, H2, b2⟩
      have HA2 : Hid (Tryd.LexAt B b s { st0 with pos := Q } W2) := H2
      have HB2 := Lib.hid (HB1.out.trans b2)
      clear H2 b2 HA1 HB1
      go_wp2_with fail
      refine (Tryd.ends_any B b s { st0 with pos := Q } _ HA2.out (by omega) hpQ).mono ?_
      rintro e W3 ⟨he, b3⟩
      have HA3 := Lib.hid (HA2.out.below b3)
      have HB3 := Lib.hid (HB2.out.trans (b3.mono HA2.out.base))
      clear b3 HA2 HB2
      rcases Hends.out with hends | hends
      · rw [show endsOf (s.data.toList.drop ({ st0 with pos := Q } : St).pos) = true from hends] at he
        subst he
        go_wp2_with fail
        go_step3
        refine ⟨⟨_, ?_, rfl⟩, ⟨{ st0 with pos := Q }, HA3.out, HB3.out, hpQ, HO.out.2.2.2.2, HO.out.2.2.2.1, HO.out.1, ?_, ?_, ?_, hends⟩, ?_⟩
        · rfl
        · have := HO.out.2.1; show st0.toks.length + st0.deep.length ≤ 4 * Q + 4; omega
        · intro t' ht'
          rw [← HO.out.2.2.1, ← goes_over s.data.toList { st0 with pos := Q } D t' HO.out.1 ht']
        · intro hnil
          rw [← HO.out.2.2.1]
          exact goes_end _ _ _ _ (by have h1 := congrArg List.length (show s.data.toList.drop Q = [] from hnil); rw [List.length_drop, ← Lib.size_eq, List.length_nil] at h1; rw [← Lib.size_eq]; show _ ≤ Q; omega)
        · unfold Tryd.allM; rw [HA3.out.mpos]; have := Hm.out; show 4 * (s.size - Q) + 1 < n; omega
      · rw [show endsOf (s.data.toList.drop ({ st0 with pos := Q } : St).pos) = false from hends] at he
        subst he
        obtain ⟨c', t', hct, hc10⟩ : ∃ c t, s.data.toList.drop Q = c :: t ∧ c ≠ 10 := by
          cases hl : s.data.toList.drop Q with
          | nil => rw [hl] at hends; cases hends
          | cons c t => exact ⟨c, t, rfl, by rw [hl] at hends; simpa [endsOf] using hends⟩
        obtain ⟨hc32, hc35⟩ := Hn.out c' t' hct
        have Hind := Lib.hid (goes_indent s.data.toList { st0 with pos := Q } D c' t' hc35 hc32 hc10 hct)
        clear hends hc10 hc32 hc35 hct
        go_wp2_with fail
        refine (Tryd.indent_any B b s { st0 with pos := Q } D _ HA3.out HO.out.2.2.2.1 (by have := HO.out.2.1; show st0.toks.length + st0.deep.length ≤ 1000000; omega)).mono ?_
        intro e W4 h4
        cases hin : Lx.indent D { st0 with pos := Q } with
        | error ca =>
          obtain ⟨c'', a''⟩ := ca
          rw [hin] at h4
          obtain ⟨rfl, b4⟩ := h4
          have hRE : RES = .error (c'', a'') := by rw [← HO.out.2.2.1, Hind.out, hin]
          have HB4 := Lib.hid (HB3.out.trans b4)
          subst hRE
          clear b4 Hind hin
          go_wp2_with fail
          exact ⟨rfl, rfl, HB4.out⟩
        | ok st1 =>
          rw [hin] at h4
          obtain ⟨rfl, H4, b4⟩ := h4
          have HRO := Lib.hid (show goes s.data.toList st1 false 0 = RES by rw [← HO.out.2.2.1, Hind.out, hin])
          have Hip := Lib.hid (indent_pos hin)
          have Hio := Lib.hid (indent_ok hin HO.out.2.2.2.1)
          have HA4 := Lib.hid H4
          have HB4 := Lib.hid (HB3.out.trans b4)
          clear H4 b4 Hind hin
          go_wp2_with fail
          go_step3
          rename_i K hK
          have q1 : st1.pos = Q := Hip.out.1
          refine hK _ _ (hnext.out n _ _ ⟨_, ?_, rfl⟩ ⟨st1, HA4.out, HB4.out, by omega, by rw [Hip.out.2]; exact HO.out.2.2.2.2, Hio.out.1, ?_, HRO.out⟩ ?_)
          · rfl
          · have h5 : st1.toks.length + st1.deep.length ≤ st0.toks.length + st0.deep.length + 2 := Hio.out.2; have := HO.out.2.1; omega
          · unfold Tryd.allM; rw [HA4.out.mpos]; have := Hm.out; show 4 * (s.size - st1.pos) + 2 ≤ n; omega
end Go.Proofs
