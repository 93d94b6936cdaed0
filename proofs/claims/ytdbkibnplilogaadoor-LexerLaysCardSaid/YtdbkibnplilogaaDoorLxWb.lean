/-
  Walks: all: from its label next.
-/
import Derived.Test.YtdbkibnplilogaaDoorLxW
set_option linter.unusedVariables false
namespace Go.Proofs
open Go.RowKit Go.Lx Go.Lt

set_option maxHeartbeats 16000000 in
set_option maxRecDepth 100000 in
theorem Tryd.all_next (B b : Nat) (s : ByteArray) (w : World) (RES : Res (List Tok)) (hs : s.size ≤ 65536) (hT : Tryd.TabsIn B w) (R1 : Code) (hR1 : findLabel Tryd.allBody 1 = some (.seq .skip R1)) (hover : Hid (Tryd.AllWp B b s w RES 1 R1)) (R2 : Code) (hR2 : findLabel Tryd.allBody 2 = some (.seq .skip R2)) : Tryd.AllWp B b s w RES 2 R2 := by
  obtain rfl : _ = R1 := by
    have h2 : findLabel Tryd.allBody 1 = some (.seq .skip _) := rfl
    have e := Option.some.inj (h2.symm.trans hR1)
    injection e
  obtain rfl : _ = R2 := by
    have h2 : findLabel Tryd.allBody 2 = some (.seq .skip _) := rfl
    have e := Option.some.inj (h2.symm.trans hR2)
    injection e
  have HT := Lib.hid hT
  clear hT
  -- next
  rintro n a wr ⟨l, hl, rfl⟩ ⟨st0, hA0, hbw0, hp0, ho60, hd, hlen, hR⟩ hm
  obtain ⟨x1, x2, x3, x4, x5, x6, x7, x8, x9, x10, x11, x12, x13, x14, x15, x16, x17, x18, x19, x20, x21, x22, x23, x24, x25, x26, x27, x28, x29, x30, x31, x32, x33, x34, x35, x36, x37, x38, x39, x40, x41, x42, x43, x44, x45, x46, x47, x48, x49, x50, x51, x52, x53, x54, x55, x56, x57, x58, x59, x60, x61, x62, x63, x64, x65, x66, x67, x68, x69, x70, x71, x72, x73, x74, x75, x76, x77, x78, x79, x80, x81, x82, x83, x84, x85, x86, x87, x88, x89, x90, x91, x92, x93, x94, x95, x96, x97, x98, x99, x100, x101, x102, rfl⟩ := list_open102 l hl
  have hpl := pastOf_le (s.data.toList.drop st0.pos)
  rw [List.length_drop, ← Lib.size_eq] at hpl
  obtain ⟨bl', hpast⟩ := goes_past s.data.toList st0 false 0
  rw [goes_bl _ _ bl' 0] at hpast
  have hHA := Lib.hid hA0
  have hHB := Lib.hid hbw0
  have hnext := past_next (s.data.toList.drop st0.pos)
  rw [List.drop_drop] at hnext
  have hm0 : 4 * (s.size - st0.pos) + 2 ≤ n := by have := hm; unfold Tryd.allM at this; rw [hA0.mpos] at this; exact this
  obtain ⟨Q, hQ⟩ : ∃ Q, st0.pos + pastOf (s.data.toList.drop st0.pos) = Q := ⟨_, rfl⟩
  rw [hQ] at hpast hnext
  have HQ := Lib.hid hQ
  obtain ⟨st, hst⟩ : ∃ st, st = { st0 with pos := Q } := ⟨_, rfl⟩
  have hpos : st.pos = Q := by rw [hst]
  have hp : st.pos ≤ s.size := by omega
  have Hm : Hid (4 * (s.size - st.pos) + 2 ≤ n) := by show _ ≤ n; omega
  rw [← hst, hR] at hpast
  have HO : Hid (st.toks.length + st.deep.length ≤ 4 * st.pos + 3 ∧ st.deep.getLast? = some 0 ∧ st.opn ≤ 60 ∧ goes s.data.toList st false 0 = RES) := ⟨by rw [hpos, hst]; show st0.toks.length + st0.deep.length ≤ _; omega, by rw [hst]; exact hd, by rw [hst]; exact ho60, hpast.symm⟩
  rw [← hpos] at hnext
  have Hn := Lib.hid hnext
  have Hst := Lib.hid hst
  clear hA0 hbw0 hm hl hd ho60 hlen hR hpast hnext hm0 hQ hpos hst hpl
  go_wp2_with fail
  refine (Tryd.past_any B b s st0 _ hHA.out (by omega) hp0).mono ?_
  rw [HQ.out, ← Hst.out]
  rintro e W1 ⟨rfl, H1, b1⟩
  have HA1 := Lib.hid H1
  have HB1 := Lib.hid (hHB.out.trans b1)
  clear H1 b1 hHA hHB HQ Hst
  have hends : endsOf (s.data.toList.drop st.pos) = true ∨ endsOf (s.data.toList.drop st.pos) = false := by cases endsOf (s.data.toList.drop st.pos) <;> simp
  have Hends := Lib.hid hends
  clear hends
  go_wp2_with fail
  refine (Tryd.ends_any B b s st _ HA1.out (by omega) hp).mono ?_
  rintro e wr ⟨he, b2⟩
  have HA := Lib.hid (HA1.out.below b2)
  have HB := Lib.hid (HB1.out.trans (b2.mono HA1.out.base))
  clear b2 HA1 HB1
  rcases Hends.out with hends | hends
  · rw [hends] at he
    subst he
    obtain ⟨lv, bv, hV⟩ := HA.out
    obtain ⟨c0, c1, _, c3, _, f1, _⟩ := hV.cells
    have hpI : (st.pos : Int) ≤ (s.size : Int) := by omega
    clear hV Hends
    rcases ends_cases hends with hnil | ⟨t, ht⟩
    · have hpe : st.pos = s.size := by
        have h1 : (s.data.toList.drop st.pos).length = 0 := by rw [hnil]; rfl
        rw [List.length_drop, ← Lib.size_eq] at h1; omega
      have hltI : ((st.pos : Int) == (s.size : Int)) = true := by rw [beq_iff_eq]; omega
      clear hends hnil
      go_wp2_with fail
      go_quiet (fail)
      have HA1 := Lib.hid ((HA.out).drewN nq)
      have HB1 := Lib.hid (below_drewN HB.out nq)
      obtain ⟨W1, hW1⟩ : ∃ W, W = wr.drewN nq := ⟨_, rfl⟩
      rw [← hW1] at HA1 HB1 ⊢
      clear hW1 c0 c1 c3 f1
      obtain ⟨lv1, bv1, hV1⟩ := HA1.out
      obtain ⟨d0, d1, _, d3, _, g1, _⟩ := hV1.cells
      clear hV1
      go_wp2_with fail
      go_step3
      refine ⟨⟨_, ?_, rfl⟩, ⟨st, HA1.out, HB1.out, hp, HO.out.2.2.1, HO.out.2.1, ?_, ?_⟩, ?_⟩
      · rfl
      · have := HO.out.1; omega
      · rw [← HO.out.2.2.2]; exact goes_end _ _ _ _ (by rw [← Lib.size_eq]; omega)
      · unfold Tryd.allM; rw [HA1.out.mpos]; have := Hm.out; show 4 * _ + 0 < n; omega
    · have hlt : st.pos < s.size := by
        have h1 : (s.data.toList.drop st.pos).length = t.length + 1 := by rw [ht]; rfl
        rw [List.length_drop, ← Lib.size_eq] at h1; omega
      have hltI : ((st.pos : Int) == (s.size : Int)) = false := by rw [beq_eq_false_iff_ne]; omega
      have Ht := Lib.hid ht
      clear ht
      by_cases hop : st.opn = 0
      · have hopN : ¬ 0 < st.opn := by omega
        have hopI : ¬ (0 : Int) < (st.opn : Int) := by omega
        have Hgo := Lib.hid (goes_newline s.data.toList st 0 t hop Ht.out)
        have Hop := Lib.hid hop
        have Hends := Lib.hid hends
        clear hop hends
        go_wp2_with fail
        go_quiet (fail)
        have HA1 := Lib.hid ((HA.out).drewN nq)
        have HB1 := Lib.hid (below_drewN HB.out nq)
        obtain ⟨W1, hW1⟩ : ∃ W, W = wr.drewN nq := ⟨_, rfl⟩
        rw [← hW1] at HA1 HB1 ⊢
        clear hW1 c0 c1 c3 f1
        obtain ⟨lv1, bv1, hV1⟩ := HA1.out
        obtain ⟨d0, d1, _, d3, _, g1, _⟩ := hV1.cells
        clear hV1
        go_wp2_with fail
        refine (Tryd.put_any B b s st 6 st.pos ⟨#[]⟩ _ HA1.out (by decide) (by have := HO.out.1; omega)).mono ?_
        rintro e W2 ⟨rfl, H2, b2⟩
        have HA2 := Lib.hid H2
        have HB2 := Lib.hid (HB1.out.trans b2)
        clear H2 b2
        go_wp2_with fail
        go_step3
        rename_i K hK
        refine hK _ _ (hover.out n _ _ ⟨_, ?_, rfl⟩ ⟨_, HA2.out, HB2.out, hp, HO.out.2.2.1, HO.out.2.1, Hop.out, ?_, ?_, ?_, Hends.out⟩ ?_)
        · rfl
        · have := HO.out.1; show (st.toks ++ _).length + st.deep.length ≤ 4 * st.pos + 4; rw [List.length_append]; simp only [List.length_cons, List.length_nil]; omega
        · intro t' ht'
          rw [← HO.out.2.2.2, Hgo.out]
        · intro hnil
          have h2 : s.data.toList.drop st.pos = [] := hnil
          rw [Ht.out] at h2; cases h2
        · unfold Tryd.allM; rw [HA2.out.mpos]; have := Hm.out; show 4 * (s.size - st.pos) + 1 ≤ n; omega
      · have hopN : 0 < st.opn := by omega
        have hopI : (0 : Int) < (st.opn : Int) := by omega
        have Hgo := Lib.hid (goes_inside s.data.toList st 0 t hop Ht.out)
        have Hop := Lib.hid hop
        clear hop hends
        go_wp2_with fail
        go_quiet (fail)
        have HA1 := Lib.hid ((HA.out).drewN nq)
        have HB1 := Lib.hid (below_drewN HB.out nq)
        obtain ⟨W1, hW1⟩ : ∃ W, W = wr.drewN nq := ⟨_, rfl⟩
        rw [← hW1] at HA1 HB1 ⊢
        clear hW1 c0 c1 c3 f1
        obtain ⟨lv1, bv1, hV1⟩ := HA1.out
        obtain ⟨d0, d1, _, d3, _, g1, _⟩ := hV1.cells
        clear hV1
        have h1 := Lib.hid ((HA1.out).setPos (st.pos + 1))
        rw [show ((st.pos + 1 : Nat) : Int) = (st.pos : Int) + 1 by omega] at h1
        have HF := Lib.hid (HB1.out.trans h1.out.2)
        go_wp2_with fail
        go_step3
        refine ⟨⟨_, ?_, rfl⟩, ⟨{ st with pos := st.pos + 1 }, h1.out.1, HF.out, hlt, HO.out.2.2.1, HO.out.2.1, ?_, ?_⟩, ?_⟩
        · rfl
        · have := HO.out.1; show _ ≤ 4 * (st.pos + 1) + 3; simp only; omega
        · rw [← HO.out.2.2.2, Hgo.out]
        · unfold Tryd.allM; rw [h1.out.1.mpos]; have := Hm.out; show 4 * (s.size - (st.pos + 1)) + 2 < n; omega
  · rw [hends] at he
    subst he
    obtain ⟨c, t, hct, hc10⟩ : ∃ c t, s.data.toList.drop st.pos = c :: t ∧ c ≠ 10 := by
      cases hl : s.data.toList.drop st.pos with
      | nil => rw [hl] at hends; cases hends
      | cons c t => exact ⟨c, t, rfl, by rw [hl] at hends; simpa [endsOf] using hends⟩
    have hlt : st.pos < s.size := by
      have h1 : (s.data.toList.drop st.pos).length = t.length + 1 := by rw [hct]; rfl
      rw [List.length_drop, ← Lib.size_eq] at h1; omega
    obtain ⟨hc32, hc35⟩ := Hn.out c t hct
    have Htok := Lib.hid (goes_token s.data.toList st 0 c t hc35 hc32 hc10 hct)
    have Hct := Lib.hid hct
    clear hends Hends hc10 hc32 hc35 hct
    go_wp2_with fail
    refine (Tryd.ltoken_any B b s st _ HA.out (HT.out.below HB.out) (by omega) hlt (by have := HO.out.1; omega) HO.out.2.2.1).mono ?_
    rw [Hct.out]
    intro e W2 h2
    cases htk : token (c :: t) st with
    | error ca =>
      obtain ⟨c', a'⟩ := ca
      rw [htk] at h2
      obtain ⟨rfl, b2⟩ := h2
      have hRE : RES = .error (c', a') := by rw [← HO.out.2.2.2, Htok.out, htk]
      have HB2 := Lib.hid (HB.out.trans b2)
      subst hRE
      clear b2 Htok htk
      go_wp2_with fail
      exact ⟨rfl, rfl, HB2.out⟩
    | ok st2 =>
      rw [htk] at h2
      obtain ⟨rfl, H2, b2⟩ := h2
      have hRO : goes s.data.toList st2 false 0 = RES := by rw [← HO.out.2.2.2, Htok.out, htk]
      have HRO := Lib.hid hRO
      have Htp := Lib.hid (token_pos htk)
      have HA2 := Lib.hid H2
      have HB2 := Lib.hid (HB.out.trans b2)
      have hc2 : Hid ((c :: t).length = s.size - st.pos) := by show _ = _; rw [← Hct.out, List.length_drop, ← Lib.size_eq]
      clear H2 b2 Htok htk hRO
      go_wp2_with fail
      go_step3
      have q1 := Htp.out.1
      have q2 := Htp.out.2.1
      rw [hc2.out] at q2
      refine ⟨⟨_, ?_, rfl⟩, ⟨st2, HA2.out, HB2.out, by omega, Htp.out.2.2.2.2 HO.out.2.2.1, ?_, ?_, HRO.out⟩, ?_⟩
      · rfl
      · rw [Htp.out.2.2.1]; exact HO.out.2.1
      · rw [Htp.out.2.2.2.1, Htp.out.2.2.1]; have := HO.out.1; omega
      · unfold Tryd.allM; rw [HA2.out.mpos]; have := Hm.out; show 4 * (s.size - st2.pos) + 2 < n; omega
end Go.Proofs
