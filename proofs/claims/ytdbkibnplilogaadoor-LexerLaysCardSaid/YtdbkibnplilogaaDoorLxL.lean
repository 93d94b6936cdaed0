/-
  Walks: past.
-/
import Derived.Test.YtdbkibnplilogaaDoorLxK
import Derived.IntWalk
set_option linter.unusedVariables false
namespace Go.Proofs
open Go.RowKit Go.Lx Go.Lt

theorem Tryd.LexAt.setPos {B b : Nat} {s : ByteArray} {st : St} {w : World} (h : Tryd.LexAt B b s st w) (q : Nat) : Tryd.LexAt B b s { st with pos := q } (w.setCell ⟨b, 1, none⟩ (.int .i64 q)) ∧ Below B w (w.setCell ⟨b, 1, none⟩ (.int .i64 q)) :=
  let ⟨_, _, hV⟩ := h; ⟨⟨_, _, (hV.setPos q).1⟩, (hV.setPos q).2⟩
theorem Tryd.LexAt.drewN {B b : Nat} {s : ByteArray} {st : St} {w : World} (h : Tryd.LexAt B b s st w) (n : Nat) : Tryd.LexAt B b s st (w.drewN n) := h.below (below_drewN (Below.refl _ w) n)

theorem Tryd.LexAt.cpos {B b : Nat} {s : ByteArray} {st : St} {w : World} (h : Tryd.LexAt B b s st w) : w.cell? ⟨b, 1, none⟩ = some (.int .i64 st.pos) := let ⟨_, _, hV⟩ := h; hV.cells.2.1
def Tryd.mpos (b : Nat) (w : World) : Nat := (intOf ((w.cell? ⟨b, 1, none⟩).getD undef)).toNat
theorem Tryd.LexAt.mpos {B b : Nat} {s : ByteArray} {st : St} {w : World} (h : Tryd.LexAt B b s st w) : Tryd.mpos b w = st.pos := by unfold Tryd.mpos; rw [h.cpos]; rfl

set_option maxHeartbeats 8000000 in
theorem Tryd.past_any (B b : Nat) (s : ByteArray) (st : St) (w : World) (h : Tryd.LexAt B b s st w) (hs : s.size ≤ 100000) (hp : st.pos ≤ s.size) :
    Calls Tryd.prog 24 #[.pointer (some ⟨b, 0, none⟩)] w fun e w' => e = .returned (.tuple #[]) ∧ Tryd.LexAt B b s { st with pos := st.pos + pastOf (s.data.toList.drop st.pos) } w' ∧ Below B w w' := by
  have H0 := Lib.hid h
  obtain ⟨Q, hQ⟩ : ∃ Q, st.pos + pastOf (s.data.toList.drop st.pos) = Q := ⟨_, rfl⟩
  rw [hQ]
  have HQ := Lib.hid hQ
  have hpp : ∃ p, p = st.pos := ⟨_, rfl⟩
  clear h hQ
  go_enter Tryd.func24, Tryd.ntmps24
  go_wp2
  go_loopw [] (fun wr => ∃ (p : Nat), Tryd.LexAt B b s { st with pos := p } wr ∧ Below B w wr ∧ p ≤ s.size ∧ Hid (p + pastOf (s.data.toList.drop p) = Q)) (fun wr => s.size + 1 - Tryd.mpos b wr)
  case atStart => exact ⟨st.pos, H0.out, Below.refl _ _, hp, HQ.out⟩
  case round =>
    clear H0 HQ hp hpp
    obtain ⟨p, hA, hbw, hps, hq⟩ := hrel
    have HA := Lib.hid hA
    obtain ⟨lv, bv, hV⟩ := hA
    obtain ⟨c0, c1, _, _, _, f1, _⟩ := hV.cells
    clear hV
    have c1 : wr.cell? ⟨b, 1, none⟩ = some (.int .i64 p) := c1
    by_cases hlt : p < s.size
    · have hpI : (p : Int) < (s.size : Int) := by omega
      have hpI2 : (p : Int) ≤ (s.size : Int) := by omega
      have hdk := drop_cons s p hlt
      obtain ⟨c, hc⟩ : ∃ c, s[p] = c := ⟨_, rfl⟩
      rw [hc] at hdk
      have Hdk := Lib.hid hdk
      clear hdk
      have f32 : ((c.toNat : Int) == 32) = (c == 32) := u8_beq c 32 (by omega)
      have f35 : ((c.toNat : Int) == 35) = (c == 35) := u8_beq c 35 (by omega)
      by_cases h32 : c = 32
      · have hq2 : Hid ((p + 1) + pastOf (s.data.toList.drop (p + 1)) = Q) := by
          show _ = _
          rw [← hq.out, Hdk.out, h32, pastOf_blank]; omega
        have e32 : (c == 32) = true := by rw [beq_iff_eq]; exact h32
        rw [e32] at f32
        have HB : Hid (∀ n, Tryd.LexAt B b s { st with pos := p + 1 } ((wr.drewN n).setCell ⟨b, 1, none⟩ (.int .i64 ((p : Int) + 1))) ∧ Below B w ((wr.drewN n).setCell ⟨b, 1, none⟩ (.int .i64 ((p : Int) + 1)))) := by
          intro n
          have h1 := (HA.out.drewN n).setPos (p + 1)
          rw [show ((p + 1 : Nat) : Int) = (p : Int) + 1 by omega] at h1
          exact ⟨h1.1, (below_drewN hbw n).trans h1.2⟩
        clear e32 h32 f35
        go_wp2_with fail
        go_quiet (fail)
        go_wp2_with fail
        refine ⟨⟨p + 1, (HB.out nq).1, (HB.out nq).2, by omega, hq2⟩, ?_⟩
        rw [(HB.out nq).1.mpos, HA.out.mpos]
        show s.size + 1 - (p + 1) < s.size + 1 - p
        omega
      · have e32 : (c == 32) = false := by rw [beq_eq_false_iff_ne]; exact h32
        rw [e32] at f32
        by_cases h35 : c = 35
        · have e35 : (c == 35) = true := by rw [beq_iff_eq]; exact h35
          rw [e35] at f35
          obtain ⟨r, hr⟩ : ∃ r, remark (s.data.toList.drop p) = r := ⟨_, rfl⟩
          have hpr : p + r = Q := by rw [← hq.out, Hdk.out, h35, pastOf_remark, ← h35, ← Hdk.out, hr]
          have hrl : p + r ≤ s.size := by
            have := remark_le (s.data.toList.drop p)
            rw [hr, List.length_drop, ← Lib.size_eq] at this; omega
          have hix := remark_index (s.data.toList.drop p)
          rw [hr, List.length_drop, ← Lib.size_eq] at hix
          have Hpr := Lib.hid hpr
          rcases hix with ⟨hx1, hx2⟩ | hx
          · have hcall : Hid (∀ W, Calls Tryd.prog 37 #[.string (s.extract p s.size), .int .u8 10] W fun e w' => e = .returned (.int .i64 (-1)) ∧ w' = W) := by
              intro W
              have := Tryd.strings_IndexByte (s.extract p s.size) 10 W
              rw [suffix_list] at this
              rw [show (10 : Int).toNat.toUInt8 = 10 from rfl, hx1] at this
              exact this
            have hsub : (s.size : Int) - (p : Int) = (r : Int) := by omega
            have hwr : IntKind.i64.wrap (r : Int) = (r : Int) := IntWalk.i64_in _ (by omega)
            clear e32 h32 hr hx1 hx2 hpr h35 e35
            go_wp2_with fail
            go_quiet (fail)
            have HA1 := Lib.hid ((HA.out).drewN nq)
            have hbw1 := below_drewN hbw nq
            obtain ⟨W1, hW1⟩ : ∃ W, W = wr.drewN nq := ⟨_, rfl⟩
            rw [← hW1] at HA1 hbw1 ⊢
            clear hW1 c0 c1 f1
            obtain ⟨lv1, bv1, hV1⟩ := HA1.out
            obtain ⟨d0, d1, _, _, _, g1, _⟩ := hV1.cells
            have d1 : W1.cell? ⟨b, 1, none⟩ = some (.int .i64 p) := d1
            clear hV1
            go_wp2_with fail
            go_quiet (fail)
            have HA2 := Lib.hid ((HA1.out).drewN nq)
            have hbw2 := below_drewN hbw1 nq
            obtain ⟨W2, hW2⟩ : ∃ W, W = W1.drewN nq := ⟨_, rfl⟩
            rw [← hW2] at HA2 hbw2 ⊢
            clear hW2 d0 d1 g1
            obtain ⟨lv2, bv2, hV2⟩ := HA2.out
            obtain ⟨d0, d1, _, _, _, g1, _⟩ := hV2.cells
            have d1 : W2.cell? ⟨b, 1, none⟩ = some (.int .i64 p) := d1
            clear hV2
            go_wp2_with fail
            go_quiet ((go_at_call 37; exact Calls.quiet_of_same (hcall.out _)))
            have HA3 := Lib.hid ((HA2.out).drewN nq)
            have hbw3 := below_drewN hbw2 nq
            obtain ⟨W3, hW3⟩ : ∃ W, W = W2.drewN nq := ⟨_, rfl⟩
            rw [← hW3] at HA3 hbw3 ⊢
            clear hW3 d0 d1 g1
            obtain ⟨lv3, bv3, hV3⟩ := HA3.out
            obtain ⟨d0, d1, _, _, _, g1, _⟩ := hV3.cells
            have d1 : W3.cell? ⟨b, 1, none⟩ = some (.int .i64 p) := d1
            clear hV3
            go_wp2_with fail
            go_quiet (fail)
            have HA4 := Lib.hid ((HA3.out).drewN nq)
            have hbw4 := below_drewN hbw3 nq
            obtain ⟨W4, hW4⟩ : ∃ W, W = W3.drewN nq := ⟨_, rfl⟩
            rw [← hW4] at HA4 hbw4 ⊢
            clear hW4 d0 d1 g1
            obtain ⟨lv4, bv4, hV4⟩ := HA4.out
            obtain ⟨d0, d1, _, _, _, g1, _⟩ := hV4.cells
            have d1 : W4.cell? ⟨b, 1, none⟩ = some (.int .i64 p) := d1
            clear hV4
            have h1 := Lib.hid ((HA4.out).setPos (p + r))
            rw [show ((p + r : Nat) : Int) = (p : Int) + (r : Int) by omega] at h1
            have HF := Lib.hid (hbw4.trans h1.out.2)
            go_wp2_with fail
            refine bodyPost_end (results_none rfl _ _ _) rfl ?_
            exact ⟨rfl, by rw [← Hpr.out]; exact h1.out.1, HF.out⟩
          · have hcall : Hid (∀ W, Calls Tryd.prog 37 #[.string (s.extract p s.size), .int .u8 10] W fun e w' => e = .returned (.int .i64 (r : Int)) ∧ w' = W) := by
              intro W
              have := Tryd.strings_IndexByte (s.extract p s.size) 10 W
              rw [suffix_list] at this
              rw [show (10 : Int).toNat.toUInt8 = 10 from rfl, hx] at this
              exact this
            have hneg : decide ((r : Int) < 0) = false := by simp
            clear e32 h32 hr hx hpr h35 e35
            go_wp2_with fail
            go_quiet (fail)
            have HA1 := Lib.hid ((HA.out).drewN nq)
            have hbw1 := below_drewN hbw nq
            obtain ⟨W1, hW1⟩ : ∃ W, W = wr.drewN nq := ⟨_, rfl⟩
            rw [← hW1] at HA1 hbw1 ⊢
            clear hW1 c0 c1 f1
            obtain ⟨lv1, bv1, hV1⟩ := HA1.out
            obtain ⟨d0, d1, _, _, _, g1, _⟩ := hV1.cells
            have d1 : W1.cell? ⟨b, 1, none⟩ = some (.int .i64 p) := d1
            clear hV1
            go_wp2_with fail
            go_quiet (fail)
            have HA2 := Lib.hid ((HA1.out).drewN nq)
            have hbw2 := below_drewN hbw1 nq
            obtain ⟨W2, hW2⟩ : ∃ W, W = W1.drewN nq := ⟨_, rfl⟩
            rw [← hW2] at HA2 hbw2 ⊢
            clear hW2 d0 d1 g1
            obtain ⟨lv2, bv2, hV2⟩ := HA2.out
            obtain ⟨d0, d1, _, _, _, g1, _⟩ := hV2.cells
            have d1 : W2.cell? ⟨b, 1, none⟩ = some (.int .i64 p) := d1
            clear hV2
            go_wp2_with fail
            go_quiet ((go_at_call 37; exact Calls.quiet_of_same (hcall.out _)))
            have HA3 := Lib.hid ((HA2.out).drewN nq)
            have hbw3 := below_drewN hbw2 nq
            obtain ⟨W3, hW3⟩ : ∃ W, W = W2.drewN nq := ⟨_, rfl⟩
            rw [← hW3] at HA3 hbw3 ⊢
            clear hW3 d0 d1 g1
            obtain ⟨lv3, bv3, hV3⟩ := HA3.out
            obtain ⟨d0, d1, _, _, _, g1, _⟩ := hV3.cells
            have d1 : W3.cell? ⟨b, 1, none⟩ = some (.int .i64 p) := d1
            clear hV3
            have h1 := Lib.hid ((HA3.out).setPos (p + r))
            rw [show ((p + r : Nat) : Int) = (p : Int) + (r : Int) by omega] at h1
            have HF := Lib.hid (hbw3.trans h1.out.2)
            go_wp2_with fail
            refine bodyPost_end (results_none rfl _ _ _) rfl ?_
            exact ⟨rfl, by rw [← Hpr.out]; exact h1.out.1, HF.out⟩
        · have e35 : (c == 35) = false := by rw [beq_eq_false_iff_ne]; exact h35
          rw [e35] at f35
          have hpq : Hid (p = Q) := by show _ = _; rw [← hq.out, Hdk.out, pastOf_other c _ h32 h35]; rfl
          clear e32 h32 h35 e35
          go_wp2_with fail
          go_quiet (fail)
          have HA1 := Lib.hid ((HA.out).drewN nq)
          have hbw1 := below_drewN hbw nq
          obtain ⟨W1, hW1⟩ : ∃ W, W = wr.drewN nq := ⟨_, rfl⟩
          rw [← hW1] at HA1 hbw1 ⊢
          clear hW1 c0 c1 f1
          obtain ⟨lv1, bv1, hV1⟩ := HA1.out
          obtain ⟨d0, d1, _, _, _, g1, _⟩ := hV1.cells
          have d1 : W1.cell? ⟨b, 1, none⟩ = some (.int .i64 p) := d1
          clear hV1
          go_wp2_with fail
          go_quiet (fail)
          have HA2 := Lib.hid ((HA1.out).drewN nq)
          have hbw2 := below_drewN hbw1 nq
          obtain ⟨W2, hW2⟩ : ∃ W, W = W1.drewN nq := ⟨_, rfl⟩
          rw [← hW2] at HA2 hbw2 ⊢
          clear hW2 d0 d1 g1
          obtain ⟨lv2, bv2, hV2⟩ := HA2.out
          obtain ⟨d0, d1, _, _, _, g1, _⟩ := hV2.cells
          have d1 : W2.cell? ⟨b, 1, none⟩ = some (.int .i64 p) := d1
          clear hV2
          go_wp2_with fail
          refine bodyPost_end (results_none rfl _ _ _) rfl ?_
          exact ⟨rfl, by rw [← hpq.out]; exact HA2.out, hbw2⟩
    · have hpq : Hid (p = Q) := by
        show _ = _; rw [← hq.out, List.drop_eq_nil_of_le (by rw [← Lib.size_eq]; omega)]; rfl
      have hpI : decide ((p : Int) < (s.size : Int)) = false := by simp; omega
      go_wp2_with fail
      go_quiet (fail)
      have HA1 := Lib.hid ((HA.out).drewN nq)
      have hbw1 := below_drewN hbw nq
      obtain ⟨W1, hW1⟩ : ∃ W, W = wr.drewN nq := ⟨_, rfl⟩
      rw [← hW1] at HA1 hbw1 ⊢
      clear hW1 c0 c1 f1
      obtain ⟨lv1, bv1, hV1⟩ := HA1.out
      obtain ⟨d0, d1, _, _, _, g1, _⟩ := hV1.cells
      have d1 : W1.cell? ⟨b, 1, none⟩ = some (.int .i64 p) := d1
      clear hV1
      go_wp2_with fail
      go_quiet (fail)
      have HA2 := Lib.hid ((HA1.out).drewN nq)
      have hbw2 := below_drewN hbw1 nq
      obtain ⟨W2, hW2⟩ : ∃ W, W = W1.drewN nq := ⟨_, rfl⟩
      rw [← hW2] at HA2 hbw2 ⊢
      clear hW2 d0 d1 g1
      obtain ⟨lv2, bv2, hV2⟩ := HA2.out
      obtain ⟨d0, d1, _, _, _, g1, _⟩ := hV2.cells
      have d1 : W2.cell? ⟨b, 1, none⟩ = some (.int .i64 p) := d1
      clear hV2
      go_wp2_with fail
      refine bodyPost_end (results_none rfl _ _ _) rfl ?_
      exact ⟨rfl, by rw [← hpq.out]; exact HA2.out, hbw2⟩
end Go.Proofs
