/-
  Walks: number, quoted.
-/
import Derived.Test.YtdbkibnplilogaaDoorLxG
set_option linter.unusedVariables false
namespace Go.Proofs
open Go.RowKit Go.Lx

/-- The tables stand, whatever is turned above B. -/
def Tryd.TabsIn (B : Nat) (w : World) : Prop := ∀ w', Below B w w' → Tryd.Tabs w'
theorem Tryd.TabsIn.below {B : Nat} {w w' : World} (h : Tryd.TabsIn B w) (hb : Below B w w') : Tryd.TabsIn B w' := fun w2 h2 => h w2 (hb.trans h2)
theorem Tryd.TabsIn.now {B : Nat} {w : World} (h : Tryd.TabsIn B w) : Tryd.Tabs w := h w (Below.refl _ _)

theorem runOf_le (s : ByteArray) (p : Nat) (hp : p ≤ s.size) : (runOf (s.data.toList.drop p)).length + p ≤ s.size := by
  unfold runOf
  have h1 := List.Sublist.length_le (List.takeWhile_sublist isRun (l := s.data.toList.drop p))
  rw [List.length_drop, ← Lib.size_eq] at h1; omega

theorem numOk_no {R : List UInt8} {k : Nat} (hk : k < R.length) (h : isDig R[k] = false) : numOk R = false := by
  have : R.all isDig = false := by
    rw [Bool.eq_false_iff]; intro ha
    rw [List.all_eq_true] at ha
    have := ha _ (List.getElem_mem hk)
    rw [h] at this; cases this
  unfold numOk; rw [this]; rfl

set_option maxHeartbeats 4000000 in
theorem Tryd.lnumber_any (B b : Nat) (s : ByteArray) (st : St) (w : World) (h : Tryd.LexAt B b s st w) (hs : s.size ≤ 1000000) (hp : st.pos ≤ s.size) (hl : st.toks.length ≤ 1000000) (hne : 0 < (runOf (s.data.toList.drop st.pos)).length) :
    Calls Tryd.prog 43 #[.pointer (some ⟨b, 0, none⟩)] w
      (Tryd.LexOut B b s w (if numOk (runOf (s.data.toList.drop st.pos)) then .ok { st with pos := st.pos + (runOf (s.data.toList.drop st.pos)).length, toks := st.toks ++ [⟨3, runOf (s.data.toList.drop st.pos), st.pos⟩] } else .error (105, st.pos))) := by
  have hRl := runOf_le s st.pos hp
  obtain ⟨R, hR⟩ : ∃ R, runOf (s.data.toList.drop st.pos) = R := ⟨_, rfl⟩
  have hRs : (bs R).size = R.length := by rw [Lib.size_eq]; rfl
  have HR := Lib.hid hR
  rw [hR] at hne hRl ⊢
  clear hR
  obtain ⟨RES, hRES⟩ : ∃ r, (if numOk R then Except.ok { st with pos := st.pos + R.length, toks := st.toks ++ [⟨3, R, st.pos⟩] } else Except.error (105, st.pos) : Res St) = r := ⟨_, rfl⟩
  rw [hRES]
  have HE : Hid (numOk R = false → RES = Except.error (105, st.pos)) := fun h => by rw [← hRES, h]; rfl
  have HO : Hid (numOk R = true → RES = Except.ok { st with pos := st.pos + R.length, toks := st.toks ++ [⟨3, R, st.pos⟩] }) := fun h => by rw [← hRES, h]; rfl
  clear hRES
  have hBw := h.base
  have H := Lib.hid h
  clear h
  go_enter Tryd.func43, Tryd.ntmps43
  go_wp2_with fail
  refine (Tryd.run_any B b s st w H.out hs hp).mono ?_
  rw [HR.out]
  rintro e W1 ⟨rfl, b1⟩
  have H1 := Lib.hid (H.out.below b1)
  have hb1 := b1.mono hBw
  have hBw1 := H1.out.base
  go_wp2
  obtain ⟨X, hX⟩ : ∃ X, bs R = X := ⟨_, rfl⟩
  rw [hX] at hRs ⊢
  have HX := Lib.hid hX
  clear hX
  go_loopw [8] (fun i wr => ∃ (k : Nat), i = .int .i64 k ∧ k ≤ R.length ∧ wr = W1 ∧ Hid (∀ j (hj : j < R.length), j < k → isDig R[j] = true)) (fun i _ => R.length - (intOf i).toNat)
  case atStart => exact ⟨0, rfl, by omega, rfl, fun j _ hj => absurd hj (Nat.not_lt_zero _)⟩
  case round =>
    obtain ⟨k, rfl, hk, rfl, hd⟩ := hrel
    by_cases hlt : k < R.length
    · have hlt2 : k < X.size := by omega
      have hltI : (k : Int) < (X.size : Int) := by omega
      obtain ⟨c, hc⟩ : ∃ c, X[k] = c := ⟨_, rfl⟩
      have hcR : Hid (R[k] = c) := by show _ = _; rw [← hc]; have := HX.out; subst this; rfl
      by_cases hdc : isDig c = true
      · have hd2 : Hid (∀ j (hj : j < R.length), j < k + 1 → isDig R[j] = true) := by
          intro j hj h1
          rcases Nat.lt_or_ge j k with h2 | h2
          · exact hd.out j hj h2
          · obtain rfl : j = k := by omega
            rw [hcR.out]; exact hdc
        go_wp2_with fail
        refine (Tryd.isDigit_any c _).mono ?_
        rw [hdc]
        rintro e W2 ⟨rfl, rfl⟩
        go_wp2_with fail
        go_roundw
        case rel => exact ⟨k + 1, by go_num, by omega, trivial, hd2⟩
        case measure => simp [intOf]; omega
      · replace hdc : isDig c = false := by simpa using hdc
        have hno : Hid (numOk R = false) := numOk_no hlt (by rw [hcR.out]; exact hdc)
        obtain ⟨lv, bv, hV⟩ := H1.out
        obtain ⟨c0, c1, _⟩ := hV.cells
        clear hV
        go_wp2_with fail
        refine (Tryd.isDigit_any c _).mono ?_
        rw [hdc]
        rintro e W2 ⟨rfl, rfl⟩
        go_wp2_with fail
        refine (Tryd.fail_any _ 105 st.pos _).mono ?_
        rintro e W3 ⟨rfl, rfl⟩
        obtain rfl := HE.out hno.out
        go_wp2_with fail
        exact ⟨rfl, rfl, hb1⟩
    · obtain rfl : k = R.length := by omega
      have hall : R.all isDig = true := by
        rw [List.all_eq_true]
        intro x hx
        obtain ⟨j, hj, rfl⟩ := List.mem_iff_getElem.1 hx
        exact hd.out j hj hj
      have hlt2 : 0 < X.size := by omega
      have hltI : (0 : Int) < (X.size : Int) := by omega
      obtain ⟨c, hc⟩ : ∃ c, X[0] = c := ⟨_, rfl⟩
      have hcR : R.headD 0 = c := by
        rw [← hc]; have := HX.out; subst this
        cases R with
        | nil => simp at hne
        | cons a l => rfl
      have hnum : numOk R = (!(c == 48 && decide (1 < R.length)) && !decide (1000 < R.length)) := by unfold numOk; rw [hall, hcR]; rfl
      have Hnum := Lib.hid hnum
      have hz : ((c.toNat : Int) == 48) = (c == 48) := by
        rw [Bool.eq_iff_iff, beq_iff_eq, beq_iff_eq, ← UInt8.toNat_inj]
        show _ ↔ c.toNat = 48
        omega
      have q1 : decide (((1 : Int)) < (X.size : Int)) = decide (1 < R.length) := by rw [decide_eq_decide]; omega
      have q2 : decide (((1000 : Int)) < (X.size : Int)) = decide (1000 < R.length) := by rw [decide_eq_decide]; omega
      obtain ⟨z, hzz⟩ : ∃ z, (c == 48) = z := ⟨_, rfl⟩
      obtain ⟨y1, hy1⟩ : ∃ z, decide (1 < R.length) = z := ⟨_, rfl⟩
      obtain ⟨y2, hy2⟩ : ∃ z, decide (1000 < R.length) = z := ⟨_, rfl⟩
      rw [hzz] at hz
      rw [hy1] at q1
      rw [hy2] at q2
      have Hn : Hid (numOk R = (!(z && y1) && !y2)) := by show _ = _; rw [Hnum.out, hzz, hy1, hy2]
      obtain ⟨lv, bv, hV⟩ := H1.out
      obtain ⟨c0, c1, _⟩ := hV.cells
      have HRs := Lib.hid hRs
      clear hall hcR hnum hzz hy1 hy2 hV hd hk hlt Hnum hRs
      by_cases hb : (!(z && y1) && !y2) = true
      · obtain rfl := HO.out (Hn.out.trans hb)
        clear Hn HE HO
        cases z <;> cases y1 <;> cases y2 <;> first | (exact absurd hb (by decide)) | skip
        all_goals
          clear hb
          go_wp2_with fail
          refine (Tryd.put_any B b s st 3 st.pos X _ H1.out (by have := HRs.out; omega) hl).mono ?_
          rw [show X.data.toList = R by rw [← HX.out]; rfl]
          rintro e W3 ⟨rfl, H3, b3⟩
          obtain ⟨lv3, bv3, hV3⟩ := H3
          obtain ⟨d0, d1, _, _, _, d2, _⟩ := hV3.cells
          have hX4 := Lib.hid (hV3.setPos (st.pos + R.length))
          have hRs := HRs.out
          have hb3 := hb1.trans b3
          clear hV3 c0 c1
          go_wp2_with fail
          refine bodyPost_end (results_none rfl _ _ _) rfl ?_
          exact ⟨rfl, ⟨_, _, hX4.out.1⟩, hb3.trans hX4.out.2⟩
      · replace hb : (!(z && y1) && !y2) = false := by simpa using hb
        obtain rfl := HE.out (Hn.out.trans hb)
        clear Hn HE HO
        cases z <;> cases y1 <;> cases y2 <;> first | (exact absurd hb (by decide)) | skip
        all_goals
          clear hb
          go_wp2_with fail
          refine (Tryd.fail_any _ 105 st.pos _).mono ?_
          rintro e W3 ⟨rfl, rfl⟩
          go_wp2_with fail
          exact ⟨rfl, rfl, hb1⟩
end Go.Proofs
