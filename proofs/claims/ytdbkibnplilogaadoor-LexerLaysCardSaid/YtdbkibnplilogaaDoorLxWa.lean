/-
  Walks: all: from its labels end, over.
-/
import Derived.Test.YtdbkibnplilogaaDoorLxW
set_option linter.unusedVariables false
namespace Go.Proofs
open Go.RowKit Go.Lx Go.Lt

set_option maxHeartbeats 16000000 in
set_option maxRecDepth 100000 in
theorem Tryd.all_end (B b : Nat) (s : ByteArray) (w : World) (RES : Res (List Tok)) (hs : s.size ≤ 65536) (R3 : Code) (hR3 : findLabel Tryd.allBody 3 = some (.seq .skip R3)) : Tryd.AllWp B b s w RES 3 R3 := by
  obtain rfl : _ = R3 := by
    have h2 : findLabel Tryd.allBody 3 = some (.seq .skip _) := rfl
    have e := Option.some.inj (h2.symm.trans hR3)
    injection e
  -- end
  rintro n a wr ⟨l, hl, rfl⟩ ⟨st, hA, hbw, hp, ho, hd, hlen, hR⟩ hm
  obtain ⟨x1, x2, x3, x4, x5, x6, x7, x8, x9, x10, x11, x12, x13, x14, x15, x16, x17, x18, x19, x20, x21, x22, x23, x24, x25, x26, x27, x28, x29, x30, x31, x32, x33, x34, x35, x36, x37, x38, x39, x40, x41, x42, x43, x44, x45, x46, x47, x48, x49, x50, x51, x52, x53, x54, x55, x56, x57, x58, x59, x60, x61, x62, x63, x64, x65, x66, x67, x68, x69, x70, x71, x72, x73, x74, x75, x76, x77, x78, x79, x80, x81, x82, x83, x84, x85, x86, x87, x88, x89, x90, x91, x92, x93, x94, x95, x96, x97, x98, x99, x100, x101, x102, rfl⟩ := list_open102 l hl
  have HA := Lib.hid hA
  have HB := Lib.hid hbw
  have hdl : 1 ≤ st.deep.length := by
    cases hh : st.deep with
    | nil => rw [hh] at hd; cases hd
    | cons y r => simp
  have hll : st.toks.length + st.deep.length ≤ 900000 := by omega
  have hR2 : RES = .ok (finish s.size st) := by rw [hR, ← Lib.size_eq]
  subst hR2
  clear hA hbw hm hl hd hR
  go_wp2_with fail
  refine (Tryd.end_any B b s st _ HA.out (by omega) hdl hll).mono ?_
  rintro e W1 ⟨rfl, H1, b1⟩
  go_wp2_with fail
  change bodyPost _ _ _ Exit.normal _ _
  refine bodyPost_end (results_none rfl _ _ _) rfl ?_
  exact ⟨rfl, ⟨_, rfl, H1⟩, HB.out.trans b1⟩

set_option maxHeartbeats 16000000 in
set_option maxRecDepth 100000 in
theorem Tryd.all_over (B b : Nat) (s : ByteArray) (w : World) (RES : Res (List Tok)) (hs : s.size ≤ 65536) (R3 : Code) (hR3 : findLabel Tryd.allBody 3 = some (.seq .skip R3)) (hend : Hid (Tryd.AllWp B b s w RES 3 R3)) (R1 : Code) (hR1 : findLabel Tryd.allBody 1 = some (.seq .skip R1)) : Tryd.AllWp B b s w RES 1 R1 := by
  obtain rfl : _ = R3 := by
    have h2 : findLabel Tryd.allBody 3 = some (.seq .skip _) := rfl
    have e := Option.some.inj (h2.symm.trans hR3)
    injection e
  obtain rfl : _ = R1 := by
    have h2 : findLabel Tryd.allBody 1 = some (.seq .skip _) := rfl
    have e := Option.some.inj (h2.symm.trans hR1)
    injection e
  -- over
  rintro n a wr ⟨l, hl, rfl⟩ ⟨st, hA, hbw, hp, ho60, hd, ho, hlen, hN, hE, hends⟩ hm
  obtain ⟨x1, x2, x3, x4, x5, x6, x7, x8, x9, x10, x11, x12, x13, x14, x15, x16, x17, x18, x19, x20, x21, x22, x23, x24, x25, x26, x27, x28, x29, x30, x31, x32, x33, x34, x35, x36, x37, x38, x39, x40, x41, x42, x43, x44, x45, x46, x47, x48, x49, x50, x51, x52, x53, x54, x55, x56, x57, x58, x59, x60, x61, x62, x63, x64, x65, x66, x67, x68, x69, x70, x71, x72, x73, x74, x75, x76, x77, x78, x79, x80, x81, x82, x83, x84, x85, x86, x87, x88, x89, x90, x91, x92, x93, x94, x95, x96, x97, x98, x99, x100, x101, x102, rfl⟩ := list_open102 l hl
  have HA := Lib.hid hA
  have HB := Lib.hid hbw
  have HO := Lib.hid (And.intro ho (And.intro hlen (And.intro hN (And.intro hE (And.intro hd ho60)))))
  have Hm : Hid (4 * (s.size - st.pos) + 1 ≤ n) := by have := hm; unfold Tryd.allM at this; rw [hA.mpos] at this; exact this
  obtain ⟨lv, bv, hV⟩ := hA
  obtain ⟨c0, c1, _, c3, _, f1, _⟩ := hV.cells
  have hpI : (st.pos : Int) ≤ (s.size : Int) := by omega
  clear hV hbw hm hl hd ho60 ho hlen hN hE
  rcases ends_cases hends with hnil | ⟨t, ht⟩
  · have hpe : st.pos = s.size := by
      have h1 : (s.data.toList.drop st.pos).length = 0 := by rw [hnil]; rfl
      rw [List.length_drop, ← Lib.size_eq] at h1; omega
    have hltI : decide ((st.pos : Int) < (s.size : Int)) = false := by simp; omega
    have Hnil := Lib.hid hnil
    clear hends hnil
    go_wp2_with fail
    go_quiet (fail)
    have HA1 := Lib.hid ((HA.out).drewN nq)
    have HB1 := Lib.hid (below_drewN HB.out nq)
    obtain ⟨W1, hW1⟩ : ∃ W, W = wr.drewN nq := ⟨_, rfl⟩
    rw [← hW1] at HA1 HB1 ⊢
    clear hW1 c0 c1 c3 f1
    obtain ⟨lv1, bv1, hV1⟩ := HA1.out
    obtain ⟨d0, d1, _, d3, _, g1, _⟩ := hV1.cells
    clear hV1
    go_wp2_with fail
    go_step3
    rename_i K hK
    refine hK _ _ (hend.out n _ _ ⟨_, ?_, rfl⟩ ⟨st, HA1.out, HB1.out, hp, HO.out.2.2.2.2.2, HO.out.2.2.2.2.1, HO.out.2.1, HO.out.2.2.2.1 Hnil.out⟩ ?_)
    · rfl
    · unfold Tryd.allM; rw [HA1.out.mpos]; have := Hm.out; show 4 * _ + 0 ≤ n; omega
  · have hlt : st.pos < s.size := by
      have h1 : (s.data.toList.drop st.pos).length = t.length + 1 := by rw [ht]; rfl
      rw [List.length_drop, ← Lib.size_eq] at h1; omega
    have hltI : decide ((st.pos : Int) < (s.size : Int)) = true := by simp; omega
    have Ht := Lib.hid ht
    clear hends ht
    go_wp2_with fail
    go_quiet (fail)
    have HA1 := Lib.hid ((HA.out).drewN nq)
    have HB1 := Lib.hid (below_drewN HB.out nq)
    obtain ⟨W1, hW1⟩ : ∃ W, W = wr.drewN nq := ⟨_, rfl⟩
    rw [← hW1] at HA1 HB1 ⊢
    clear hW1 c0 c1 c3 f1
    obtain ⟨lv1, bv1, hV1⟩ := HA1.out
    obtain ⟨d0, d1, _, d3, _, g1, _⟩ := hV1.cells
    clear hV1
    have h1 := Lib.hid ((HA1.out).setPos (st.pos + 1))
    rw [show ((st.pos + 1 : Nat) : Int) = (st.pos : Int) + 1 by omega] at h1
    have HF := Lib.hid (HB1.out.trans h1.out.2)
    go_wp2_with fail
    go_step3
    refine ⟨⟨_, ?_, rfl⟩, ⟨{ st with pos := st.pos + 1 }, h1.out.1, HF.out, hlt, HO.out.2.2.2.2.2, HO.out.2.2.2.2.1, HO.out.1, ?_, HO.out.2.2.1 _ Ht.out⟩, ?_⟩
    · rfl
    · have := HO.out.2.1; show _ ≤ 4 * (st.pos + 1) + 1; simp only; omega
    · unfold Tryd.allM; rw [h1.out.1.mpos]; have := Hm.out; show 4 * (s.size - (st.pos + 1)) + 3 < n; omega
end Go.Proofs
