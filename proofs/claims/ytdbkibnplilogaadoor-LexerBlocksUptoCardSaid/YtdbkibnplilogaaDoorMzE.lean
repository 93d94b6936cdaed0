/-
  Walks: the reference's token: a sign.
  Walks: the reference's token: a sign that is no bracket, or shuts one.
-/
import Derived.Test.YtdbkibnplilogaaDoorMzB
set_option linter.unusedVariables false
namespace Go.Proofs
open Go.RowKit Go.Lx Go.Lt

set_option maxHeartbeats 16000000 in
set_option maxRecDepth 100000 in
theorem Tryd.rtoken_sign_none (B b : Nat) (a : Option Addr) (cap : Nat) (s : ByteArray) (st : St) (w : World) (h : Tryd.RefAt B b (.slice a s.size cap) st 0 0 w) (hsrc : SrcIn B w a s) (hcap : s.size ≤ cap) (hs : s.size ≤ 100000) (hp : st.pos < s.size) (hl : st.toks.length ≤ 1000000) (ho : st.opn ≤ 60)
    (c : UInt8) (t : List UInt8) (hct : s.data.toList.drop st.pos = c :: t) (hlet : isLet c = false) (hdig : isDig c = false) (h39 : c.toNat ≠ 39) (h34 : c.toNat ≠ 34) (S : List UInt8) (hS : signOf (c :: t) = S) (hSc : S = []) :
    Calls Tryd.prog 21 #[.pointer (some ⟨b, 0, none⟩), .int .i64 st.pos] w (Tryd.RefRes B b (.slice a s.size cap) w (.error (102, st.pos))) := by
  have hBw := h.base
  obtain ⟨bb, o, rfl, hw0⟩ := bytes_window hsrc.now (by omega)
  obtain ⟨lv, bv, hV⟩ := id h
  obtain ⟨c0, _, _, c3, _, _, hf⟩ := hV.cells
  have f3 := hf 3
  obtain ⟨ccell, hc0⟩ := src_at hw0 hp hct
  have H := Lib.hid h
  have HS := Lib.hid hsrc
  have HW := Lib.hid hw0
  have Hct := Lib.hid hct
  have hpI : (st.pos : Int) < (s.size : Int) := by omega
  have hpI2 : (st.pos : Int) ≤ (s.size : Int) := by omega
  obtain ⟨a', c', hsl, hbs'⟩ := Tryd.bytes_sub hsrc.now hcap st.pos st.pos (by omega) (by omega)
  obtain ⟨X0, hX0⟩ : ∃ X0, s.extract st.pos st.pos = X0 := ⟨_, rfl⟩
  have hX0s : X0.size = 0 := by rw [← hX0, ByteArray.size_extract]; omega
  rw [hX0] at hbs'
  rw [Nat.sub_self] at hsl
  have hcv := run_convert_bs (P := Tryd.prog) w 22 5 9 Tryd.underlying22 Tryd.underlying5 Tryd.underlying9 a' c' X0 hbs'
  rw [hX0s] at hcv
  have HL := Lib.hid hlet
  have HD := Lib.hid hdig
  have e39 : ((c.toNat : Int) == 39) = false := by rw [beq_eq_false_iff_ne]; omega
  have e34 : ((c.toNat : Int) == 34) = false := by rw [beq_eq_false_iff_ne]; omega
  have hSl : S.length ≤ 3 ∧ S.length + st.pos ≤ s.size := by
    have := signOf_le (s.data.toList.drop st.pos)
    rw [hct, hS, ← hct, List.length_drop, ← Lib.size_eq] at this; omega
  obtain ⟨X, hX⟩ : ∃ X, bs S = X := ⟨_, rfl⟩
  have HX := Lib.hid hX
  have hXs : X.size = S.length := by rw [← hX, bs_size]
  have HXd : Hid (X.data.toList = S) := by show _ = _; rw [← hX]; rfl
  have hsI : (st.pos : Int) + (S.length : Int) ≤ (s.size : Int) := by omega
  have HSg : Hid (signOf (s.data.toList.drop st.pos) = S) := by show _ = _; rw [hct]; exact hS
  have gE : X.toList.isEmpty = true := by rw [isEmpty_beq, bs_beq S _ X hX]; rw [hSc]; rfl
  have g0 : (X.toList == []) = true := by rw [bs_beq S _ X hX]; rw [hSc]; rfl
  clear h hsrc hw0 hct hf hV hbs' hX0 hc0 hlet hdig hX0s h39 h34 hS hX hSc
  go_enter Tryd.func21, Tryd.ntmps21
  go_wp2
  go_loopw [6] (fun i wr => i = .int .i64 st.pos ∧ wr = w) (fun i _ => 0)
  case atStart => exact ⟨rfl, rfl⟩
  case round =>
    obtain ⟨rfl, rfl⟩ := hrel
    go_wp2_with fail
    refine (Tryd.rletter_any c _).mono ?_
    rw [HL.out]
    rintro e W1 ⟨rfl, hW1⟩
    obtain rfl := hW1.symm
    go_wp2_with fail
    refine (Tryd.rdigit_any c _).mono ?_
    rw [HD.out]
    rintro e W1 ⟨rfl, hW1⟩
    obtain rfl := hW1.symm
    go_wp2_with fail
    refine (Tryd.rletter_any c _).mono ?_
    rw [HL.out]
    rintro e W1 ⟨rfl, hW1⟩
    obtain rfl := hW1.symm
    go_wp2_with fail
    refine (Tryd.rdigit_any c _).mono ?_
    rw [HD.out]
    rintro e W1 ⟨rfl, hW1⟩
    obtain rfl := hW1.symm
    go_wp2_with fail
    refine (Tryd.rsign_any _ cap s st.pos _ (HS.out.now) hcap (by omega) (by omega)).mono ?_
    rw [HSg.out, HX.out]
    rintro e W2 ⟨rfl, b2⟩
    have H2 := Lib.hid (H.out.below b2)
    have hb2 : Below B _ W2 := b2.mono hBw
    clear b2
    obtain ⟨lv2, bv2, hV2⟩ := H2.out
    obtain ⟨_, _, _, d3, _, _, hf2⟩ := hV2.cells
    have k3 := hf2 3
    have HV2 := Lib.hid hV2
    clear hV2 hf2 c0 c3 f3
    go_wp2_with fail
    refine (Tryd.rfault_any B b _ st 0 0 102 st.pos _ H2.out).mono ?_
    rintro e W3 ⟨rfl, H3, b3⟩
    go_wp2_with fail
    go_ret
    exact ⟨⟨_, rfl⟩, ⟨_, H3⟩, hb2.trans b3⟩

set_option maxHeartbeats 16000000 in
set_option maxRecDepth 100000 in
theorem Tryd.rtoken_sign_deep40 (B b : Nat) (a : Option Addr) (cap : Nat) (s : ByteArray) (st : St) (w : World) (h : Tryd.RefAt B b (.slice a s.size cap) st 0 0 w) (hsrc : SrcIn B w a s) (hcap : s.size ≤ cap) (hs : s.size ≤ 100000) (hp : st.pos < s.size) (hl : st.toks.length ≤ 1000000) (ho : st.opn ≤ 60)
    (c : UInt8) (t : List UInt8) (hct : s.data.toList.drop st.pos = c :: t) (hlet : isLet c = false) (hdig : isDig c = false) (h39 : c.toNat ≠ 39) (h34 : c.toNat ≠ 34) (S : List UInt8) (hS : signOf (c :: t) = S) (hSc : S = [40]) (ho60 : st.opn = 60) :
    Calls Tryd.prog 21 #[.pointer (some ⟨b, 0, none⟩), .int .i64 st.pos] w (Tryd.RefRes B b (.slice a s.size cap) w (.error (107, st.pos))) := by
  have hBw := h.base
  obtain ⟨bb, o, rfl, hw0⟩ := bytes_window hsrc.now (by omega)
  obtain ⟨lv, bv, hV⟩ := id h
  obtain ⟨c0, _, _, c3, _, _, hf⟩ := hV.cells
  have f3 := hf 3
  obtain ⟨ccell, hc0⟩ := src_at hw0 hp hct
  have H := Lib.hid h
  have HS := Lib.hid hsrc
  have HW := Lib.hid hw0
  have Hct := Lib.hid hct
  have hpI : (st.pos : Int) < (s.size : Int) := by omega
  have hpI2 : (st.pos : Int) ≤ (s.size : Int) := by omega
  obtain ⟨a', c', hsl, hbs'⟩ := Tryd.bytes_sub hsrc.now hcap st.pos st.pos (by omega) (by omega)
  obtain ⟨X0, hX0⟩ : ∃ X0, s.extract st.pos st.pos = X0 := ⟨_, rfl⟩
  have hX0s : X0.size = 0 := by rw [← hX0, ByteArray.size_extract]; omega
  rw [hX0] at hbs'
  rw [Nat.sub_self] at hsl
  have hcv := run_convert_bs (P := Tryd.prog) w 22 5 9 Tryd.underlying22 Tryd.underlying5 Tryd.underlying9 a' c' X0 hbs'
  rw [hX0s] at hcv
  have HL := Lib.hid hlet
  have HD := Lib.hid hdig
  have e39 : ((c.toNat : Int) == 39) = false := by rw [beq_eq_false_iff_ne]; omega
  have e34 : ((c.toNat : Int) == 34) = false := by rw [beq_eq_false_iff_ne]; omega
  have hSl : S.length ≤ 3 ∧ S.length + st.pos ≤ s.size := by
    have := signOf_le (s.data.toList.drop st.pos)
    rw [hct, hS, ← hct, List.length_drop, ← Lib.size_eq] at this; omega
  obtain ⟨X, hX⟩ : ∃ X, bs S = X := ⟨_, rfl⟩
  have HX := Lib.hid hX
  have hXs : X.size = S.length := by rw [← hX, bs_size]
  have HXd : Hid (X.data.toList = S) := by show _ = _; rw [← hX]; rfl
  have hsI : (st.pos : Int) + (S.length : Int) ≤ (s.size : Int) := by omega
  have HSg : Hid (signOf (s.data.toList.drop st.pos) = S) := by show _ = _; rw [hct]; exact hS
  have gE : X.toList.isEmpty = false := by rw [isEmpty_beq, bs_beq S _ X hX]; rw [hSc]; rfl
  have g0 : (X.toList == []) = false := by rw [bs_beq S _ X hX]; rw [hSc]; rfl
  have g1 : (X.toList == [40]) = true := by rw [bs_beq S _ X hX]; rw [hSc]; rfl
  clear h hsrc hw0 hct hf hV hbs' hX0 hc0 hlet hdig hX0s h39 h34 hS hX hSc
  go_enter Tryd.func21, Tryd.ntmps21
  go_wp2
  go_loopw [6] (fun i wr => i = .int .i64 st.pos ∧ wr = w) (fun i _ => 0)
  case atStart => exact ⟨rfl, rfl⟩
  case round =>
    obtain ⟨rfl, rfl⟩ := hrel
    go_wp2_with fail
    refine (Tryd.rletter_any c _).mono ?_
    rw [HL.out]
    rintro e W1 ⟨rfl, hW1⟩
    obtain rfl := hW1.symm
    go_wp2_with fail
    refine (Tryd.rdigit_any c _).mono ?_
    rw [HD.out]
    rintro e W1 ⟨rfl, hW1⟩
    obtain rfl := hW1.symm
    go_wp2_with fail
    refine (Tryd.rletter_any c _).mono ?_
    rw [HL.out]
    rintro e W1 ⟨rfl, hW1⟩
    obtain rfl := hW1.symm
    go_wp2_with fail
    refine (Tryd.rdigit_any c _).mono ?_
    rw [HD.out]
    rintro e W1 ⟨rfl, hW1⟩
    obtain rfl := hW1.symm
    go_wp2_with fail
    refine (Tryd.rsign_any _ cap s st.pos _ (HS.out.now) hcap (by omega) (by omega)).mono ?_
    rw [HSg.out, HX.out]
    rintro e W2 ⟨rfl, b2⟩
    have H2 := Lib.hid (H.out.below b2)
    have hb2 : Below B _ W2 := b2.mono hBw
    clear b2
    obtain ⟨lv2, bv2, hV2⟩ := H2.out
    obtain ⟨_, _, _, d3, _, _, hf2⟩ := hV2.cells
    have k3 := hf2 3
    have HV2 := Lib.hid hV2
    clear hV2 hf2 c0 c3 f3
    have h60 : decide ((60 : Int) ≤ (st.opn : Int)) = true := by rw [decide_eq_true_eq]; omega
    have HO := Lib.hid ho60
    clear ho60
    go_wp2_with fail
    refine (Tryd.rfault_any B b _ st 0 0 107 st.pos _ H2.out).mono ?_
    rintro e W3 ⟨rfl, H3, b3⟩
    obtain ⟨lv3, bv3, hV3⟩ := H3
    obtain ⟨_, _, _, e3, _, _, hf3⟩ := hV3.cells
    have j3 := hf3 3
    have HV3 := Lib.hid (hV3.setOpn (st.opn + 1))
    rw [show ((st.opn + 1 : Nat) : Int) = (st.opn : Int) + 1 by omega] at HV3
    have hb3 := hb2.trans b3
    clear hV3 hf3 d3 k3
    go_wp2_with fail
    refine (Tryd.radd_any B b _ { st with opn := st.opn + 1 } 107 st.pos 5 st.pos X _ ⟨_, _, HV3.out.1⟩ hl).mono ?_
    rw [HXd.out]
    rintro e W5 ⟨rfl, H5, b5⟩
    go_wp2_with fail
    go_ret
    exact ⟨⟨_, rfl⟩, ⟨_, H5⟩, (hb3.trans HV3.out.2).trans b5⟩

set_option maxHeartbeats 16000000 in
set_option maxRecDepth 100000 in
theorem Tryd.rtoken_sign_open40 (B b : Nat) (a : Option Addr) (cap : Nat) (s : ByteArray) (st : St) (w : World) (h : Tryd.RefAt B b (.slice a s.size cap) st 0 0 w) (hsrc : SrcIn B w a s) (hcap : s.size ≤ cap) (hs : s.size ≤ 100000) (hp : st.pos < s.size) (hl : st.toks.length ≤ 1000000) (ho : st.opn ≤ 60)
    (c : UInt8) (t : List UInt8) (hct : s.data.toList.drop st.pos = c :: t) (hlet : isLet c = false) (hdig : isDig c = false) (h39 : c.toNat ≠ 39) (h34 : c.toNat ≠ 34) (S : List UInt8) (hS : signOf (c :: t) = S) (hSc : S = [40]) (ho60 : st.opn < 60) :
    Calls Tryd.prog 21 #[.pointer (some ⟨b, 0, none⟩), .int .i64 st.pos] w (Tryd.RefRes B b (.slice a s.size cap) w (.ok { st with pos := st.pos + S.length, toks := st.toks ++ [⟨5, S, st.pos⟩], opn := st.opn + 1 })) := by
  have hBw := h.base
  obtain ⟨bb, o, rfl, hw0⟩ := bytes_window hsrc.now (by omega)
  obtain ⟨lv, bv, hV⟩ := id h
  obtain ⟨c0, _, _, c3, _, _, hf⟩ := hV.cells
  have f3 := hf 3
  obtain ⟨ccell, hc0⟩ := src_at hw0 hp hct
  have H := Lib.hid h
  have HS := Lib.hid hsrc
  have HW := Lib.hid hw0
  have Hct := Lib.hid hct
  have hpI : (st.pos : Int) < (s.size : Int) := by omega
  have hpI2 : (st.pos : Int) ≤ (s.size : Int) := by omega
  obtain ⟨a', c', hsl, hbs'⟩ := Tryd.bytes_sub hsrc.now hcap st.pos st.pos (by omega) (by omega)
  obtain ⟨X0, hX0⟩ : ∃ X0, s.extract st.pos st.pos = X0 := ⟨_, rfl⟩
  have hX0s : X0.size = 0 := by rw [← hX0, ByteArray.size_extract]; omega
  rw [hX0] at hbs'
  rw [Nat.sub_self] at hsl
  have hcv := run_convert_bs (P := Tryd.prog) w 22 5 9 Tryd.underlying22 Tryd.underlying5 Tryd.underlying9 a' c' X0 hbs'
  rw [hX0s] at hcv
  have HL := Lib.hid hlet
  have HD := Lib.hid hdig
  have e39 : ((c.toNat : Int) == 39) = false := by rw [beq_eq_false_iff_ne]; omega
  have e34 : ((c.toNat : Int) == 34) = false := by rw [beq_eq_false_iff_ne]; omega
  have hSl : S.length ≤ 3 ∧ S.length + st.pos ≤ s.size := by
    have := signOf_le (s.data.toList.drop st.pos)
    rw [hct, hS, ← hct, List.length_drop, ← Lib.size_eq] at this; omega
  obtain ⟨X, hX⟩ : ∃ X, bs S = X := ⟨_, rfl⟩
  have HX := Lib.hid hX
  have hXs : X.size = S.length := by rw [← hX, bs_size]
  have HXd : Hid (X.data.toList = S) := by show _ = _; rw [← hX]; rfl
  have hsI : (st.pos : Int) + (S.length : Int) ≤ (s.size : Int) := by omega
  have HSg : Hid (signOf (s.data.toList.drop st.pos) = S) := by show _ = _; rw [hct]; exact hS
  have gE : X.toList.isEmpty = false := by rw [isEmpty_beq, bs_beq S _ X hX]; rw [hSc]; rfl
  have g0 : (X.toList == []) = false := by rw [bs_beq S _ X hX]; rw [hSc]; rfl
  have g1 : (X.toList == [40]) = true := by rw [bs_beq S _ X hX]; rw [hSc]; rfl
  clear h hsrc hw0 hct hf hV hbs' hX0 hc0 hlet hdig hX0s h39 h34 hS hX hSc
  go_enter Tryd.func21, Tryd.ntmps21
  go_wp2
  go_loopw [6] (fun i wr => i = .int .i64 st.pos ∧ wr = w) (fun i _ => 0)
  case atStart => exact ⟨rfl, rfl⟩
  case round =>
    obtain ⟨rfl, rfl⟩ := hrel
    go_wp2_with fail
    refine (Tryd.rletter_any c _).mono ?_
    rw [HL.out]
    rintro e W1 ⟨rfl, hW1⟩
    obtain rfl := hW1.symm
    go_wp2_with fail
    refine (Tryd.rdigit_any c _).mono ?_
    rw [HD.out]
    rintro e W1 ⟨rfl, hW1⟩
    obtain rfl := hW1.symm
    go_wp2_with fail
    refine (Tryd.rletter_any c _).mono ?_
    rw [HL.out]
    rintro e W1 ⟨rfl, hW1⟩
    obtain rfl := hW1.symm
    go_wp2_with fail
    refine (Tryd.rdigit_any c _).mono ?_
    rw [HD.out]
    rintro e W1 ⟨rfl, hW1⟩
    obtain rfl := hW1.symm
    go_wp2_with fail
    refine (Tryd.rsign_any _ cap s st.pos _ (HS.out.now) hcap (by omega) (by omega)).mono ?_
    rw [HSg.out, HX.out]
    rintro e W2 ⟨rfl, b2⟩
    have H2 := Lib.hid (H.out.below b2)
    have hb2 : Below B _ W2 := b2.mono hBw
    clear b2
    obtain ⟨lv2, bv2, hV2⟩ := H2.out
    obtain ⟨_, _, _, d3, _, _, hf2⟩ := hV2.cells
    have k3 := hf2 3
    have HV2 := Lib.hid hV2
    clear hV2 hf2 c0 c3 f3
    have h60 : decide ((60 : Int) ≤ (st.opn : Int)) = false := by rw [decide_eq_false_iff_not]; omega
    have h60' : ¬ 60 ≤ st.opn := by omega
    have HV3 := Lib.hid (HV2.out.setOpn (st.opn + 1))
    rw [show ((st.opn + 1 : Nat) : Int) = (st.opn : Int) + 1 by omega] at HV3
    go_wp2_with fail
    refine (Tryd.radd_any B b _ { st with opn := st.opn + 1 } 0 0 5 st.pos X _ ⟨_, _, HV3.out.1⟩ hl).mono ?_
    rw [HXd.out]
    rintro e W5 ⟨rfl, H5, b5⟩
    go_wp2_with fail
    go_ret
    exact ⟨rfl, H5, (hb2.trans HV3.out.2).trans b5⟩

set_option maxHeartbeats 16000000 in
set_option maxRecDepth 100000 in
theorem Tryd.rtoken_sign_deep91 (B b : Nat) (a : Option Addr) (cap : Nat) (s : ByteArray) (st : St) (w : World) (h : Tryd.RefAt B b (.slice a s.size cap) st 0 0 w) (hsrc : SrcIn B w a s) (hcap : s.size ≤ cap) (hs : s.size ≤ 100000) (hp : st.pos < s.size) (hl : st.toks.length ≤ 1000000) (ho : st.opn ≤ 60)
    (c : UInt8) (t : List UInt8) (hct : s.data.toList.drop st.pos = c :: t) (hlet : isLet c = false) (hdig : isDig c = false) (h39 : c.toNat ≠ 39) (h34 : c.toNat ≠ 34) (S : List UInt8) (hS : signOf (c :: t) = S) (hSc : S = [91]) (ho60 : st.opn = 60) :
    Calls Tryd.prog 21 #[.pointer (some ⟨b, 0, none⟩), .int .i64 st.pos] w (Tryd.RefRes B b (.slice a s.size cap) w (.error (107, st.pos))) := by
  have hBw := h.base
  obtain ⟨bb, o, rfl, hw0⟩ := bytes_window hsrc.now (by omega)
  obtain ⟨lv, bv, hV⟩ := id h
  obtain ⟨c0, _, _, c3, _, _, hf⟩ := hV.cells
  have f3 := hf 3
  obtain ⟨ccell, hc0⟩ := src_at hw0 hp hct
  have H := Lib.hid h
  have HS := Lib.hid hsrc
  have HW := Lib.hid hw0
  have Hct := Lib.hid hct
  have hpI : (st.pos : Int) < (s.size : Int) := by omega
  have hpI2 : (st.pos : Int) ≤ (s.size : Int) := by omega
  obtain ⟨a', c', hsl, hbs'⟩ := Tryd.bytes_sub hsrc.now hcap st.pos st.pos (by omega) (by omega)
  obtain ⟨X0, hX0⟩ : ∃ X0, s.extract st.pos st.pos = X0 := ⟨_, rfl⟩
  have hX0s : X0.size = 0 := by rw [← hX0, ByteArray.size_extract]; omega
  rw [hX0] at hbs'
  rw [Nat.sub_self] at hsl
  have hcv := run_convert_bs (P := Tryd.prog) w 22 5 9 Tryd.underlying22 Tryd.underlying5 Tryd.underlying9 a' c' X0 hbs'
  rw [hX0s] at hcv
  have HL := Lib.hid hlet
  have HD := Lib.hid hdig
  have e39 : ((c.toNat : Int) == 39) = false := by rw [beq_eq_false_iff_ne]; omega
  have e34 : ((c.toNat : Int) == 34) = false := by rw [beq_eq_false_iff_ne]; omega
  have hSl : S.length ≤ 3 ∧ S.length + st.pos ≤ s.size := by
    have := signOf_le (s.data.toList.drop st.pos)
    rw [hct, hS, ← hct, List.length_drop, ← Lib.size_eq] at this; omega
  obtain ⟨X, hX⟩ : ∃ X, bs S = X := ⟨_, rfl⟩
  have HX := Lib.hid hX
  have hXs : X.size = S.length := by rw [← hX, bs_size]
  have HXd : Hid (X.data.toList = S) := by show _ = _; rw [← hX]; rfl
  have hsI : (st.pos : Int) + (S.length : Int) ≤ (s.size : Int) := by omega
  have HSg : Hid (signOf (s.data.toList.drop st.pos) = S) := by show _ = _; rw [hct]; exact hS
  have gE : X.toList.isEmpty = false := by rw [isEmpty_beq, bs_beq S _ X hX]; rw [hSc]; rfl
  have g0 : (X.toList == []) = false := by rw [bs_beq S _ X hX]; rw [hSc]; rfl
  have g1 : (X.toList == [40]) = false := by rw [bs_beq S _ X hX]; rw [hSc]; rfl
  have g2 : (X.toList == [91]) = true := by rw [bs_beq S _ X hX]; rw [hSc]; rfl
  clear h hsrc hw0 hct hf hV hbs' hX0 hc0 hlet hdig hX0s h39 h34 hS hX hSc
  go_enter Tryd.func21, Tryd.ntmps21
  go_wp2
  go_loopw [6] (fun i wr => i = .int .i64 st.pos ∧ wr = w) (fun i _ => 0)
  case atStart => exact ⟨rfl, rfl⟩
  case round =>
    obtain ⟨rfl, rfl⟩ := hrel
    go_wp2_with fail
    refine (Tryd.rletter_any c _).mono ?_
    rw [HL.out]
    rintro e W1 ⟨rfl, hW1⟩
    obtain rfl := hW1.symm
    go_wp2_with fail
    refine (Tryd.rdigit_any c _).mono ?_
    rw [HD.out]
    rintro e W1 ⟨rfl, hW1⟩
    obtain rfl := hW1.symm
    go_wp2_with fail
    refine (Tryd.rletter_any c _).mono ?_
    rw [HL.out]
    rintro e W1 ⟨rfl, hW1⟩
    obtain rfl := hW1.symm
    go_wp2_with fail
    refine (Tryd.rdigit_any c _).mono ?_
    rw [HD.out]
    rintro e W1 ⟨rfl, hW1⟩
    obtain rfl := hW1.symm
    go_wp2_with fail
    refine (Tryd.rsign_any _ cap s st.pos _ (HS.out.now) hcap (by omega) (by omega)).mono ?_
    rw [HSg.out, HX.out]
    rintro e W2 ⟨rfl, b2⟩
    have H2 := Lib.hid (H.out.below b2)
    have hb2 : Below B _ W2 := b2.mono hBw
    clear b2
    obtain ⟨lv2, bv2, hV2⟩ := H2.out
    obtain ⟨_, _, _, d3, _, _, hf2⟩ := hV2.cells
    have k3 := hf2 3
    have HV2 := Lib.hid hV2
    clear hV2 hf2 c0 c3 f3
    have h60 : decide ((60 : Int) ≤ (st.opn : Int)) = true := by rw [decide_eq_true_eq]; omega
    have HO := Lib.hid ho60
    clear ho60
    go_wp2_with fail
    refine (Tryd.rfault_any B b _ st 0 0 107 st.pos _ H2.out).mono ?_
    rintro e W3 ⟨rfl, H3, b3⟩
    obtain ⟨lv3, bv3, hV3⟩ := H3
    obtain ⟨_, _, _, e3, _, _, hf3⟩ := hV3.cells
    have j3 := hf3 3
    have HV3 := Lib.hid (hV3.setOpn (st.opn + 1))
    rw [show ((st.opn + 1 : Nat) : Int) = (st.opn : Int) + 1 by omega] at HV3
    have hb3 := hb2.trans b3
    clear hV3 hf3 d3 k3
    go_wp2_with fail
    refine (Tryd.radd_any B b _ { st with opn := st.opn + 1 } 107 st.pos 5 st.pos X _ ⟨_, _, HV3.out.1⟩ hl).mono ?_
    rw [HXd.out]
    rintro e W5 ⟨rfl, H5, b5⟩
    go_wp2_with fail
    go_ret
    exact ⟨⟨_, rfl⟩, ⟨_, H5⟩, (hb3.trans HV3.out.2).trans b5⟩

set_option maxHeartbeats 16000000 in
set_option maxRecDepth 100000 in
theorem Tryd.rtoken_sign_open91 (B b : Nat) (a : Option Addr) (cap : Nat) (s : ByteArray) (st : St) (w : World) (h : Tryd.RefAt B b (.slice a s.size cap) st 0 0 w) (hsrc : SrcIn B w a s) (hcap : s.size ≤ cap) (hs : s.size ≤ 100000) (hp : st.pos < s.size) (hl : st.toks.length ≤ 1000000) (ho : st.opn ≤ 60)
    (c : UInt8) (t : List UInt8) (hct : s.data.toList.drop st.pos = c :: t) (hlet : isLet c = false) (hdig : isDig c = false) (h39 : c.toNat ≠ 39) (h34 : c.toNat ≠ 34) (S : List UInt8) (hS : signOf (c :: t) = S) (hSc : S = [91]) (ho60 : st.opn < 60) :
    Calls Tryd.prog 21 #[.pointer (some ⟨b, 0, none⟩), .int .i64 st.pos] w (Tryd.RefRes B b (.slice a s.size cap) w (.ok { st with pos := st.pos + S.length, toks := st.toks ++ [⟨5, S, st.pos⟩], opn := st.opn + 1 })) := by
  have hBw := h.base
  obtain ⟨bb, o, rfl, hw0⟩ := bytes_window hsrc.now (by omega)
  obtain ⟨lv, bv, hV⟩ := id h
  obtain ⟨c0, _, _, c3, _, _, hf⟩ := hV.cells
  have f3 := hf 3
  obtain ⟨ccell, hc0⟩ := src_at hw0 hp hct
  have H := Lib.hid h
  have HS := Lib.hid hsrc
  have HW := Lib.hid hw0
  have Hct := Lib.hid hct
  have hpI : (st.pos : Int) < (s.size : Int) := by omega
  have hpI2 : (st.pos : Int) ≤ (s.size : Int) := by omega
  obtain ⟨a', c', hsl, hbs'⟩ := Tryd.bytes_sub hsrc.now hcap st.pos st.pos (by omega) (by omega)
  obtain ⟨X0, hX0⟩ : ∃ X0, s.extract st.pos st.pos = X0 := ⟨_, rfl⟩
  have hX0s : X0.size = 0 := by rw [← hX0, ByteArray.size_extract]; omega
  rw [hX0] at hbs'
  rw [Nat.sub_self] at hsl
  have hcv := run_convert_bs (P := Tryd.prog) w 22 5 9 Tryd.underlying22 Tryd.underlying5 Tryd.underlying9 a' c' X0 hbs'
  rw [hX0s] at hcv
  have HL := Lib.hid hlet
  have HD := Lib.hid hdig
  have e39 : ((c.toNat : Int) == 39) = false := by rw [beq_eq_false_iff_ne]; omega
  have e34 : ((c.toNat : Int) == 34) = false := by rw [beq_eq_false_iff_ne]; omega
  have hSl : S.length ≤ 3 ∧ S.length + st.pos ≤ s.size := by
    have := signOf_le (s.data.toList.drop st.pos)
    rw [hct, hS, ← hct, List.length_drop, ← Lib.size_eq] at this; omega
  obtain ⟨X, hX⟩ : ∃ X, bs S = X := ⟨_, rfl⟩
  have HX := Lib.hid hX
  have hXs : X.size = S.length := by rw [← hX, bs_size]
  have HXd : Hid (X.data.toList = S) := by show _ = _; rw [← hX]; rfl
  have hsI : (st.pos : Int) + (S.length : Int) ≤ (s.size : Int) := by omega
  have HSg : Hid (signOf (s.data.toList.drop st.pos) = S) := by show _ = _; rw [hct]; exact hS
  have gE : X.toList.isEmpty = false := by rw [isEmpty_beq, bs_beq S _ X hX]; rw [hSc]; rfl
  have g0 : (X.toList == []) = false := by rw [bs_beq S _ X hX]; rw [hSc]; rfl
  have g1 : (X.toList == [40]) = false := by rw [bs_beq S _ X hX]; rw [hSc]; rfl
  have g2 : (X.toList == [91]) = true := by rw [bs_beq S _ X hX]; rw [hSc]; rfl
  clear h hsrc hw0 hct hf hV hbs' hX0 hc0 hlet hdig hX0s h39 h34 hS hX hSc
  go_enter Tryd.func21, Tryd.ntmps21
  go_wp2
  go_loopw [6] (fun i wr => i = .int .i64 st.pos ∧ wr = w) (fun i _ => 0)
  case atStart => exact ⟨rfl, rfl⟩
  case round =>
    obtain ⟨rfl, rfl⟩ := hrel
    go_wp2_with fail
    refine (Tryd.rletter_any c _).mono ?_
    rw [HL.out]
    rintro e W1 ⟨rfl, hW1⟩
    obtain rfl := hW1.symm
    go_wp2_with fail
    refine (Tryd.rdigit_any c _).mono ?_
    rw [HD.out]
    rintro e W1 ⟨rfl, hW1⟩
    obtain rfl := hW1.symm
    go_wp2_with fail
    refine (Tryd.rletter_any c _).mono ?_
    rw [HL.out]
    rintro e W1 ⟨rfl, hW1⟩
    obtain rfl := hW1.symm
    go_wp2_with fail
    refine (Tryd.rdigit_any c _).mono ?_
    rw [HD.out]
    rintro e W1 ⟨rfl, hW1⟩
    obtain rfl := hW1.symm
    go_wp2_with fail
    refine (Tryd.rsign_any _ cap s st.pos _ (HS.out.now) hcap (by omega) (by omega)).mono ?_
    rw [HSg.out, HX.out]
    rintro e W2 ⟨rfl, b2⟩
    have H2 := Lib.hid (H.out.below b2)
    have hb2 : Below B _ W2 := b2.mono hBw
    clear b2
    obtain ⟨lv2, bv2, hV2⟩ := H2.out
    obtain ⟨_, _, _, d3, _, _, hf2⟩ := hV2.cells
    have k3 := hf2 3
    have HV2 := Lib.hid hV2
    clear hV2 hf2 c0 c3 f3
    have h60 : decide ((60 : Int) ≤ (st.opn : Int)) = false := by rw [decide_eq_false_iff_not]; omega
    have h60' : ¬ 60 ≤ st.opn := by omega
    have HV3 := Lib.hid (HV2.out.setOpn (st.opn + 1))
    rw [show ((st.opn + 1 : Nat) : Int) = (st.opn : Int) + 1 by omega] at HV3
    go_wp2_with fail
    refine (Tryd.radd_any B b _ { st with opn := st.opn + 1 } 0 0 5 st.pos X _ ⟨_, _, HV3.out.1⟩ hl).mono ?_
    rw [HXd.out]
    rintro e W5 ⟨rfl, H5, b5⟩
    go_wp2_with fail
    go_ret
    exact ⟨rfl, H5, (hb2.trans HV3.out.2).trans b5⟩

set_option maxHeartbeats 16000000 in
set_option maxRecDepth 100000 in
theorem Tryd.rtoken_sign_deep123 (B b : Nat) (a : Option Addr) (cap : Nat) (s : ByteArray) (st : St) (w : World) (h : Tryd.RefAt B b (.slice a s.size cap) st 0 0 w) (hsrc : SrcIn B w a s) (hcap : s.size ≤ cap) (hs : s.size ≤ 100000) (hp : st.pos < s.size) (hl : st.toks.length ≤ 1000000) (ho : st.opn ≤ 60)
    (c : UInt8) (t : List UInt8) (hct : s.data.toList.drop st.pos = c :: t) (hlet : isLet c = false) (hdig : isDig c = false) (h39 : c.toNat ≠ 39) (h34 : c.toNat ≠ 34) (S : List UInt8) (hS : signOf (c :: t) = S) (hSc : S = [123]) (ho60 : st.opn = 60) :
    Calls Tryd.prog 21 #[.pointer (some ⟨b, 0, none⟩), .int .i64 st.pos] w (Tryd.RefRes B b (.slice a s.size cap) w (.error (107, st.pos))) := by
  have hBw := h.base
  obtain ⟨bb, o, rfl, hw0⟩ := bytes_window hsrc.now (by omega)
  obtain ⟨lv, bv, hV⟩ := id h
  obtain ⟨c0, _, _, c3, _, _, hf⟩ := hV.cells
  have f3 := hf 3
  obtain ⟨ccell, hc0⟩ := src_at hw0 hp hct
  have H := Lib.hid h
  have HS := Lib.hid hsrc
  have HW := Lib.hid hw0
  have Hct := Lib.hid hct
  have hpI : (st.pos : Int) < (s.size : Int) := by omega
  have hpI2 : (st.pos : Int) ≤ (s.size : Int) := by omega
  obtain ⟨a', c', hsl, hbs'⟩ := Tryd.bytes_sub hsrc.now hcap st.pos st.pos (by omega) (by omega)
  obtain ⟨X0, hX0⟩ : ∃ X0, s.extract st.pos st.pos = X0 := ⟨_, rfl⟩
  have hX0s : X0.size = 0 := by rw [← hX0, ByteArray.size_extract]; omega
  rw [hX0] at hbs'
  rw [Nat.sub_self] at hsl
  have hcv := run_convert_bs (P := Tryd.prog) w 22 5 9 Tryd.underlying22 Tryd.underlying5 Tryd.underlying9 a' c' X0 hbs'
  rw [hX0s] at hcv
  have HL := Lib.hid hlet
  have HD := Lib.hid hdig
  have e39 : ((c.toNat : Int) == 39) = false := by rw [beq_eq_false_iff_ne]; omega
  have e34 : ((c.toNat : Int) == 34) = false := by rw [beq_eq_false_iff_ne]; omega
  have hSl : S.length ≤ 3 ∧ S.length + st.pos ≤ s.size := by
    have := signOf_le (s.data.toList.drop st.pos)
    rw [hct, hS, ← hct, List.length_drop, ← Lib.size_eq] at this; omega
  obtain ⟨X, hX⟩ : ∃ X, bs S = X := ⟨_, rfl⟩
  have HX := Lib.hid hX
  have hXs : X.size = S.length := by rw [← hX, bs_size]
  have HXd : Hid (X.data.toList = S) := by show _ = _; rw [← hX]; rfl
  have hsI : (st.pos : Int) + (S.length : Int) ≤ (s.size : Int) := by omega
  have HSg : Hid (signOf (s.data.toList.drop st.pos) = S) := by show _ = _; rw [hct]; exact hS
  have gE : X.toList.isEmpty = false := by rw [isEmpty_beq, bs_beq S _ X hX]; rw [hSc]; rfl
  have g0 : (X.toList == []) = false := by rw [bs_beq S _ X hX]; rw [hSc]; rfl
  have g1 : (X.toList == [40]) = false := by rw [bs_beq S _ X hX]; rw [hSc]; rfl
  have g2 : (X.toList == [91]) = false := by rw [bs_beq S _ X hX]; rw [hSc]; rfl
  have g3 : (X.toList == [123]) = true := by rw [bs_beq S _ X hX]; rw [hSc]; rfl
  clear h hsrc hw0 hct hf hV hbs' hX0 hc0 hlet hdig hX0s h39 h34 hS hX hSc
  go_enter Tryd.func21, Tryd.ntmps21
  go_wp2
  go_loopw [6] (fun i wr => i = .int .i64 st.pos ∧ wr = w) (fun i _ => 0)
  case atStart => exact ⟨rfl, rfl⟩
  case round =>
    obtain ⟨rfl, rfl⟩ := hrel
    go_wp2_with fail
    refine (Tryd.rletter_any c _).mono ?_
    rw [HL.out]
    rintro e W1 ⟨rfl, hW1⟩
    obtain rfl := hW1.symm
    go_wp2_with fail
    refine (Tryd.rdigit_any c _).mono ?_
    rw [HD.out]
    rintro e W1 ⟨rfl, hW1⟩
    obtain rfl := hW1.symm
    go_wp2_with fail
    refine (Tryd.rletter_any c _).mono ?_
    rw [HL.out]
    rintro e W1 ⟨rfl, hW1⟩
    obtain rfl := hW1.symm
    go_wp2_with fail
    refine (Tryd.rdigit_any c _).mono ?_
    rw [HD.out]
    rintro e W1 ⟨rfl, hW1⟩
    obtain rfl := hW1.symm
    go_wp2_with fail
    refine (Tryd.rsign_any _ cap s st.pos _ (HS.out.now) hcap (by omega) (by omega)).mono ?_
    rw [HSg.out, HX.out]
    rintro e W2 ⟨rfl, b2⟩
    have H2 := Lib.hid (H.out.below b2)
    have hb2 : Below B _ W2 := b2.mono hBw
    clear b2
    obtain ⟨lv2, bv2, hV2⟩ := H2.out
    obtain ⟨_, _, _, d3, _, _, hf2⟩ := hV2.cells
    have k3 := hf2 3
    have HV2 := Lib.hid hV2
    clear hV2 hf2 c0 c3 f3
    have h60 : decide ((60 : Int) ≤ (st.opn : Int)) = true := by rw [decide_eq_true_eq]; omega
    have HO := Lib.hid ho60
    clear ho60
    go_wp2_with fail
    refine (Tryd.rfault_any B b _ st 0 0 107 st.pos _ H2.out).mono ?_
    rintro e W3 ⟨rfl, H3, b3⟩
    obtain ⟨lv3, bv3, hV3⟩ := H3
    obtain ⟨_, _, _, e3, _, _, hf3⟩ := hV3.cells
    have j3 := hf3 3
    have HV3 := Lib.hid (hV3.setOpn (st.opn + 1))
    rw [show ((st.opn + 1 : Nat) : Int) = (st.opn : Int) + 1 by omega] at HV3
    have hb3 := hb2.trans b3
    clear hV3 hf3 d3 k3
    go_wp2_with fail
    refine (Tryd.radd_any B b _ { st with opn := st.opn + 1 } 107 st.pos 5 st.pos X _ ⟨_, _, HV3.out.1⟩ hl).mono ?_
    rw [HXd.out]
    rintro e W5 ⟨rfl, H5, b5⟩
    go_wp2_with fail
    go_ret
    exact ⟨⟨_, rfl⟩, ⟨_, H5⟩, (hb3.trans HV3.out.2).trans b5⟩

set_option maxHeartbeats 16000000 in
set_option maxRecDepth 100000 in
theorem Tryd.rtoken_sign_open123 (B b : Nat) (a : Option Addr) (cap : Nat) (s : ByteArray) (st : St) (w : World) (h : Tryd.RefAt B b (.slice a s.size cap) st 0 0 w) (hsrc : SrcIn B w a s) (hcap : s.size ≤ cap) (hs : s.size ≤ 100000) (hp : st.pos < s.size) (hl : st.toks.length ≤ 1000000) (ho : st.opn ≤ 60)
    (c : UInt8) (t : List UInt8) (hct : s.data.toList.drop st.pos = c :: t) (hlet : isLet c = false) (hdig : isDig c = false) (h39 : c.toNat ≠ 39) (h34 : c.toNat ≠ 34) (S : List UInt8) (hS : signOf (c :: t) = S) (hSc : S = [123]) (ho60 : st.opn < 60) :
    Calls Tryd.prog 21 #[.pointer (some ⟨b, 0, none⟩), .int .i64 st.pos] w (Tryd.RefRes B b (.slice a s.size cap) w (.ok { st with pos := st.pos + S.length, toks := st.toks ++ [⟨5, S, st.pos⟩], opn := st.opn + 1 })) := by
  have hBw := h.base
  obtain ⟨bb, o, rfl, hw0⟩ := bytes_window hsrc.now (by omega)
  obtain ⟨lv, bv, hV⟩ := id h
  obtain ⟨c0, _, _, c3, _, _, hf⟩ := hV.cells
  have f3 := hf 3
  obtain ⟨ccell, hc0⟩ := src_at hw0 hp hct
  have H := Lib.hid h
  have HS := Lib.hid hsrc
  have HW := Lib.hid hw0
  have Hct := Lib.hid hct
  have hpI : (st.pos : Int) < (s.size : Int) := by omega
  have hpI2 : (st.pos : Int) ≤ (s.size : Int) := by omega
  obtain ⟨a', c', hsl, hbs'⟩ := Tryd.bytes_sub hsrc.now hcap st.pos st.pos (by omega) (by omega)
  obtain ⟨X0, hX0⟩ : ∃ X0, s.extract st.pos st.pos = X0 := ⟨_, rfl⟩
  have hX0s : X0.size = 0 := by rw [← hX0, ByteArray.size_extract]; omega
  rw [hX0] at hbs'
  rw [Nat.sub_self] at hsl
  have hcv := run_convert_bs (P := Tryd.prog) w 22 5 9 Tryd.underlying22 Tryd.underlying5 Tryd.underlying9 a' c' X0 hbs'
  rw [hX0s] at hcv
  have HL := Lib.hid hlet
  have HD := Lib.hid hdig
  have e39 : ((c.toNat : Int) == 39) = false := by rw [beq_eq_false_iff_ne]; omega
  have e34 : ((c.toNat : Int) == 34) = false := by rw [beq_eq_false_iff_ne]; omega
  have hSl : S.length ≤ 3 ∧ S.length + st.pos ≤ s.size := by
    have := signOf_le (s.data.toList.drop st.pos)
    rw [hct, hS, ← hct, List.length_drop, ← Lib.size_eq] at this; omega
  obtain ⟨X, hX⟩ : ∃ X, bs S = X := ⟨_, rfl⟩
  have HX := Lib.hid hX
  have hXs : X.size = S.length := by rw [← hX, bs_size]
  have HXd : Hid (X.data.toList = S) := by show _ = _; rw [← hX]; rfl
  have hsI : (st.pos : Int) + (S.length : Int) ≤ (s.size : Int) := by omega
  have HSg : Hid (signOf (s.data.toList.drop st.pos) = S) := by show _ = _; rw [hct]; exact hS
  have gE : X.toList.isEmpty = false := by rw [isEmpty_beq, bs_beq S _ X hX]; rw [hSc]; rfl
  have g0 : (X.toList == []) = false := by rw [bs_beq S _ X hX]; rw [hSc]; rfl
  have g1 : (X.toList == [40]) = false := by rw [bs_beq S _ X hX]; rw [hSc]; rfl
  have g2 : (X.toList == [91]) = false := by rw [bs_beq S _ X hX]; rw [hSc]; rfl
  have g3 : (X.toList == [123]) = true := by rw [bs_beq S _ X hX]; rw [hSc]; rfl
  clear h hsrc hw0 hct hf hV hbs' hX0 hc0 hlet hdig hX0s h39 h34 hS hX hSc
  go_enter Tryd.func21, Tryd.ntmps21
  go_wp2
  go_loopw [6] (fun i wr => i = .int .i64 st.pos ∧ wr = w) (fun i _ => 0)
  case atStart => exact ⟨rfl, rfl⟩
  case round =>
    obtain ⟨rfl, rfl⟩ := hrel
    go_wp2_with fail
    refine (Tryd.rletter_any c _).mono ?_
    rw [HL.out]
    rintro e W1 ⟨rfl, hW1⟩
    obtain rfl := hW1.symm
    go_wp2_with fail
    refine (Tryd.rdigit_any c _).mono ?_
    rw [HD.out]
    rintro e W1 ⟨rfl, hW1⟩
    obtain rfl := hW1.symm
    go_wp2_with fail
    refine (Tryd.rletter_any c _).mono ?_
    rw [HL.out]
    rintro e W1 ⟨rfl, hW1⟩
    obtain rfl := hW1.symm
    go_wp2_with fail
    refine (Tryd.rdigit_any c _).mono ?_
    rw [HD.out]
    rintro e W1 ⟨rfl, hW1⟩
    obtain rfl := hW1.symm
    go_wp2_with fail
    refine (Tryd.rsign_any _ cap s st.pos _ (HS.out.now) hcap (by omega) (by omega)).mono ?_
    rw [HSg.out, HX.out]
    rintro e W2 ⟨rfl, b2⟩
    have H2 := Lib.hid (H.out.below b2)
    have hb2 : Below B _ W2 := b2.mono hBw
    clear b2
    obtain ⟨lv2, bv2, hV2⟩ := H2.out
    obtain ⟨_, _, _, d3, _, _, hf2⟩ := hV2.cells
    have k3 := hf2 3
    have HV2 := Lib.hid hV2
    clear hV2 hf2 c0 c3 f3
    have h60 : decide ((60 : Int) ≤ (st.opn : Int)) = false := by rw [decide_eq_false_iff_not]; omega
    have h60' : ¬ 60 ≤ st.opn := by omega
    have HV3 := Lib.hid (HV2.out.setOpn (st.opn + 1))
    rw [show ((st.opn + 1 : Nat) : Int) = (st.opn : Int) + 1 by omega] at HV3
    go_wp2_with fail
    refine (Tryd.radd_any B b _ { st with opn := st.opn + 1 } 0 0 5 st.pos X _ ⟨_, _, HV3.out.1⟩ hl).mono ?_
    rw [HXd.out]
    rintro e W5 ⟨rfl, H5, b5⟩
    go_wp2_with fail
    go_ret
    exact ⟨rfl, H5, (hb2.trans HV3.out.2).trans b5⟩
end Go.Proofs

namespace Go.Proofs
open Go.RowKit Go.Lx Go.Lt

set_option maxHeartbeats 16000000 in
set_option maxRecDepth 100000 in
theorem Tryd.rtoken_sign_close41 (B b : Nat) (a : Option Addr) (cap : Nat) (s : ByteArray) (st : St) (w : World) (h : Tryd.RefAt B b (.slice a s.size cap) st 0 0 w) (hsrc : SrcIn B w a s) (hcap : s.size ≤ cap) (hs : s.size ≤ 100000) (hp : st.pos < s.size) (hl : st.toks.length ≤ 1000000) (ho : st.opn ≤ 60)
    (c : UInt8) (t : List UInt8) (hct : s.data.toList.drop st.pos = c :: t) (hlet : isLet c = false) (hdig : isDig c = false) (h39 : c.toNat ≠ 39) (h34 : c.toNat ≠ 34) (S : List UInt8) (hS : signOf (c :: t) = S) (hSc : S = [41]) (hop : 0 < st.opn) :
    Calls Tryd.prog 21 #[.pointer (some ⟨b, 0, none⟩), .int .i64 st.pos] w (Tryd.RefRes B b (.slice a s.size cap) w (.ok { st with pos := st.pos + S.length, toks := st.toks ++ [⟨5, S, st.pos⟩], opn := st.opn - 1 })) := by
  have hBw := h.base
  obtain ⟨bb, o, rfl, hw0⟩ := bytes_window hsrc.now (by omega)
  obtain ⟨lv, bv, hV⟩ := id h
  obtain ⟨c0, _, _, c3, _, _, hf⟩ := hV.cells
  have f3 := hf 3
  obtain ⟨ccell, hc0⟩ := src_at hw0 hp hct
  have H := Lib.hid h
  have HS := Lib.hid hsrc
  have HW := Lib.hid hw0
  have Hct := Lib.hid hct
  have hpI : (st.pos : Int) < (s.size : Int) := by omega
  have hpI2 : (st.pos : Int) ≤ (s.size : Int) := by omega
  obtain ⟨a', c', hsl, hbs'⟩ := Tryd.bytes_sub hsrc.now hcap st.pos st.pos (by omega) (by omega)
  obtain ⟨X0, hX0⟩ : ∃ X0, s.extract st.pos st.pos = X0 := ⟨_, rfl⟩
  have hX0s : X0.size = 0 := by rw [← hX0, ByteArray.size_extract]; omega
  rw [hX0] at hbs'
  rw [Nat.sub_self] at hsl
  have hcv := run_convert_bs (P := Tryd.prog) w 22 5 9 Tryd.underlying22 Tryd.underlying5 Tryd.underlying9 a' c' X0 hbs'
  rw [hX0s] at hcv
  have HL := Lib.hid hlet
  have HD := Lib.hid hdig
  have e39 : ((c.toNat : Int) == 39) = false := by rw [beq_eq_false_iff_ne]; omega
  have e34 : ((c.toNat : Int) == 34) = false := by rw [beq_eq_false_iff_ne]; omega
  have hSl : S.length ≤ 3 ∧ S.length + st.pos ≤ s.size := by
    have := signOf_le (s.data.toList.drop st.pos)
    rw [hct, hS, ← hct, List.length_drop, ← Lib.size_eq] at this; omega
  obtain ⟨X, hX⟩ : ∃ X, bs S = X := ⟨_, rfl⟩
  have HX := Lib.hid hX
  have hXs : X.size = S.length := by rw [← hX, bs_size]
  have HXd : Hid (X.data.toList = S) := by show _ = _; rw [← hX]; rfl
  have hsI : (st.pos : Int) + (S.length : Int) ≤ (s.size : Int) := by omega
  have HSg : Hid (signOf (s.data.toList.drop st.pos) = S) := by show _ = _; rw [hct]; exact hS
  have gE : X.toList.isEmpty = false := by rw [isEmpty_beq, bs_beq S _ X hX]; rw [hSc]; rfl
  have g0 : (X.toList == []) = false := by rw [bs_beq S _ X hX]; rw [hSc]; rfl
  have g1 : (X.toList == [40]) = false := by rw [bs_beq S _ X hX]; rw [hSc]; rfl
  have g2 : (X.toList == [91]) = false := by rw [bs_beq S _ X hX]; rw [hSc]; rfl
  have g3 : (X.toList == [123]) = false := by rw [bs_beq S _ X hX]; rw [hSc]; rfl
  have g4 : (X.toList == [41]) = true := by rw [bs_beq S _ X hX]; rw [hSc]; rfl
  clear h hsrc hw0 hct hf hV hbs' hX0 hc0 hlet hdig hX0s h39 h34 hS hX hSc
  go_enter Tryd.func21, Tryd.ntmps21
  go_wp2
  go_loopw [6] (fun i wr => i = .int .i64 st.pos ∧ wr = w) (fun i _ => 0)
  case atStart => exact ⟨rfl, rfl⟩
  case round =>
    obtain ⟨rfl, rfl⟩ := hrel
    go_wp2_with fail
    refine (Tryd.rletter_any c _).mono ?_
    rw [HL.out]
    rintro e W1 ⟨rfl, hW1⟩
    obtain rfl := hW1.symm
    go_wp2_with fail
    refine (Tryd.rdigit_any c _).mono ?_
    rw [HD.out]
    rintro e W1 ⟨rfl, hW1⟩
    obtain rfl := hW1.symm
    go_wp2_with fail
    refine (Tryd.rletter_any c _).mono ?_
    rw [HL.out]
    rintro e W1 ⟨rfl, hW1⟩
    obtain rfl := hW1.symm
    go_wp2_with fail
    refine (Tryd.rdigit_any c _).mono ?_
    rw [HD.out]
    rintro e W1 ⟨rfl, hW1⟩
    obtain rfl := hW1.symm
    go_wp2_with fail
    refine (Tryd.rsign_any _ cap s st.pos _ (HS.out.now) hcap (by omega) (by omega)).mono ?_
    rw [HSg.out, HX.out]
    rintro e W2 ⟨rfl, b2⟩
    have H2 := Lib.hid (H.out.below b2)
    have hb2 : Below B _ W2 := b2.mono hBw
    clear b2
    obtain ⟨lv2, bv2, hV2⟩ := H2.out
    obtain ⟨_, _, _, d3, _, _, hf2⟩ := hV2.cells
    have k3 := hf2 3
    have HV2 := Lib.hid hV2
    clear hV2 hf2 c0 c3 f3
    have hopI : (0 : Int) < (st.opn : Int) := by omega
    have HV3 := Lib.hid (HV2.out.setOpn (st.opn - 1))
    rw [show ((st.opn - 1 : Nat) : Int) = (st.opn : Int) - 1 by omega] at HV3
    go_wp2_with fail
    refine (Tryd.radd_any B b _ { st with opn := st.opn - 1 } 0 0 5 st.pos X _ ⟨_, _, HV3.out.1⟩ hl).mono ?_
    rw [HXd.out]
    rintro e W5 ⟨rfl, H5, b5⟩
    go_wp2_with fail
    go_ret
    exact ⟨rfl, H5, (hb2.trans HV3.out.2).trans b5⟩

set_option maxHeartbeats 16000000 in
set_option maxRecDepth 100000 in
theorem Tryd.rtoken_sign_shut41 (B b : Nat) (a : Option Addr) (cap : Nat) (s : ByteArray) (st : St) (w : World) (h : Tryd.RefAt B b (.slice a s.size cap) st 0 0 w) (hsrc : SrcIn B w a s) (hcap : s.size ≤ cap) (hs : s.size ≤ 100000) (hp : st.pos < s.size) (hl : st.toks.length ≤ 1000000) (ho : st.opn ≤ 60)
    (c : UInt8) (t : List UInt8) (hct : s.data.toList.drop st.pos = c :: t) (hlet : isLet c = false) (hdig : isDig c = false) (h39 : c.toNat ≠ 39) (h34 : c.toNat ≠ 34) (S : List UInt8) (hS : signOf (c :: t) = S) (hSc : S = [41]) (hop : st.opn = 0) :
    Calls Tryd.prog 21 #[.pointer (some ⟨b, 0, none⟩), .int .i64 st.pos] w (Tryd.RefRes B b (.slice a s.size cap) w (.ok { st with pos := st.pos + S.length, toks := st.toks ++ [⟨5, S, st.pos⟩], opn := st.opn - 1 })) := by
  have hBw := h.base
  obtain ⟨bb, o, rfl, hw0⟩ := bytes_window hsrc.now (by omega)
  obtain ⟨lv, bv, hV⟩ := id h
  obtain ⟨c0, _, _, c3, _, _, hf⟩ := hV.cells
  have f3 := hf 3
  obtain ⟨ccell, hc0⟩ := src_at hw0 hp hct
  have H := Lib.hid h
  have HS := Lib.hid hsrc
  have HW := Lib.hid hw0
  have Hct := Lib.hid hct
  have hpI : (st.pos : Int) < (s.size : Int) := by omega
  have hpI2 : (st.pos : Int) ≤ (s.size : Int) := by omega
  obtain ⟨a', c', hsl, hbs'⟩ := Tryd.bytes_sub hsrc.now hcap st.pos st.pos (by omega) (by omega)
  obtain ⟨X0, hX0⟩ : ∃ X0, s.extract st.pos st.pos = X0 := ⟨_, rfl⟩
  have hX0s : X0.size = 0 := by rw [← hX0, ByteArray.size_extract]; omega
  rw [hX0] at hbs'
  rw [Nat.sub_self] at hsl
  have hcv := run_convert_bs (P := Tryd.prog) w 22 5 9 Tryd.underlying22 Tryd.underlying5 Tryd.underlying9 a' c' X0 hbs'
  rw [hX0s] at hcv
  have HL := Lib.hid hlet
  have HD := Lib.hid hdig
  have e39 : ((c.toNat : Int) == 39) = false := by rw [beq_eq_false_iff_ne]; omega
  have e34 : ((c.toNat : Int) == 34) = false := by rw [beq_eq_false_iff_ne]; omega
  have hSl : S.length ≤ 3 ∧ S.length + st.pos ≤ s.size := by
    have := signOf_le (s.data.toList.drop st.pos)
    rw [hct, hS, ← hct, List.length_drop, ← Lib.size_eq] at this; omega
  obtain ⟨X, hX⟩ : ∃ X, bs S = X := ⟨_, rfl⟩
  have HX := Lib.hid hX
  have hXs : X.size = S.length := by rw [← hX, bs_size]
  have HXd : Hid (X.data.toList = S) := by show _ = _; rw [← hX]; rfl
  have hsI : (st.pos : Int) + (S.length : Int) ≤ (s.size : Int) := by omega
  have HSg : Hid (signOf (s.data.toList.drop st.pos) = S) := by show _ = _; rw [hct]; exact hS
  have gE : X.toList.isEmpty = false := by rw [isEmpty_beq, bs_beq S _ X hX]; rw [hSc]; rfl
  have g0 : (X.toList == []) = false := by rw [bs_beq S _ X hX]; rw [hSc]; rfl
  have g1 : (X.toList == [40]) = false := by rw [bs_beq S _ X hX]; rw [hSc]; rfl
  have g2 : (X.toList == [91]) = false := by rw [bs_beq S _ X hX]; rw [hSc]; rfl
  have g3 : (X.toList == [123]) = false := by rw [bs_beq S _ X hX]; rw [hSc]; rfl
  have g4 : (X.toList == [41]) = true := by rw [bs_beq S _ X hX]; rw [hSc]; rfl
  clear h hsrc hw0 hct hf hV hbs' hX0 hc0 hlet hdig hX0s h39 h34 hS hX hSc
  go_enter Tryd.func21, Tryd.ntmps21
  go_wp2
  go_loopw [6] (fun i wr => i = .int .i64 st.pos ∧ wr = w) (fun i _ => 0)
  case atStart => exact ⟨rfl, rfl⟩
  case round =>
    obtain ⟨rfl, rfl⟩ := hrel
    go_wp2_with fail
    refine (Tryd.rletter_any c _).mono ?_
    rw [HL.out]
    rintro e W1 ⟨rfl, hW1⟩
    obtain rfl := hW1.symm
    go_wp2_with fail
    refine (Tryd.rdigit_any c _).mono ?_
    rw [HD.out]
    rintro e W1 ⟨rfl, hW1⟩
    obtain rfl := hW1.symm
    go_wp2_with fail
    refine (Tryd.rletter_any c _).mono ?_
    rw [HL.out]
    rintro e W1 ⟨rfl, hW1⟩
    obtain rfl := hW1.symm
    go_wp2_with fail
    refine (Tryd.rdigit_any c _).mono ?_
    rw [HD.out]
    rintro e W1 ⟨rfl, hW1⟩
    obtain rfl := hW1.symm
    go_wp2_with fail
    refine (Tryd.rsign_any _ cap s st.pos _ (HS.out.now) hcap (by omega) (by omega)).mono ?_
    rw [HSg.out, HX.out]
    rintro e W2 ⟨rfl, b2⟩
    have H2 := Lib.hid (H.out.below b2)
    have hb2 : Below B _ W2 := b2.mono hBw
    clear b2
    obtain ⟨lv2, bv2, hV2⟩ := H2.out
    obtain ⟨_, _, _, d3, _, _, hf2⟩ := hV2.cells
    have k3 := hf2 3
    have HV2 := Lib.hid hV2
    clear hV2 hf2 c0 c3 f3
    have hopI : ¬ (0 : Int) < (st.opn : Int) := by omega
    have hopN : ¬ 0 < st.opn := by omega
    have Hop := Lib.hid hop
    clear hop
    have HST : Hid (∀ X : List Tok, ({ st with toks := X, opn := st.opn } : St) = { st with toks := X, opn := st.opn - 1 }) := fun X => by rw [Hop.out]
    go_wp2_with fail
    refine (Tryd.radd_any B b _ st 0 0 5 st.pos X _ H2.out hl).mono ?_
    rw [HXd.out]
    rintro e W5 ⟨rfl, H5, b5⟩
    go_wp2_with fail
    go_ret
    refine ⟨rfl, ?_, hb2.trans b5⟩
    have e := HST.out (st.toks ++ [⟨5, S, st.pos⟩])
    obtain ⟨lv5, bv5, hV5⟩ := H5
    refine ⟨lv5, bv5, ?_⟩
    unfold Tryd.RefV at hV5 ⊢
    rw [show ({ st with pos := st.pos + S.length, toks := st.toks ++ [⟨5, S, st.pos⟩], opn := st.opn - 1 } : St).opn = st.opn by show st.opn - 1 = st.opn; rw [Hop.out]]
    exact hV5

set_option maxHeartbeats 16000000 in
set_option maxRecDepth 100000 in
theorem Tryd.rtoken_sign_close93 (B b : Nat) (a : Option Addr) (cap : Nat) (s : ByteArray) (st : St) (w : World) (h : Tryd.RefAt B b (.slice a s.size cap) st 0 0 w) (hsrc : SrcIn B w a s) (hcap : s.size ≤ cap) (hs : s.size ≤ 100000) (hp : st.pos < s.size) (hl : st.toks.length ≤ 1000000) (ho : st.opn ≤ 60)
    (c : UInt8) (t : List UInt8) (hct : s.data.toList.drop st.pos = c :: t) (hlet : isLet c = false) (hdig : isDig c = false) (h39 : c.toNat ≠ 39) (h34 : c.toNat ≠ 34) (S : List UInt8) (hS : signOf (c :: t) = S) (hSc : S = [93]) (hop : 0 < st.opn) :
    Calls Tryd.prog 21 #[.pointer (some ⟨b, 0, none⟩), .int .i64 st.pos] w (Tryd.RefRes B b (.slice a s.size cap) w (.ok { st with pos := st.pos + S.length, toks := st.toks ++ [⟨5, S, st.pos⟩], opn := st.opn - 1 })) := by
  have hBw := h.base
  obtain ⟨bb, o, rfl, hw0⟩ := bytes_window hsrc.now (by omega)
  obtain ⟨lv, bv, hV⟩ := id h
  obtain ⟨c0, _, _, c3, _, _, hf⟩ := hV.cells
  have f3 := hf 3
  obtain ⟨ccell, hc0⟩ := src_at hw0 hp hct
  have H := Lib.hid h
  have HS := Lib.hid hsrc
  have HW := Lib.hid hw0
  have Hct := Lib.hid hct
  have hpI : (st.pos : Int) < (s.size : Int) := by omega
  have hpI2 : (st.pos : Int) ≤ (s.size : Int) := by omega
  obtain ⟨a', c', hsl, hbs'⟩ := Tryd.bytes_sub hsrc.now hcap st.pos st.pos (by omega) (by omega)
  obtain ⟨X0, hX0⟩ : ∃ X0, s.extract st.pos st.pos = X0 := ⟨_, rfl⟩
  have hX0s : X0.size = 0 := by rw [← hX0, ByteArray.size_extract]; omega
  rw [hX0] at hbs'
  rw [Nat.sub_self] at hsl
  have hcv := run_convert_bs (P := Tryd.prog) w 22 5 9 Tryd.underlying22 Tryd.underlying5 Tryd.underlying9 a' c' X0 hbs'
  rw [hX0s] at hcv
  have HL := Lib.hid hlet
  have HD := Lib.hid hdig
  have e39 : ((c.toNat : Int) == 39) = false := by rw [beq_eq_false_iff_ne]; omega
  have e34 : ((c.toNat : Int) == 34) = false := by rw [beq_eq_false_iff_ne]; omega
  have hSl : S.length ≤ 3 ∧ S.length + st.pos ≤ s.size := by
    have := signOf_le (s.data.toList.drop st.pos)
    rw [hct, hS, ← hct, List.length_drop, ← Lib.size_eq] at this; omega
  obtain ⟨X, hX⟩ : ∃ X, bs S = X := ⟨_, rfl⟩
  have HX := Lib.hid hX
  have hXs : X.size = S.length := by rw [← hX, bs_size]
  have HXd : Hid (X.data.toList = S) := by show _ = _; rw [← hX]; rfl
  have hsI : (st.pos : Int) + (S.length : Int) ≤ (s.size : Int) := by omega
  have HSg : Hid (signOf (s.data.toList.drop st.pos) = S) := by show _ = _; rw [hct]; exact hS
  have gE : X.toList.isEmpty = false := by rw [isEmpty_beq, bs_beq S _ X hX]; rw [hSc]; rfl
  have g0 : (X.toList == []) = false := by rw [bs_beq S _ X hX]; rw [hSc]; rfl
  have g1 : (X.toList == [40]) = false := by rw [bs_beq S _ X hX]; rw [hSc]; rfl
  have g2 : (X.toList == [91]) = false := by rw [bs_beq S _ X hX]; rw [hSc]; rfl
  have g3 : (X.toList == [123]) = false := by rw [bs_beq S _ X hX]; rw [hSc]; rfl
  have g4 : (X.toList == [41]) = false := by rw [bs_beq S _ X hX]; rw [hSc]; rfl
  have g5 : (X.toList == [93]) = true := by rw [bs_beq S _ X hX]; rw [hSc]; rfl
  clear h hsrc hw0 hct hf hV hbs' hX0 hc0 hlet hdig hX0s h39 h34 hS hX hSc
  go_enter Tryd.func21, Tryd.ntmps21
  go_wp2
  go_loopw [6] (fun i wr => i = .int .i64 st.pos ∧ wr = w) (fun i _ => 0)
  case atStart => exact ⟨rfl, rfl⟩
  case round =>
    obtain ⟨rfl, rfl⟩ := hrel
    go_wp2_with fail
    refine (Tryd.rletter_any c _).mono ?_
    rw [HL.out]
    rintro e W1 ⟨rfl, hW1⟩
    obtain rfl := hW1.symm
    go_wp2_with fail
    refine (Tryd.rdigit_any c _).mono ?_
    rw [HD.out]
    rintro e W1 ⟨rfl, hW1⟩
    obtain rfl := hW1.symm
    go_wp2_with fail
    refine (Tryd.rletter_any c _).mono ?_
    rw [HL.out]
    rintro e W1 ⟨rfl, hW1⟩
    obtain rfl := hW1.symm
    go_wp2_with fail
    refine (Tryd.rdigit_any c _).mono ?_
    rw [HD.out]
    rintro e W1 ⟨rfl, hW1⟩
    obtain rfl := hW1.symm
    go_wp2_with fail
    refine (Tryd.rsign_any _ cap s st.pos _ (HS.out.now) hcap (by omega) (by omega)).mono ?_
    rw [HSg.out, HX.out]
    rintro e W2 ⟨rfl, b2⟩
    have H2 := Lib.hid (H.out.below b2)
    have hb2 : Below B _ W2 := b2.mono hBw
    clear b2
    obtain ⟨lv2, bv2, hV2⟩ := H2.out
    obtain ⟨_, _, _, d3, _, _, hf2⟩ := hV2.cells
    have k3 := hf2 3
    have HV2 := Lib.hid hV2
    clear hV2 hf2 c0 c3 f3
    have hopI : (0 : Int) < (st.opn : Int) := by omega
    have HV3 := Lib.hid (HV2.out.setOpn (st.opn - 1))
    rw [show ((st.opn - 1 : Nat) : Int) = (st.opn : Int) - 1 by omega] at HV3
    go_wp2_with fail
    refine (Tryd.radd_any B b _ { st with opn := st.opn - 1 } 0 0 5 st.pos X _ ⟨_, _, HV3.out.1⟩ hl).mono ?_
    rw [HXd.out]
    rintro e W5 ⟨rfl, H5, b5⟩
    go_wp2_with fail
    go_ret
    exact ⟨rfl, H5, (hb2.trans HV3.out.2).trans b5⟩

set_option maxHeartbeats 16000000 in
set_option maxRecDepth 100000 in
theorem Tryd.rtoken_sign_shut93 (B b : Nat) (a : Option Addr) (cap : Nat) (s : ByteArray) (st : St) (w : World) (h : Tryd.RefAt B b (.slice a s.size cap) st 0 0 w) (hsrc : SrcIn B w a s) (hcap : s.size ≤ cap) (hs : s.size ≤ 100000) (hp : st.pos < s.size) (hl : st.toks.length ≤ 1000000) (ho : st.opn ≤ 60)
    (c : UInt8) (t : List UInt8) (hct : s.data.toList.drop st.pos = c :: t) (hlet : isLet c = false) (hdig : isDig c = false) (h39 : c.toNat ≠ 39) (h34 : c.toNat ≠ 34) (S : List UInt8) (hS : signOf (c :: t) = S) (hSc : S = [93]) (hop : st.opn = 0) :
    Calls Tryd.prog 21 #[.pointer (some ⟨b, 0, none⟩), .int .i64 st.pos] w (Tryd.RefRes B b (.slice a s.size cap) w (.ok { st with pos := st.pos + S.length, toks := st.toks ++ [⟨5, S, st.pos⟩], opn := st.opn - 1 })) := by
  have hBw := h.base
  obtain ⟨bb, o, rfl, hw0⟩ := bytes_window hsrc.now (by omega)
  obtain ⟨lv, bv, hV⟩ := id h
  obtain ⟨c0, _, _, c3, _, _, hf⟩ := hV.cells
  have f3 := hf 3
  obtain ⟨ccell, hc0⟩ := src_at hw0 hp hct
  have H := Lib.hid h
  have HS := Lib.hid hsrc
  have HW := Lib.hid hw0
  have Hct := Lib.hid hct
  have hpI : (st.pos : Int) < (s.size : Int) := by omega
  have hpI2 : (st.pos : Int) ≤ (s.size : Int) := by omega
  obtain ⟨a', c', hsl, hbs'⟩ := Tryd.bytes_sub hsrc.now hcap st.pos st.pos (by omega) (by omega)
  obtain ⟨X0, hX0⟩ : ∃ X0, s.extract st.pos st.pos = X0 := ⟨_, rfl⟩
  have hX0s : X0.size = 0 := by rw [← hX0, ByteArray.size_extract]; omega
  rw [hX0] at hbs'
  rw [Nat.sub_self] at hsl
  have hcv := run_convert_bs (P := Tryd.prog) w 22 5 9 Tryd.underlying22 Tryd.underlying5 Tryd.underlying9 a' c' X0 hbs'
  rw [hX0s] at hcv
  have HL := Lib.hid hlet
  have HD := Lib.hid hdig
  have e39 : ((c.toNat : Int) == 39) = false := by rw [beq_eq_false_iff_ne]; omega
  have e34 : ((c.toNat : Int) == 34) = false := by rw [beq_eq_false_iff_ne]; omega
  have hSl : S.length ≤ 3 ∧ S.length + st.pos ≤ s.size := by
    have := signOf_le (s.data.toList.drop st.pos)
    rw [hct, hS, ← hct, List.length_drop, ← Lib.size_eq] at this; omega
  obtain ⟨X, hX⟩ : ∃ X, bs S = X := ⟨_, rfl⟩
  have HX := Lib.hid hX
  have hXs : X.size = S.length := by rw [← hX, bs_size]
  have HXd : Hid (X.data.toList = S) := by show _ = _; rw [← hX]; rfl
  have hsI : (st.pos : Int) + (S.length : Int) ≤ (s.size : Int) := by omega
  have HSg : Hid (signOf (s.data.toList.drop st.pos) = S) := by show _ = _; rw [hct]; exact hS
  have gE : X.toList.isEmpty = false := by rw [isEmpty_beq, bs_beq S _ X hX]; rw [hSc]; rfl
  have g0 : (X.toList == []) = false := by rw [bs_beq S _ X hX]; rw [hSc]; rfl
  have g1 : (X.toList == [40]) = false := by rw [bs_beq S _ X hX]; rw [hSc]; rfl
  have g2 : (X.toList == [91]) = false := by rw [bs_beq S _ X hX]; rw [hSc]; rfl
  have g3 : (X.toList == [123]) = false := by rw [bs_beq S _ X hX]; rw [hSc]; rfl
  have g4 : (X.toList == [41]) = false := by rw [bs_beq S _ X hX]; rw [hSc]; rfl
  have g5 : (X.toList == [93]) = true := by rw [bs_beq S _ X hX]; rw [hSc]; rfl
  clear h hsrc hw0 hct hf hV hbs' hX0 hc0 hlet hdig hX0s h39 h34 hS hX hSc
  go_enter Tryd.func21, Tryd.ntmps21
  go_wp2
  go_loopw [6] (fun i wr => i = .int .i64 st.pos ∧ wr = w) (fun i _ => 0)
  case atStart => exact ⟨rfl, rfl⟩
  case round =>
    obtain ⟨rfl, rfl⟩ := hrel
    go_wp2_with fail
    refine (Tryd.rletter_any c _).mono ?_
    rw [HL.out]
    rintro e W1 ⟨rfl, hW1⟩
    obtain rfl := hW1.symm
    go_wp2_with fail
    refine (Tryd.rdigit_any c _).mono ?_
    rw [HD.out]
    rintro e W1 ⟨rfl, hW1⟩
    obtain rfl := hW1.symm
    go_wp2_with fail
    refine (Tryd.rletter_any c _).mono ?_
    rw [HL.out]
    rintro e W1 ⟨rfl, hW1⟩
    obtain rfl := hW1.symm
    go_wp2_with fail
    refine (Tryd.rdigit_any c _).mono ?_
    rw [HD.out]
    rintro e W1 ⟨rfl, hW1⟩
    obtain rfl := hW1.symm
    go_wp2_with fail
    refine (Tryd.rsign_any _ cap s st.pos _ (HS.out.now) hcap (by omega) (by omega)).mono ?_
    rw [HSg.out, HX.out]
    rintro e W2 ⟨rfl, b2⟩
    have H2 := Lib.hid (H.out.below b2)
    have hb2 : Below B _ W2 := b2.mono hBw
    clear b2
    obtain ⟨lv2, bv2, hV2⟩ := H2.out
    obtain ⟨_, _, _, d3, _, _, hf2⟩ := hV2.cells
    have k3 := hf2 3
    have HV2 := Lib.hid hV2
    clear hV2 hf2 c0 c3 f3
    have hopI : ¬ (0 : Int) < (st.opn : Int) := by omega
    have hopN : ¬ 0 < st.opn := by omega
    have Hop := Lib.hid hop
    clear hop
    have HST : Hid (∀ X : List Tok, ({ st with toks := X, opn := st.opn } : St) = { st with toks := X, opn := st.opn - 1 }) := fun X => by rw [Hop.out]
    go_wp2_with fail
    refine (Tryd.radd_any B b _ st 0 0 5 st.pos X _ H2.out hl).mono ?_
    rw [HXd.out]
    rintro e W5 ⟨rfl, H5, b5⟩
    go_wp2_with fail
    go_ret
    refine ⟨rfl, ?_, hb2.trans b5⟩
    have e := HST.out (st.toks ++ [⟨5, S, st.pos⟩])
    obtain ⟨lv5, bv5, hV5⟩ := H5
    refine ⟨lv5, bv5, ?_⟩
    unfold Tryd.RefV at hV5 ⊢
    rw [show ({ st with pos := st.pos + S.length, toks := st.toks ++ [⟨5, S, st.pos⟩], opn := st.opn - 1 } : St).opn = st.opn by show st.opn - 1 = st.opn; rw [Hop.out]]
    exact hV5

set_option maxHeartbeats 16000000 in
set_option maxRecDepth 100000 in
theorem Tryd.rtoken_sign_close125 (B b : Nat) (a : Option Addr) (cap : Nat) (s : ByteArray) (st : St) (w : World) (h : Tryd.RefAt B b (.slice a s.size cap) st 0 0 w) (hsrc : SrcIn B w a s) (hcap : s.size ≤ cap) (hs : s.size ≤ 100000) (hp : st.pos < s.size) (hl : st.toks.length ≤ 1000000) (ho : st.opn ≤ 60)
    (c : UInt8) (t : List UInt8) (hct : s.data.toList.drop st.pos = c :: t) (hlet : isLet c = false) (hdig : isDig c = false) (h39 : c.toNat ≠ 39) (h34 : c.toNat ≠ 34) (S : List UInt8) (hS : signOf (c :: t) = S) (hSc : S = [125]) (hop : 0 < st.opn) :
    Calls Tryd.prog 21 #[.pointer (some ⟨b, 0, none⟩), .int .i64 st.pos] w (Tryd.RefRes B b (.slice a s.size cap) w (.ok { st with pos := st.pos + S.length, toks := st.toks ++ [⟨5, S, st.pos⟩], opn := st.opn - 1 })) := by
  have hBw := h.base
  obtain ⟨bb, o, rfl, hw0⟩ := bytes_window hsrc.now (by omega)
  obtain ⟨lv, bv, hV⟩ := id h
  obtain ⟨c0, _, _, c3, _, _, hf⟩ := hV.cells
  have f3 := hf 3
  obtain ⟨ccell, hc0⟩ := src_at hw0 hp hct
  have H := Lib.hid h
  have HS := Lib.hid hsrc
  have HW := Lib.hid hw0
  have Hct := Lib.hid hct
  have hpI : (st.pos : Int) < (s.size : Int) := by omega
  have hpI2 : (st.pos : Int) ≤ (s.size : Int) := by omega
  obtain ⟨a', c', hsl, hbs'⟩ := Tryd.bytes_sub hsrc.now hcap st.pos st.pos (by omega) (by omega)
  obtain ⟨X0, hX0⟩ : ∃ X0, s.extract st.pos st.pos = X0 := ⟨_, rfl⟩
  have hX0s : X0.size = 0 := by rw [← hX0, ByteArray.size_extract]; omega
  rw [hX0] at hbs'
  rw [Nat.sub_self] at hsl
  have hcv := run_convert_bs (P := Tryd.prog) w 22 5 9 Tryd.underlying22 Tryd.underlying5 Tryd.underlying9 a' c' X0 hbs'
  rw [hX0s] at hcv
  have HL := Lib.hid hlet
  have HD := Lib.hid hdig
  have e39 : ((c.toNat : Int) == 39) = false := by rw [beq_eq_false_iff_ne]; omega
  have e34 : ((c.toNat : Int) == 34) = false := by rw [beq_eq_false_iff_ne]; omega
  have hSl : S.length ≤ 3 ∧ S.length + st.pos ≤ s.size := by
    have := signOf_le (s.data.toList.drop st.pos)
    rw [hct, hS, ← hct, List.length_drop, ← Lib.size_eq] at this; omega
  obtain ⟨X, hX⟩ : ∃ X, bs S = X := ⟨_, rfl⟩
  have HX := Lib.hid hX
  have hXs : X.size = S.length := by rw [← hX, bs_size]
  have HXd : Hid (X.data.toList = S) := by show _ = _; rw [← hX]; rfl
  have hsI : (st.pos : Int) + (S.length : Int) ≤ (s.size : Int) := by omega
  have HSg : Hid (signOf (s.data.toList.drop st.pos) = S) := by show _ = _; rw [hct]; exact hS
  have gE : X.toList.isEmpty = false := by rw [isEmpty_beq, bs_beq S _ X hX]; rw [hSc]; rfl
  have g0 : (X.toList == []) = false := by rw [bs_beq S _ X hX]; rw [hSc]; rfl
  have g1 : (X.toList == [40]) = false := by rw [bs_beq S _ X hX]; rw [hSc]; rfl
  have g2 : (X.toList == [91]) = false := by rw [bs_beq S _ X hX]; rw [hSc]; rfl
  have g3 : (X.toList == [123]) = false := by rw [bs_beq S _ X hX]; rw [hSc]; rfl
  have g4 : (X.toList == [41]) = false := by rw [bs_beq S _ X hX]; rw [hSc]; rfl
  have g5 : (X.toList == [93]) = false := by rw [bs_beq S _ X hX]; rw [hSc]; rfl
  have g6 : (X.toList == [125]) = true := by rw [bs_beq S _ X hX]; rw [hSc]; rfl
  clear h hsrc hw0 hct hf hV hbs' hX0 hc0 hlet hdig hX0s h39 h34 hS hX hSc
  go_enter Tryd.func21, Tryd.ntmps21
  go_wp2
  go_loopw [6] (fun i wr => i = .int .i64 st.pos ∧ wr = w) (fun i _ => 0)
  case atStart => exact ⟨rfl, rfl⟩
  case round =>
    obtain ⟨rfl, rfl⟩ := hrel
    go_wp2_with fail
    refine (Tryd.rletter_any c _).mono ?_
    rw [HL.out]
    rintro e W1 ⟨rfl, hW1⟩
    obtain rfl := hW1.symm
    go_wp2_with fail
    refine (Tryd.rdigit_any c _).mono ?_
    rw [HD.out]
    rintro e W1 ⟨rfl, hW1⟩
    obtain rfl := hW1.symm
    go_wp2_with fail
    refine (Tryd.rletter_any c _).mono ?_
    rw [HL.out]
    rintro e W1 ⟨rfl, hW1⟩
    obtain rfl := hW1.symm
    go_wp2_with fail
    refine (Tryd.rdigit_any c _).mono ?_
    rw [HD.out]
    rintro e W1 ⟨rfl, hW1⟩
    obtain rfl := hW1.symm
    go_wp2_with fail
    refine (Tryd.rsign_any _ cap s st.pos _ (HS.out.now) hcap (by omega) (by omega)).mono ?_
    rw [HSg.out, HX.out]
    rintro e W2 ⟨rfl, b2⟩
    have H2 := Lib.hid (H.out.below b2)
    have hb2 : Below B _ W2 := b2.mono hBw
    clear b2
    obtain ⟨lv2, bv2, hV2⟩ := H2.out
    obtain ⟨_, _, _, d3, _, _, hf2⟩ := hV2.cells
    have k3 := hf2 3
    have HV2 := Lib.hid hV2
    clear hV2 hf2 c0 c3 f3
    have hopI : (0 : Int) < (st.opn : Int) := by omega
    have HV3 := Lib.hid (HV2.out.setOpn (st.opn - 1))
    rw [show ((st.opn - 1 : Nat) : Int) = (st.opn : Int) - 1 by omega] at HV3
    go_wp2_with fail
    refine (Tryd.radd_any B b _ { st with opn := st.opn - 1 } 0 0 5 st.pos X _ ⟨_, _, HV3.out.1⟩ hl).mono ?_
    rw [HXd.out]
    rintro e W5 ⟨rfl, H5, b5⟩
    go_wp2_with fail
    go_ret
    exact ⟨rfl, H5, (hb2.trans HV3.out.2).trans b5⟩

set_option maxHeartbeats 16000000 in
set_option maxRecDepth 100000 in
theorem Tryd.rtoken_sign_shut125 (B b : Nat) (a : Option Addr) (cap : Nat) (s : ByteArray) (st : St) (w : World) (h : Tryd.RefAt B b (.slice a s.size cap) st 0 0 w) (hsrc : SrcIn B w a s) (hcap : s.size ≤ cap) (hs : s.size ≤ 100000) (hp : st.pos < s.size) (hl : st.toks.length ≤ 1000000) (ho : st.opn ≤ 60)
    (c : UInt8) (t : List UInt8) (hct : s.data.toList.drop st.pos = c :: t) (hlet : isLet c = false) (hdig : isDig c = false) (h39 : c.toNat ≠ 39) (h34 : c.toNat ≠ 34) (S : List UInt8) (hS : signOf (c :: t) = S) (hSc : S = [125]) (hop : st.opn = 0) :
    Calls Tryd.prog 21 #[.pointer (some ⟨b, 0, none⟩), .int .i64 st.pos] w (Tryd.RefRes B b (.slice a s.size cap) w (.ok { st with pos := st.pos + S.length, toks := st.toks ++ [⟨5, S, st.pos⟩], opn := st.opn - 1 })) := by
  have hBw := h.base
  obtain ⟨bb, o, rfl, hw0⟩ := bytes_window hsrc.now (by omega)
  obtain ⟨lv, bv, hV⟩ := id h
  obtain ⟨c0, _, _, c3, _, _, hf⟩ := hV.cells
  have f3 := hf 3
  obtain ⟨ccell, hc0⟩ := src_at hw0 hp hct
  have H := Lib.hid h
  have HS := Lib.hid hsrc
  have HW := Lib.hid hw0
  have Hct := Lib.hid hct
  have hpI : (st.pos : Int) < (s.size : Int) := by omega
  have hpI2 : (st.pos : Int) ≤ (s.size : Int) := by omega
  obtain ⟨a', c', hsl, hbs'⟩ := Tryd.bytes_sub hsrc.now hcap st.pos st.pos (by omega) (by omega)
  obtain ⟨X0, hX0⟩ : ∃ X0, s.extract st.pos st.pos = X0 := ⟨_, rfl⟩
  have hX0s : X0.size = 0 := by rw [← hX0, ByteArray.size_extract]; omega
  rw [hX0] at hbs'
  rw [Nat.sub_self] at hsl
  have hcv := run_convert_bs (P := Tryd.prog) w 22 5 9 Tryd.underlying22 Tryd.underlying5 Tryd.underlying9 a' c' X0 hbs'
  rw [hX0s] at hcv
  have HL := Lib.hid hlet
  have HD := Lib.hid hdig
  have e39 : ((c.toNat : Int) == 39) = false := by rw [beq_eq_false_iff_ne]; omega
  have e34 : ((c.toNat : Int) == 34) = false := by rw [beq_eq_false_iff_ne]; omega
  have hSl : S.length ≤ 3 ∧ S.length + st.pos ≤ s.size := by
    have := signOf_le (s.data.toList.drop st.pos)
    rw [hct, hS, ← hct, List.length_drop, ← Lib.size_eq] at this; omega
  obtain ⟨X, hX⟩ : ∃ X, bs S = X := ⟨_, rfl⟩
  have HX := Lib.hid hX
  have hXs : X.size = S.length := by rw [← hX, bs_size]
  have HXd : Hid (X.data.toList = S) := by show _ = _; rw [← hX]; rfl
  have hsI : (st.pos : Int) + (S.length : Int) ≤ (s.size : Int) := by omega
  have HSg : Hid (signOf (s.data.toList.drop st.pos) = S) := by show _ = _; rw [hct]; exact hS
  have gE : X.toList.isEmpty = false := by rw [isEmpty_beq, bs_beq S _ X hX]; rw [hSc]; rfl
  have g0 : (X.toList == []) = false := by rw [bs_beq S _ X hX]; rw [hSc]; rfl
  have g1 : (X.toList == [40]) = false := by rw [bs_beq S _ X hX]; rw [hSc]; rfl
  have g2 : (X.toList == [91]) = false := by rw [bs_beq S _ X hX]; rw [hSc]; rfl
  have g3 : (X.toList == [123]) = false := by rw [bs_beq S _ X hX]; rw [hSc]; rfl
  have g4 : (X.toList == [41]) = false := by rw [bs_beq S _ X hX]; rw [hSc]; rfl
  have g5 : (X.toList == [93]) = false := by rw [bs_beq S _ X hX]; rw [hSc]; rfl
  have g6 : (X.toList == [125]) = true := by rw [bs_beq S _ X hX]; rw [hSc]; rfl
  clear h hsrc hw0 hct hf hV hbs' hX0 hc0 hlet hdig hX0s h39 h34 hS hX hSc
  go_enter Tryd.func21, Tryd.ntmps21
  go_wp2
  go_loopw [6] (fun i wr => i = .int .i64 st.pos ∧ wr = w) (fun i _ => 0)
  case atStart => exact ⟨rfl, rfl⟩
  case round =>
    obtain ⟨rfl, rfl⟩ := hrel
    go_wp2_with fail
    refine (Tryd.rletter_any c _).mono ?_
    rw [HL.out]
    rintro e W1 ⟨rfl, hW1⟩
    obtain rfl := hW1.symm
    go_wp2_with fail
    refine (Tryd.rdigit_any c _).mono ?_
    rw [HD.out]
    rintro e W1 ⟨rfl, hW1⟩
    obtain rfl := hW1.symm
    go_wp2_with fail
    refine (Tryd.rletter_any c _).mono ?_
    rw [HL.out]
    rintro e W1 ⟨rfl, hW1⟩
    obtain rfl := hW1.symm
    go_wp2_with fail
    refine (Tryd.rdigit_any c _).mono ?_
    rw [HD.out]
    rintro e W1 ⟨rfl, hW1⟩
    obtain rfl := hW1.symm
    go_wp2_with fail
    refine (Tryd.rsign_any _ cap s st.pos _ (HS.out.now) hcap (by omega) (by omega)).mono ?_
    rw [HSg.out, HX.out]
    rintro e W2 ⟨rfl, b2⟩
    have H2 := Lib.hid (H.out.below b2)
    have hb2 : Below B _ W2 := b2.mono hBw
    clear b2
    obtain ⟨lv2, bv2, hV2⟩ := H2.out
    obtain ⟨_, _, _, d3, _, _, hf2⟩ := hV2.cells
    have k3 := hf2 3
    have HV2 := Lib.hid hV2
    clear hV2 hf2 c0 c3 f3
    have hopI : ¬ (0 : Int) < (st.opn : Int) := by omega
    have hopN : ¬ 0 < st.opn := by omega
    have Hop := Lib.hid hop
    clear hop
    have HST : Hid (∀ X : List Tok, ({ st with toks := X, opn := st.opn } : St) = { st with toks := X, opn := st.opn - 1 }) := fun X => by rw [Hop.out]
    go_wp2_with fail
    refine (Tryd.radd_any B b _ st 0 0 5 st.pos X _ H2.out hl).mono ?_
    rw [HXd.out]
    rintro e W5 ⟨rfl, H5, b5⟩
    go_wp2_with fail
    go_ret
    refine ⟨rfl, ?_, hb2.trans b5⟩
    have e := HST.out (st.toks ++ [⟨5, S, st.pos⟩])
    obtain ⟨lv5, bv5, hV5⟩ := H5
    refine ⟨lv5, bv5, ?_⟩
    unfold Tryd.RefV at hV5 ⊢
    rw [show ({ st with pos := st.pos + S.length, toks := st.toks ++ [⟨5, S, st.pos⟩], opn := st.opn - 1 } : St).opn = st.opn by show st.opn - 1 = st.opn; rw [Hop.out]]
    exact hV5

set_option maxHeartbeats 16000000 in
set_option maxRecDepth 100000 in
theorem Tryd.rtoken_sign_plain (B b : Nat) (a : Option Addr) (cap : Nat) (s : ByteArray) (st : St) (w : World) (h : Tryd.RefAt B b (.slice a s.size cap) st 0 0 w) (hsrc : SrcIn B w a s) (hcap : s.size ≤ cap) (hs : s.size ≤ 100000) (hp : st.pos < s.size) (hl : st.toks.length ≤ 1000000) (ho : st.opn ≤ 60)
    (c : UInt8) (t : List UInt8) (hct : s.data.toList.drop st.pos = c :: t) (hlet : isLet c = false) (hdig : isDig c = false) (h39 : c.toNat ≠ 39) (h34 : c.toNat ≠ 34) (S : List UInt8) (hS : signOf (c :: t) = S) (hSc : S ≠ []) (hS0 : S ≠ [40]) (hS1 : S ≠ [91]) (hS2 : S ≠ [123]) (hS3 : S ≠ [41]) (hS4 : S ≠ [93]) (hS5 : S ≠ [125]) :
    Calls Tryd.prog 21 #[.pointer (some ⟨b, 0, none⟩), .int .i64 st.pos] w (Tryd.RefRes B b (.slice a s.size cap) w (.ok { st with pos := st.pos + S.length, toks := st.toks ++ [⟨5, S, st.pos⟩] })) := by
  have hBw := h.base
  obtain ⟨bb, o, rfl, hw0⟩ := bytes_window hsrc.now (by omega)
  obtain ⟨lv, bv, hV⟩ := id h
  obtain ⟨c0, _, _, c3, _, _, hf⟩ := hV.cells
  have f3 := hf 3
  obtain ⟨ccell, hc0⟩ := src_at hw0 hp hct
  have H := Lib.hid h
  have HS := Lib.hid hsrc
  have HW := Lib.hid hw0
  have Hct := Lib.hid hct
  have hpI : (st.pos : Int) < (s.size : Int) := by omega
  have hpI2 : (st.pos : Int) ≤ (s.size : Int) := by omega
  obtain ⟨a', c', hsl, hbs'⟩ := Tryd.bytes_sub hsrc.now hcap st.pos st.pos (by omega) (by omega)
  obtain ⟨X0, hX0⟩ : ∃ X0, s.extract st.pos st.pos = X0 := ⟨_, rfl⟩
  have hX0s : X0.size = 0 := by rw [← hX0, ByteArray.size_extract]; omega
  rw [hX0] at hbs'
  rw [Nat.sub_self] at hsl
  have hcv := run_convert_bs (P := Tryd.prog) w 22 5 9 Tryd.underlying22 Tryd.underlying5 Tryd.underlying9 a' c' X0 hbs'
  rw [hX0s] at hcv
  have HL := Lib.hid hlet
  have HD := Lib.hid hdig
  have e39 : ((c.toNat : Int) == 39) = false := by rw [beq_eq_false_iff_ne]; omega
  have e34 : ((c.toNat : Int) == 34) = false := by rw [beq_eq_false_iff_ne]; omega
  have hSl : S.length ≤ 3 ∧ S.length + st.pos ≤ s.size := by
    have := signOf_le (s.data.toList.drop st.pos)
    rw [hct, hS, ← hct, List.length_drop, ← Lib.size_eq] at this; omega
  obtain ⟨X, hX⟩ : ∃ X, bs S = X := ⟨_, rfl⟩
  have HX := Lib.hid hX
  have hXs : X.size = S.length := by rw [← hX, bs_size]
  have HXd : Hid (X.data.toList = S) := by show _ = _; rw [← hX]; rfl
  have hsI : (st.pos : Int) + (S.length : Int) ≤ (s.size : Int) := by omega
  have HSg : Hid (signOf (s.data.toList.drop st.pos) = S) := by show _ = _; rw [hct]; exact hS
  have gE : X.toList.isEmpty = false := by rw [isEmpty_beq, bs_beq S _ X hX, beq_eq_false_iff_ne]; exact hSc
  have gN : (X.toList == []) = false := by rw [bs_beq S _ X hX, beq_eq_false_iff_ne]; exact hSc
  have g0 : (X.toList == [40]) = false := by rw [bs_beq S _ X hX, beq_eq_false_iff_ne]; exact hS0
  have g1 : (X.toList == [91]) = false := by rw [bs_beq S _ X hX, beq_eq_false_iff_ne]; exact hS1
  have g2 : (X.toList == [123]) = false := by rw [bs_beq S _ X hX, beq_eq_false_iff_ne]; exact hS2
  have g3 : (X.toList == [41]) = false := by rw [bs_beq S _ X hX, beq_eq_false_iff_ne]; exact hS3
  have g4 : (X.toList == [93]) = false := by rw [bs_beq S _ X hX, beq_eq_false_iff_ne]; exact hS4
  have g5 : (X.toList == [125]) = false := by rw [bs_beq S _ X hX, beq_eq_false_iff_ne]; exact hS5
  clear h hsrc hw0 hct hf hV hbs' hX0 hc0 hlet hdig hX0s h39 h34 hS hX hSc hS0 hS1 hS2 hS3 hS4 hS5
  go_enter Tryd.func21, Tryd.ntmps21
  go_wp2
  go_loopw [6] (fun i wr => i = .int .i64 st.pos ∧ wr = w) (fun i _ => 0)
  case atStart => exact ⟨rfl, rfl⟩
  case round =>
    obtain ⟨rfl, rfl⟩ := hrel
    go_wp2_with fail
    refine (Tryd.rletter_any c _).mono ?_
    rw [HL.out]
    rintro e W1 ⟨rfl, hW1⟩
    obtain rfl := hW1.symm
    go_wp2_with fail
    refine (Tryd.rdigit_any c _).mono ?_
    rw [HD.out]
    rintro e W1 ⟨rfl, hW1⟩
    obtain rfl := hW1.symm
    go_wp2_with fail
    refine (Tryd.rletter_any c _).mono ?_
    rw [HL.out]
    rintro e W1 ⟨rfl, hW1⟩
    obtain rfl := hW1.symm
    go_wp2_with fail
    refine (Tryd.rdigit_any c _).mono ?_
    rw [HD.out]
    rintro e W1 ⟨rfl, hW1⟩
    obtain rfl := hW1.symm
    go_wp2_with fail
    refine (Tryd.rsign_any _ cap s st.pos _ (HS.out.now) hcap (by omega) (by omega)).mono ?_
    rw [HSg.out, HX.out]
    rintro e W2 ⟨rfl, b2⟩
    have H2 := Lib.hid (H.out.below b2)
    have hb2 : Below B _ W2 := b2.mono hBw
    clear b2
    obtain ⟨lv2, bv2, hV2⟩ := H2.out
    obtain ⟨_, _, _, d3, _, _, hf2⟩ := hV2.cells
    have k3 := hf2 3
    have HV2 := Lib.hid hV2
    clear hV2 hf2 c0 c3 f3
    go_wp2_with fail
    refine (Tryd.radd_any B b _ st 0 0 5 st.pos X _ H2.out hl).mono ?_
    rw [HXd.out]
    rintro e W5 ⟨rfl, H5, b5⟩
    go_wp2_with fail
    go_ret
    exact ⟨rfl, H5, hb2.trans b5⟩
end Go.Proofs
