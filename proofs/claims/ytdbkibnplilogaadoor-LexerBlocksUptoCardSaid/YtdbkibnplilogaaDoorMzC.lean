/-
  Walks: the reference's token: a name or a word.
  Walks: the reference's token: a text in quotes.
-/
import Derived.Test.YtdbkibnplilogaaDoorMzB
set_option linter.unusedVariables false
namespace Go.Proofs
open Go.RowKit Go.Lx Go.Lt

set_option maxHeartbeats 16000000 in
set_option maxRecDepth 100000 in
theorem Tryd.rtoken_let_true (B b : Nat) (a : Option Addr) (cap : Nat) (s : ByteArray) (st : St) (w : World) (h : Tryd.RefAt B b (.slice a s.size cap) st 0 0 w) (hsrc : SrcIn B w a s) (hcap : s.size ≤ cap) (hs : s.size ≤ 100000) (hp : st.pos < s.size) (hl : st.toks.length ≤ 1000000) (ho : st.opn ≤ 60)
    (c : UInt8) (t : List UInt8) (hct : s.data.toList.drop st.pos = c :: t) (hlet : isLet c = true) (hword : isWord (runOf (c :: t)) = true) :
    Calls Tryd.prog 21 #[.pointer (some ⟨b, 0, none⟩), .int .i64 st.pos] w (Tryd.RefRes B b (.slice a s.size cap) w (.ok { st with pos := st.pos + (runOf (c :: t)).length, toks := st.toks ++ [⟨2, runOf (c :: t), st.pos⟩] })) := by
  have hBw := h.base
  obtain ⟨bb, o, rfl, hw0⟩ := bytes_window hsrc.now (by omega)
  obtain ⟨lv, bv, hV⟩ := id h
  obtain ⟨c0, _, _, c3, _, _, hf⟩ := hV.cells
  have f3 := hf 3
  obtain ⟨ccell, hc0⟩ := src_at hw0 hp hct
  have H := Lib.hid h
  have HS := Lib.hid hsrc
  have HW := Lib.hid hw0
  have Hct := Lib.hid hct
  have hpI : (st.pos : Int) < (s.size : Int) := by omega
  have hpI2 : (st.pos : Int) ≤ (s.size : Int) := by omega
  have hrun : isRun c = true := by unfold isRun; rw [hlet]; rfl
  obtain ⟨R, hR⟩ : ∃ R, runOf (s.data.toList.drop st.pos) = R := ⟨_, rfl⟩
  have hRl := runOf_le s st.pos (by omega)
  rw [hR] at hRl
  obtain ⟨t', hRc⟩ : ∃ t', R = c :: t' := by rw [← hR, hct, runOf_yes _ _ hrun]; exact ⟨_, rfl⟩
  rw [← hct, hR]
  have HR := Lib.hid hR
  have HRc := Lib.hid hRc
  obtain ⟨n, hn⟩ : ∃ n, R.length = n := ⟨_, rfl⟩
  have Hn := Lib.hid hn
  have hn1 : 1 ≤ n := by rw [← hn, hRc]; simp
  rw [hn] at hRl ⊢
  obtain ⟨X, hX⟩ : ∃ X, bs R = X := ⟨_, rfl⟩
  have hXs : X.size = n := by rw [← hX, bs_size, hn]
  have HXd : Hid (X.data.toList = R) := by show _ = _; rw [← hX]; rfl
  have HX := Lib.hid hX
  have hend : s.extract st.pos (st.pos + n) = X := by
    rw [← hX, ← bs_data (s.extract st.pos (st.pos + n)), Lib.extract_data, show st.pos + n - st.pos = n by omega, ← hn, ← hR]
    congr 1
    exact (List.prefix_iff_eq_take.1 (List.takeWhile_prefix _)).symm
  obtain ⟨a', c', hsl, hbs'⟩ := Tryd.bytes_sub hsrc.now hcap st.pos (st.pos + n) (by omega) (by omega)
  rw [hend] at hbs'
  rw [show st.pos + n - st.pos = n by omega] at hsl
  obtain ⟨E, hE⟩ : ∃ E, st.pos + n = E := ⟨_, rfl⟩
  rw [Nat.add_comm] at hRl
  have hnB : n ≤ 100000 := by omega
  rw [hE] at hsl hRl
  have HE := Lib.hid hE
  have hcv := run_convert_bs (P := Tryd.prog) w 22 5 9 Tryd.underlying22 Tryd.underlying5 Tryd.underlying9 a' c' X hbs'
  rw [hXs] at hcv
  have hEI : (E : Int) ≤ (s.size : Int) := by omega
  have hpE : (st.pos : Int) ≤ (E : Int) := by omega
  have hRes : Hid (∀ k, st.pos ≤ k → k ≤ s.size → R = (s.data.toList.drop st.pos).take (k - st.pos) ++ runOf (s.data.toList.drop k) → runOf (s.data.toList.drop k) = [] → k = E) := by
    intro k h1 h2 h3 h4
    rw [h4, List.append_nil] at h3
    have h5 := congrArg List.length h3
    rw [hn, List.length_take, List.length_drop, ← Lib.size_eq] at h5
    omega
  have HC := Lib.hid hlet
  have HbW : Hid (isWord X.data.toList = true) := by show _ = _; rw [HXd.out, ← hR, hct]; exact hword
  clear h hsrc hw0 hct hf hV hend hbs' hX hn hRc hR hE hc0 hlet hword
  go_enter Tryd.func21, Tryd.ntmps21
  go_wp2
  go_loopw [6] (fun i wr => ∃ (k : Nat), i = .int .i64 k ∧ st.pos ≤ k ∧ k ≤ s.size ∧ wr = w ∧ Hid (R = (s.data.toList.drop st.pos).take (k - st.pos) ++ runOf (s.data.toList.drop k))) (fun i _ => s.size + 1 - (intOf i).toNat)
  case atStart => exact ⟨st.pos, rfl, by omega, by omega, rfl, by show _ = _; rw [HR.out]; simp⟩
  case round =>
    obtain ⟨k, rfl, hk1, hk2, rfl, hr⟩ := hrel
    by_cases hlt : k < s.size
    · have hdk := drop_cons s k hlt
      have kcell := HW.out k hlt
      obtain ⟨ck, hck⟩ : ∃ ck, s[k] = ck := ⟨_, rfl⟩
      rw [hck] at hdk kcell
      have hkI2 : (k : Int) < (s.size : Int) := by omega
      have Hdk := Lib.hid hdk
      clear hdk hck
      have hgo : Hid (isRun ck = true → R = (s.data.toList.drop st.pos).take (k + 1 - st.pos) ++ runOf (s.data.toList.drop (k + 1))) := by
        intro h1
        rw [hr.out, Hdk.out, runOf_yes _ _ h1]
        have e : k + 1 - st.pos = (k - st.pos) + 1 := by omega
        rw [e, List.take_add_one, List.getElem?_drop]
        have e2 : st.pos + (k - st.pos) = k := by omega
        rw [e2, ← List.head?_drop, Hdk.out]
        simp
      by_cases hl2 : isLet ck = true
      · go_wp2_with fail
        refine (Tryd.rletter_any ck _).mono ?_
        rw [hl2]
        rintro e W1 ⟨rfl, hW1⟩
        obtain rfl := hW1.symm
        go_wp2_with fail
        go_roundw
        case rel => exact ⟨k + 1, by go_num, by omega, by omega, trivial, hgo.out (by unfold isRun; rw [hl2]; rfl)⟩
        case measure => simp [intOf]; omega
      · replace hl2 : isLet ck = false := by simpa using hl2
        by_cases hd2 : isDig ck = true
        · go_wp2_with fail
          refine (Tryd.rletter_any ck _).mono ?_
          rw [hl2]
          rintro e W1 ⟨rfl, hW1⟩
          obtain rfl := hW1.symm
          go_wp2_with fail
          refine (Tryd.rdigit_any ck _).mono ?_
          rw [hd2]
          rintro e W1 ⟨rfl, hW1⟩
          obtain rfl := hW1.symm
          go_wp2_with fail
          go_roundw
          case rel => exact ⟨k + 1, by go_num, by omega, by omega, trivial, hgo.out (by unfold isRun; rw [hl2, hd2]; rfl)⟩
          case measure => simp [intOf]; omega
        · replace hd2 : isDig ck = false := by simpa using hd2
          obtain rfl : E = k := (hRes.out k hk1 hk2 hr.out (by rw [Hdk.out]; exact runOf_no _ _ (by unfold isRun; rw [hl2, hd2]; rfl))).symm
          have Hl2 := Lib.hid hl2
          have Hd2 := Lib.hid hd2
          clear hgo hRes hl2 hd2
          go_wp2_with fail
          refine (Tryd.rletter_any ck _).mono ?_
          rw [Hl2.out]
          rintro e W1 ⟨rfl, hW1⟩
          obtain rfl := hW1.symm
          go_wp2_with fail
          refine (Tryd.rdigit_any ck _).mono ?_
          rw [Hd2.out]
          rintro e W1 ⟨rfl, hW1⟩
          obtain rfl := hW1.symm
          go_wp2_with fail
          refine (Tryd.rletter_any c _).mono ?_
          rw [HC.out]
          rintro e W1 ⟨rfl, hW1⟩
          obtain rfl := hW1.symm
          go_wp2_with fail
          refine (Tryd.rword_any X _).mono ?_
          rw [HbW.out]
          rintro e W2 ⟨rfl, b2⟩
          have H2 := Lib.hid (H.out.below b2)
          have hb2 : Below B _ W2 := b2.mono hBw
          clear b2
          go_wp2_with fail
          refine (Tryd.radd_any B b _ st 0 0 _ st.pos X _ H2.out hl).mono ?_
          rw [HXd.out]
          rintro e W3 ⟨rfl, H3, b3⟩
          go_wp2_with fail
          go_ret
          exact ⟨by rw [← HE.out]; rfl, H3, hb2.trans b3⟩
    · obtain rfl : E = k := (hRes.out k hk1 hk2 hr.out (by rw [List.drop_eq_nil_of_le (by rw [← Lib.size_eq]; omega)]; rfl)).symm
      have hEs : E = s.size := by omega
      have hEI3 : decide ((E : Int) < (s.size : Int)) = false := by simp; omega
      have HEs := Lib.hid hEs
      clear hEs hRes
      go_wp2_with fail
      refine (Tryd.rletter_any c _).mono ?_
      rw [HC.out]
      rintro e W1 ⟨rfl, hW1⟩
      obtain rfl := hW1.symm
      go_wp2_with fail
      refine (Tryd.rword_any X _).mono ?_
      rw [HbW.out]
      rintro e W2 ⟨rfl, b2⟩
      have H2 := Lib.hid (H.out.below b2)
      have hb2 : Below B _ W2 := b2.mono hBw
      clear b2
      go_wp2_with fail
      refine (Tryd.radd_any B b _ st 0 0 _ st.pos X _ H2.out hl).mono ?_
      rw [HXd.out]
      rintro e W3 ⟨rfl, H3, b3⟩
      go_wp2_with fail
      go_ret
      exact ⟨by rw [← HE.out]; rfl, H3, hb2.trans b3⟩

set_option maxHeartbeats 16000000 in
set_option maxRecDepth 100000 in
theorem Tryd.rtoken_let_false (B b : Nat) (a : Option Addr) (cap : Nat) (s : ByteArray) (st : St) (w : World) (h : Tryd.RefAt B b (.slice a s.size cap) st 0 0 w) (hsrc : SrcIn B w a s) (hcap : s.size ≤ cap) (hs : s.size ≤ 100000) (hp : st.pos < s.size) (hl : st.toks.length ≤ 1000000) (ho : st.opn ≤ 60)
    (c : UInt8) (t : List UInt8) (hct : s.data.toList.drop st.pos = c :: t) (hlet : isLet c = true) (hword : isWord (runOf (c :: t)) = false) :
    Calls Tryd.prog 21 #[.pointer (some ⟨b, 0, none⟩), .int .i64 st.pos] w (Tryd.RefRes B b (.slice a s.size cap) w (.ok { st with pos := st.pos + (runOf (c :: t)).length, toks := st.toks ++ [⟨1, runOf (c :: t), st.pos⟩] })) := by
  have hBw := h.base
  obtain ⟨bb, o, rfl, hw0⟩ := bytes_window hsrc.now (by omega)
  obtain ⟨lv, bv, hV⟩ := id h
  obtain ⟨c0, _, _, c3, _, _, hf⟩ := hV.cells
  have f3 := hf 3
  obtain ⟨ccell, hc0⟩ := src_at hw0 hp hct
  have H := Lib.hid h
  have HS := Lib.hid hsrc
  have HW := Lib.hid hw0
  have Hct := Lib.hid hct
  have hpI : (st.pos : Int) < (s.size : Int) := by omega
  have hpI2 : (st.pos : Int) ≤ (s.size : Int) := by omega
  have hrun : isRun c = true := by unfold isRun; rw [hlet]; rfl
  obtain ⟨R, hR⟩ : ∃ R, runOf (s.data.toList.drop st.pos) = R := ⟨_, rfl⟩
  have hRl := runOf_le s st.pos (by omega)
  rw [hR] at hRl
  obtain ⟨t', hRc⟩ : ∃ t', R = c :: t' := by rw [← hR, hct, runOf_yes _ _ hrun]; exact ⟨_, rfl⟩
  rw [← hct, hR]
  have HR := Lib.hid hR
  have HRc := Lib.hid hRc
  obtain ⟨n, hn⟩ : ∃ n, R.length = n := ⟨_, rfl⟩
  have Hn := Lib.hid hn
  have hn1 : 1 ≤ n := by rw [← hn, hRc]; simp
  rw [hn] at hRl ⊢
  obtain ⟨X, hX⟩ : ∃ X, bs R = X := ⟨_, rfl⟩
  have hXs : X.size = n := by rw [← hX, bs_size, hn]
  have HXd : Hid (X.data.toList = R) := by show _ = _; rw [← hX]; rfl
  have HX := Lib.hid hX
  have hend : s.extract st.pos (st.pos + n) = X := by
    rw [← hX, ← bs_data (s.extract st.pos (st.pos + n)), Lib.extract_data, show st.pos + n - st.pos = n by omega, ← hn, ← hR]
    congr 1
    exact (List.prefix_iff_eq_take.1 (List.takeWhile_prefix _)).symm
  obtain ⟨a', c', hsl, hbs'⟩ := Tryd.bytes_sub hsrc.now hcap st.pos (st.pos + n) (by omega) (by omega)
  rw [hend] at hbs'
  rw [show st.pos + n - st.pos = n by omega] at hsl
  obtain ⟨E, hE⟩ : ∃ E, st.pos + n = E := ⟨_, rfl⟩
  rw [Nat.add_comm] at hRl
  have hnB : n ≤ 100000 := by omega
  rw [hE] at hsl hRl
  have HE := Lib.hid hE
  have hcv := run_convert_bs (P := Tryd.prog) w 22 5 9 Tryd.underlying22 Tryd.underlying5 Tryd.underlying9 a' c' X hbs'
  rw [hXs] at hcv
  have hEI : (E : Int) ≤ (s.size : Int) := by omega
  have hpE : (st.pos : Int) ≤ (E : Int) := by omega
  have hRes : Hid (∀ k, st.pos ≤ k → k ≤ s.size → R = (s.data.toList.drop st.pos).take (k - st.pos) ++ runOf (s.data.toList.drop k) → runOf (s.data.toList.drop k) = [] → k = E) := by
    intro k h1 h2 h3 h4
    rw [h4, List.append_nil] at h3
    have h5 := congrArg List.length h3
    rw [hn, List.length_take, List.length_drop, ← Lib.size_eq] at h5
    omega
  have HC := Lib.hid hlet
  have HbW : Hid (isWord X.data.toList = false) := by show _ = _; rw [HXd.out, ← hR, hct]; exact hword
  clear h hsrc hw0 hct hf hV hend hbs' hX hn hRc hR hE hc0 hlet hword
  go_enter Tryd.func21, Tryd.ntmps21
  go_wp2
  go_loopw [6] (fun i wr => ∃ (k : Nat), i = .int .i64 k ∧ st.pos ≤ k ∧ k ≤ s.size ∧ wr = w ∧ Hid (R = (s.data.toList.drop st.pos).take (k - st.pos) ++ runOf (s.data.toList.drop k))) (fun i _ => s.size + 1 - (intOf i).toNat)
  case atStart => exact ⟨st.pos, rfl, by omega, by omega, rfl, by show _ = _; rw [HR.out]; simp⟩
  case round =>
    obtain ⟨k, rfl, hk1, hk2, rfl, hr⟩ := hrel
    by_cases hlt : k < s.size
    · have hdk := drop_cons s k hlt
      have kcell := HW.out k hlt
      obtain ⟨ck, hck⟩ : ∃ ck, s[k] = ck := ⟨_, rfl⟩
      rw [hck] at hdk kcell
      have hkI2 : (k : Int) < (s.size : Int) := by omega
      have Hdk := Lib.hid hdk
      clear hdk hck
      have hgo : Hid (isRun ck = true → R = (s.data.toList.drop st.pos).take (k + 1 - st.pos) ++ runOf (s.data.toList.drop (k + 1))) := by
        intro h1
        rw [hr.out, Hdk.out, runOf_yes _ _ h1]
        have e : k + 1 - st.pos = (k - st.pos) + 1 := by omega
        rw [e, List.take_add_one, List.getElem?_drop]
        have e2 : st.pos + (k - st.pos) = k := by omega
        rw [e2, ← List.head?_drop, Hdk.out]
        simp
      by_cases hl2 : isLet ck = true
      · go_wp2_with fail
        refine (Tryd.rletter_any ck _).mono ?_
        rw [hl2]
        rintro e W1 ⟨rfl, hW1⟩
        obtain rfl := hW1.symm
        go_wp2_with fail
        go_roundw
        case rel => exact ⟨k + 1, by go_num, by omega, by omega, trivial, hgo.out (by unfold isRun; rw [hl2]; rfl)⟩
        case measure => simp [intOf]; omega
      · replace hl2 : isLet ck = false := by simpa using hl2
        by_cases hd2 : isDig ck = true
        · go_wp2_with fail
          refine (Tryd.rletter_any ck _).mono ?_
          rw [hl2]
          rintro e W1 ⟨rfl, hW1⟩
          obtain rfl := hW1.symm
          go_wp2_with fail
          refine (Tryd.rdigit_any ck _).mono ?_
          rw [hd2]
          rintro e W1 ⟨rfl, hW1⟩
          obtain rfl := hW1.symm
          go_wp2_with fail
          go_roundw
          case rel => exact ⟨k + 1, by go_num, by omega, by omega, trivial, hgo.out (by unfold isRun; rw [hl2, hd2]; rfl)⟩
          case measure => simp [intOf]; omega
        · replace hd2 : isDig ck = false := by simpa using hd2
          obtain rfl : E = k := (hRes.out k hk1 hk2 hr.out (by rw [Hdk.out]; exact runOf_no _ _ (by unfold isRun; rw [hl2, hd2]; rfl))).symm
          have Hl2 := Lib.hid hl2
          have Hd2 := Lib.hid hd2
          clear hgo hRes hl2 hd2
          go_wp2_with fail
          refine (Tryd.rletter_any ck _).mono ?_
          rw [Hl2.out]
          rintro e W1 ⟨rfl, hW1⟩
          obtain rfl := hW1.symm
          go_wp2_with fail
          refine (Tryd.rdigit_any ck _).mono ?_
          rw [Hd2.out]
          rintro e W1 ⟨rfl, hW1⟩
          obtain rfl := hW1.symm
          go_wp2_with fail
          refine (Tryd.rletter_any c _).mono ?_
          rw [HC.out]
          rintro e W1 ⟨rfl, hW1⟩
          obtain rfl := hW1.symm
          go_wp2_with fail
          refine (Tryd.rword_any X _).mono ?_
          rw [HbW.out]
          rintro e W2 ⟨rfl, b2⟩
          have H2 := Lib.hid (H.out.below b2)
          have hb2 : Below B _ W2 := b2.mono hBw
          clear b2
          go_wp2_with fail
          refine (Tryd.radd_any B b _ st 0 0 _ st.pos X _ H2.out hl).mono ?_
          rw [HXd.out]
          rintro e W3 ⟨rfl, H3, b3⟩
          go_wp2_with fail
          go_ret
          exact ⟨by rw [← HE.out]; rfl, H3, hb2.trans b3⟩
    · obtain rfl : E = k := (hRes.out k hk1 hk2 hr.out (by rw [List.drop_eq_nil_of_le (by rw [← Lib.size_eq]; omega)]; rfl)).symm
      have hEs : E = s.size := by omega
      have hEI3 : decide ((E : Int) < (s.size : Int)) = false := by simp; omega
      have HEs := Lib.hid hEs
      clear hEs hRes
      go_wp2_with fail
      refine (Tryd.rletter_any c _).mono ?_
      rw [HC.out]
      rintro e W1 ⟨rfl, hW1⟩
      obtain rfl := hW1.symm
      go_wp2_with fail
      refine (Tryd.rword_any X _).mono ?_
      rw [HbW.out]
      rintro e W2 ⟨rfl, b2⟩
      have H2 := Lib.hid (H.out.below b2)
      have hb2 : Below B _ W2 := b2.mono hBw
      clear b2
      go_wp2_with fail
      refine (Tryd.radd_any B b _ st 0 0 _ st.pos X _ H2.out hl).mono ?_
      rw [HXd.out]
      rintro e W3 ⟨rfl, H3, b3⟩
      go_wp2_with fail
      go_ret
      exact ⟨by rw [← HE.out]; rfl, H3, hb2.trans b3⟩
end Go.Proofs

namespace Go.Proofs
open Go.RowKit Go.Lx Go.Lt

set_option maxHeartbeats 16000000 in
set_option maxRecDepth 100000 in
theorem Tryd.rtoken_quote_no (B b : Nat) (a : Option Addr) (cap : Nat) (s : ByteArray) (st : St) (w : World) (h : Tryd.RefAt B b (.slice a s.size cap) st 0 0 w) (hsrc : SrcIn B w a s) (hcap : s.size ≤ cap) (hs : s.size ≤ 100000) (hp : st.pos < s.size) (hl : st.toks.length ≤ 1000000) (ho : st.opn ≤ 60)
    (c : UInt8) (t : List UInt8) (hct : s.data.toList.drop st.pos = c :: t) (hlet : isLet c = false) (hdig : isDig c = false) (q1 q2 : Bool) (hq1 : decide (c.toNat = 39) = q1) (hq2 : decide (c.toNat = 34) = q2) (hq : (q1 || q2) = true) (hU : unq (c :: t) = none) :
    Calls Tryd.prog 21 #[.pointer (some ⟨b, 0, none⟩), .int .i64 st.pos] w (Tryd.RefRes B b (.slice a s.size cap) w (.error (104, st.pos))) := by
  have hBw := h.base
  obtain ⟨bb, o, rfl, hw0⟩ := bytes_window hsrc.now (by omega)
  obtain ⟨lv, bv, hV⟩ := id h
  obtain ⟨c0, _, _, c3, _, _, hf⟩ := hV.cells
  have f3 := hf 3
  obtain ⟨ccell, hc0⟩ := src_at hw0 hp hct
  have H := Lib.hid h
  have HS := Lib.hid hsrc
  have HW := Lib.hid hw0
  have Hct := Lib.hid hct
  have hpI : (st.pos : Int) < (s.size : Int) := by omega
  have hpI2 : (st.pos : Int) ≤ (s.size : Int) := by omega
  obtain ⟨a', c', hsl, hbs'⟩ := Tryd.bytes_sub hsrc.now hcap st.pos st.pos (by omega) (by omega)
  obtain ⟨X0, hX0⟩ : ∃ X0, s.extract st.pos st.pos = X0 := ⟨_, rfl⟩
  have hX0s : X0.size = 0 := by rw [← hX0, ByteArray.size_extract]; omega
  rw [hX0] at hbs'
  rw [Nat.sub_self] at hsl
  have hcv := run_convert_bs (P := Tryd.prog) w 22 5 9 Tryd.underlying22 Tryd.underlying5 Tryd.underlying9 a' c' X0 hbs'
  rw [hX0s] at hcv
  have HL := Lib.hid hlet
  have HD := Lib.hid hdig
  obtain ⟨a'', c'', hsl2, hbs2⟩ := Tryd.bytes_from hsrc.now hcap st.pos (by omega)
  obtain ⟨Y, hY⟩ : ∃ Y, s.extract st.pos s.size = Y := ⟨_, rfl⟩
  have hYs : Y.size = s.size - st.pos := by rw [← hY, suffix_size]
  have HYd : Hid (Y.data.toList = c :: t) := by show _ = _; rw [← hY, suffix_list, hct]
  rw [hY] at hbs2
  have hcv2 := run_convert_bs (P := Tryd.prog) w 22 5 9 Tryd.underlying22 Tryd.underlying5 Tryd.underlying9 a'' c'' Y hbs2
  rw [hYs] at hcv2
  have HYs : Hid (Y.size ≤ 8796093022208) := by show _ ≤ _; omega
  have e39 : ((c.toNat : Int) == 39) = q1 := by rw [← hq1, Bool.eq_iff_iff, beq_iff_eq, decide_eq_true_eq]; omega
  have e34 : ((c.toNat : Int) == 34) = q2 := by rw [← hq2, Bool.eq_iff_iff, beq_iff_eq, decide_eq_true_eq]; omega
  have HU := Lib.hid hU
  clear h hsrc hw0 hct hf hV hbs' hX0 hc0 hlet hdig hX0s hbs2 hY hYs hq1 hq2 hU
  cases q1 <;> cases q2 <;> first | (exact absurd hq (by decide)) | skip
  all_goals
    clear hq
    go_enter Tryd.func21, Tryd.ntmps21
    go_wp2
    go_loopw [6] (fun i wr => i = .int .i64 st.pos ∧ wr = w) (fun i _ => 0)
    case atStart => exact ⟨rfl, rfl⟩
    case round =>
      obtain ⟨rfl, rfl⟩ := hrel
      go_wp2_with fail
      refine (Tryd.rletter_any c _).mono ?_
      rw [HL.out]
      rintro e W1 ⟨rfl, hW1⟩
      obtain rfl := hW1.symm
      go_wp2_with fail
      refine (Tryd.rdigit_any c _).mono ?_
      rw [HD.out]
      rintro e W1 ⟨rfl, hW1⟩
      obtain rfl := hW1.symm
      go_wp2_with fail
      refine (Tryd.rletter_any c _).mono ?_
      rw [HL.out]
      rintro e W1 ⟨rfl, hW1⟩
      obtain rfl := hW1.symm
      go_wp2_with fail
      refine (Tryd.rdigit_any c _).mono ?_
      rw [HD.out]
      rintro e W1 ⟨rfl, hW1⟩
      obtain rfl := hW1.symm
      go_wp2_with fail
      refine (Tryd.runq_any Y _ HYs.out).mono ?_
      rw [HYd.out, HU.out, show ansV none = .tuple #[.string ⟨#[]⟩, .int .i64 0, .int .i64 4] from rfl]
      rintro e W2 ⟨rfl, b2⟩
      have H2 := Lib.hid (H.out.below b2)
      have hb2 : Below B _ W2 := b2.mono hBw
      clear b2
      go_wp2_with fail
      refine (Tryd.rfault_any B b _ st 0 0 104 st.pos _ H2.out).mono ?_
      rintro e W3 ⟨rfl, H3, b3⟩
      go_wp2_with fail
      refine (Tryd.radd_any B b _ st 104 st.pos 4 st.pos ⟨#[]⟩ _ H3 hl).mono ?_
      rintro e W4 ⟨rfl, H4, b4⟩
      go_wp2_with fail
      go_ret
      exact ⟨⟨_, rfl⟩, ⟨_, H4⟩, (hb2.trans b3).trans b4⟩

set_option maxHeartbeats 16000000 in
set_option maxRecDepth 100000 in
theorem Tryd.rtoken_quote_yes (B b : Nat) (a : Option Addr) (cap : Nat) (s : ByteArray) (st : St) (w : World) (h : Tryd.RefAt B b (.slice a s.size cap) st 0 0 w) (hsrc : SrcIn B w a s) (hcap : s.size ≤ cap) (hs : s.size ≤ 100000) (hp : st.pos < s.size) (hl : st.toks.length ≤ 1000000) (ho : st.opn ≤ 60)
    (c : UInt8) (t : List UInt8) (hct : s.data.toList.drop st.pos = c :: t) (hlet : isLet c = false) (hdig : isDig c = false) (q1 q2 : Bool) (hq1 : decide (c.toNat = 39) = q1) (hq2 : decide (c.toNat = 34) = q2) (hq : (q1 || q2) = true) (x : List UInt8) (n : Nat) (hU : unq (c :: t) = some (x, n)) :
    Calls Tryd.prog 21 #[.pointer (some ⟨b, 0, none⟩), .int .i64 st.pos] w (Tryd.RefRes B b (.slice a s.size cap) w (.ok { st with pos := st.pos + n, toks := st.toks ++ [⟨4, x, st.pos⟩] })) := by
  have hBw := h.base
  obtain ⟨bb, o, rfl, hw0⟩ := bytes_window hsrc.now (by omega)
  obtain ⟨lv, bv, hV⟩ := id h
  obtain ⟨c0, _, _, c3, _, _, hf⟩ := hV.cells
  have f3 := hf 3
  obtain ⟨ccell, hc0⟩ := src_at hw0 hp hct
  have H := Lib.hid h
  have HS := Lib.hid hsrc
  have HW := Lib.hid hw0
  have Hct := Lib.hid hct
  have hpI : (st.pos : Int) < (s.size : Int) := by omega
  have hpI2 : (st.pos : Int) ≤ (s.size : Int) := by omega
  obtain ⟨a', c', hsl, hbs'⟩ := Tryd.bytes_sub hsrc.now hcap st.pos st.pos (by omega) (by omega)
  obtain ⟨X0, hX0⟩ : ∃ X0, s.extract st.pos st.pos = X0 := ⟨_, rfl⟩
  have hX0s : X0.size = 0 := by rw [← hX0, ByteArray.size_extract]; omega
  rw [hX0] at hbs'
  rw [Nat.sub_self] at hsl
  have hcv := run_convert_bs (P := Tryd.prog) w 22 5 9 Tryd.underlying22 Tryd.underlying5 Tryd.underlying9 a' c' X0 hbs'
  rw [hX0s] at hcv
  have HL := Lib.hid hlet
  have HD := Lib.hid hdig
  obtain ⟨a'', c'', hsl2, hbs2⟩ := Tryd.bytes_from hsrc.now hcap st.pos (by omega)
  obtain ⟨Y, hY⟩ : ∃ Y, s.extract st.pos s.size = Y := ⟨_, rfl⟩
  have hYs : Y.size = s.size - st.pos := by rw [← hY, suffix_size]
  have HYd : Hid (Y.data.toList = c :: t) := by show _ = _; rw [← hY, suffix_list, hct]
  rw [hY] at hbs2
  have hcv2 := run_convert_bs (P := Tryd.prog) w 22 5 9 Tryd.underlying22 Tryd.underlying5 Tryd.underlying9 a'' c'' Y hbs2
  rw [hYs] at hcv2
  have HYs : Hid (Y.size ≤ 8796093022208) := by show _ ≤ _; omega
  have e39 : ((c.toNat : Int) == 39) = q1 := by rw [← hq1, Bool.eq_iff_iff, beq_iff_eq, decide_eq_true_eq]; omega
  have e34 : ((c.toNat : Int) == 34) = q2 := by rw [← hq2, Bool.eq_iff_iff, beq_iff_eq, decide_eq_true_eq]; omega
  have HU := Lib.hid hU
  have hnb := (unq_bound hU).2.2
  rw [← hct, List.length_drop, ← Lib.size_eq] at hnb
  have hnI : (st.pos : Int) + (n : Int) ≤ (s.size : Int) := by omega
  clear h hsrc hw0 hct hf hV hbs' hX0 hc0 hlet hdig hX0s hbs2 hY hYs hq1 hq2 hU
  cases q1 <;> cases q2 <;> first | (exact absurd hq (by decide)) | skip
  all_goals
    clear hq
    go_enter Tryd.func21, Tryd.ntmps21
    go_wp2
    go_loopw [6] (fun i wr => i = .int .i64 st.pos ∧ wr = w) (fun i _ => 0)
    case atStart => exact ⟨rfl, rfl⟩
    case round =>
      obtain ⟨rfl, rfl⟩ := hrel
      go_wp2_with fail
      refine (Tryd.rletter_any c _).mono ?_
      rw [HL.out]
      rintro e W1 ⟨rfl, hW1⟩
      obtain rfl := hW1.symm
      go_wp2_with fail
      refine (Tryd.rdigit_any c _).mono ?_
      rw [HD.out]
      rintro e W1 ⟨rfl, hW1⟩
      obtain rfl := hW1.symm
      go_wp2_with fail
      refine (Tryd.rletter_any c _).mono ?_
      rw [HL.out]
      rintro e W1 ⟨rfl, hW1⟩
      obtain rfl := hW1.symm
      go_wp2_with fail
      refine (Tryd.rdigit_any c _).mono ?_
      rw [HD.out]
      rintro e W1 ⟨rfl, hW1⟩
      obtain rfl := hW1.symm
      go_wp2_with fail
      refine (Tryd.runq_any Y _ HYs.out).mono ?_
      rw [HYd.out, HU.out, show ansV (some (x, n)) = .tuple #[.string ⟨x.toArray⟩, .int .i64 n, .int .i64 0] from rfl]
      rintro e W2 ⟨rfl, b2⟩
      have H2 := Lib.hid (H.out.below b2)
      have hb2 : Below B _ W2 := b2.mono hBw
      clear b2
      go_wp2_with fail
      refine (Tryd.radd_any B b _ st 0 0 4 st.pos ⟨x.toArray⟩ _ H2.out hl).mono ?_
      rintro e W4 ⟨rfl, H4, b4⟩
      go_wp2_with fail
      go_ret
      exact ⟨rfl, H4, hb2.trans b4⟩
end Go.Proofs
