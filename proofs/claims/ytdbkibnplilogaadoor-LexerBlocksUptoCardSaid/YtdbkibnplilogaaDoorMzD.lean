/-
  Walks: the reference's token: a number.
  Walks: the reference's token: a number.
  Walks: the reference's token: a number.
  Walks: the reference's token: a number.
  Walks: the reference's token: a number, whole.
-/
import Derived.Test.YtdbkibnplilogaaDoorMzB
set_option linter.unusedVariables false
namespace Go.Proofs
open Go.RowKit Go.Lx Go.Lt

set_option maxHeartbeats 16000000 in
set_option maxRecDepth 100000 in
theorem Tryd.rtoken_dig_F (B b : Nat) (a : Option Addr) (cap : Nat) (s : ByteArray) (st : St) (w : World) (h : Tryd.RefAt B b (.slice a s.size cap) st 0 0 w) (hsrc : SrcIn B w a s) (hcap : s.size ≤ cap) (hs : s.size ≤ 100000) (hp : st.pos < s.size) (hl : st.toks.length ≤ 1000000) (ho : st.opn ≤ 60)
    (c : UInt8) (t : List UInt8) (hct : s.data.toList.drop st.pos = c :: t) (hlet : isLet c = false) (hdig : isDig c = true) (hy1 : decide ((runOf (c :: t)).length ≤ 1000) = false) :
    Calls Tryd.prog 21 #[.pointer (some ⟨b, 0, none⟩), .int .i64 st.pos] w (Tryd.RefRes B b (.slice a s.size cap) w (if numOk (runOf (c :: t)) then .ok { st with pos := st.pos + (runOf (c :: t)).length, toks := st.toks ++ [⟨3, runOf (c :: t), st.pos⟩] } else .error (105, st.pos))) := by
  have hBw := h.base
  obtain ⟨bb, o, rfl, hw0⟩ := bytes_window hsrc.now (by omega)
  obtain ⟨lv, bv, hV⟩ := id h
  obtain ⟨c0, _, _, c3, _, _, hf⟩ := hV.cells
  have f3 := hf 3
  obtain ⟨ccell, hc0⟩ := src_at hw0 hp hct
  have H := Lib.hid h
  have HS := Lib.hid hsrc
  have HW := Lib.hid hw0
  have Hct := Lib.hid hct
  have hpI : (st.pos : Int) < (s.size : Int) := by omega
  have hpI2 : (st.pos : Int) ≤ (s.size : Int) := by omega
  have hrun : isRun c = true := by unfold isRun; rw [hdig]; simp
  obtain ⟨R, hR⟩ : ∃ R, runOf (s.data.toList.drop st.pos) = R := ⟨_, rfl⟩
  have hRl := runOf_le s st.pos (by omega)
  rw [hR] at hRl
  obtain ⟨t', hRc⟩ : ∃ t', R = c :: t' := by rw [← hR, hct, runOf_yes _ _ hrun]; exact ⟨_, rfl⟩
  rw [← hct, hR]
  have HR := Lib.hid hR
  have HRc := Lib.hid hRc
  obtain ⟨n, hn⟩ : ∃ n, R.length = n := ⟨_, rfl⟩
  have Hn := Lib.hid hn
  have hn1 : 1 ≤ n := by rw [← hn, hRc]; simp
  rw [← hct, hR, hn] at hy1
  rw [hn] at hRl ⊢
  obtain ⟨X, hX⟩ : ∃ X, bs R = X := ⟨_, rfl⟩
  have hXs : X.size = n := by rw [← hX, bs_size, hn]
  have HXd : Hid (X.data.toList = R) := by show _ = _; rw [← hX]; rfl
  have HX := Lib.hid hX
  have hend : s.extract st.pos (st.pos + n) = X := by
    rw [← hX, ← bs_data (s.extract st.pos (st.pos + n)), Lib.extract_data, show st.pos + n - st.pos = n by omega, ← hn, ← hR]
    congr 1
    exact (List.prefix_iff_eq_take.1 (List.takeWhile_prefix _)).symm
  obtain ⟨a', c', hsl, hbs'⟩ := Tryd.bytes_sub hsrc.now hcap st.pos (st.pos + n) (by omega) (by omega)
  rw [hend] at hbs'
  rw [show st.pos + n - st.pos = n by omega] at hsl
  obtain ⟨E, hE⟩ : ∃ E, st.pos + n = E := ⟨_, rfl⟩
  rw [Nat.add_comm] at hRl
  have hnB : n ≤ 100000 := by omega
  rw [hE] at hsl hRl
  have HE := Lib.hid hE
  have hcv := run_convert_bs (P := Tryd.prog) w 22 5 9 Tryd.underlying22 Tryd.underlying5 Tryd.underlying9 a' c' X hbs'
  rw [hXs] at hcv
  have hEI : (E : Int) ≤ (s.size : Int) := by omega
  have hpE : (st.pos : Int) ≤ (E : Int) := by omega
  have hRes : Hid (∀ k, st.pos ≤ k → k ≤ s.size → R = (s.data.toList.drop st.pos).take (k - st.pos) ++ runOf (s.data.toList.drop k) → runOf (s.data.toList.drop k) = [] → k = E) := by
    intro k h1 h2 h3 h4
    rw [h4, List.append_nil] at h3
    have h5 := congrArg List.length h3
    rw [hn, List.length_take, List.length_drop, ← Lib.size_eq] at h5
    omega
  have HL := Lib.hid hlet
  have HC := Lib.hid hdig
  have q1 : decide ((n : Int) ≤ 1000) = false := by rw [← hy1, decide_eq_decide]; omega
  obtain ⟨ok0, hok0⟩ : ∃ x, (false : Bool) = x := ⟨_, rfl⟩
  have HN : Hid (numOk R = (ok0 && R.all isDig)) := by
    show _ = _
    unfold numOk
    rw [← hok0, hRc]
    simp only [List.headD_cons]
    rw [hRc] at hn
    have e1 : decide (1 < n) = !decide (n = 1) := by rw [Bool.eq_iff_iff]; simp; omega
    have e2 : decide (1000 < n) = !decide (n ≤ 1000) := by rw [Bool.eq_iff_iff]; simp
    rw [hn, e1, e2, hy1]
    cases (c :: t').all isDig <;> cases (c == 48) <;> cases decide (n = 1) <;> rfl
  obtain ⟨RES, hRES⟩ : ∃ r, (if numOk R then Except.ok { st with pos := st.pos + n, toks := st.toks ++ [⟨3, R, st.pos⟩] } else Except.error (105, st.pos) : Res St) = r := ⟨_, rfl⟩
  rw [hRES]
  have HRE : Hid (numOk R = false → RES = Except.error (105, st.pos)) := fun h => by rw [← hRES, h]; rfl
  have HRO : Hid (numOk R = true → RES = Except.ok { st with pos := st.pos + n, toks := st.toks ++ [⟨3, R, st.pos⟩] }) := fun h => by rw [← hRES, h]; rfl
  have HK := Lib.hid hok0
  clear h hsrc hw0 hct hf hV hend hbs' hX hn hRc hR hE hc0 hlet hdig hRES hok0 hy1
  go_enter Tryd.func21, Tryd.ntmps21
  go_wp2
  go_loopw [6] (fun i wr => ∃ (k : Nat), i = .int .i64 k ∧ st.pos ≤ k ∧ k ≤ s.size ∧ wr = w ∧ Hid (R = (s.data.toList.drop st.pos).take (k - st.pos) ++ runOf (s.data.toList.drop k))) (fun i _ => s.size + 1 - (intOf i).toNat)
  case atStart => exact ⟨st.pos, rfl, by omega, by omega, rfl, by show _ = _; rw [HR.out]; simp⟩
  case round =>
    obtain ⟨k, rfl, hk1, hk2, rfl, hr⟩ := hrel
    by_cases hlt : k < s.size
    · have hdk := drop_cons s k hlt
      have kcell := HW.out k hlt
      obtain ⟨ck, hck⟩ : ∃ ck, s[k] = ck := ⟨_, rfl⟩
      rw [hck] at hdk kcell
      have hkI2 : (k : Int) < (s.size : Int) := by omega
      have Hdk := Lib.hid hdk
      clear hdk hck
      have hgo : Hid (isRun ck = true → R = (s.data.toList.drop st.pos).take (k + 1 - st.pos) ++ runOf (s.data.toList.drop (k + 1))) := by
        intro h1
        rw [hr.out, Hdk.out, runOf_yes _ _ h1]
        have e : k + 1 - st.pos = (k - st.pos) + 1 := by omega
        rw [e, List.take_add_one, List.getElem?_drop]
        have e2 : st.pos + (k - st.pos) = k := by omega
        rw [e2, ← List.head?_drop, Hdk.out]
        simp
      by_cases hl2 : isLet ck = true
      · go_wp2_with fail
        refine (Tryd.rletter_any ck _).mono ?_
        rw [hl2]
        rintro e W1 ⟨rfl, hW1⟩
        obtain rfl := hW1.symm
        go_wp2_with fail
        go_roundw
        case rel => exact ⟨k + 1, by go_num, by omega, by omega, trivial, hgo.out (by unfold isRun; rw [hl2]; rfl)⟩
        case measure => simp [intOf]; omega
      · replace hl2 : isLet ck = false := by simpa using hl2
        by_cases hd2 : isDig ck = true
        · go_wp2_with fail
          refine (Tryd.rletter_any ck _).mono ?_
          rw [hl2]
          rintro e W1 ⟨rfl, hW1⟩
          obtain rfl := hW1.symm
          go_wp2_with fail
          refine (Tryd.rdigit_any ck _).mono ?_
          rw [hd2]
          rintro e W1 ⟨rfl, hW1⟩
          obtain rfl := hW1.symm
          go_wp2_with fail
          go_roundw
          case rel => exact ⟨k + 1, by go_num, by omega, by omega, trivial, hgo.out (by unfold isRun; rw [hl2, hd2]; rfl)⟩
          case measure => simp [intOf]; omega
        · replace hd2 : isDig ck = false := by simpa using hd2
          obtain rfl : E = k := (hRes.out k hk1 hk2 hr.out (by rw [Hdk.out]; exact runOf_no _ _ (by unfold isRun; rw [hl2, hd2]; rfl))).symm
          have Hl2 := Lib.hid hl2
          have Hd2 := Lib.hid hd2
          clear hgo hRes hl2 hd2
          go_wp2_with fail
          refine (Tryd.rletter_any ck _).mono ?_
          rw [Hl2.out]
          rintro e W1 ⟨rfl, hW1⟩
          obtain rfl := hW1.symm
          go_wp2_with fail
          refine (Tryd.rdigit_any ck _).mono ?_
          rw [Hd2.out]
          rintro e W1 ⟨rfl, hW1⟩
          obtain rfl := hW1.symm
          go_wp2_with fail
          refine (Tryd.rletter_any c _).mono ?_
          rw [HL.out]
          rintro e W1 ⟨rfl, hW1⟩
          obtain rfl := hW1.symm
          go_wp2_with fail
          refine (Tryd.rdigit_any c _).mono ?_
          rw [HC.out]
          rintro e W1 ⟨rfl, hW1⟩
          obtain rfl := hW1.symm
          go_wp2
          go_loopw [8, 9] (fun i8 i9 wr2 => ∃ (j : Nat), i8 = .bool (ok0 && (R.take j).all isDig) ∧ i9 = .int .i64 j ∧ j ≤ n ∧ wr2 = wr) (fun _ i9 _ => n + 1 - (intOf i9).toNat)
          case atStart => exact ⟨0, by rw [← HK.out]; rfl, rfl, by omega, rfl⟩
          case round =>
            obtain ⟨j, rfl, rfl, hj, hw2⟩ := hrel
            obtain rfl := hw2.symm
            obtain ⟨bk, hbk⟩ : ∃ x, (ok0 && (R.take j).all isDig) = x := ⟨_, rfl⟩
            rw [hbk]
            have Hbk := Lib.hid hbk
            clear hbk
            by_cases hjn : j < n
            · have hjI : (j : Int) < (n : Int) := by omega
              have hjX : j < X.size := by omega
              obtain ⟨cj, hcj⟩ : ∃ cj, X[j] = cj := ⟨_, rfl⟩
              have hsn : Hid ((R.take (j + 1)).all isDig = ((R.take j).all isDig && isDig cj)) := by
                have e : R[j]? = some cj := by
                  rw [← hcj, ← HXd.out, List.getElem?_eq_getElem (by rw [← Lib.size_eq]; exact hjX)]; rfl
                show _ = _
                rw [List.take_add_one, e, List.all_append]; simp
              cases bk
              · go_wp2_with fail
                go_roundw
                case rel => exact ⟨j + 1, by rw [hsn.out, ← Bool.and_assoc, Hbk.out]; rfl, by go_num, by omega, trivial⟩
                case measure => simp [intOf]; omega
              · go_wp2_with fail
                refine (Tryd.rdigit_any cj _).mono ?_
                rintro e W2 ⟨rfl, hW2⟩
                obtain rfl := hW2.symm
                go_wp2_with fail
                go_roundw
                case rel => exact ⟨j + 1, by rw [hsn.out, ← Bool.and_assoc, Hbk.out]; rfl, by go_num, by omega, trivial⟩
                case measure => simp [intOf]; omega
            · obtain rfl : j = n := by omega
              have hjI : decide ((j : Int) < (j : Int)) = false := by simp
              have hfin := HN.out
              have hall2 : R.take j = R := List.take_of_length_le (by rw [Hn.out]; exact Nat.le_refl _)
              have hall := Hbk.out
              rw [hall2] at hall
              clear hall2
              cases bk
              · obtain rfl := HRE.out (hfin.trans hall)
                clear hall hfin
                go_wp2_with fail
                refine (Tryd.rfault_any B b _ st 0 0 105 st.pos _ H.out).mono ?_
                rintro e W2 ⟨rfl, H2, b2⟩
                go_wp2_with fail
                refine (Tryd.radd_any B b _ st 105 st.pos 3 st.pos X _ H2 hl).mono ?_
                rintro e W3 ⟨rfl, H3, b3⟩
                go_wp2_with fail
                go_ret
                exact ⟨⟨_, rfl⟩, ⟨_, H3⟩, b2.trans b3⟩
              · obtain rfl := HRO.out (hfin.trans hall)
                clear hall hfin
                go_wp2_with fail
                refine (Tryd.radd_any B b _ st 0 0 3 st.pos X _ H.out hl).mono ?_
                rw [HXd.out]
                rintro e W3 ⟨rfl, H3, b3⟩
                go_wp2_with fail
                go_ret
                exact ⟨by rw [← HE.out]; rfl, H3, b3⟩
    · obtain rfl : E = k := (hRes.out k hk1 hk2 hr.out (by rw [List.drop_eq_nil_of_le (by rw [← Lib.size_eq]; omega)]; rfl)).symm
      have hEs : E = s.size := by omega
      have hEI3 : decide ((E : Int) < (s.size : Int)) = false := by simp; omega
      have HEs := Lib.hid hEs
      clear hEs hRes
      go_wp2_with fail
      refine (Tryd.rletter_any c _).mono ?_
      rw [HL.out]
      rintro e W1 ⟨rfl, hW1⟩
      obtain rfl := hW1.symm
      go_wp2_with fail
      refine (Tryd.rdigit_any c _).mono ?_
      rw [HC.out]
      rintro e W1 ⟨rfl, hW1⟩
      obtain rfl := hW1.symm
      go_wp2
      go_loopw [8, 9] (fun i8 i9 wr2 => ∃ (j : Nat), i8 = .bool (ok0 && (R.take j).all isDig) ∧ i9 = .int .i64 j ∧ j ≤ n ∧ wr2 = wr) (fun _ i9 _ => n + 1 - (intOf i9).toNat)
      case atStart => exact ⟨0, by rw [← HK.out]; rfl, rfl, by omega, rfl⟩
      case round =>
        obtain ⟨j, rfl, rfl, hj, hw2⟩ := hrel
        obtain rfl := hw2.symm
        obtain ⟨bk, hbk⟩ : ∃ x, (ok0 && (R.take j).all isDig) = x := ⟨_, rfl⟩
        rw [hbk]
        have Hbk := Lib.hid hbk
        clear hbk
        by_cases hjn : j < n
        · have hjI : (j : Int) < (n : Int) := by omega
          have hjX : j < X.size := by omega
          obtain ⟨cj, hcj⟩ : ∃ cj, X[j] = cj := ⟨_, rfl⟩
          have hsn : Hid ((R.take (j + 1)).all isDig = ((R.take j).all isDig && isDig cj)) := by
            have e : R[j]? = some cj := by
              rw [← hcj, ← HXd.out, List.getElem?_eq_getElem (by rw [← Lib.size_eq]; exact hjX)]; rfl
            show _ = _
            rw [List.take_add_one, e, List.all_append]; simp
          cases bk
          · go_wp2_with fail
            go_roundw
            case rel => exact ⟨j + 1, by rw [hsn.out, ← Bool.and_assoc, Hbk.out]; rfl, by go_num, by omega, trivial⟩
            case measure => simp [intOf]; omega
          · go_wp2_with fail
            refine (Tryd.rdigit_any cj _).mono ?_
            rintro e W2 ⟨rfl, hW2⟩
            obtain rfl := hW2.symm
            go_wp2_with fail
            go_roundw
            case rel => exact ⟨j + 1, by rw [hsn.out, ← Bool.and_assoc, Hbk.out]; rfl, by go_num, by omega, trivial⟩
            case measure => simp [intOf]; omega
        · obtain rfl : j = n := by omega
          have hjI : decide ((j : Int) < (j : Int)) = false := by simp
          have hfin := HN.out
          have hall2 : R.take j = R := List.take_of_length_le (by rw [Hn.out]; exact Nat.le_refl _)
          have hall := Hbk.out
          rw [hall2] at hall
          clear hall2
          cases bk
          · obtain rfl := HRE.out (hfin.trans hall)
            clear hall hfin
            go_wp2_with fail
            refine (Tryd.rfault_any B b _ st 0 0 105 st.pos _ H.out).mono ?_
            rintro e W2 ⟨rfl, H2, b2⟩
            go_wp2_with fail
            refine (Tryd.radd_any B b _ st 105 st.pos 3 st.pos X _ H2 hl).mono ?_
            rintro e W3 ⟨rfl, H3, b3⟩
            go_wp2_with fail
            go_ret
            exact ⟨⟨_, rfl⟩, ⟨_, H3⟩, b2.trans b3⟩
          · obtain rfl := HRO.out (hfin.trans hall)
            clear hall hfin
            go_wp2_with fail
            refine (Tryd.radd_any B b _ st 0 0 3 st.pos X _ H.out hl).mono ?_
            rw [HXd.out]
            rintro e W3 ⟨rfl, H3, b3⟩
            go_wp2_with fail
            go_ret
            exact ⟨by rw [← HE.out]; rfl, H3, b3⟩
end Go.Proofs

namespace Go.Proofs
open Go.RowKit Go.Lx Go.Lt

set_option maxHeartbeats 16000000 in
set_option maxRecDepth 100000 in
theorem Tryd.rtoken_dig_TT (B b : Nat) (a : Option Addr) (cap : Nat) (s : ByteArray) (st : St) (w : World) (h : Tryd.RefAt B b (.slice a s.size cap) st 0 0 w) (hsrc : SrcIn B w a s) (hcap : s.size ≤ cap) (hs : s.size ≤ 100000) (hp : st.pos < s.size) (hl : st.toks.length ≤ 1000000) (ho : st.opn ≤ 60)
    (c : UInt8) (t : List UInt8) (hct : s.data.toList.drop st.pos = c :: t) (hlet : isLet c = false) (hdig : isDig c = true) (hy1 : decide ((runOf (c :: t)).length ≤ 1000) = true) (hz : (c != 48) = true) :
    Calls Tryd.prog 21 #[.pointer (some ⟨b, 0, none⟩), .int .i64 st.pos] w (Tryd.RefRes B b (.slice a s.size cap) w (if numOk (runOf (c :: t)) then .ok { st with pos := st.pos + (runOf (c :: t)).length, toks := st.toks ++ [⟨3, runOf (c :: t), st.pos⟩] } else .error (105, st.pos))) := by
  have hBw := h.base
  obtain ⟨bb, o, rfl, hw0⟩ := bytes_window hsrc.now (by omega)
  obtain ⟨lv, bv, hV⟩ := id h
  obtain ⟨c0, _, _, c3, _, _, hf⟩ := hV.cells
  have f3 := hf 3
  obtain ⟨ccell, hc0⟩ := src_at hw0 hp hct
  have H := Lib.hid h
  have HS := Lib.hid hsrc
  have HW := Lib.hid hw0
  have Hct := Lib.hid hct
  have hpI : (st.pos : Int) < (s.size : Int) := by omega
  have hpI2 : (st.pos : Int) ≤ (s.size : Int) := by omega
  have hrun : isRun c = true := by unfold isRun; rw [hdig]; simp
  obtain ⟨R, hR⟩ : ∃ R, runOf (s.data.toList.drop st.pos) = R := ⟨_, rfl⟩
  have hRl := runOf_le s st.pos (by omega)
  rw [hR] at hRl
  obtain ⟨t', hRc⟩ : ∃ t', R = c :: t' := by rw [← hR, hct, runOf_yes _ _ hrun]; exact ⟨_, rfl⟩
  rw [← hct, hR]
  have HR := Lib.hid hR
  have HRc := Lib.hid hRc
  obtain ⟨n, hn⟩ : ∃ n, R.length = n := ⟨_, rfl⟩
  have Hn := Lib.hid hn
  have hn1 : 1 ≤ n := by rw [← hn, hRc]; simp
  rw [← hct, hR, hn] at hy1
  rw [hn] at hRl ⊢
  obtain ⟨X, hX⟩ : ∃ X, bs R = X := ⟨_, rfl⟩
  have hXs : X.size = n := by rw [← hX, bs_size, hn]
  have HXd : Hid (X.data.toList = R) := by show _ = _; rw [← hX]; rfl
  have HX := Lib.hid hX
  have hend : s.extract st.pos (st.pos + n) = X := by
    rw [← hX, ← bs_data (s.extract st.pos (st.pos + n)), Lib.extract_data, show st.pos + n - st.pos = n by omega, ← hn, ← hR]
    congr 1
    exact (List.prefix_iff_eq_take.1 (List.takeWhile_prefix _)).symm
  obtain ⟨a', c', hsl, hbs'⟩ := Tryd.bytes_sub hsrc.now hcap st.pos (st.pos + n) (by omega) (by omega)
  rw [hend] at hbs'
  rw [show st.pos + n - st.pos = n by omega] at hsl
  obtain ⟨E, hE⟩ : ∃ E, st.pos + n = E := ⟨_, rfl⟩
  rw [Nat.add_comm] at hRl
  have hnB : n ≤ 100000 := by omega
  rw [hE] at hsl hRl
  have HE := Lib.hid hE
  have hcv := run_convert_bs (P := Tryd.prog) w 22 5 9 Tryd.underlying22 Tryd.underlying5 Tryd.underlying9 a' c' X hbs'
  rw [hXs] at hcv
  have hEI : (E : Int) ≤ (s.size : Int) := by omega
  have hpE : (st.pos : Int) ≤ (E : Int) := by omega
  have hRes : Hid (∀ k, st.pos ≤ k → k ≤ s.size → R = (s.data.toList.drop st.pos).take (k - st.pos) ++ runOf (s.data.toList.drop k) → runOf (s.data.toList.drop k) = [] → k = E) := by
    intro k h1 h2 h3 h4
    rw [h4, List.append_nil] at h3
    have h5 := congrArg List.length h3
    rw [hn, List.length_take, List.length_drop, ← Lib.size_eq] at h5
    omega
  have HL := Lib.hid hlet
  have HC := Lib.hid hdig
  have q1 : decide ((n : Int) ≤ 1000) = true := by rw [← hy1, decide_eq_decide]; omega
  have q2 : ((c.toNat : Int) != 48) = true := by
    rw [← hz]
    have h48 : ((c.toNat : Int) == 48) = (c == 48) := u8_beq c 48 (by omega)
    rw [bne, h48]; rfl
  obtain ⟨ok0, hok0⟩ : ∃ x, (true : Bool) = x := ⟨_, rfl⟩
  have HN : Hid (numOk R = (ok0 && R.all isDig)) := by
    show _ = _
    unfold numOk
    rw [← hok0, hRc]
    simp only [List.headD_cons]
    rw [hRc] at hn
    have e1 : decide (1 < n) = !decide (n = 1) := by rw [Bool.eq_iff_iff]; simp; omega
    have e2 : decide (1000 < n) = !decide (n ≤ 1000) := by rw [Bool.eq_iff_iff]; simp
    rw [hn, e1, e2, hy1, show (c == 48) = !true by rw [← hz, bne, Bool.not_not]]
    cases (c :: t').all isDig <;> cases decide (n = 1) <;> rfl
  obtain ⟨RES, hRES⟩ : ∃ r, (if numOk R then Except.ok { st with pos := st.pos + n, toks := st.toks ++ [⟨3, R, st.pos⟩] } else Except.error (105, st.pos) : Res St) = r := ⟨_, rfl⟩
  rw [hRES]
  have HRE : Hid (numOk R = false → RES = Except.error (105, st.pos)) := fun h => by rw [← hRES, h]; rfl
  have HRO : Hid (numOk R = true → RES = Except.ok { st with pos := st.pos + n, toks := st.toks ++ [⟨3, R, st.pos⟩] }) := fun h => by rw [← hRES, h]; rfl
  have HK := Lib.hid hok0
  clear h hsrc hw0 hct hf hV hend hbs' hX hn hRc hR hE hc0 hlet hdig hRES hok0 hy1 hz
  go_enter Tryd.func21, Tryd.ntmps21
  go_wp2
  go_loopw [6] (fun i wr => ∃ (k : Nat), i = .int .i64 k ∧ st.pos ≤ k ∧ k ≤ s.size ∧ wr = w ∧ Hid (R = (s.data.toList.drop st.pos).take (k - st.pos) ++ runOf (s.data.toList.drop k))) (fun i _ => s.size + 1 - (intOf i).toNat)
  case atStart => exact ⟨st.pos, rfl, by omega, by omega, rfl, by show _ = _; rw [HR.out]; simp⟩
  case round =>
    obtain ⟨k, rfl, hk1, hk2, rfl, hr⟩ := hrel
    by_cases hlt : k < s.size
    · have hdk := drop_cons s k hlt
      have kcell := HW.out k hlt
      obtain ⟨ck, hck⟩ : ∃ ck, s[k] = ck := ⟨_, rfl⟩
      rw [hck] at hdk kcell
      have hkI2 : (k : Int) < (s.size : Int) := by omega
      have Hdk := Lib.hid hdk
      clear hdk hck
      have hgo : Hid (isRun ck = true → R = (s.data.toList.drop st.pos).take (k + 1 - st.pos) ++ runOf (s.data.toList.drop (k + 1))) := by
        intro h1
        rw [hr.out, Hdk.out, runOf_yes _ _ h1]
        have e : k + 1 - st.pos = (k - st.pos) + 1 := by omega
        rw [e, List.take_add_one, List.getElem?_drop]
        have e2 : st.pos + (k - st.pos) = k := by omega
        rw [e2, ← List.head?_drop, Hdk.out]
        simp
      by_cases hl2 : isLet ck = true
      · go_wp2_with fail
        refine (Tryd.rletter_any ck _).mono ?_
        rw [hl2]
        rintro e W1 ⟨rfl, hW1⟩
        obtain rfl := hW1.symm
        go_wp2_with fail
        go_roundw
        case rel => exact ⟨k + 1, by go_num, by omega, by omega, trivial, hgo.out (by unfold isRun; rw [hl2]; rfl)⟩
        case measure => simp [intOf]; omega
      · replace hl2 : isLet ck = false := by simpa using hl2
        by_cases hd2 : isDig ck = true
        · go_wp2_with fail
          refine (Tryd.rletter_any ck _).mono ?_
          rw [hl2]
          rintro e W1 ⟨rfl, hW1⟩
          obtain rfl := hW1.symm
          go_wp2_with fail
          refine (Tryd.rdigit_any ck _).mono ?_
          rw [hd2]
          rintro e W1 ⟨rfl, hW1⟩
          obtain rfl := hW1.symm
          go_wp2_with fail
          go_roundw
          case rel => exact ⟨k + 1, by go_num, by omega, by omega, trivial, hgo.out (by unfold isRun; rw [hl2, hd2]; rfl)⟩
          case measure => simp [intOf]; omega
        · replace hd2 : isDig ck = false := by simpa using hd2
          obtain rfl : E = k := (hRes.out k hk1 hk2 hr.out (by rw [Hdk.out]; exact runOf_no _ _ (by unfold isRun; rw [hl2, hd2]; rfl))).symm
          have Hl2 := Lib.hid hl2
          have Hd2 := Lib.hid hd2
          clear hgo hRes hl2 hd2
          go_wp2_with fail
          refine (Tryd.rletter_any ck _).mono ?_
          rw [Hl2.out]
          rintro e W1 ⟨rfl, hW1⟩
          obtain rfl := hW1.symm
          go_wp2_with fail
          refine (Tryd.rdigit_any ck _).mono ?_
          rw [Hd2.out]
          rintro e W1 ⟨rfl, hW1⟩
          obtain rfl := hW1.symm
          go_wp2_with fail
          refine (Tryd.rletter_any c _).mono ?_
          rw [HL.out]
          rintro e W1 ⟨rfl, hW1⟩
          obtain rfl := hW1.symm
          go_wp2_with fail
          refine (Tryd.rdigit_any c _).mono ?_
          rw [HC.out]
          rintro e W1 ⟨rfl, hW1⟩
          obtain rfl := hW1.symm
          go_wp2
          go_loopw [8, 9] (fun i8 i9 wr2 => ∃ (j : Nat), i8 = .bool (ok0 && (R.take j).all isDig) ∧ i9 = .int .i64 j ∧ j ≤ n ∧ wr2 = wr) (fun _ i9 _ => n + 1 - (intOf i9).toNat)
          case atStart => exact ⟨0, by rw [← HK.out]; rfl, rfl, by omega, rfl⟩
          case round =>
            obtain ⟨j, rfl, rfl, hj, hw2⟩ := hrel
            obtain rfl := hw2.symm
            obtain ⟨bk, hbk⟩ : ∃ x, (ok0 && (R.take j).all isDig) = x := ⟨_, rfl⟩
            rw [hbk]
            have Hbk := Lib.hid hbk
            clear hbk
            by_cases hjn : j < n
            · have hjI : (j : Int) < (n : Int) := by omega
              have hjX : j < X.size := by omega
              obtain ⟨cj, hcj⟩ : ∃ cj, X[j] = cj := ⟨_, rfl⟩
              have hsn : Hid ((R.take (j + 1)).all isDig = ((R.take j).all isDig && isDig cj)) := by
                have e : R[j]? = some cj := by
                  rw [← hcj, ← HXd.out, List.getElem?_eq_getElem (by rw [← Lib.size_eq]; exact hjX)]; rfl
                show _ = _
                rw [List.take_add_one, e, List.all_append]; simp
              cases bk
              · go_wp2_with fail
                go_roundw
                case rel => exact ⟨j + 1, by rw [hsn.out, ← Bool.and_assoc, Hbk.out]; rfl, by go_num, by omega, trivial⟩
                case measure => simp [intOf]; omega
              · go_wp2_with fail
                refine (Tryd.rdigit_any cj _).mono ?_
                rintro e W2 ⟨rfl, hW2⟩
                obtain rfl := hW2.symm
                go_wp2_with fail
                go_roundw
                case rel => exact ⟨j + 1, by rw [hsn.out, ← Bool.and_assoc, Hbk.out]; rfl, by go_num, by omega, trivial⟩
                case measure => simp [intOf]; omega
            · obtain rfl : j = n := by omega
              have hjI : decide ((j : Int) < (j : Int)) = false := by simp
              have hfin := HN.out
              have hall2 : R.take j = R := List.take_of_length_le (by rw [Hn.out]; exact Nat.le_refl _)
              have hall := Hbk.out
              rw [hall2] at hall
              clear hall2
              cases bk
              · obtain rfl := HRE.out (hfin.trans hall)
                clear hall hfin
                go_wp2_with fail
                refine (Tryd.rfault_any B b _ st 0 0 105 st.pos _ H.out).mono ?_
                rintro e W2 ⟨rfl, H2, b2⟩
                go_wp2_with fail
                refine (Tryd.radd_any B b _ st 105 st.pos 3 st.pos X _ H2 hl).mono ?_
                rintro e W3 ⟨rfl, H3, b3⟩
                go_wp2_with fail
                go_ret
                exact ⟨⟨_, rfl⟩, ⟨_, H3⟩, b2.trans b3⟩
              · obtain rfl := HRO.out (hfin.trans hall)
                clear hall hfin
                go_wp2_with fail
                refine (Tryd.radd_any B b _ st 0 0 3 st.pos X _ H.out hl).mono ?_
                rw [HXd.out]
                rintro e W3 ⟨rfl, H3, b3⟩
                go_wp2_with fail
                go_ret
                exact ⟨by rw [← HE.out]; rfl, H3, b3⟩
    · obtain rfl : E = k := (hRes.out k hk1 hk2 hr.out (by rw [List.drop_eq_nil_of_le (by rw [← Lib.size_eq]; omega)]; rfl)).symm
      have hEs : E = s.size := by omega
      have hEI3 : decide ((E : Int) < (s.size : Int)) = false := by simp; omega
      have HEs := Lib.hid hEs
      clear hEs hRes
      go_wp2_with fail
      refine (Tryd.rletter_any c _).mono ?_
      rw [HL.out]
      rintro e W1 ⟨rfl, hW1⟩
      obtain rfl := hW1.symm
      go_wp2_with fail
      refine (Tryd.rdigit_any c _).mono ?_
      rw [HC.out]
      rintro e W1 ⟨rfl, hW1⟩
      obtain rfl := hW1.symm
      go_wp2
      go_loopw [8, 9] (fun i8 i9 wr2 => ∃ (j : Nat), i8 = .bool (ok0 && (R.take j).all isDig) ∧ i9 = .int .i64 j ∧ j ≤ n ∧ wr2 = wr) (fun _ i9 _ => n + 1 - (intOf i9).toNat)
      case atStart => exact ⟨0, by rw [← HK.out]; rfl, rfl, by omega, rfl⟩
      case round =>
        obtain ⟨j, rfl, rfl, hj, hw2⟩ := hrel
        obtain rfl := hw2.symm
        obtain ⟨bk, hbk⟩ : ∃ x, (ok0 && (R.take j).all isDig) = x := ⟨_, rfl⟩
        rw [hbk]
        have Hbk := Lib.hid hbk
        clear hbk
        by_cases hjn : j < n
        · have hjI : (j : Int) < (n : Int) := by omega
          have hjX : j < X.size := by omega
          obtain ⟨cj, hcj⟩ : ∃ cj, X[j] = cj := ⟨_, rfl⟩
          have hsn : Hid ((R.take (j + 1)).all isDig = ((R.take j).all isDig && isDig cj)) := by
            have e : R[j]? = some cj := by
              rw [← hcj, ← HXd.out, List.getElem?_eq_getElem (by rw [← Lib.size_eq]; exact hjX)]; rfl
            show _ = _
            rw [List.take_add_one, e, List.all_append]; simp
          cases bk
          · go_wp2_with fail
            go_roundw
            case rel => exact ⟨j + 1, by rw [hsn.out, ← Bool.and_assoc, Hbk.out]; rfl, by go_num, by omega, trivial⟩
            case measure => simp [intOf]; omega
          · go_wp2_with fail
            refine (Tryd.rdigit_any cj _).mono ?_
            rintro e W2 ⟨rfl, hW2⟩
            obtain rfl := hW2.symm
            go_wp2_with fail
            go_roundw
            case rel => exact ⟨j + 1, by rw [hsn.out, ← Bool.and_assoc, Hbk.out]; rfl, by go_num, by omega, trivial⟩
            case measure => simp [intOf]; omega
        · obtain rfl : j = n := by omega
          have hjI : decide ((j : Int) < (j : Int)) = false := by simp
          have hfin := HN.out
          have hall2 : R.take j = R := List.take_of_length_le (by rw [Hn.out]; exact Nat.le_refl _)
          have hall := Hbk.out
          rw [hall2] at hall
          clear hall2
          cases bk
          · obtain rfl := HRE.out (hfin.trans hall)
            clear hall hfin
            go_wp2_with fail
            refine (Tryd.rfault_any B b _ st 0 0 105 st.pos _ H.out).mono ?_
            rintro e W2 ⟨rfl, H2, b2⟩
            go_wp2_with fail
            refine (Tryd.radd_any B b _ st 105 st.pos 3 st.pos X _ H2 hl).mono ?_
            rintro e W3 ⟨rfl, H3, b3⟩
            go_wp2_with fail
            go_ret
            exact ⟨⟨_, rfl⟩, ⟨_, H3⟩, b2.trans b3⟩
          · obtain rfl := HRO.out (hfin.trans hall)
            clear hall hfin
            go_wp2_with fail
            refine (Tryd.radd_any B b _ st 0 0 3 st.pos X _ H.out hl).mono ?_
            rw [HXd.out]
            rintro e W3 ⟨rfl, H3, b3⟩
            go_wp2_with fail
            go_ret
            exact ⟨by rw [← HE.out]; rfl, H3, b3⟩
end Go.Proofs

namespace Go.Proofs
open Go.RowKit Go.Lx Go.Lt

set_option maxHeartbeats 16000000 in
set_option maxRecDepth 100000 in
theorem Tryd.rtoken_dig_TFT (B b : Nat) (a : Option Addr) (cap : Nat) (s : ByteArray) (st : St) (w : World) (h : Tryd.RefAt B b (.slice a s.size cap) st 0 0 w) (hsrc : SrcIn B w a s) (hcap : s.size ≤ cap) (hs : s.size ≤ 100000) (hp : st.pos < s.size) (hl : st.toks.length ≤ 1000000) (ho : st.opn ≤ 60)
    (c : UInt8) (t : List UInt8) (hct : s.data.toList.drop st.pos = c :: t) (hlet : isLet c = false) (hdig : isDig c = true) (hy1 : decide ((runOf (c :: t)).length ≤ 1000) = true) (hz : (c != 48) = false) (hy2 : decide ((runOf (c :: t)).length = 1) = true) :
    Calls Tryd.prog 21 #[.pointer (some ⟨b, 0, none⟩), .int .i64 st.pos] w (Tryd.RefRes B b (.slice a s.size cap) w (if numOk (runOf (c :: t)) then .ok { st with pos := st.pos + (runOf (c :: t)).length, toks := st.toks ++ [⟨3, runOf (c :: t), st.pos⟩] } else .error (105, st.pos))) := by
  have hBw := h.base
  obtain ⟨bb, o, rfl, hw0⟩ := bytes_window hsrc.now (by omega)
  obtain ⟨lv, bv, hV⟩ := id h
  obtain ⟨c0, _, _, c3, _, _, hf⟩ := hV.cells
  have f3 := hf 3
  obtain ⟨ccell, hc0⟩ := src_at hw0 hp hct
  have H := Lib.hid h
  have HS := Lib.hid hsrc
  have HW := Lib.hid hw0
  have Hct := Lib.hid hct
  have hpI : (st.pos : Int) < (s.size : Int) := by omega
  have hpI2 : (st.pos : Int) ≤ (s.size : Int) := by omega
  have hrun : isRun c = true := by unfold isRun; rw [hdig]; simp
  obtain ⟨R, hR⟩ : ∃ R, runOf (s.data.toList.drop st.pos) = R := ⟨_, rfl⟩
  have hRl := runOf_le s st.pos (by omega)
  rw [hR] at hRl
  obtain ⟨t', hRc⟩ : ∃ t', R = c :: t' := by rw [← hR, hct, runOf_yes _ _ hrun]; exact ⟨_, rfl⟩
  rw [← hct, hR]
  have HR := Lib.hid hR
  have HRc := Lib.hid hRc
  obtain ⟨n, hn⟩ : ∃ n, R.length = n := ⟨_, rfl⟩
  have Hn := Lib.hid hn
  have hn1 : 1 ≤ n := by rw [← hn, hRc]; simp
  rw [← hct, hR, hn] at hy1 hy2
  rw [hn] at hRl ⊢
  obtain ⟨X, hX⟩ : ∃ X, bs R = X := ⟨_, rfl⟩
  have hXs : X.size = n := by rw [← hX, bs_size, hn]
  have HXd : Hid (X.data.toList = R) := by show _ = _; rw [← hX]; rfl
  have HX := Lib.hid hX
  have hend : s.extract st.pos (st.pos + n) = X := by
    rw [← hX, ← bs_data (s.extract st.pos (st.pos + n)), Lib.extract_data, show st.pos + n - st.pos = n by omega, ← hn, ← hR]
    congr 1
    exact (List.prefix_iff_eq_take.1 (List.takeWhile_prefix _)).symm
  obtain ⟨a', c', hsl, hbs'⟩ := Tryd.bytes_sub hsrc.now hcap st.pos (st.pos + n) (by omega) (by omega)
  rw [hend] at hbs'
  rw [show st.pos + n - st.pos = n by omega] at hsl
  obtain ⟨E, hE⟩ : ∃ E, st.pos + n = E := ⟨_, rfl⟩
  rw [Nat.add_comm] at hRl
  have hnB : n ≤ 100000 := by omega
  rw [hE] at hsl hRl
  have HE := Lib.hid hE
  have hcv := run_convert_bs (P := Tryd.prog) w 22 5 9 Tryd.underlying22 Tryd.underlying5 Tryd.underlying9 a' c' X hbs'
  rw [hXs] at hcv
  have hEI : (E : Int) ≤ (s.size : Int) := by omega
  have hpE : (st.pos : Int) ≤ (E : Int) := by omega
  have hRes : Hid (∀ k, st.pos ≤ k → k ≤ s.size → R = (s.data.toList.drop st.pos).take (k - st.pos) ++ runOf (s.data.toList.drop k) → runOf (s.data.toList.drop k) = [] → k = E) := by
    intro k h1 h2 h3 h4
    rw [h4, List.append_nil] at h3
    have h5 := congrArg List.length h3
    rw [hn, List.length_take, List.length_drop, ← Lib.size_eq] at h5
    omega
  have HL := Lib.hid hlet
  have HC := Lib.hid hdig
  have q1 : decide ((n : Int) ≤ 1000) = true := by rw [← hy1, decide_eq_decide]; omega
  have q2 : ((c.toNat : Int) != 48) = false := by
    rw [← hz]
    have h48 : ((c.toNat : Int) == 48) = (c == 48) := u8_beq c 48 (by omega)
    rw [bne, h48]; rfl
  have q3 : ((n : Int) == 1) = true := by rw [← hy2, Bool.eq_iff_iff, beq_iff_eq, decide_eq_true_eq]; omega
  obtain ⟨ok0, hok0⟩ : ∃ x, (true : Bool) = x := ⟨_, rfl⟩
  have HN : Hid (numOk R = (ok0 && R.all isDig)) := by
    show _ = _
    unfold numOk
    rw [← hok0, hRc]
    simp only [List.headD_cons]
    rw [hRc] at hn
    have e1 : decide (1 < n) = !decide (n = 1) := by rw [Bool.eq_iff_iff]; simp; omega
    have e2 : decide (1000 < n) = !decide (n ≤ 1000) := by rw [Bool.eq_iff_iff]; simp
    rw [hn, e1, e2, hy1, show (c == 48) = !false by rw [← hz, bne, Bool.not_not], hy2]
    cases (c :: t').all isDig <;> rfl
  obtain ⟨RES, hRES⟩ : ∃ r, (if numOk R then Except.ok { st with pos := st.pos + n, toks := st.toks ++ [⟨3, R, st.pos⟩] } else Except.error (105, st.pos) : Res St) = r := ⟨_, rfl⟩
  rw [hRES]
  have HRE : Hid (numOk R = false → RES = Except.error (105, st.pos)) := fun h => by rw [← hRES, h]; rfl
  have HRO : Hid (numOk R = true → RES = Except.ok { st with pos := st.pos + n, toks := st.toks ++ [⟨3, R, st.pos⟩] }) := fun h => by rw [← hRES, h]; rfl
  have HK := Lib.hid hok0
  clear h hsrc hw0 hct hf hV hend hbs' hX hn hRc hR hE hc0 hlet hdig hRES hok0 hy1 hz hy2
  go_enter Tryd.func21, Tryd.ntmps21
  go_wp2
  go_loopw [6] (fun i wr => ∃ (k : Nat), i = .int .i64 k ∧ st.pos ≤ k ∧ k ≤ s.size ∧ wr = w ∧ Hid (R = (s.data.toList.drop st.pos).take (k - st.pos) ++ runOf (s.data.toList.drop k))) (fun i _ => s.size + 1 - (intOf i).toNat)
  case atStart => exact ⟨st.pos, rfl, by omega, by omega, rfl, by show _ = _; rw [HR.out]; simp⟩
  case round =>
    obtain ⟨k, rfl, hk1, hk2, rfl, hr⟩ := hrel
    by_cases hlt : k < s.size
    · have hdk := drop_cons s k hlt
      have kcell := HW.out k hlt
      obtain ⟨ck, hck⟩ : ∃ ck, s[k] = ck := ⟨_, rfl⟩
      rw [hck] at hdk kcell
      have hkI2 : (k : Int) < (s.size : Int) := by omega
      have Hdk := Lib.hid hdk
      clear hdk hck
      have hgo : Hid (isRun ck = true → R = (s.data.toList.drop st.pos).take (k + 1 - st.pos) ++ runOf (s.data.toList.drop (k + 1))) := by
        intro h1
        rw [hr.out, Hdk.out, runOf_yes _ _ h1]
        have e : k + 1 - st.pos = (k - st.pos) + 1 := by omega
        rw [e, List.take_add_one, List.getElem?_drop]
        have e2 : st.pos + (k - st.pos) = k := by omega
        rw [e2, ← List.head?_drop, Hdk.out]
        simp
      by_cases hl2 : isLet ck = true
      · go_wp2_with fail
        refine (Tryd.rletter_any ck _).mono ?_
        rw [hl2]
        rintro e W1 ⟨rfl, hW1⟩
        obtain rfl := hW1.symm
        go_wp2_with fail
        go_roundw
        case rel => exact ⟨k + 1, by go_num, by omega, by omega, trivial, hgo.out (by unfold isRun; rw [hl2]; rfl)⟩
        case measure => simp [intOf]; omega
      · replace hl2 : isLet ck = false := by simpa using hl2
        by_cases hd2 : isDig ck = true
        · go_wp2_with fail
          refine (Tryd.rletter_any ck _).mono ?_
          rw [hl2]
          rintro e W1 ⟨rfl, hW1⟩
          obtain rfl := hW1.symm
          go_wp2_with fail
          refine (Tryd.rdigit_any ck _).mono ?_
          rw [hd2]
          rintro e W1 ⟨rfl, hW1⟩
          obtain rfl := hW1.symm
          go_wp2_with fail
          go_roundw
          case rel => exact ⟨k + 1, by go_num, by omega, by omega, trivial, hgo.out (by unfold isRun; rw [hl2, hd2]; rfl)⟩
          case measure => simp [intOf]; omega
        · replace hd2 : isDig ck = false := by simpa using hd2
          obtain rfl : E = k := (hRes.out k hk1 hk2 hr.out (by rw [Hdk.out]; exact runOf_no _ _ (by unfold isRun; rw [hl2, hd2]; rfl))).symm
          have Hl2 := Lib.hid hl2
          have Hd2 := Lib.hid hd2
          clear hgo hRes hl2 hd2
          go_wp2_with fail
          refine (Tryd.rletter_any ck _).mono ?_
          rw [Hl2.out]
          rintro e W1 ⟨rfl, hW1⟩
          obtain rfl := hW1.symm
          go_wp2_with fail
          refine (Tryd.rdigit_any ck _).mono ?_
          rw [Hd2.out]
          rintro e W1 ⟨rfl, hW1⟩
          obtain rfl := hW1.symm
          go_wp2_with fail
          refine (Tryd.rletter_any c _).mono ?_
          rw [HL.out]
          rintro e W1 ⟨rfl, hW1⟩
          obtain rfl := hW1.symm
          go_wp2_with fail
          refine (Tryd.rdigit_any c _).mono ?_
          rw [HC.out]
          rintro e W1 ⟨rfl, hW1⟩
          obtain rfl := hW1.symm
          go_wp2
          go_loopw [8, 9] (fun i8 i9 wr2 => ∃ (j : Nat), i8 = .bool (ok0 && (R.take j).all isDig) ∧ i9 = .int .i64 j ∧ j ≤ n ∧ wr2 = wr) (fun _ i9 _ => n + 1 - (intOf i9).toNat)
          case atStart => exact ⟨0, by rw [← HK.out]; rfl, rfl, by omega, rfl⟩
          case round =>
            obtain ⟨j, rfl, rfl, hj, hw2⟩ := hrel
            obtain rfl := hw2.symm
            obtain ⟨bk, hbk⟩ : ∃ x, (ok0 && (R.take j).all isDig) = x := ⟨_, rfl⟩
            rw [hbk]
            have Hbk := Lib.hid hbk
            clear hbk
            by_cases hjn : j < n
            · have hjI : (j : Int) < (n : Int) := by omega
              have hjX : j < X.size := by omega
              obtain ⟨cj, hcj⟩ : ∃ cj, X[j] = cj := ⟨_, rfl⟩
              have hsn : Hid ((R.take (j + 1)).all isDig = ((R.take j).all isDig && isDig cj)) := by
                have e : R[j]? = some cj := by
                  rw [← hcj, ← HXd.out, List.getElem?_eq_getElem (by rw [← Lib.size_eq]; exact hjX)]; rfl
                show _ = _
                rw [List.take_add_one, e, List.all_append]; simp
              cases bk
              · go_wp2_with fail
                go_roundw
                case rel => exact ⟨j + 1, by rw [hsn.out, ← Bool.and_assoc, Hbk.out]; rfl, by go_num, by omega, trivial⟩
                case measure => simp [intOf]; omega
              · go_wp2_with fail
                refine (Tryd.rdigit_any cj _).mono ?_
                rintro e W2 ⟨rfl, hW2⟩
                obtain rfl := hW2.symm
                go_wp2_with fail
                go_roundw
                case rel => exact ⟨j + 1, by rw [hsn.out, ← Bool.and_assoc, Hbk.out]; rfl, by go_num, by omega, trivial⟩
                case measure => simp [intOf]; omega
            · obtain rfl : j = n := by omega
              have hjI : decide ((j : Int) < (j : Int)) = false := by simp
              have hfin := HN.out
              have hall2 : R.take j = R := List.take_of_length_le (by rw [Hn.out]; exact Nat.le_refl _)
              have hall := Hbk.out
              rw [hall2] at hall
              clear hall2
              cases bk
              · obtain rfl := HRE.out (hfin.trans hall)
                clear hall hfin
                go_wp2_with fail
                refine (Tryd.rfault_any B b _ st 0 0 105 st.pos _ H.out).mono ?_
                rintro e W2 ⟨rfl, H2, b2⟩
                go_wp2_with fail
                refine (Tryd.radd_any B b _ st 105 st.pos 3 st.pos X _ H2 hl).mono ?_
                rintro e W3 ⟨rfl, H3, b3⟩
                go_wp2_with fail
                go_ret
                exact ⟨⟨_, rfl⟩, ⟨_, H3⟩, b2.trans b3⟩
              · obtain rfl := HRO.out (hfin.trans hall)
                clear hall hfin
                go_wp2_with fail
                refine (Tryd.radd_any B b _ st 0 0 3 st.pos X _ H.out hl).mono ?_
                rw [HXd.out]
                rintro e W3 ⟨rfl, H3, b3⟩
                go_wp2_with fail
                go_ret
                exact ⟨by rw [← HE.out]; rfl, H3, b3⟩
    · obtain rfl : E = k := (hRes.out k hk1 hk2 hr.out (by rw [List.drop_eq_nil_of_le (by rw [← Lib.size_eq]; omega)]; rfl)).symm
      have hEs : E = s.size := by omega
      have hEI3 : decide ((E : Int) < (s.size : Int)) = false := by simp; omega
      have HEs := Lib.hid hEs
      clear hEs hRes
      go_wp2_with fail
      refine (Tryd.rletter_any c _).mono ?_
      rw [HL.out]
      rintro e W1 ⟨rfl, hW1⟩
      obtain rfl := hW1.symm
      go_wp2_with fail
      refine (Tryd.rdigit_any c _).mono ?_
      rw [HC.out]
      rintro e W1 ⟨rfl, hW1⟩
      obtain rfl := hW1.symm
      go_wp2
      go_loopw [8, 9] (fun i8 i9 wr2 => ∃ (j : Nat), i8 = .bool (ok0 && (R.take j).all isDig) ∧ i9 = .int .i64 j ∧ j ≤ n ∧ wr2 = wr) (fun _ i9 _ => n + 1 - (intOf i9).toNat)
      case atStart => exact ⟨0, by rw [← HK.out]; rfl, rfl, by omega, rfl⟩
      case round =>
        obtain ⟨j, rfl, rfl, hj, hw2⟩ := hrel
        obtain rfl := hw2.symm
        obtain ⟨bk, hbk⟩ : ∃ x, (ok0 && (R.take j).all isDig) = x := ⟨_, rfl⟩
        rw [hbk]
        have Hbk := Lib.hid hbk
        clear hbk
        by_cases hjn : j < n
        · have hjI : (j : Int) < (n : Int) := by omega
          have hjX : j < X.size := by omega
          obtain ⟨cj, hcj⟩ : ∃ cj, X[j] = cj := ⟨_, rfl⟩
          have hsn : Hid ((R.take (j + 1)).all isDig = ((R.take j).all isDig && isDig cj)) := by
            have e : R[j]? = some cj := by
              rw [← hcj, ← HXd.out, List.getElem?_eq_getElem (by rw [← Lib.size_eq]; exact hjX)]; rfl
            show _ = _
            rw [List.take_add_one, e, List.all_append]; simp
          cases bk
          · go_wp2_with fail
            go_roundw
            case rel => exact ⟨j + 1, by rw [hsn.out, ← Bool.and_assoc, Hbk.out]; rfl, by go_num, by omega, trivial⟩
            case measure => simp [intOf]; omega
          · go_wp2_with fail
            refine (Tryd.rdigit_any cj _).mono ?_
            rintro e W2 ⟨rfl, hW2⟩
            obtain rfl := hW2.symm
            go_wp2_with fail
            go_roundw
            case rel => exact ⟨j + 1, by rw [hsn.out, ← Bool.and_assoc, Hbk.out]; rfl, by go_num, by omega, trivial⟩
            case measure => simp [intOf]; omega
        · obtain rfl : j = n := by omega
          have hjI : decide ((j : Int) < (j : Int)) = false := by simp
          have hfin := HN.out
          have hall2 : R.take j = R := List.take_of_length_le (by rw [Hn.out]; exact Nat.le_refl _)
          have hall := Hbk.out
          rw [hall2] at hall
          clear hall2
          cases bk
          · obtain rfl := HRE.out (hfin.trans hall)
            clear hall hfin
            go_wp2_with fail
            refine (Tryd.rfault_any B b _ st 0 0 105 st.pos _ H.out).mono ?_
            rintro e W2 ⟨rfl, H2, b2⟩
            go_wp2_with fail
            refine (Tryd.radd_any B b _ st 105 st.pos 3 st.pos X _ H2 hl).mono ?_
            rintro e W3 ⟨rfl, H3, b3⟩
            go_wp2_with fail
            go_ret
            exact ⟨⟨_, rfl⟩, ⟨_, H3⟩, b2.trans b3⟩
          · obtain rfl := HRO.out (hfin.trans hall)
            clear hall hfin
            go_wp2_with fail
            refine (Tryd.radd_any B b _ st 0 0 3 st.pos X _ H.out hl).mono ?_
            rw [HXd.out]
            rintro e W3 ⟨rfl, H3, b3⟩
            go_wp2_with fail
            go_ret
            exact ⟨by rw [← HE.out]; rfl, H3, b3⟩
end Go.Proofs

namespace Go.Proofs
open Go.RowKit Go.Lx Go.Lt

set_option maxHeartbeats 16000000 in
set_option maxRecDepth 100000 in
theorem Tryd.rtoken_dig_TFF (B b : Nat) (a : Option Addr) (cap : Nat) (s : ByteArray) (st : St) (w : World) (h : Tryd.RefAt B b (.slice a s.size cap) st 0 0 w) (hsrc : SrcIn B w a s) (hcap : s.size ≤ cap) (hs : s.size ≤ 100000) (hp : st.pos < s.size) (hl : st.toks.length ≤ 1000000) (ho : st.opn ≤ 60)
    (c : UInt8) (t : List UInt8) (hct : s.data.toList.drop st.pos = c :: t) (hlet : isLet c = false) (hdig : isDig c = true) (hy1 : decide ((runOf (c :: t)).length ≤ 1000) = true) (hz : (c != 48) = false) (hy2 : decide ((runOf (c :: t)).length = 1) = false) :
    Calls Tryd.prog 21 #[.pointer (some ⟨b, 0, none⟩), .int .i64 st.pos] w (Tryd.RefRes B b (.slice a s.size cap) w (if numOk (runOf (c :: t)) then .ok { st with pos := st.pos + (runOf (c :: t)).length, toks := st.toks ++ [⟨3, runOf (c :: t), st.pos⟩] } else .error (105, st.pos))) := by
  have hBw := h.base
  obtain ⟨bb, o, rfl, hw0⟩ := bytes_window hsrc.now (by omega)
  obtain ⟨lv, bv, hV⟩ := id h
  obtain ⟨c0, _, _, c3, _, _, hf⟩ := hV.cells
  have f3 := hf 3
  obtain ⟨ccell, hc0⟩ := src_at hw0 hp hct
  have H := Lib.hid h
  have HS := Lib.hid hsrc
  have HW := Lib.hid hw0
  have Hct := Lib.hid hct
  have hpI : (st.pos : Int) < (s.size : Int) := by omega
  have hpI2 : (st.pos : Int) ≤ (s.size : Int) := by omega
  have hrun : isRun c = true := by unfold isRun; rw [hdig]; simp
  obtain ⟨R, hR⟩ : ∃ R, runOf (s.data.toList.drop st.pos) = R := ⟨_, rfl⟩
  have hRl := runOf_le s st.pos (by omega)
  rw [hR] at hRl
  obtain ⟨t', hRc⟩ : ∃ t', R = c :: t' := by rw [← hR, hct, runOf_yes _ _ hrun]; exact ⟨_, rfl⟩
  rw [← hct, hR]
  have HR := Lib.hid hR
  have HRc := Lib.hid hRc
  obtain ⟨n, hn⟩ : ∃ n, R.length = n := ⟨_, rfl⟩
  have Hn := Lib.hid hn
  have hn1 : 1 ≤ n := by rw [← hn, hRc]; simp
  rw [← hct, hR, hn] at hy1 hy2
  rw [hn] at hRl ⊢
  obtain ⟨X, hX⟩ : ∃ X, bs R = X := ⟨_, rfl⟩
  have hXs : X.size = n := by rw [← hX, bs_size, hn]
  have HXd : Hid (X.data.toList = R) := by show _ = _; rw [← hX]; rfl
  have HX := Lib.hid hX
  have hend : s.extract st.pos (st.pos + n) = X := by
    rw [← hX, ← bs_data (s.extract st.pos (st.pos + n)), Lib.extract_data, show st.pos + n - st.pos = n by omega, ← hn, ← hR]
    congr 1
    exact (List.prefix_iff_eq_take.1 (List.takeWhile_prefix _)).symm
  obtain ⟨a', c', hsl, hbs'⟩ := Tryd.bytes_sub hsrc.now hcap st.pos (st.pos + n) (by omega) (by omega)
  rw [hend] at hbs'
  rw [show st.pos + n - st.pos = n by omega] at hsl
  obtain ⟨E, hE⟩ : ∃ E, st.pos + n = E := ⟨_, rfl⟩
  rw [Nat.add_comm] at hRl
  have hnB : n ≤ 100000 := by omega
  rw [hE] at hsl hRl
  have HE := Lib.hid hE
  have hcv := run_convert_bs (P := Tryd.prog) w 22 5 9 Tryd.underlying22 Tryd.underlying5 Tryd.underlying9 a' c' X hbs'
  rw [hXs] at hcv
  have hEI : (E : Int) ≤ (s.size : Int) := by omega
  have hpE : (st.pos : Int) ≤ (E : Int) := by omega
  have hRes : Hid (∀ k, st.pos ≤ k → k ≤ s.size → R = (s.data.toList.drop st.pos).take (k - st.pos) ++ runOf (s.data.toList.drop k) → runOf (s.data.toList.drop k) = [] → k = E) := by
    intro k h1 h2 h3 h4
    rw [h4, List.append_nil] at h3
    have h5 := congrArg List.length h3
    rw [hn, List.length_take, List.length_drop, ← Lib.size_eq] at h5
    omega
  have HL := Lib.hid hlet
  have HC := Lib.hid hdig
  have q1 : decide ((n : Int) ≤ 1000) = true := by rw [← hy1, decide_eq_decide]; omega
  have q2 : ((c.toNat : Int) != 48) = false := by
    rw [← hz]
    have h48 : ((c.toNat : Int) == 48) = (c == 48) := u8_beq c 48 (by omega)
    rw [bne, h48]; rfl
  have q3 : ((n : Int) == 1) = false := by rw [← hy2, Bool.eq_iff_iff, beq_iff_eq, decide_eq_true_eq]; omega
  obtain ⟨ok0, hok0⟩ : ∃ x, (false : Bool) = x := ⟨_, rfl⟩
  have HN : Hid (numOk R = (ok0 && R.all isDig)) := by
    show _ = _
    unfold numOk
    rw [← hok0, hRc]
    simp only [List.headD_cons]
    rw [hRc] at hn
    have e1 : decide (1 < n) = !decide (n = 1) := by rw [Bool.eq_iff_iff]; simp; omega
    have e2 : decide (1000 < n) = !decide (n ≤ 1000) := by rw [Bool.eq_iff_iff]; simp
    rw [hn, e1, e2, hy1, show (c == 48) = !false by rw [← hz, bne, Bool.not_not], hy2]
    cases (c :: t').all isDig <;> rfl
  obtain ⟨RES, hRES⟩ : ∃ r, (if numOk R then Except.ok { st with pos := st.pos + n, toks := st.toks ++ [⟨3, R, st.pos⟩] } else Except.error (105, st.pos) : Res St) = r := ⟨_, rfl⟩
  rw [hRES]
  have HRE : Hid (numOk R = false → RES = Except.error (105, st.pos)) := fun h => by rw [← hRES, h]; rfl
  have HRO : Hid (numOk R = true → RES = Except.ok { st with pos := st.pos + n, toks := st.toks ++ [⟨3, R, st.pos⟩] }) := fun h => by rw [← hRES, h]; rfl
  have HK := Lib.hid hok0
  clear h hsrc hw0 hct hf hV hend hbs' hX hn hRc hR hE hc0 hlet hdig hRES hok0 hy1 hz hy2
  go_enter Tryd.func21, Tryd.ntmps21
  go_wp2
  go_loopw [6] (fun i wr => ∃ (k : Nat), i = .int .i64 k ∧ st.pos ≤ k ∧ k ≤ s.size ∧ wr = w ∧ Hid (R = (s.data.toList.drop st.pos).take (k - st.pos) ++ runOf (s.data.toList.drop k))) (fun i _ => s.size + 1 - (intOf i).toNat)
  case atStart => exact ⟨st.pos, rfl, by omega, by omega, rfl, by show _ = _; rw [HR.out]; simp⟩
  case round =>
    obtain ⟨k, rfl, hk1, hk2, rfl, hr⟩ := hrel
    by_cases hlt : k < s.size
    · have hdk := drop_cons s k hlt
      have kcell := HW.out k hlt
      obtain ⟨ck, hck⟩ : ∃ ck, s[k] = ck := ⟨_, rfl⟩
      rw [hck] at hdk kcell
      have hkI2 : (k : Int) < (s.size : Int) := by omega
      have Hdk := Lib.hid hdk
      clear hdk hck
      have hgo : Hid (isRun ck = true → R = (s.data.toList.drop st.pos).take (k + 1 - st.pos) ++ runOf (s.data.toList.drop (k + 1))) := by
        intro h1
        rw [hr.out, Hdk.out, runOf_yes _ _ h1]
        have e : k + 1 - st.pos = (k - st.pos) + 1 := by omega
        rw [e, List.take_add_one, List.getElem?_drop]
        have e2 : st.pos + (k - st.pos) = k := by omega
        rw [e2, ← List.head?_drop, Hdk.out]
        simp
      by_cases hl2 : isLet ck = true
      · go_wp2_with fail
        refine (Tryd.rletter_any ck _).mono ?_
        rw [hl2]
        rintro e W1 ⟨rfl, hW1⟩
        obtain rfl := hW1.symm
        go_wp2_with fail
        go_roundw
        case rel => exact ⟨k + 1, by go_num, by omega, by omega, trivial, hgo.out (by unfold isRun; rw [hl2]; rfl)⟩
        case measure => simp [intOf]; omega
      · replace hl2 : isLet ck = false := by simpa using hl2
        by_cases hd2 : isDig ck = true
        · go_wp2_with fail
          refine (Tryd.rletter_any ck _).mono ?_
          rw [hl2]
          rintro e W1 ⟨rfl, hW1⟩
          obtain rfl := hW1.symm
          go_wp2_with fail
          refine (Tryd.rdigit_any ck _).mono ?_
          rw [hd2]
          rintro e W1 ⟨rfl, hW1⟩
          obtain rfl := hW1.symm
          go_wp2_with fail
          go_roundw
          case rel => exact ⟨k + 1, by go_num, by omega, by omega, trivial, hgo.out (by unfold isRun; rw [hl2, hd2]; rfl)⟩
          case measure => simp [intOf]; omega
        · replace hd2 : isDig ck = false := by simpa using hd2
          obtain rfl : E = k := (hRes.out k hk1 hk2 hr.out (by rw [Hdk.out]; exact runOf_no _ _ (by unfold isRun; rw [hl2, hd2]; rfl))).symm
          have Hl2 := Lib.hid hl2
          have Hd2 := Lib.hid hd2
          clear hgo hRes hl2 hd2
          go_wp2_with fail
          refine (Tryd.rletter_any ck _).mono ?_
          rw [Hl2.out]
          rintro e W1 ⟨rfl, hW1⟩
          obtain rfl := hW1.symm
          go_wp2_with fail
          refine (Tryd.rdigit_any ck _).mono ?_
          rw [Hd2.out]
          rintro e W1 ⟨rfl, hW1⟩
          obtain rfl := hW1.symm
          go_wp2_with fail
          refine (Tryd.rletter_any c _).mono ?_
          rw [HL.out]
          rintro e W1 ⟨rfl, hW1⟩
          obtain rfl := hW1.symm
          go_wp2_with fail
          refine (Tryd.rdigit_any c _).mono ?_
          rw [HC.out]
          rintro e W1 ⟨rfl, hW1⟩
          obtain rfl := hW1.symm
          go_wp2
          go_loopw [8, 9] (fun i8 i9 wr2 => ∃ (j : Nat), i8 = .bool (ok0 && (R.take j).all isDig) ∧ i9 = .int .i64 j ∧ j ≤ n ∧ wr2 = wr) (fun _ i9 _ => n + 1 - (intOf i9).toNat)
          case atStart => exact ⟨0, by rw [← HK.out]; rfl, rfl, by omega, rfl⟩
          case round =>
            obtain ⟨j, rfl, rfl, hj, hw2⟩ := hrel
            obtain rfl := hw2.symm
            obtain ⟨bk, hbk⟩ : ∃ x, (ok0 && (R.take j).all isDig) = x := ⟨_, rfl⟩
            rw [hbk]
            have Hbk := Lib.hid hbk
            clear hbk
            by_cases hjn : j < n
            · have hjI : (j : Int) < (n : Int) := by omega
              have hjX : j < X.size := by omega
              obtain ⟨cj, hcj⟩ : ∃ cj, X[j] = cj := ⟨_, rfl⟩
              have hsn : Hid ((R.take (j + 1)).all isDig = ((R.take j).all isDig && isDig cj)) := by
                have e : R[j]? = some cj := by
                  rw [← hcj, ← HXd.out, List.getElem?_eq_getElem (by rw [← Lib.size_eq]; exact hjX)]; rfl
                show _ = _
                rw [List.take_add_one, e, List.all_append]; simp
              cases bk
              · go_wp2_with fail
                go_roundw
                case rel => exact ⟨j + 1, by rw [hsn.out, ← Bool.and_assoc, Hbk.out]; rfl, by go_num, by omega, trivial⟩
                case measure => simp [intOf]; omega
              · go_wp2_with fail
                refine (Tryd.rdigit_any cj _).mono ?_
                rintro e W2 ⟨rfl, hW2⟩
                obtain rfl := hW2.symm
                go_wp2_with fail
                go_roundw
                case rel => exact ⟨j + 1, by rw [hsn.out, ← Bool.and_assoc, Hbk.out]; rfl, by go_num, by omega, trivial⟩
                case measure => simp [intOf]; omega
            · obtain rfl : j = n := by omega
              have hjI : decide ((j : Int) < (j : Int)) = false := by simp
              have hfin := HN.out
              have hall2 : R.take j = R := List.take_of_length_le (by rw [Hn.out]; exact Nat.le_refl _)
              have hall := Hbk.out
              rw [hall2] at hall
              clear hall2
              cases bk
              · obtain rfl := HRE.out (hfin.trans hall)
                clear hall hfin
                go_wp2_with fail
                refine (Tryd.rfault_any B b _ st 0 0 105 st.pos _ H.out).mono ?_
                rintro e W2 ⟨rfl, H2, b2⟩
                go_wp2_with fail
                refine (Tryd.radd_any B b _ st 105 st.pos 3 st.pos X _ H2 hl).mono ?_
                rintro e W3 ⟨rfl, H3, b3⟩
                go_wp2_with fail
                go_ret
                exact ⟨⟨_, rfl⟩, ⟨_, H3⟩, b2.trans b3⟩
              · obtain rfl := HRO.out (hfin.trans hall)
                clear hall hfin
                go_wp2_with fail
                refine (Tryd.radd_any B b _ st 0 0 3 st.pos X _ H.out hl).mono ?_
                rw [HXd.out]
                rintro e W3 ⟨rfl, H3, b3⟩
                go_wp2_with fail
                go_ret
                exact ⟨by rw [← HE.out]; rfl, H3, b3⟩
    · obtain rfl : E = k := (hRes.out k hk1 hk2 hr.out (by rw [List.drop_eq_nil_of_le (by rw [← Lib.size_eq]; omega)]; rfl)).symm
      have hEs : E = s.size := by omega
      have hEI3 : decide ((E : Int) < (s.size : Int)) = false := by simp; omega
      have HEs := Lib.hid hEs
      clear hEs hRes
      go_wp2_with fail
      refine (Tryd.rletter_any c _).mono ?_
      rw [HL.out]
      rintro e W1 ⟨rfl, hW1⟩
      obtain rfl := hW1.symm
      go_wp2_with fail
      refine (Tryd.rdigit_any c _).mono ?_
      rw [HC.out]
      rintro e W1 ⟨rfl, hW1⟩
      obtain rfl := hW1.symm
      go_wp2
      go_loopw [8, 9] (fun i8 i9 wr2 => ∃ (j : Nat), i8 = .bool (ok0 && (R.take j).all isDig) ∧ i9 = .int .i64 j ∧ j ≤ n ∧ wr2 = wr) (fun _ i9 _ => n + 1 - (intOf i9).toNat)
      case atStart => exact ⟨0, by rw [← HK.out]; rfl, rfl, by omega, rfl⟩
      case round =>
        obtain ⟨j, rfl, rfl, hj, hw2⟩ := hrel
        obtain rfl := hw2.symm
        obtain ⟨bk, hbk⟩ : ∃ x, (ok0 && (R.take j).all isDig) = x := ⟨_, rfl⟩
        rw [hbk]
        have Hbk := Lib.hid hbk
        clear hbk
        by_cases hjn : j < n
        · have hjI : (j : Int) < (n : Int) := by omega
          have hjX : j < X.size := by omega
          obtain ⟨cj, hcj⟩ : ∃ cj, X[j] = cj := ⟨_, rfl⟩
          have hsn : Hid ((R.take (j + 1)).all isDig = ((R.take j).all isDig && isDig cj)) := by
            have e : R[j]? = some cj := by
              rw [← hcj, ← HXd.out, List.getElem?_eq_getElem (by rw [← Lib.size_eq]; exact hjX)]; rfl
            show _ = _
            rw [List.take_add_one, e, List.all_append]; simp
          cases bk
          · go_wp2_with fail
            go_roundw
            case rel => exact ⟨j + 1, by rw [hsn.out, ← Bool.and_assoc, Hbk.out]; rfl, by go_num, by omega, trivial⟩
            case measure => simp [intOf]; omega
          · go_wp2_with fail
            refine (Tryd.rdigit_any cj _).mono ?_
            rintro e W2 ⟨rfl, hW2⟩
            obtain rfl := hW2.symm
            go_wp2_with fail
            go_roundw
            case rel => exact ⟨j + 1, by rw [hsn.out, ← Bool.and_assoc, Hbk.out]; rfl, by go_num, by omega, trivial⟩
            case measure => simp [intOf]; omega
        · obtain rfl : j = n := by omega
          have hjI : decide ((j : Int) < (j : Int)) = false := by simp
          have hfin := HN.out
          have hall2 : R.take j = R := List.take_of_length_le (by rw [Hn.out]; exact Nat.le_refl _)
          have hall := Hbk.out
          rw [hall2] at hall
          clear hall2
          cases bk
          · obtain rfl := HRE.out (hfin.trans hall)
            clear hall hfin
            go_wp2_with fail
            refine (Tryd.rfault_any B b _ st 0 0 105 st.pos _ H.out).mono ?_
            rintro e W2 ⟨rfl, H2, b2⟩
            go_wp2_with fail
            refine (Tryd.radd_any B b _ st 105 st.pos 3 st.pos X _ H2 hl).mono ?_
            rintro e W3 ⟨rfl, H3, b3⟩
            go_wp2_with fail
            go_ret
            exact ⟨⟨_, rfl⟩, ⟨_, H3⟩, b2.trans b3⟩
          · obtain rfl := HRO.out (hfin.trans hall)
            clear hall hfin
            go_wp2_with fail
            refine (Tryd.radd_any B b _ st 0 0 3 st.pos X _ H.out hl).mono ?_
            rw [HXd.out]
            rintro e W3 ⟨rfl, H3, b3⟩
            go_wp2_with fail
            go_ret
            exact ⟨by rw [← HE.out]; rfl, H3, b3⟩
end Go.Proofs

namespace Go.Proofs
open Go.RowKit Go.Lx Go.Lt

theorem Tryd.rtoken_dig (B b : Nat) (a : Option Addr) (cap : Nat) (s : ByteArray) (st : St) (w : World) (h : Tryd.RefAt B b (.slice a s.size cap) st 0 0 w) (hsrc : SrcIn B w a s) (hcap : s.size ≤ cap) (hs : s.size ≤ 100000) (hp : st.pos < s.size) (hl : st.toks.length ≤ 1000000) (ho : st.opn ≤ 60)
    (c : UInt8) (t : List UInt8) (hct : s.data.toList.drop st.pos = c :: t) (hlet : isLet c = false) (hdig : isDig c = true) :
    Calls Tryd.prog 21 #[.pointer (some ⟨b, 0, none⟩), .int .i64 st.pos] w (Tryd.RefRes B b (.slice a s.size cap) w (if numOk (runOf (c :: t)) then .ok { st with pos := st.pos + (runOf (c :: t)).length, toks := st.toks ++ [⟨3, runOf (c :: t), st.pos⟩] } else .error (105, st.pos))) := by
  cases hy1 : decide ((runOf (c :: t)).length ≤ 1000)
  · exact Tryd.rtoken_dig_F B b a cap s st w h hsrc hcap hs hp hl ho c t hct hlet hdig hy1
  · cases hz : (c != 48)
    · cases hy2 : decide ((runOf (c :: t)).length = 1)
      · exact Tryd.rtoken_dig_TFF B b a cap s st w h hsrc hcap hs hp hl ho c t hct hlet hdig hy1 hz hy2
      · exact Tryd.rtoken_dig_TFT B b a cap s st w h hsrc hcap hs hp hl ho c t hct hlet hdig hy1 hz hy2
    · exact Tryd.rtoken_dig_TT B b a cap s st w h hsrc hcap hs hp hl ho c t hct hlet hdig hy1 hz
end Go.Proofs
