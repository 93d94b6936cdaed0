/-
  Walks: the reference's All, letters.Good, the law LettersQuote.
-/
import Derived.Test.YtddblgfmocdpgaaDoorLtQ3
set_option linter.unusedVariables false
namespace Go.Proofs
open Go.RowKit Go.Lt

def strOf (r : Nat) : ByteArray := ⟨(enc r).toArray⟩
def strVals (rs : List Nat) : List Value := rs.map fun r => Value.string (strOf r)

theorem Tryd.infoStr : (Tryd.prog.info? 9).map (fun i => (i.zero, i.size, i.bytes)) = some (some (.string ⟨#[]⟩), 1, 16) := by kernel_rfl

/-- A slice that the call has made, its elements' cells apart from its value. -/
theorem row_open {w : World} {B e : Nat} {v : Value} {n : Nat} {xs : List Value} (h : w.ownsRow B e 1 v n xs) :
    ∃ g cap, v = .slice g n cap ∧ (∀ a, g = some a → B ≤ a.block ∧ a.block < w.heap.size) ∧ (∀ i (hi : i < n), ∃ b, g = some ⟨b, 0, none⟩ ∧ w.cell? ⟨b, i, none⟩ = xs[i]?) := by
  have h0 := h
  rcases h.2 with ⟨rfl, hn⟩ | ⟨g, cap, cur, rfl, hgb, hgh, _⟩
  · exact ⟨none, 0, by rw [hn], (fun a ha => by cases ha), (fun i hi => by omega)⟩
  · exact ⟨some ⟨g, 0, none⟩, cap, rfl, (fun a ha => by cases ha; exact ⟨hgb, lt_of_block hgh⟩), (fun i hi => ⟨g, rfl, h0.cellAt i (by omega)⟩)⟩

set_option maxHeartbeats 2000000 in
set_option maxRecDepth 100000 in
theorem Tryd.rall_any (s : ByteArray) (w : World) (hs : s.size ≤ 1000000) :
    Calls Tryd.prog 15 #[.string s] w fun e w' => ∃ v, e = .returned v ∧ w'.ownsRow w.heap.size 9 1 v (runes s.data.toList).length (strVals (runes s.data.toList)) ∧ Below w.heap.size w w' := by
  obtain ⟨i0, hi, hz0, hz1, hz2⟩ := info_parts Tryd.infoStr
  obtain ⟨rs, hrs⟩ : ∃ rs, runes s.data.toList = rs := ⟨_, rfl⟩
  have hrl : rs.length ≤ s.size := by rw [← hrs, Lib.size_eq]; exact runes_len _
  rw [hrs]
  have Hrs := Lib.hid hrs
  clear hrs
  go_enter Tryd.func15, Tryd.ntmps15
  go_wp2_with fail
  refine (Tryd.pieces_any _ _ (by omega)).mono ?_
  rw [Hrs.out]
  rintro e W0 ⟨v, rfl, hown, b0⟩
  obtain ⟨g, cap, rfl, hgB, hgo⟩ := row_open hown
  have Hgo := Lib.hid hgo
  have hz0' := b0.size
  clear hgo hown
  obtain ⟨N, hN⟩ : ∃ N, N = W0.heap.size := ⟨_, rfl⟩
  have hwN : w.heap.size ≤ N := by omega
  have HN := Lib.hid hN
  have hNle : N ≤ W0.heap.size := by omega
  clear hN
  go_wp2
  go_loopw [4, 5] (fun b i wr => ∃ k : Nat, i = .int .i64 k ∧ k ≤ rs.length ∧ wr.ownsRow N 9 1 b k (strVals (rs.take k)) ∧ Below N W0 wr) (fun _ i _ => rs.length - (intOf i).toNat)
  case atStart =>
    exact ⟨0, rfl, by omega, World.ownsRow_nil _ _ _ _, Below.refl _ _⟩
  case round =>
    obtain ⟨k, rfl, hk, hrw, hbw⟩ := hrel
    have hzw := hbw.size
    by_cases hlt : k < rs.length
    · obtain ⟨b, rfl, hcell0⟩ := Hgo.out k hlt
      have hbb := hgB _ rfl
      have hcell : wr.cell? ⟨b, k, none⟩ = some (.int .i32 (rs[k] : Int)) := by
        rw [hbw.cell (p := ⟨b, k, none⟩) (by rw [HN.out]; exact hbb.2), hcell0]
        unfold runeVals
        rw [List.getElem?_map, List.getElem?_eq_getElem hlt]; rfl
      have htk : Hid (strVals (rs.take k) ++ [Value.string (Utf8.encode (rs[k] : Int))] = strVals (rs.take (k + 1))) := by
        show _ = _
        rw [take_snoc_rune rs k hlt, encode_enc]
        unfold strVals
        rw [List.map_append]; rfl
      clear hcell0
      go_wp2_with (
        at_builtin; refine wpList_append_own _ rfl _ _ 34 rfl N 9 i0 (.string ⟨#[]⟩) 1 16 Tryd.underlying34 hi hz0 hz1 hz2 rfl (by decide) _ _ _ rfl (hrw.alloc _) ⟨wr.heap.size, 0, none⟩ 1 1 [.string (Utf8.encode (rs[k] : Int))] rfl rfl (cell_one_new' _ _ _) (fun x hx => by simp at hx; rw [hx]; rfl) (by unfold maxLen; omega) (by omega) (by simp; omega) ?_; intro v' w3 hown' hgrow3 hnil3
        have hbw3 : Below N W0 w3 := Below.grown (hbw.alloc (by omega) _) hgrow3 (by simp; omega) (fun j hj => by have := (hrw.lt _ hj).1; omega)
        have X3 : Aside (w3.ownsRow N 9 1 v' (k + 1) (strVals (rs.take k) ++ [Value.string (Utf8.encode (rs[k] : Int))]) ∧ Below N W0 w3) := ⟨hown', hbw3⟩
        clear hown' hgrow3 hnil3 hbw3)
      go_roundw
      case rel =>
        refine ⟨k + 1, by go_num, by omega, ?_, X3.out.2⟩
        rw [← htk.out]; exact X3.out.1
      case measure => simp [intOf]; omega
    · obtain rfl : k = rs.length := by omega
      rw [List.take_of_length_le (Nat.le_refl _)] at hrw
      go_wp2
      go_ret
      refine ⟨_, rfl, ?_, b0.trans (hbw.mono hwN)⟩
      refine ⟨hrw.1, ?_⟩
      rcases hrw.2 with hn | ⟨g, cap, cur, hv, hbg, hg, rest⟩
      · exact .inl hn
      · exact .inr ⟨g, cap, cur, hv, by omega, hg, rest⟩

set_option maxHeartbeats 1000000 in
theorem Tryd.good_any (s : ByteArray) (w : World) (hs : s.size ≤ 9223372036854775807) (hT : Tryd.Tabs w) :
    Calls Tryd.prog 17 #[.string s] w fun e w' => e = .returned (.bool (Lib.validD s.data.toList)) ∧ Below w.heap.size w w' := by
  go_enter Tryd.func17, Tryd.ntmps17
  go_wp2_with fail
  refine (Tryd.utf8_ValidString s w hs hT).mono ?_
  rintro e W1 ⟨rfl, b1⟩
  go_wp2
  go_ret
  exact ⟨rfl, b1⟩

set_option maxHeartbeats 4000000 in
set_option maxRecDepth 100000 in
theorem Tryd.lettersQuote_any (s : ByteArray) (w : World) (hs : s.size ≤ 9223372036854775807) (hT : Tryd.Tabs w) :
    Calls Tryd.prog 6 #[.string s] w fun e w' => e = .returned (.bool true) ∧ Below w.heap.size w w' := by
  by_cases h : s.size ≤ 3000
  · have f1 : ¬ 3000 < s.size := by omega
    obtain ⟨rs, hrs⟩ : ∃ rs, runes s.data.toList = rs := ⟨_, rfl⟩
    have hrl : rs.length ≤ s.size := by rw [← hrs, Lib.size_eq]; exact runes_len _
    obtain ⟨Q, hQ⟩ : ∃ Q : ByteArray, (⟨(quote s.data.toList).toArray⟩ : ByteArray) = Q := ⟨_, rfl⟩
    have hQl : Q.data.toList = quote s.data.toList := by rw [← hQ]
    have hQs : Q.size = (quote s.data.toList).length := by rw [Lib.size_eq, hQl]
    have hQ6 : Q.size ≤ 18002 := by have := quote_len s.data.toList; rw [← Lib.size_eq] at this; omega
    obtain ⟨T, hTt⟩ : ∃ T : ByteArray, (⟨(rs.flatMap enc).toArray⟩ : ByteArray) = T := ⟨_, rfl⟩
    have hun : Hid (ansV (unq Q.data.toList) = .tuple #[.string T, .int .i64 Q.size, .int .i64 0]) := by
      show _ = _
      have := unq_quote s.data.toList []
      rw [List.append_nil] at this
      rw [hQl, this, hQs, ← hTt, ← hrs]; rfl
    have HQ := Lib.hid hQ
    have Hrs := Lib.hid hrs
    have HT := Lib.hid hTt
    obtain ⟨bb, hbb⟩ : ∃ b, Lib.validD s.data.toList = b := ⟨_, rfl⟩
    have e1 : (T.toList == s.toList) = bb := by
      rw [← hbb, valid_mend, Lib.toList_data, Lib.toList_data, Bool.eq_iff_iff, beq_iff_eq, decide_eq_true_eq, ← hTt]
      unfold mend
      rw [hrs]
    have Hbb := Lib.hid hbb
    clear hrs hQ hQl hQs hTt hbb
    go_enter Tryd.func6, Tryd.ntmps6
    go_wp2_with fail
    refine (Tryd.quote_any _ _ (by omega)).mono ?_
    rw [HQ.out]
    rintro e W1 ⟨rfl, b1⟩
    go_wp2_with fail
    refine (Tryd.unquote_any _ _ (by omega) (Tryd.Tabs_below hT b1 (Nat.le_refl _))).mono ?_
    rw [hun.out]
    rintro e W2 ⟨rfl, b2⟩
    have hb2 := b1.trans (b2.mono b1.size)
    go_wp2_with fail
    refine (Tryd.rall_any _ _ (by omega)).mono ?_
    rw [Hrs.out]
    rintro e W3 ⟨v, rfl, hown, b3⟩
    have hb3 := hb2.trans (b3.mono hb2.size)
    obtain ⟨g, cap, rfl, hgB, hgo⟩ := row_open hown
    clear hown
    have Hgo := Lib.hid hgo
    clear hgo
    go_wp2
    go_loopw [7, 9] (fun m i wr => ∃ (k : Nat) (M : ByteArray), i = .int .i64 k ∧ k ≤ rs.length ∧ m = .string M ∧ Hid (M = ⟨((rs.take k).flatMap enc).toArray⟩) ∧ wr = W3) (fun _ i _ => rs.length - (intOf i).toNat)
    case atStart => exact ⟨0, ⟨#[]⟩, rfl, by omega, rfl, rfl, rfl⟩
    case round =>
      obtain ⟨k, M, rfl, hk, rfl, hM, rfl⟩ := hrel
      have hMs : M.size ≤ 12000 := by
        rw [hM.out]
        show ((rs.take k).flatMap enc).toArray.size ≤ _
        rw [List.size_toArray]
        have : ∀ l : List Nat, (l.flatMap enc).length ≤ 4 * l.length := by
          intro l
          induction l with
          | nil => simp
          | cons a l ih =>
            have := (enc_pos a).2
            rw [List.flatMap_cons, List.length_append, List.length_cons]; omega
        have h1 := this (rs.take k)
        have h2 : (rs.take k).length ≤ k := List.length_take_le _ _
        omega
      by_cases hlt : k < rs.length
      · obtain ⟨b, rfl, hcell0⟩ := Hgo.out k hlt
        have hX : (strOf rs[k]).size ≤ 4 := by
          show (enc rs[k]).toArray.size ≤ 4
          rw [List.size_toArray]; exact (enc_pos _).2
        have hcell : wr.cell? ⟨b, k, none⟩ = some (.string (strOf rs[k])) := by
          rw [hcell0]
          unfold strVals
          rw [List.getElem?_map, List.getElem?_eq_getElem hlt]; rfl
        have hM2 : Hid (M ++ strOf rs[k] = ⟨((rs.take (k + 1)).flatMap enc).toArray⟩) := by
          show _ = _
          rw [hM.out, take_snoc_rune rs k hlt, List.flatMap_append]
          unfold strOf
          rw [str_append]; simp
        clear hcell0 hM
        go_wp2
        go_roundw
        case rel => exact ⟨k + 1, _, by go_num, by omega, rfl, hM2, trivial⟩
        case measure => simp [intOf]; omega
      · obtain rfl : k = rs.length := by omega
        have hMT : M = T := by rw [hM.out, List.take_of_length_le (Nat.le_refl _), HT.out]
        subst hMT
        clear hM
        cases bb
        all_goals
          go_wp2_with fail
          refine (Tryd.rquote_any _ _ (by omega)).mono ?_
          rw [HQ.out]
          rintro e W4 ⟨rfl, b4⟩
          have hb4 := hb3.trans (b4.mono hb3.size)
          go_wp2_with fail
          refine (Tryd.good_any _ _ hs (Tryd.Tabs_below hT hb4 (Nat.le_refl _))).mono ?_
          rw [Hbb.out]
          rintro e W5 ⟨rfl, b5⟩
          have hb5 := hb4.trans (b5.mono hb4.size)
          go_wp2_with fail
          refine (Tryd.awake2_end hb5 hT).mono ?_
          rintro e W6 ⟨rfl, b6⟩
          go_wp2
          go_ret
          exact ⟨rfl, b6⟩
  · have f1 : 3000 < s.size := by omega
    go_enter Tryd.func6, Tryd.ntmps6
    go_wp2_with fail
    refine (Tryd.awake2_end (Below.refl _ _) hT).mono ?_
    rintro e W3 ⟨rfl, b3⟩
    go_wp2
    go_ret
    exact ⟨rfl, b3⟩
end Go.Proofs
