/-
  Walk of letters.Unquote.
-/
import Derived.Test.YtdbkibnplilogaaDoorLtW1
import Derived.BigCall
import Derived.Deep.QuietTactic
import Derived.BigQuiet
set_option linter.unusedVariables false
namespace Go.Proofs
open Go.RowKit Go.Lt

abbrev Tryd.Tabs (w : World) : Prop := Lib.Utf8Tabs 1 2 w
theorem Tryd.Tabs_below {w w' : World} {B : Nat} (h : Tryd.Tabs w) (hb : Below B w w') (hB : w.heap.size ≤ B) : Tryd.Tabs w' := Utf8Tabs_below h (hb.mono hB)

theorem Tryd.decode_call (t : ByteArray) (r n : Nat) (w : World) (hT : Tryd.Tabs w) (hne : 0 < t.size) (h : Lib.decodeL t.data.toList = (r, n)) :
    Calls Tryd.prog 56 #[.string t] w fun e w' => e = .returned (.tuple #[.int .i32 r, .int .i64 n]) ∧ Below w.heap.size w w' := by
  refine (Tryd.utf8_DecodeRuneInString t w hT).mono ?_
  have e : Lib.decodeGo t = (r, n) := by
    unfold Lib.decodeGo
    rw [if_neg (by omega), ← h]
    exact (Lib.decodeL_drop t 0).symm
  rw [e]
  rintro e w' ⟨rfl, hb⟩
  exact ⟨rfl, hb⟩

def unqV (l : List UInt8) : Value := match unq l with
  | some (x, n) => .tuple #[.string ⟨x.toArray⟩, .int .i64 n, .int .i64 0]
  | none => .tuple #[.string ⟨#[]⟩, .int .i64 0, .int .i64 4]
def ansV (o : Option (List UInt8 × Nat)) : Value := match o with
  | some (x, n) => .tuple #[.string ⟨x.toArray⟩, .int .i64 n, .int .i64 0]
  | none => .tuple #[.string ⟨#[]⟩, .int .i64 0, .int .i64 4]

set_option maxHeartbeats 4000000 in
set_option maxRecDepth 100000 in
theorem Tryd.unquote_go (s : ByteArray) (w : World) (hs : s.size ≤ 35184372088832) (hT : Tryd.Tabs w) (hp : 0 < s.size) (hq : s[0].toNat = 39 ∨ s[0].toNat = 34) :
    Calls Tryd.prog 51 #[.string s] w fun e w' => e = .returned (ansV (unqGo s[0] (s.data.toList.drop 1) [] 1)) ∧ Below w.heap.size w w' := by
  obtain ⟨q, hqe⟩ : ∃ q, s[0] = q := ⟨_, rfl⟩
  obtain ⟨ANS, hANS⟩ : ∃ A, unqGo s[0] (s.data.toList.drop 1) [] 1 = A := ⟨_, rfl⟩
  rw [hANS]
  have HANS := Lib.hid hANS
  clear hANS
  have hemp : s.toList.isEmpty = false := by
    rw [Lib.toList_data]
    cases h : s.data.toList with
    | nil => have := Lib.size_eq s; rw [h] at this; simp only [List.length_nil] at this; omega
    | cons a b => rfl
  have Hqe := Lib.hid hqe
  have hqq : Hid (∀ c : UInt8, (c = s[0]) ↔ c.toNat = s[0].toNat) := fun c => ⟨fun h => by rw [h], fun h => UInt8.toNat_inj.1 h⟩
  clear hqe
  have hB0 : w.heap.size ≤ w.heap.size := Nat.le_refl _
  rcases hq with hq | hq
  all_goals
    go_enter Tryd.func51, Tryd.ntmps51
    go_wp2
    go_loopw [6] (fun a wr => ∃ (p : Nat) (acc : List UInt8), a = .int .i64 p ∧ 1 ≤ p ∧ p ≤ s.size ∧ Lib.IsBuilderF 80 5 w.heap.size w.heap.size (Lib.byteCells acc) wr ∧ Below w.heap.size w wr ∧ Hid (unqGo s[0] (s.data.toList.drop p) acc p = ANS) ∧ acc.length ≤ 4 * p) (fun a _ => s.size - (intOf a).toNat)
    case atStart =>
      refine ⟨1, [], rfl, by omega, by omega, Lib.IsBuilderF.of (Lib.fresh_isBuilder 80 5 w), (Below.refl _ w).alloc (Nat.le_refl _) _, HANS, by simp⟩
    case round =>
      obtain ⟨p, acc, rfl, hp1, hps, hI, hbw, hg, hal⟩ := hrel
      clear HANS
      have hsz : w.heap.size < wr.heap.size := isB_lt hI
      by_cases hlt : p < s.size
      · have hd := drop_cons s p hlt
        obtain ⟨t, ht⟩ : ∃ t, s.extract p s.size = t := ⟨_, rfl⟩
        have htl : t.data.toList = s.data.toList.drop p := by rw [← ht]; exact suffix_list s p
        have hts : 0 < t.size := by have := congrArg ByteArray.size ht; rw [ByteArray.size_extract] at this; omega
        obtain ⟨r, n, hrn⟩ : ∃ r n, Lib.decodeL t.data.toList = (r, n) := ⟨_, _, rfl⟩
        have hn1 : 1 ≤ n := by have := Lib.decodeL_width t.data.toList; rw [hrn] at this; exact this
        have hn2 : n ≤ s.size - p := by
          have := Lib.decodeL_le t.data.toList (by rw [htl, hd]; simp)
          rw [hrn, htl, List.length_drop] at this
          rw [Lib.size_eq]; exact this
        have hr1 : r ≤ 1114111 := by have := Lib.decodeL_rune t.data.toList; rw [hrn] at this; exact this
        have Hht := Lib.hid ht
        have hTr := Tryd.Tabs_below hT hbw (Nat.le_refl _)
        have hrI : (r : Int) ≤ 1114111 := by omega
        have hIr := Tryd.decode_call t r n wr hTr hts hrn
        have Hrn := Lib.hid hrn
        have Hd := Lib.hid hd
        have Htl := Lib.hid htl
        have hqc := hqq.out s[p]
        clear hrn hd htl hIr
        have hgp : unqGo s[0] (s[p] :: s.data.toList.drop (p + 1)) acc p = ANS := by rw [← Hd.out]; exact hg.out
        have hdec : Lib.decodeL (s[p] :: s.data.toList.drop (p + 1)) = (r, n) := by rw [← Hd.out, ← Htl.out]; exact Hrn.out
        have Hdec := Lib.hid hdec
        have Hgp := Lib.hid hgp
        have hsp := s[p].toNat_lt
        clear hg hgp hdec hqq ht
        by_cases hc : s[p].toNat = s[0].toNat
        · have hA : ANS = some (acc, p + 1) := by
            rw [← Hgp.out, hqc.2 hc]; exact unqGo_end _ _ _ _
          subst hA
          have hcI : (s[p].toNat : Int) = (s[0].toNat : Int) := by omega
          clear Hgp Hdec hqc
          go_wp2_with fail
          rw [Hht.out]
          refine (Tryd.decode_call t r n wr hTr hts Hrn.out).mono ?_
          rintro e W1 ⟨rfl, b1⟩
          have hI1 := isB_below hI b1
          have hbw1 := hbw.trans (b1.mono (by omega))
          have hz1 := b1.size
          go_wp2_with fail
          go_quiet (fail)
          go_wp2_with fail
          refine (Tryd.Builder_String_any_k w.heap.size w.heap.size acc _ (isB_drewN hI1 _) (by simp; omega)).mono ?_
          rintro e W2 ⟨rfl, _, b2, _⟩
          go_wp2
          go_ret3
          exact ⟨rfl, (below_drewN hbw1 _).trans b2⟩
        · have hcq : s[p] ≠ s[0] := fun h => hc (by rw [h])
          have hcI : ((s[p].toNat : Int) == (s[0].toNat : Int)) = false := by
            rw [beq_eq_false_iff_ne]; omega
          have Hcq := Lib.hid hcq
          clear hqc hcq hc
          go_wp2_with fail
          rw [Hht.out]
          refine (Tryd.decode_call t r n wr hTr hts Hrn.out).mono ?_
          rintro e W1 ⟨rfl, b1⟩
          have hI1 := isB_below hI b1
          have hbw1 := hbw.trans (b1.mono (by omega))
          have hz1 := b1.size
          go_wp2_with fail
          go_quiet (fail)
          by_cases hb1 : r = 65533 ∧ n = 1
          · obtain ⟨rfl, rfl⟩ := hb1
            have hA : ANS = none := by
              rw [← Hgp.out]
              exact unqGo_bad _ _ _ _ _ Hcq.out (Or.inl (by unfold bad; rw [Hdec.out]; exact ⟨rfl, rfl⟩))
            subst hA
            clear Hgp
            go_wp2
            go_ret3
            exact ⟨rfl, below_drewN hbw1 _⟩
          by_cases hb2 : r < 32
          · have hA : ANS = none := by
              rw [← Hgp.out]
              exact unqGo_bad _ _ _ _ _ Hcq.out (Or.inr (Or.inl (by rw [Hdec.out]; exact hb2)))
            subst hA
            have hb2I : (r : Int) < 32 := by omega
            clear Hgp hb1
            go_wp2
            go_ret3
            exact ⟨rfl, below_drewN hbw1 _⟩
          by_cases hb3 : r = 127
          · subst hb3
            have hA : ANS = none := by
              rw [← Hgp.out]
              exact unqGo_bad _ _ _ _ _ Hcq.out (Or.inr (Or.inr (by rw [Hdec.out])))
            subst hA
            clear Hgp hb1
            go_wp2
            go_ret3
            exact ⟨rfl, below_drewN hbw1 _⟩
          have hok : ¬ (bad (s[p] :: s.data.toList.drop (p + 1)) ∨ (Lib.decodeL (s[p] :: s.data.toList.drop (p + 1))).1 < 32 ∨ (Lib.decodeL (s[p] :: s.data.toList.drop (p + 1))).1 = 127) := by
            unfold bad; rw [Hdec.out]; rintro (h | h | h)
            · exact hb1 h
            · exact hb2 h
            · exact hb3 h
          have Hok := Lib.hid hok
          have hn65 : ((r : Int) == 65533) = true → ((n : Int) == 1) = false := by
            intro h
            have h1 : (r : Int) = 65533 := by simpa using h
            rw [beq_eq_false_iff_ne]
            intro h2
            exact hb1 ⟨by omega, by omega⟩
          have Hn65 := Lib.hid hn65
          have hb2I : (32 : Int) ≤ (r : Int) := by omega
          have hb3I : ((r : Int) == 127) = false := by rw [beq_eq_false_iff_ne]; omega
          clear hok hn65 hb1 hb2 hb3
          by_cases hr92 : r = 92
          · subst hr92
            have hc92 : s[p].toNat = 92 := (rune_eq_ascii _ _ 92 (by omega)).1 (by rw [Hdec.out])
            have Hc92 := Lib.hid hc92
            have hel := suffix_list s (p + 1)
            have Hel := Lib.hid hel
            have hesz : (s.extract (p + 1) s.size).size ≤ 9223372036854775807 := by rw [suffix_size]; omega
            clear hel hc92
            cases he : esc (s.data.toList.drop (p + 1)) with
            | none =>
              have hA : ANS = none := by
                rw [← Hgp.out]
                exact unqGo_none _ _ _ _ _ Hcq.out Hc92.out he
              have hev := Lib.hid (escV_none he)
              subst hA
              clear Hgp he
              go_wp2_with fail
              refine (Tryd.escape_any _ _ hesz).mono ?_
              rw [Hel.out, hev.out]
              rintro e w' ⟨rfl, rfl⟩
              go_wp2
              go_ret3
              exact ⟨rfl, below_drewN hbw1 _⟩
            | some rn =>
              obtain ⟨r', n'⟩ := rn
              have hev := Lib.hid (escV_some he)
              have hb := esc_bound _ _ _ he
              rw [List.length_drop, ← Lib.size_eq] at hb
              obtain ⟨k1, k2, k3, k4⟩ := hb
              unfold VR at k4
              have Hg2 := Lib.hid (unqGo_esc _ _ _ acc p r' n' Hcq.out Hc92.out he)
              clear he
              have hn0 : ((n' : Int) == 0) = false := by rw [beq_eq_false_iff_ne]; omega
              go_wp2_with fail
              refine (Tryd.escape_any _ _ hesz).mono ?_
              rw [Hel.out, hev.out]
              rintro e w' ⟨rfl, rfl⟩
              go_wp2_with fail
              refine (Tryd.Builder_WriteRune_k w.heap.size w.heap.size (Lib.byteCells acc) (r' : Int) (by omega) (by omega) _ (isB_drewN hI1 _) (by rw [Lib.byteCells_length]; omega) (by simp; omega)).mono ?_
              rintro e W2 ⟨rfl, hI2, b2, _⟩
              go_wp2
              go_roundw
              case rel =>
                have h4 := enc_pos r'
                refine ⟨p + (n' + 1), acc ++ enc r', by go_num, by omega, by omega, ?_, (below_drewN hbw1 _).trans b2, ?_, by rw [List.length_append]; omega⟩
                · rw [Lib.byteCells_append, Lib.byteCells_encodeRune]; exact isB_of hI2
                · have h5 := Hgp.out
                  rw [Hg2.out] at h5
                  rw [← h5, ← Hd.out, List.drop_drop]; rfl
              case measure => simp [intOf]; omega
          · have hr92I : ((r : Int) == 92) = false := by rw [beq_eq_false_iff_ne]; omega
            have Hg2 := Lib.hid (unqGo_rune _ _ _ acc p Hcq.out Hok.out (by rw [Hdec.out]; exact hr92))
            by_cases h655 : r = 65533
            · have h656 : ((n : Int) == 1) = false := Hn65.out (by rw [h655]; rfl)
              subst h655
              go_wp2_with fail
              refine (Tryd.Builder_WriteRune_k w.heap.size w.heap.size (Lib.byteCells acc) 65533 (by omega) (by omega) _ (isB_drewN hI1 _) (by rw [Lib.byteCells_length]; omega) (by simp; omega)).mono ?_
              rintro e W2 ⟨rfl, hI2, b2, _⟩
              go_wp2
              go_roundw
              case rel =>
                have h4 := enc_pos 65533
                refine ⟨p + n, acc ++ enc 65533, by go_num, by omega, by omega, ?_, (below_drewN hbw1 _).trans b2, ?_, by rw [List.length_append]; omega⟩
                · rw [Lib.byteCells_append, Lib.byteCells_encodeRune]; exact isB_of hI2
                · have h5 := Hgp.out
                  rw [Hg2.out, Hdec.out] at h5
                  rw [← h5, ← Hd.out, List.drop_drop]; rfl
              case measure => simp [intOf]; omega
            · have h656 : ((r : Int) == 65533) = false := by rw [beq_eq_false_iff_ne]; omega
              clear h655
              go_wp2_with fail
              refine (Tryd.Builder_WriteRune_k w.heap.size w.heap.size (Lib.byteCells acc) (r : Int) (by omega) (by omega) _ (isB_drewN hI1 _) (by rw [Lib.byteCells_length]; omega) (by simp; omega)).mono ?_
              rintro e W2 ⟨rfl, hI2, b2, _⟩
              go_wp2
              go_roundw
              case rel =>
                have h4 := enc_pos r
                refine ⟨p + n, acc ++ enc r, by go_num, by omega, by omega, ?_, (below_drewN hbw1 _).trans b2, ?_, by rw [List.length_append]; omega⟩
                · rw [Lib.byteCells_append, Lib.byteCells_encodeRune]; exact isB_of hI2
                · have h5 := Hgp.out
                  rw [Hg2.out, Hdec.out] at h5
                  rw [← h5, ← Hd.out, List.drop_drop]; rfl
              case measure => simp [intOf]; omega
      · have hA : ANS = none := by
          rw [← hg.out, List.drop_eq_nil_of_le (by rw [← Lib.size_eq]; omega)]
          rfl
        subst hA
        clear hg
        go_wp2
        go_ret3
        exact ⟨rfl, hbw⟩
end Go.Proofs
