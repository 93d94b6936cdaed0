/-
  The law LettersEnds, walked.
-/
import Derived.Test.YtddblgfmocdpgaaDoorLtQ2
set_option linter.unusedVariables false
namespace Go.Proofs
open Go.RowKit Go.Lt

theorem Tryd.awake2_end {W w : World} (hb : Below W.heap.size W w) (hT : Tryd.Tabs W) :
    Calls Tryd.prog 9 #[] w fun e w' => e = .returned (.bool true) ∧ Below W.heap.size W w' :=
  (Tryd.awake2_any w (Tryd.Tabs_below hT hb (Nat.le_refl _))).mono fun _ _ ⟨h, b⟩ => ⟨h, hb.trans (b.mono hb.size)⟩

set_option maxHeartbeats 2000000 in
theorem Tryd.ends_c1 (s other behind Q Q2 : ByteArray) (cut : Int) (w : World) (bb : Bool) (c' : Nat) (h1 : s.size ≤ 3000) (h2 : other.size ≤ 3000) (h3 : behind.size ≤ 3000) (hT : Tryd.Tabs w)
    (hQ6 : Q.size ≤ 18002) (hQ2' : 2 ≤ Q.size)
    (hun : Hid (ansV (unq (Q ++ behind).data.toList) = .tuple #[.string s, .int .i64 Q.size, .int .i64 0]))
    (HQ : Hid ((⟨(quote s.data.toList).toArray⟩ : ByteArray) = Q)) (HQ2 : Hid ((⟨(quote other.data.toList).toArray⟩ : ByteArray) = Q2))
    (e1 : (Q2.toList == Q.toList) = bb) (e2 : (other.toList == s.toList) = bb) (G1 : Hid (Lib.validD s.data.toList = true)) (G2 : Hid (Lib.validD other.data.toList = true))
    (f1 : ¬ 3000 < s.size) (f2 : ¬ 3000 < other.size) (f3 : ¬ 3000 < behind.size) (f4 : ¬ Q.size < 2) (hqb : (Q ++ behind).size ≤ 35184372088832)
    (Hcv : Hid (ansV (unq (Q.extract 0 c').data.toList) = .tuple #[.string ⟨#[]⟩, .int .i64 0, .int .i64 4]))
    (hc0 : 0 ≤ cut) (hc' : cut % (Q.size : Int) = (c' : Int)) (hcle : (c' : Int) ≤ (Q.size : Int)) :
    Calls Tryd.prog 4 #[.string s, .string other, .string behind, .int .i64 cut] w fun e w' => e = .returned (.bool true) ∧ Below w.heap.size w w' := by
  cases bb
  all_goals
    go_enter Tryd.func4, Tryd.ntmps4
    go_wp2_with fail
    refine (Tryd.rgood_any _ _ (by omega)).mono ?_
    rw [G1.out]
    rintro e W1 ⟨rfl, b1⟩
    go_wp2_with fail
    refine (Tryd.rgood_any _ _ (by omega)).mono ?_
    rw [G2.out]
    rintro e W2 ⟨rfl, b2⟩
    have hb2 := b1.trans (b2.mono b1.size)
    go_wp2_with fail
    refine (Tryd.quote_any _ _ (by omega)).mono ?_
    rw [HQ.out]
    rintro e W3 ⟨rfl, b3⟩
    have hb3 := hb2.trans (b3.mono hb2.size)
    go_wp2_with fail
    refine (Tryd.unquote_any _ _ hqb (Tryd.Tabs_below hT hb3 (Nat.le_refl _))).mono ?_
    rw [hun.out]
    rintro e W4 ⟨rfl, b4⟩
    have hb4 := hb3.trans (b4.mono hb3.size)
    go_wp2_with fail
    refine (Tryd.quote_any _ _ (by omega)).mono ?_
    rw [HQ2.out]
    rintro e W5 ⟨rfl, b5⟩
    have hb5 := hb4.trans (b5.mono hb4.size)
    go_wp2_with fail
    refine (Tryd.unquote_any (Q.extract 0 c') _ (by rw [ByteArray.size_extract]; omega) (Tryd.Tabs_below hT hb5 (Nat.le_refl _))).mono ?_
    rw [Hcv.out]
    rintro e W6 ⟨rfl, b6⟩
    have hb6 := hb5.trans (b6.mono hb5.size)
    go_wp2_with fail
    refine (Tryd.awake2_end hb6 hT).mono ?_
    rintro e W7 ⟨rfl, b7⟩
    go_wp2
    go_ret
    exact ⟨rfl, b7⟩

set_option maxHeartbeats 2000000 in
theorem Tryd.ends_c2 (s other behind Q Q2 : ByteArray) (cut : Int) (w : World) (bb : Bool) (c' : Nat) (h1 : s.size ≤ 3000) (h2 : other.size ≤ 3000) (h3 : behind.size ≤ 3000) (hT : Tryd.Tabs w)
    (hQ6 : Q.size ≤ 18002) (hQ2' : 2 ≤ Q.size)
    (hun : Hid (ansV (unq (Q ++ behind).data.toList) = .tuple #[.string s, .int .i64 Q.size, .int .i64 0]))
    (HQ : Hid ((⟨(quote s.data.toList).toArray⟩ : ByteArray) = Q)) (HQ2 : Hid ((⟨(quote other.data.toList).toArray⟩ : ByteArray) = Q2))
    (e1 : (Q2.toList == Q.toList) = bb) (e2 : (other.toList == s.toList) = bb) (G1 : Hid (Lib.validD s.data.toList = true)) (G2 : Hid (Lib.validD other.data.toList = true))
    (f1 : ¬ 3000 < s.size) (f2 : ¬ 3000 < other.size) (f3 : ¬ 3000 < behind.size) (f4 : ¬ Q.size < 2) (hqb : (Q ++ behind).size ≤ 35184372088832)
    (Hcv : Hid (ansV (unq (Q.extract 0 c').data.toList) = .tuple #[.string ⟨#[]⟩, .int .i64 0, .int .i64 4]))
    (M : Int) (hM : cut.tmod (Q.size : Int) = M) (hM1 : M < 0) (hM2 : -(Q.size : Int) < M) (hc' : M + (Q.size : Int) = (c' : Int)) (hcle : (c' : Int) ≤ (Q.size : Int)) :
    Calls Tryd.prog 4 #[.string s, .string other, .string behind, .int .i64 cut] w fun e w' => e = .returned (.bool true) ∧ Below w.heap.size w w' := by
  cases bb
  all_goals
    go_enter Tryd.func4, Tryd.ntmps4
    go_wp2_with fail
    refine (Tryd.rgood_any _ _ (by omega)).mono ?_
    rw [G1.out]
    rintro e W1 ⟨rfl, b1⟩
    go_wp2_with fail
    refine (Tryd.rgood_any _ _ (by omega)).mono ?_
    rw [G2.out]
    rintro e W2 ⟨rfl, b2⟩
    have hb2 := b1.trans (b2.mono b1.size)
    go_wp2_with fail
    refine (Tryd.quote_any _ _ (by omega)).mono ?_
    rw [HQ.out]
    rintro e W3 ⟨rfl, b3⟩
    have hb3 := hb2.trans (b3.mono hb2.size)
    go_wp2_with fail
    refine (Tryd.unquote_any _ _ hqb (Tryd.Tabs_below hT hb3 (Nat.le_refl _))).mono ?_
    rw [hun.out]
    rintro e W4 ⟨rfl, b4⟩
    have hb4 := hb3.trans (b4.mono hb3.size)
    go_wp2_with fail
    refine (Tryd.quote_any _ _ (by omega)).mono ?_
    rw [HQ2.out]
    rintro e W5 ⟨rfl, b5⟩
    have hb5 := hb4.trans (b5.mono hb4.size)
    go_wp2_with fail
    refine (Tryd.unquote_any (Q.extract 0 c') _ (by rw [ByteArray.size_extract]; omega) (Tryd.Tabs_below hT hb5 (Nat.le_refl _))).mono ?_
    rw [Hcv.out]
    rintro e W6 ⟨rfl, b6⟩
    have hb6 := hb5.trans (b6.mono hb5.size)
    go_wp2_with fail
    refine (Tryd.awake2_end hb6 hT).mono ?_
    rintro e W7 ⟨rfl, b7⟩
    go_wp2
    go_ret
    exact ⟨rfl, b7⟩

set_option maxHeartbeats 2000000 in
theorem Tryd.ends_c3 (s other behind Q Q2 : ByteArray) (cut : Int) (w : World) (bb : Bool) (c' : Nat) (h1 : s.size ≤ 3000) (h2 : other.size ≤ 3000) (h3 : behind.size ≤ 3000) (hT : Tryd.Tabs w)
    (hQ6 : Q.size ≤ 18002) (hQ2' : 2 ≤ Q.size)
    (hun : Hid (ansV (unq (Q ++ behind).data.toList) = .tuple #[.string s, .int .i64 Q.size, .int .i64 0]))
    (HQ : Hid ((⟨(quote s.data.toList).toArray⟩ : ByteArray) = Q)) (HQ2 : Hid ((⟨(quote other.data.toList).toArray⟩ : ByteArray) = Q2))
    (e1 : (Q2.toList == Q.toList) = bb) (e2 : (other.toList == s.toList) = bb) (G1 : Hid (Lib.validD s.data.toList = true)) (G2 : Hid (Lib.validD other.data.toList = true))
    (f1 : ¬ 3000 < s.size) (f2 : ¬ 3000 < other.size) (f3 : ¬ 3000 < behind.size) (f4 : ¬ Q.size < 2) (hqb : (Q ++ behind).size ≤ 35184372088832)
    (Hcv : Hid (ansV (unq (Q.extract 0 0).data.toList) = .tuple #[.string ⟨#[]⟩, .int .i64 0, .int .i64 4]))
    (hM : cut.tmod (Q.size : Int) = 0) :
    Calls Tryd.prog 4 #[.string s, .string other, .string behind, .int .i64 cut] w fun e w' => e = .returned (.bool true) ∧ Below w.heap.size w w' := by
  have Hcv0 : Hid (ansV (unq ByteArray.empty.data.toList) = .tuple #[.string ⟨#[]⟩, .int .i64 0, .int .i64 4]) := rfl
  cases bb
  all_goals
    go_enter Tryd.func4, Tryd.ntmps4
    go_wp2_with fail
    refine (Tryd.rgood_any _ _ (by omega)).mono ?_
    rw [G1.out]
    rintro e W1 ⟨rfl, b1⟩
    go_wp2_with fail
    refine (Tryd.rgood_any _ _ (by omega)).mono ?_
    rw [G2.out]
    rintro e W2 ⟨rfl, b2⟩
    have hb2 := b1.trans (b2.mono b1.size)
    go_wp2_with fail
    refine (Tryd.quote_any _ _ (by omega)).mono ?_
    rw [HQ.out]
    rintro e W3 ⟨rfl, b3⟩
    have hb3 := hb2.trans (b3.mono hb2.size)
    go_wp2_with fail
    refine (Tryd.unquote_any _ _ hqb (Tryd.Tabs_below hT hb3 (Nat.le_refl _))).mono ?_
    rw [hun.out]
    rintro e W4 ⟨rfl, b4⟩
    have hb4 := hb3.trans (b4.mono hb3.size)
    go_wp2_with fail
    refine (Tryd.quote_any _ _ (by omega)).mono ?_
    rw [HQ2.out]
    rintro e W5 ⟨rfl, b5⟩
    have hb5 := hb4.trans (b5.mono hb4.size)
    go_wp2_with fail
    refine (Tryd.unquote_any ByteArray.empty _ (by decide) (Tryd.Tabs_below hT hb5 (Nat.le_refl _))).mono ?_
    rw [Hcv0.out]
    rintro e W6 ⟨rfl, b6⟩
    have hb6 := hb5.trans (b6.mono hb5.size)
    go_wp2_with fail
    refine (Tryd.awake2_end hb6 hT).mono ?_
    rintro e W7 ⟨rfl, b7⟩
    go_wp2
    go_ret
    exact ⟨rfl, b7⟩

set_option maxHeartbeats 4000000 in
theorem Tryd.ends_main (s other behind : ByteArray) (cut : Int) (w : World) (h1 : s.size ≤ 3000) (h2 : other.size ≤ 3000) (h3 : behind.size ≤ 3000)
    (c1 : -9223372036854775808 ≤ cut) (c2 : cut ≤ 9223372036854775807) (hT : Tryd.Tabs w) (g1 : Lib.validD s.data.toList = true) (g2 : Lib.validD other.data.toList = true) :
    Calls Tryd.prog 4 #[.string s, .string other, .string behind, .int .i64 cut] w fun e w' => e = .returned (.bool true) ∧ Below w.heap.size w w' := by
  obtain ⟨Q, hQ⟩ : ∃ Q : ByteArray, (⟨(quote s.data.toList).toArray⟩ : ByteArray) = Q := ⟨_, rfl⟩
  obtain ⟨Q2, hQ2⟩ : ∃ Q : ByteArray, (⟨(quote other.data.toList).toArray⟩ : ByteArray) = Q := ⟨_, rfl⟩
  have hQl : Q.data.toList = quote s.data.toList := by rw [← hQ]
  have hQs : Q.size = (quote s.data.toList).length := by rw [Lib.size_eq, hQl]
  have hQ6 : Q.size ≤ 18002 := by have := quote_len s.data.toList; rw [← Lib.size_eq] at this; omega
  have hQ2' : 2 ≤ Q.size := by rw [hQs]; simp [quote]
  have hun : Hid (ansV (unq (Q ++ behind).data.toList) = .tuple #[.string s, .int .i64 Q.size, .int .i64 0]) := by
    have e : (Q ++ behind).data.toList = quote s.data.toList ++ behind.data.toList := by rw [ByteArray.data_append, Array.toList_append, hQl]
    show _ = _
    rw [e, unq_quote, (valid_iff _).1 g1, hQs]
    show Value.tuple #[.string ⟨s.data.toList.toArray⟩, _, _] = _
    rw [Lib.mk_data]
  have hcutv : ∀ c : Nat, c < Q.size → ansV (unq (Q.extract 0 c).data.toList) = .tuple #[.string ⟨#[]⟩, .int .i64 0, .int .i64 4] := by
    intro c hc
    rw [Lib.extract_data, hQl, List.drop_zero, Nat.sub_zero, unq_quote_cut _ c (by rw [← hQs]; exact hc)]
    rfl
  have Hcutv := Lib.hid hcutv
  have HQ := Lib.hid hQ
  have HQ2 := Lib.hid hQ2
  have heq : (Q2 = Q) ↔ (other = s) := by
    rw [← hQ, ← hQ2]
    constructor
    · intro h
      have h' : (quote other.data.toList).toArray = (quote s.data.toList).toArray := congrArg ByteArray.data h
      have h'' : quote other.data.toList = quote s.data.toList := by have := congrArg Array.toList h'; simpa using this
      have h4 := (quote_inj _ _ g2 g1).1 h''
      apply ByteArray.ext
      rw [← Array.toArray_toList (xs := other.data), h4, Array.toArray_toList]
    · intro h; rw [h]
  have e1 : (Q2.toList == Q.toList) = decide (other = s) := by
    rw [Lib.toList_data, Lib.toList_data, Bool.eq_iff_iff, beq_iff_eq, decide_eq_true_eq, ← heq]
    constructor
    · intro h; apply ByteArray.ext; rw [← Array.toArray_toList (xs := Q2.data), h, Array.toArray_toList]
    · intro h; rw [h]
  have e2 : (other.toList == s.toList) = decide (other = s) := by
    rw [Lib.toList_data, Lib.toList_data, Bool.eq_iff_iff, beq_iff_eq, decide_eq_true_eq]
    constructor
    · intro h; apply ByteArray.ext; rw [← Array.toArray_toList (xs := other.data), h, Array.toArray_toList]
    · intro h; rw [h]
  obtain ⟨bb, hbb⟩ : ∃ b, decide (other = s) = b := ⟨_, rfl⟩
  rw [hbb] at e1 e2
  have G1 := Lib.hid g1
  have G2 := Lib.hid g2
  have f1 : ¬ 3000 < s.size := by omega
  have f2 : ¬ 3000 < other.size := by omega
  have f3 : ¬ 3000 < behind.size := by omega
  have f4 : ¬ Q.size < 2 := by omega
  have hqb : (Q ++ behind).size ≤ 35184372088832 := by rw [ByteArray.size_append]; omega
  clear hcutv hQ hQ2 hQl hQs heq hbb g1 g2
  by_cases hc0 : 0 ≤ cut
  · obtain ⟨c', hc'⟩ : ∃ c : Nat, cut % (Q.size : Int) = (c : Int) := ⟨(cut % (Q.size : Int)).toNat, (Int.toNat_of_nonneg (Int.emod_nonneg _ (by omega))).symm⟩
    have hclt : c' < Q.size := by have := Int.emod_lt_of_pos cut (b := (Q.size : Int)) (by omega); omega
    exact Tryd.ends_c1 s other behind Q Q2 cut w bb c' h1 h2 h3 hT hQ6 hQ2' hun HQ HQ2 e1 e2 G1 G2 f1 f2 f3 f4 hqb (Lib.hid (Hcutv.out c' hclt)) hc0 hc' (by omega)
  · have hneg : cut < 0 := by omega
    obtain ⟨M, hM⟩ : ∃ M, cut.tmod (Q.size : Int) = M := ⟨_, rfl⟩
    have hMb : -(Q.size : Int) < M ∧ M ≤ 0 := by
      have h5 := Int.tmod_lt_of_pos (-cut) (b := (Q.size : Int)) (by omega)
      have h6 := Int.tmod_nonneg (a := -cut) (Q.size : Int) (by omega)
      rw [Int.neg_tmod] at h5 h6
      omega
    by_cases hM0 : M = 0
    · obtain ⟨c', hc'0⟩ : ∃ c : Nat, c = 0 := ⟨_, rfl⟩
      subst hM0
      exact Tryd.ends_c3 s other behind Q Q2 cut w bb c' h1 h2 h3 hT hQ6 hQ2' hun HQ HQ2 e1 e2 G1 G2 f1 f2 f3 f4 hqb (Lib.hid (Hcutv.out 0 (by omega))) hM
    · obtain ⟨c', hc'⟩ : ∃ c : Nat, M + (Q.size : Int) = (c : Int) := ⟨(M + Q.size).toNat, by omega⟩
      exact Tryd.ends_c2 s other behind Q Q2 cut w bb c' h1 h2 h3 hT hQ6 hQ2' hun HQ HQ2 e1 e2 G1 G2 f1 f2 f3 f4 hqb (Lib.hid (Hcutv.out c' (by omega))) M hM (by omega) hMb.1 hc' (by omega)

set_option maxHeartbeats 1000000 in
theorem Tryd.lettersEnds_any (s other behind : ByteArray) (cut : Int) (w : World) (h1 : s.size ≤ 9223372036854775807) (h2 : other.size ≤ 9223372036854775807) (h3 : behind.size ≤ 9223372036854775807)
    (c : -9223372036854775808 ≤ cut ∧ cut ≤ 9223372036854775807) (hT : Tryd.Tabs w) :
    Calls Tryd.prog 4 #[.string s, .string other, .string behind, .int .i64 cut] w fun e w' => e = .returned (.bool true) ∧ Below w.heap.size w w' := by
  by_cases a1 : s.size ≤ 3000
  · have f1 : ¬ 3000 < s.size := by omega
    by_cases a2 : other.size ≤ 3000
    · have f2 : ¬ 3000 < other.size := by omega
      by_cases a3 : behind.size ≤ 3000
      · have f3 : ¬ 3000 < behind.size := by omega
        cases g1 : Lib.validD s.data.toList with
        | false =>
          have G1 := Lib.hid g1
          clear g1
          go_enter Tryd.func4, Tryd.ntmps4
          go_wp2_with fail
          refine (Tryd.rgood_any _ _ (by omega)).mono ?_
          rw [G1.out]
          rintro e W1 ⟨rfl, b1⟩
          go_wp2_with fail
          refine (Tryd.awake2_end b1 hT).mono ?_
          rintro e W7 ⟨rfl, b7⟩
          go_wp2
          go_ret
          exact ⟨rfl, b7⟩
        | true =>
          cases g2 : Lib.validD other.data.toList with
          | false =>
            have G1 := Lib.hid g1
            have G2 := Lib.hid g2
            clear g1 g2
            go_enter Tryd.func4, Tryd.ntmps4
            go_wp2_with fail
            refine (Tryd.rgood_any _ _ (by omega)).mono ?_
            rw [G1.out]
            rintro e W1 ⟨rfl, b1⟩
            go_wp2_with fail
            refine (Tryd.rgood_any _ _ (by omega)).mono ?_
            rw [G2.out]
            rintro e W2 ⟨rfl, b2⟩
            have hb2 := b1.trans (b2.mono b1.size)
            go_wp2_with fail
            refine (Tryd.awake2_end hb2 hT).mono ?_
            rintro e W7 ⟨rfl, b7⟩
            go_wp2
            go_ret
            exact ⟨rfl, b7⟩
          | true => exact Tryd.ends_main s other behind cut w a1 a2 a3 c.1 c.2 hT g1 g2
      · have f3 : 3000 < behind.size := by omega
        go_enter Tryd.func4, Tryd.ntmps4
        go_wp2_with fail
        refine (Tryd.awake2_end (Below.refl _ _) hT).mono ?_
        rintro e W7 ⟨rfl, b7⟩
        go_wp2
        go_ret
        exact ⟨rfl, b7⟩
    · have f2 : 3000 < other.size := by omega
      go_enter Tryd.func4, Tryd.ntmps4
      go_wp2_with fail
      refine (Tryd.awake2_end (Below.refl _ _) hT).mono ?_
      rintro e W7 ⟨rfl, b7⟩
      go_wp2
      go_ret
      exact ⟨rfl, b7⟩
  · have f1 : 3000 < s.size := by omega
    go_enter Tryd.func4, Tryd.ntmps4
    go_wp2_with fail
    refine (Tryd.awake2_end (Below.refl _ _) hT).mono ?_
    rintro e W7 ⟨rfl, b7⟩
    go_wp2
    go_ret
    exact ⟨rfl, b7⟩
end Go.Proofs
