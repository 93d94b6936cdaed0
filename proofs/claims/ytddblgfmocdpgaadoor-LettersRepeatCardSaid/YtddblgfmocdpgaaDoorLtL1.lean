/-
  Unquote at every text, awake, and the law LettersUnquote, walked.
-/
import Derived.Test.YtddblgfmocdpgaaDoorLtR3
set_option linter.unusedVariables false
namespace Go.Proofs
open Go.RowKit Go.Lt

theorem unq_head (s : ByteArray) (h : 0 < s.size) : unq s.data.toList = if s[0].toNat = 39 ∨ s[0].toNat = 34 then unqGo s[0] (s.data.toList.drop 1) [] 1 else none := by
  have hd := drop_cons s 0 h
  rw [List.drop_zero] at hd
  rw [hd]
  rfl

set_option maxHeartbeats 1000000 in
theorem Tryd.unquote_any (s : ByteArray) (w : World) (hs : s.size ≤ 35184372088832) (hT : Tryd.Tabs w) :
    Calls Tryd.prog 10 #[.string s] w fun e w' => e = .returned (ansV (unq s.data.toList)) ∧ Below w.heap.size w w' := by
  by_cases h0 : 0 < s.size
  · rw [unq_head s h0]
    by_cases hq : s[0].toNat = 39 ∨ s[0].toNat = 34
    · rw [if_pos hq]
      exact Tryd.unquote_go s w hs hT h0 hq
    · rw [if_neg hq]
      have hemp := not_empty s h0
      have f1 : ((s[0].toNat : Int) != 39) = true := by rw [bne_iff_ne]; omega
      have f2 : ((s[0].toNat : Int) != 34) = true := by rw [bne_iff_ne]; omega
      clear hq
      go_enter Tryd.func10, Tryd.ntmps10
      go_wp2
      go_ret3
      exact ⟨rfl, Below.refl _ _⟩
  · have e : s = ByteArray.empty := by
      have : s.size = 0 := by omega
      simpa using this
    subst e
    go_enter Tryd.func10, Tryd.ntmps10
    go_wp2
    go_ret3
    exact ⟨rfl, Below.refl _ _⟩

set_option maxHeartbeats 1000000 in
theorem Tryd.runq_any (s : ByteArray) (w : World) (hs : s.size ≤ 8796093022208) :
    Calls Tryd.prog 11 #[.string s] w fun e w' => e = .returned (ansV (unq s.data.toList)) ∧ Below w.heap.size w w' := by
  by_cases h0 : 0 < s.size
  · rw [unq_head s h0]
    by_cases hq : s[0].toNat = 39 ∨ s[0].toNat = 34
    · rw [if_pos hq]
      exact Tryd.runq_go s w hs h0 hq
    · rw [if_neg hq]
      have hemp := not_empty s h0
      have f1 : ((s[0].toNat : Int) != 39) = true := by rw [bne_iff_ne]; omega
      have f2 : ((s[0].toNat : Int) != 34) = true := by rw [bne_iff_ne]; omega
      clear hq
      go_enter Tryd.func11, Tryd.ntmps11
      go_wp2
      go_ret3
      exact ⟨rfl, Below.refl _ _⟩
  · have e : s = ByteArray.empty := by
      have : s.size = 0 := by omega
      simpa using this
    subst e
    go_enter Tryd.func11, Tryd.ntmps11
    go_wp2
    go_ret3
    exact ⟨rfl, Below.refl _ _⟩

theorem unq_awake : unq [39, 97, 92, 110, 39, 122] = some ([97, 10], 5) := by decide +kernel

set_option maxHeartbeats 1000000 in
theorem Tryd.awake2_any (w : World) (hT : Tryd.Tabs w) :
    Calls Tryd.prog 9 #[] w fun e w' => e = .returned (.bool true) ∧ Below w.heap.size w w' := by
  have hv : Hid (ansV (unq [39, 97, 92, 110, 39, 122]) = .tuple #[.string ⟨#[97, 10]⟩, .int .i64 (5 : Nat), .int .i64 0]) := by show _ = _; rw [unq_awake]; rfl
  go_enter Tryd.func9, Tryd.ntmps9
  go_wp2_with fail
  refine (Tryd.unquote_any _ _ (by decide) hT).mono ?_
  rw [hv.out]
  rintro e w' ⟨rfl, hb⟩
  go_wp2
  go_ret
  exact ⟨rfl, hb⟩

set_option maxHeartbeats 1000000 in
theorem Tryd.lettersUnquote_any (s : ByteArray) (w : World) (hs : s.size ≤ 9223372036854775807) (hT : Tryd.Tabs w) :
    Calls Tryd.prog 3 #[.string s] w fun e w' => e = .returned (.bool true) ∧ Below w.heap.size w w' := by
  by_cases h : s.size ≤ 3000
  · cases ho : unq s.data.toList with
    | none =>
      have hv : Hid (ansV (unq s.data.toList) = .tuple #[.string ⟨#[]⟩, .int .i64 0, .int .i64 4]) := by show _ = _; rw [ho]; rfl
      have f1 : ¬ 3000 < s.size := by omega
      clear ho
      go_enter Tryd.func3, Tryd.ntmps3
      go_wp2_with fail
      refine (Tryd.unquote_any _ _ (by omega) hT).mono ?_
      rw [hv.out]
      rintro e W1 ⟨rfl, b1⟩
      go_wp2_with fail
      refine (Tryd.runq_any _ _ (by omega)).mono ?_
      rw [hv.out]
      rintro e W2 ⟨rfl, b2⟩
      have hb := b1.trans (b2.mono b1.size)
      have hT2 := Tryd.Tabs_below hT hb (Nat.le_refl _)
      go_wp2_with fail
      refine (Tryd.awake2_any _ hT2).mono ?_
      rintro e W3 ⟨rfl, b3⟩
      go_wp2
      go_ret
      exact ⟨rfl, hb.trans (b3.mono hb.size)⟩
    | some xn =>
      obtain ⟨x, n⟩ := xn
      have hv : Hid (ansV (unq s.data.toList) = .tuple #[.string ⟨x.toArray⟩, .int .i64 n, .int .i64 0]) := by show _ = _; rw [ho]; rfl
      have f1 : ¬ 3000 < s.size := by omega
      clear ho
      go_enter Tryd.func3, Tryd.ntmps3
      go_wp2_with fail
      refine (Tryd.unquote_any _ _ (by omega) hT).mono ?_
      rw [hv.out]
      rintro e W1 ⟨rfl, b1⟩
      go_wp2_with fail
      refine (Tryd.runq_any _ _ (by omega)).mono ?_
      rw [hv.out]
      rintro e W2 ⟨rfl, b2⟩
      have hb := b1.trans (b2.mono b1.size)
      have hT2 := Tryd.Tabs_below hT hb (Nat.le_refl _)
      go_wp2_with fail
      refine (Tryd.awake2_any _ hT2).mono ?_
      rintro e W3 ⟨rfl, b3⟩
      go_wp2
      go_ret
      exact ⟨rfl, hb.trans (b3.mono hb.size)⟩
  · have f1 : 3000 < s.size := by omega
    go_enter Tryd.func3, Tryd.ntmps3
    go_wp2_with fail
    refine (Tryd.awake2_any _ hT).mono ?_
    rintro e W3 ⟨rfl, b3⟩
    go_wp2
    go_ret
    exact ⟨rfl, b3⟩
end Go.Proofs
