/-
  Plain: blanks and remarks for the machine.
-/
import Derived.Test.YtdbkibnplilogaaDoorLxR
set_option linter.unusedVariables false
namespace Go.Lx
open Go.Lib Go.Lt

theorem goes_blanks (src : List UInt8) (head : Bool) : ∀ (k : Nat) (st : St) (bl : Nat), ((src.drop st.pos).takeWhile (· == 32)).length = k → goes src st head bl = goes src { st with pos := st.pos + k } head (bl + k) := by
  intro k
  induction k with
  | zero => intro st bl _; rfl
  | succ k ih =>
    intro st bl hk
    cases hd : src.drop st.pos with
    | nil => rw [hd] at hk; simp at hk
    | cons c t =>
      rw [hd, List.takeWhile_cons] at hk
      by_cases h : c = 32
      · subst h
        rw [goes_step src st head bl 32 t hd, if_neg (by decide), if_pos rfl]
        have ht : src.drop (st.pos + 1) = t := by rw [← List.drop_drop, hd]; rfl
        rw [if_pos (by rfl), List.length_cons] at hk
        rw [ih { st with pos := st.pos + 1 } (bl + 1) (by show ((src.drop (st.pos + 1)).takeWhile _).length = k; rw [ht]; omega)]
        show goes src { st with pos := st.pos + 1 + k } head (bl + 1 + k) = _
        rw [show st.pos + 1 + k = st.pos + (k + 1) by omega, show bl + 1 + k = bl + (k + 1) by omega]
      · rw [if_neg (by simpa using h)] at hk; simp at hk

theorem goes_remark (src : List UInt8) (st : St) (head : Bool) (bl : Nat) (t : List UInt8) (hd : src.drop st.pos = 35 :: t) :
    goes src st head bl = goes src { st with pos := st.pos + remark (35 :: t) } head bl := by rw [goes_step src st head bl 35 t hd, if_pos rfl]

/-- past, for the machine. -/
theorem goes_past (src : List UInt8) (st : St) (head : Bool) (bl : Nat) : ∃ bl', goes src st head bl = goes src { st with pos := st.pos + pastOf (src.drop st.pos) } head bl' := by
  obtain ⟨k, hk⟩ : ∃ k, ((src.drop st.pos).takeWhile (· == 32)).length = k := ⟨_, rfl⟩
  rw [goes_blanks src head k st bl hk]
  unfold pastOf
  rw [hk, List.drop_drop]
  cases hd : src.drop (st.pos + k) with
  | nil => exact ⟨bl + k, rfl⟩
  | cons c t =>
    by_cases h : c = 35
    · subst h
      refine ⟨bl + k, ?_⟩
      rw [goes_remark src { st with pos := st.pos + k } head (bl + k) t hd]
      simp [Nat.add_assoc]
    · refine ⟨bl + k, ?_⟩
      simp [h]

/-- Behind a line's first token the blanks make no difference. -/
theorem go_bl (src : List UInt8) : ∀ (f : Nat) (st : St) (bl bl' : Nat), go src f st false bl = go src f st false bl' := by
  intro f
  induction f with
  | zero => intro st bl bl'; rfl
  | succ f ih =>
    intro st bl bl'
    unfold go
    cases hd : src.drop st.pos with
    | nil => rfl
    | cons c t =>
      simp only
      by_cases h35 : c = 35
      · rw [if_pos h35, if_pos h35]; exact ih _ _ _
      rw [if_neg h35, if_neg h35]
      by_cases h32 : c = 32
      · rw [if_pos h32, if_pos h32]; exact ih _ _ _
      rw [if_neg h32, if_neg h32]
      by_cases h10 : c = 10
      · rw [if_pos h10, if_pos h10]
      rw [if_neg h10, if_neg h10]
      simp only [Bool.false_eq_true, if_false]
      cases ht : token (c :: t) st with
      | error e => rfl
      | ok st2 => exact ih _ _ _
theorem goes_bl (src : List UInt8) (st : St) (bl bl' : Nat) : goes src st false bl = goes src st false bl' := go_bl src _ st bl bl'
end Go.Lx
