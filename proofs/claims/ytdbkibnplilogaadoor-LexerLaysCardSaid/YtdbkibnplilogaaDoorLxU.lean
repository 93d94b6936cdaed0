/-
  Plain: what the walk of all carries.
-/
import Derived.Test.YtdbkibnplilogaaDoorLxS
set_option linter.unusedVariables false
namespace Go.Lx
open Go.Lib Go.Lt

theorem pops_sum (n a : Nat) : ∀ (d : List Nat) (t : List Tok), (pops n a d t).1.length + (pops n a d t).2.length = d.length + t.length := by
  intro d
  induction d with
  | nil => intro t; unfold pops; simp
  | cons x r ih =>
    intro t
    unfold pops
    split
    · rw [ih]; simp; omega
    · rfl
theorem pops_last (n a : Nat) : ∀ (d : List Nat) (t : List Tok), d.getLast? = some 0 → (pops n a d t).1.getLast? = some 0 := by
  intro d
  induction d with
  | nil => intro t h; cases h
  | cons x r ih =>
    intro t h
    unfold pops
    split
    · rename_i hx
      cases r with
      | nil => simp at h; omega
      | cons y r2 => rw [List.getLast?_cons_cons] at h; exact ih _ h
    · exact h

theorem indent_ok {n : Nat} {st st1 : St} (h : indent n st = .ok st1) (hb : st.deep.getLast? = some 0) : st1.deep.getLast? = some 0 ∧ st1.toks.length + st1.deep.length ≤ st.toks.length + st.deep.length + 2 := by
  unfold indent at h
  split at h
  · split at h
    · cases h
    · cases h
      refine ⟨?_, by simp; omega⟩
      show (n :: st.deep).getLast? = some 0
      cases hd : st.deep with
      | nil => rw [hd] at hb; cases hb
      | cons y r2 => rw [List.getLast?_cons_cons, ← hd]; exact hb
  · simp only at h
    split at h
    · cases h
      refine ⟨pops_last _ _ _ _ hb, ?_⟩
      have := pops_sum n st.pos st.deep st.toks
      show (pops n st.pos st.deep st.toks).2.length + (pops n st.pos st.deep st.toks).1.length ≤ _
      omega
    · cases h

theorem remark_next : ∀ (l : List UInt8) (c : UInt8) (t : List UInt8), l.drop (remark l) = c :: t → c = 10 := by
  intro l
  induction l with
  | nil => intro c t h; cases h
  | cons a l ih =>
    intro c t h
    rw [remark_cons] at h
    by_cases ha : a = 10
    · rw [if_pos ha, List.drop_zero] at h
      cases h; exact ha
    · rw [if_neg ha, Nat.add_comm, List.drop_succ_cons] at h
      exact ih _ _ h
theorem past_next : ∀ (l : List UInt8) (c : UInt8) (t : List UInt8), l.drop (pastOf l) = c :: t → c ≠ 32 ∧ c ≠ 35 := by
  intro l
  induction l with
  | nil => intro c t h; cases h
  | cons a l ih =>
    intro c t h
    by_cases h32 : a = 32
    · subst h32
      rw [pastOf_blank, Nat.add_comm, List.drop_succ_cons] at h
      exact ih _ _ h
    by_cases h35 : a = 35
    · subst h35
      rw [pastOf_remark] at h
      have := remark_next _ _ _ h
      subst this
      exact ⟨by decide, by decide⟩
    · rw [pastOf_other _ _ h32 h35, List.drop_zero] at h
      cases h
      exact ⟨h32, h35⟩
theorem pastOf_le : ∀ (l : List UInt8), pastOf l ≤ l.length := by
  intro l
  induction l with
  | nil => exact Nat.le_refl _
  | cons a l ih =>
    by_cases h32 : a = 32
    · subst h32; rw [pastOf_blank, List.length_cons]; omega
    by_cases h35 : a = 35
    · subst h35; rw [pastOf_remark]; exact remark_le _
    · rw [pastOf_other _ _ h32 h35]; omega
def blanksOf (l : List UInt8) : Nat := (l.takeWhile (· == 32)).length
theorem blanks_next : ∀ (l : List UInt8) (c : UInt8) (t : List UInt8), l.drop (blanksOf l) = c :: t → c ≠ 32 := by
  intro l
  induction l with
  | nil => intro c t h; cases h
  | cons a l ih =>
    intro c t h
    unfold blanksOf at h
    rw [List.takeWhile_cons] at h
    by_cases ha : a = 32
    · rw [if_pos (by simpa using ha), List.length_cons, List.drop_succ_cons] at h
      exact ih _ _ h
    · rw [if_neg (by simpa using ha)] at h
      cases h
      exact ha
theorem blanksOf_le (l : List UInt8) : blanksOf l ≤ l.length := List.Sublist.length_le (List.takeWhile_sublist _)
theorem blanksOf_blank (l : List UInt8) : blanksOf (32 :: l) = 1 + blanksOf l := by
  unfold blanksOf; rw [List.takeWhile_cons, if_pos (by rfl), List.length_cons]; omega
theorem blanksOf_other (c : UInt8) (l : List UInt8) (h : c ≠ 32) : blanksOf (c :: l) = 0 := by
  unfold blanksOf; rw [List.takeWhile_cons, if_neg (by simpa using h)]; rfl

/-- A line's beginning: its blanks, a remark. -/
theorem goes_line (src : List UInt8) (st : St) (p q : Nat) (hp : st.pos + blanksOf (src.drop st.pos) = p) (hq : p + pastOf (src.drop p) = q) :
    goes src st true 0 = goes src { st with pos := q } true (p - st.pos) := by
  rw [goes_blanks src true (blanksOf (src.drop st.pos)) st 0 rfl]
  rw [show ({ st with pos := st.pos + blanksOf (src.drop st.pos) } : St) = { st with pos := p } by rw [hp], show 0 + blanksOf (src.drop st.pos) = p - st.pos by omega]
  cases hd : src.drop p with
  | nil => rw [hd] at hq; rw [show q = p from by rw [← hq]; rfl]
  | cons c t =>
    have h32 : c ≠ 32 := blanks_next (src.drop st.pos) c t (by rw [List.drop_drop, hp]; exact hd)
    rw [hd] at hq
    by_cases h35 : c = 35
    · subst h35
      rw [goes_remark src { st with pos := p } true _ t hd]
      rw [pastOf_remark] at hq
      show goes src { st with pos := p + _ } true _ = _
      rw [hq]
    · rw [pastOf_other _ _ h32 h35] at hq
      rw [show q = p by omega]

/-- Behind past no blank and no remark stands. -/
theorem goes_over (src : List UInt8) (st : St) (bl : Nat) (t : List UInt8) (ho : st.opn = 0) (hd : src.drop st.pos = 10 :: t) : goes src st true bl = goes src { st with pos := st.pos + 1 } true 0 := by
  rw [goes_step src st true bl 10 t hd, if_neg (by decide), if_neg (by decide), if_pos rfl]
  simp
theorem goes_newline (src : List UInt8) (st : St) (bl : Nat) (t : List UInt8) (ho : st.opn = 0) (hd : src.drop st.pos = 10 :: t) : goes src st false bl = goes src { st with pos := st.pos + 1, toks := st.toks ++ [⟨6, [], st.pos⟩] } true 0 := by
  rw [goes_step src st false bl 10 t hd, if_neg (by decide), if_neg (by decide), if_pos rfl]
  simp [ho]
theorem goes_inside (src : List UInt8) (st : St) (bl : Nat) (t : List UInt8) (ho : st.opn ≠ 0) (hd : src.drop st.pos = 10 :: t) : goes src st false bl = goes src { st with pos := st.pos + 1 } false 0 := by
  rw [goes_step src st false bl 10 t hd, if_neg (by decide), if_neg (by decide), if_pos rfl]
  simp [ho]
theorem goes_token (src : List UInt8) (st : St) (bl : Nat) (c : UInt8) (t : List UInt8) (h1 : c ≠ 35) (h2 : c ≠ 32) (h3 : c ≠ 10) (hd : src.drop st.pos = c :: t) :
    goes src st false bl = match token (c :: t) st with | .error e => .error e | .ok st2 => goes src st2 false 0 := by
  rw [goes_step src st false bl c t hd, if_neg h1, if_neg h2, if_neg h3]
  simp only [Bool.false_eq_true, if_false]
  cases token (c :: t) st with
  | error e => rfl
  | ok st2 => exact goes_bl _ _ _ _
theorem goes_indent (src : List UInt8) (st : St) (bl : Nat) (c : UInt8) (t : List UInt8) (h1 : c ≠ 35) (h2 : c ≠ 32) (h3 : c ≠ 10) (hd : src.drop st.pos = c :: t) :
    goes src st true bl = match indent bl st with | .error e => .error e | .ok st1 => goes src st1 false 0 := by
  rw [goes_step src st true bl c t hd, if_neg h1, if_neg h2, if_neg h3]
  simp only [if_true]
  cases hi : indent bl st with
  | error e => rfl
  | ok st1 =>
    have hp := (indent_pos hi).1
    simp only
    rw [goes_token src st1 0 c t h1 h2 h3 (by rw [hp]; exact hd)]
    cases token (c :: t) st1 with
    | error e => rfl
    | ok st2 => exact goes_bl _ _ _ _
end Go.Lx
