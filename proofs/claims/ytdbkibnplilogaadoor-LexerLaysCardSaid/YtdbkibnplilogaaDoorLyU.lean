/-
  Plain: lines of one name each, behind so many blanks.
-/
import Derived.Test.YtdbkibnplilogaaDoorLyA
set_option linter.unusedVariables false
namespace Go.Lx
open Go.Lib Go.Lt

def blockSrc : List Nat → List UInt8
  | [] => []
  | n :: r => List.replicate n 32 ++ 97 :: 10 :: blockSrc r
/-- What such lines leave: the tokens, the depths. -/
def blocks : List Nat → Nat → List Tok → List Nat → Res (List Tok × List Nat)
  | [], _, t, d => .ok (t, d)
  | n :: r, p, t, d =>
    match indent n ⟨p + n, t, 0, d⟩ with
    | .error e => .error e
    | .ok st1 => blocks r (p + n + 2) (st1.toks ++ [⟨1, [97], p + n⟩, ⟨6, [], p + n + 1⟩]) st1.deep
theorem blanks_of (n : Nat) (l : List UInt8) (h : blanksOf l = 0) : blanksOf (List.replicate n 32 ++ l) = n := by
  induction n with
  | zero => simpa using h
  | succ n ih => rw [List.replicate_succ, List.cons_append, blanksOf_blank, ih]; omega
theorem token_a (r : List UInt8) (st : St) : token (97 :: 10 :: r) st = .ok { st with pos := st.pos + 1, toks := st.toks ++ [⟨1, [97], st.pos⟩] } := by
  have h1 : runOf (97 :: 10 :: r) = [97] := by
    rw [runOf_yes _ _ (by decide), runOf_no _ _ (by decide)]
  unfold token
  simp only
  rw [if_pos (by decide), h1, show isWord [97] = false by decide]
  rfl
theorem goes_blocks (src : List UInt8) : ∀ (bl : List Nat) (p : Nat) (t : List Tok) (d : List Nat), src.drop p = blockSrc bl →
    goes src ⟨p, t, 0, d⟩ true 0 = match blocks bl p t d with | .error e => .error e | .ok td => .ok (finish src.length ⟨src.length, td.1, 0, td.2⟩) := by
  intro bl
  induction bl with
  | nil =>
    intro p t d h
    have hp : src.length ≤ p := by
      have := congrArg List.length h
      rw [List.length_drop] at this
      simp only [blockSrc, List.length_nil] at this; omega
    rw [goes_end _ _ _ _ hp]
    rfl
  | cons n r ih =>
    intro p t d h
    have hb : blanksOf (src.drop p) = n := by
      rw [h]; exact blanks_of n _ (blanksOf_other _ _ (by decide))
    have hd : src.drop (p + n) = 97 :: 10 :: blockSrc r := by
      rw [← List.drop_drop, h]
      show (List.replicate n 32 ++ 97 :: 10 :: blockSrc r).drop n = _
      rw [List.drop_append_of_le_length (by simp), List.drop_eq_nil_of_le (by simp)]
      rfl
    have hd1 : src.drop (p + n + 1) = 10 :: blockSrc r := by rw [← List.drop_drop, hd]; rfl
    have hd2 : src.drop (p + n + 2) = blockSrc r := by rw [show p + n + 2 = p + n + 1 + 1 by omega, ← List.drop_drop, hd1]; rfl
    have e1 := goes_blanks src true n ⟨p, t, 0, d⟩ 0 hb
    rw [e1, Nat.zero_add, goes_indent src ⟨p + n, t, 0, d⟩ n 97 (10 :: blockSrc r) (by decide) (by decide) (by decide) hd]
    unfold blocks
    cases hi : indent n ⟨p + n, t, 0, d⟩ with
    | error e => rfl
    | ok st1 =>
      obtain ⟨h1, h2⟩ := indent_pos hi
      have h1 : st1.pos = p + n := h1
      have h2 : st1.opn = 0 := h2
      simp only
      rw [goes_token src st1 0 97 (10 :: blockSrc r) (by decide) (by decide) (by decide) (by rw [h1]; exact hd), token_a]
      simp only
      rw [goes_newline src _ 0 (blockSrc r) (by exact h2) (by show src.drop (st1.pos + 1) = _; rw [h1]; exact hd1)]
      have e2 : ({ st1 with pos := st1.pos + 1 + 1, toks := (st1.toks ++ [⟨1, [97], st1.pos⟩]) ++ [⟨6, [], st1.pos + 1⟩] } : St) = ⟨p + n + 2, st1.toks ++ [⟨1, [97], p + n⟩, ⟨6, [], p + n + 1⟩], 0, st1.deep⟩ := by
        rw [h1, h2, List.append_assoc]; rfl
      rw [show ({ ({ st1 with pos := st1.pos + 1, toks := st1.toks ++ [⟨1, [97], st1.pos⟩] } : St) with pos := st1.pos + 1 + 1, toks := (st1.toks ++ [⟨1, [97], st1.pos⟩]) ++ [⟨6, [], st1.pos + 1⟩] } : St) = ⟨p + n + 2, st1.toks ++ [⟨1, [97], p + n⟩, ⟨6, [], p + n + 1⟩], 0, st1.deep⟩ from e2]
      exact ih _ _ _ hd2

/-- Such lines, whole. -/
theorem lex_blocks (bl : List Nat) (h : (blockSrc bl).length ≤ 65536) :
    lex (blockSrc bl) = match blocks bl 0 [] [0] with | .error e => .error e | .ok td => .ok (finish (blockSrc bl).length ⟨(blockSrc bl).length, td.1, 0, td.2⟩) := by
  unfold lex
  rw [if_neg (by omega)]
  exact goes_blocks (blockSrc bl) bl 0 [] [0] rfl
/-- Behind the lines stands a Newline, or nothing: the source's end adds none. -/
theorem blocks_last : ∀ (bl : List Nat) (p : Nat) (t : List Tok) (d : List Nat) (td : List Tok × List Nat), blocks bl p t d = .ok td → (t = [] ∨ ∃ ts q, t = ts ++ [⟨6, [], q⟩]) → (td.1 = [] ∨ ∃ ts q, td.1 = ts ++ [⟨6, [], q⟩]) := by
  intro bl
  induction bl with
  | nil => intro p t d td h ht; cases h; exact ht
  | cons n r ih =>
    intro p t d td h ht
    unfold blocks at h
    split at h
    · cases h
    · rename_i st1 hi
      exact ih _ _ _ _ h (.inr ⟨st1.toks ++ [⟨1, [97], p + n⟩], p + n + 1, by rw [List.append_assoc]; rfl⟩)
theorem lex_blocks_ok (bl : List Nat) (h : (blockSrc bl).length ≤ 65536) (td : List Tok × List Nat) (hb : blocks bl 0 [] [0] = .ok td) :
    lex (blockSrc bl) = .ok (td.1 ++ List.replicate (td.2.length - 1) ⟨8, [], (blockSrc bl).length⟩ ++ [⟨9, [], (blockSrc bl).length⟩]) := by
  rw [lex_blocks bl h, hb]
  simp only
  rcases blocks_last bl 0 [] [0] td hb (.inl rfl) with h1 | ⟨ts, q, h1⟩
  · exact congrArg Except.ok (Go.Proofs.finish_none _ ⟨(blockSrc bl).length, td.1, 0, td.2⟩ h1)
  · exact congrArg Except.ok (Go.Proofs.finish_keep _ ⟨(blockSrc bl).length, td.1, 0, td.2⟩ ts ⟨6, [], q⟩ h1 (by simp))
end Go.Lx
