/-
  Plain: the machine's steps, free of fuel.
-/
import Derived.Test.YtdbkibnplilogaaDoorLxL
set_option linter.unusedVariables false
namespace Go.Lx
open Go.Lib Go.Lt

theorem indent_pos {n : Nat} {st st1 : St} (h : indent n st = .ok st1) : st1.pos = st.pos ∧ st1.opn = st.opn := by
  unfold indent at h
  split at h
  · split at h
    · cases h
    · cases h; exact ⟨rfl, rfl⟩
  · simp only at h
    split at h
    · cases h; exact ⟨rfl, rfl⟩
    · cases h

theorem token_pos {c : UInt8} {t : List UInt8} {st st1 : St} (h : token (c :: t) st = .ok st1) : st.pos < st1.pos ∧ st1.pos ≤ st.pos + (c :: t).length ∧ st1.deep = st.deep ∧ st1.toks.length = st.toks.length + 1 ∧ (st.opn ≤ 60 → st1.opn ≤ 60) := by
  have hrl : (runOf (c :: t)).length ≤ (c :: t).length := List.Sublist.length_le (List.takeWhile_sublist _)
  unfold token at h
  simp only at h
  split at h
  · rename_i hl
    have : 0 < (runOf (c :: t)).length := by rw [runOf_yes _ _ (by unfold isRun; rw [hl]; rfl)]; simp
    cases h
    exact ⟨by show st.pos < st.pos + _; omega, by show st.pos + _ ≤ _; omega, rfl, by simp, fun h => h⟩
  split at h
  · rename_i hl
    have : 0 < (runOf (c :: t)).length := by rw [runOf_yes _ _ (by unfold isRun; rw [hl]; simp)]; simp
    split at h
    · cases h
      exact ⟨by show st.pos < st.pos + _; omega, by show st.pos + _ ≤ _; omega, rfl, by simp, fun h => h⟩
    · cases h
  split at h
  · split at h
    · rename_i x n hu
      have := unq_bound hu
      cases h
      exact ⟨by show st.pos < st.pos + _; omega, by show st.pos + _ ≤ _; omega, rfl, by simp, fun h => h⟩
    · cases h
  obtain ⟨S, hS⟩ : ∃ S, signOf (c :: t) = S := ⟨_, rfl⟩
  have hSl := Go.Proofs.signOf_le (c :: t)
  rw [hS] at h hSl
  split at h
  · cases h
  · rename_i hne
    have : 0 < S.length := List.length_pos_iff.2 hne
    split at h
    · split at h
      · cases h
      · cases h
        exact ⟨by show st.pos < st.pos + _; omega, by show st.pos + _ ≤ _; omega, rfl, by simp, fun h => by show st.opn + 1 ≤ 60; omega⟩
    · split at h
      · cases h
        exact ⟨by show st.pos < st.pos + _; omega, by show st.pos + _ ≤ _; omega, rfl, by simp, fun h => by show st.opn - 1 ≤ 60; omega⟩
      · cases h
        exact ⟨by show st.pos < st.pos + _; omega, by show st.pos + _ ≤ _; omega, rfl, by simp, fun h => h⟩

theorem remark_pos (t : List UInt8) : 1 ≤ remark (35 :: t) := by rw [remark_cons, if_neg (by decide)]; omega

theorem go_end (src : List UInt8) (f : Nat) (st : St) (head : Bool) (bl : Nat) (h : src.length ≤ st.pos) : go src f st head bl = .ok (finish src.length st) := by
  cases f with
  | zero => rfl
  | succ f => unfold go; rw [List.drop_eq_nil_of_le h]

theorem go_fuel (src : List UInt8) : ∀ (f g : Nat) (st : St) (head : Bool) (bl : Nat), src.length < f + st.pos → src.length < g + st.pos → go src f st head bl = go src g st head bl := by
  intro f
  induction f with
  | zero => intro g st head bl h1 h2; rw [go_end _ _ _ _ _ (by omega), go_end _ _ _ _ _ (by omega)]
  | succ f ih =>
    intro g st head bl h1 h2
    cases g with
    | zero => rw [go_end _ _ _ _ _ (by omega), go_end _ _ _ _ _ (by omega)]
    | succ g =>
      unfold go
      cases hd : src.drop st.pos with
      | nil => rfl
      | cons c t =>
        simp only
        by_cases h35 : c = 35
        · rw [if_pos h35, if_pos h35]
          subst h35
          have := remark_pos t
          exact ih _ _ _ _ (by show _ < f + (st.pos + _); omega) (by show _ < g + (st.pos + _); omega)
        rw [if_neg h35, if_neg h35]
        by_cases h32 : c = 32
        · rw [if_pos h32, if_pos h32]
          exact ih _ _ _ _ (by show _ < f + (st.pos + 1); omega) (by show _ < g + (st.pos + 1); omega)
        rw [if_neg h32, if_neg h32]
        by_cases h10 : c = 10
        · rw [if_pos h10, if_pos h10]
          exact ih _ _ _ _ (by show _ < f + (st.pos + 1); omega) (by show _ < g + (st.pos + 1); omega)
        rw [if_neg h10, if_neg h10]
        have hpos : ∀ st1, (if head then indent bl st else .ok st) = Except.ok st1 → st1.pos = st.pos := by
          intro st1 h
          cases head with
          | true => exact (indent_pos h).1
          | false => cases h; rfl
        cases hi : (if head then indent bl st else Except.ok st) with
        | error e => rfl
        | ok st1 =>
          have hp1 := hpos st1 hi
          simp only
          cases ht : token (c :: t) st1 with
          | error e => rfl
          | ok st2 =>
            have := (token_pos ht).1
            exact ih _ _ _ _ (by omega) (by omega)

/-- The machine, free of fuel. -/
def goes (src : List UInt8) (st : St) (head : Bool) (bl : Nat) : Res (List Tok) := go src (src.length + 1) st head bl
theorem goes_end (src : List UInt8) (st : St) (head : Bool) (bl : Nat) (h : src.length ≤ st.pos) : goes src st head bl = .ok (finish src.length st) := go_end _ _ _ _ _ h
theorem goes_step (src : List UInt8) (st : St) (head : Bool) (bl : Nat) (c : UInt8) (t : List UInt8) (hd : src.drop st.pos = c :: t) :
    goes src st head bl =
      if c = 35 then goes src { st with pos := st.pos + remark (c :: t) } head bl
      else if c = 32 then goes src { st with pos := st.pos + 1 } head (bl + 1)
      else if c = 10 then goes src { st with pos := st.pos + 1, toks := if st.opn = 0 ∧ head = false then st.toks ++ [⟨6, [], st.pos⟩] else st.toks } (head || decide (st.opn = 0)) 0
      else match (if head then indent bl st else .ok st) with
        | .error e => .error e
        | .ok st1 => match token (c :: t) st1 with
          | .error e => .error e
          | .ok st2 => goes src st2 false bl := by
  have hp : st.pos < src.length := by
    rcases Nat.lt_or_ge st.pos src.length with h | h
    · exact h
    · rw [List.drop_eq_nil_of_le h] at hd; cases hd
  have key : ∀ (st' : St) (hb : Bool) (b' : Nat), st.pos < st'.pos → go src src.length st' hb b' = goes src st' hb b' := fun st' hb b' h => go_fuel src _ _ _ _ _ (by omega) (by omega)
  unfold goes
  rw [go, hd]
  simp only
  by_cases h35 : c = 35
  · rw [if_pos h35, if_pos h35]
    subst h35
    have := remark_pos t
    exact key _ _ _ (by show st.pos < st.pos + _; omega)
  rw [if_neg h35, if_neg h35]
  by_cases h32 : c = 32
  · rw [if_pos h32, if_pos h32]
    exact key _ _ _ (by show st.pos < st.pos + 1; omega)
  rw [if_neg h32, if_neg h32]
  by_cases h10 : c = 10
  · rw [if_pos h10, if_pos h10]
    exact key _ _ _ (by show st.pos < st.pos + 1; omega)
  rw [if_neg h10, if_neg h10]
  have hpos : ∀ st1, (if head then indent bl st else .ok st) = Except.ok st1 → st1.pos = st.pos := by
    intro st1 h
    cases head with
    | true => exact (indent_pos h).1
    | false => cases h; rfl
  cases hi : (if head then indent bl st else Except.ok st) with
  | error e => rfl
  | ok st1 =>
    have hp1 := hpos st1 hi
    simp only
    cases ht : token (c :: t) st1 with
    | error e => rfl
    | ok st2 =>
      have := (token_pos ht).1
      exact key _ _ _ (by omega)
end Go.Lx
