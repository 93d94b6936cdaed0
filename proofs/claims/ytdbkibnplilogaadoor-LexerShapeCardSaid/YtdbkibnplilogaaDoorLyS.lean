/-
  Plain: the shape of what a lexer answers.
-/
import Derived.Test.YtdbkibnplilogaaDoorLyA
set_option linter.unusedVariables false
namespace Go.Lx
open Go.Lib Go.Lt

def isText (k : Nat) : Prop := k = 1 ∨ k = 2 ∨ k = 3 ∨ k = 5
/-- A token by itself. -/
structure TokOk (src : List UInt8) (t : Tok) : Prop where
  at_le : t.at_ ≤ src.length
  kind_le : t.kind ≤ 9
  kind_ge : 1 ≤ t.kind
  bare : 6 ≤ t.kind → t.text = []
  text : isText t.kind → t.at_ + t.text.length ≤ src.length ∧ (src.drop t.at_).take t.text.length = t.text ∧ t.text ≠ []
  name : t.kind = 1 → isWord t.text = false
  word : t.kind = 2 → isWord t.text = true
/-- A token behind another. -/
def PairOk (p t : Tok) : Prop := p.at_ ≤ t.at_ ∧ (isText t.kind → p.at_ = t.at_ → p.kind = 7 ∨ p.kind = 8)
def step1 (t : Tok) : Int := if t.kind = 7 then 1 else if t.kind = 8 then -1 else 0
def depth : List Tok → Int
  | [] => 0
  | t :: l => step1 t + depth l
theorem depth_append (l m : List Tok) : depth (l ++ m) = depth l + depth m := by
  induction l with
  | nil => simp [depth]
  | cons t l ih => simp only [List.cons_append, depth, ih]; omega

structure Good (src : List UInt8) (l : List Tok) : Prop where
  one : ∀ t ∈ l, TokOk src t ∧ t.kind ≠ 9
  pair : ∀ i (h : i + 1 < l.length), PairOk (l[i]'(by omega)) l[i + 1]
  deep : ∀ i, 0 ≤ depth (l.take i)
theorem Good.nil (src : List UInt8) : Good src [] := ⟨(fun _ h => by cases h), (fun i h => by simp at h), fun i => by simp [depth]⟩
theorem take_snoc_le {α : Type} (l : List α) (t : α) (i : Nat) : (l ++ [t]).take i = l.take i ∨ (l ++ [t]).take i = l ++ [t] := by
  rcases Nat.lt_or_ge l.length i with h | h
  · right; exact List.take_of_length_le (by simp; omega)
  · left; rw [List.take_append_of_le_length h]
theorem pair_snoc {l : List Tok} {t : Tok} (hp : ∀ i (h : i + 1 < l.length), PairOk (l[i]'(by omega)) l[i + 1]) (h2 : ∀ p, l.getLast? = some p → PairOk p t) :
    ∀ i (h : i + 1 < (l ++ [t]).length), PairOk ((l ++ [t])[i]'(by omega)) (l ++ [t])[i + 1] := by
  intro i h
  rw [List.length_append] at h
  simp only [List.length_cons, List.length_nil] at h
  rcases Nat.lt_or_ge (i + 1) l.length with h3 | h3
  · rw [List.getElem_append_left (by omega), List.getElem_append_left h3]; exact hp i h3
  · have e : i + 1 = l.length := by omega
    rw [List.getElem_append_left (by omega), List.getElem_append_right h3]
    simp only [e, Nat.sub_self, List.getElem_cons_zero]
    refine h2 _ ?_
    rw [List.getLast?_eq_getElem?, show l.length - 1 = i by omega, List.getElem?_eq_getElem (by omega)]
theorem Good.snoc {src : List UInt8} {l : List Tok} {t : Tok} (h : Good src l) (h1 : TokOk src t) (h9 : t.kind ≠ 9) (h2 : ∀ p, l.getLast? = some p → PairOk p t) (h3 : 0 ≤ depth l + step1 t) : Good src (l ++ [t]) := by
  refine ⟨fun x hx => ?_, pair_snoc h.pair h2, fun i => ?_⟩
  · rcases List.mem_append.1 hx with hx | hx
    · exact h.one x hx
    · rw [List.mem_singleton] at hx; subst hx; exact ⟨h1, h9⟩
  · rcases take_snoc_le l t i with e | e
    · rw [e]; exact h.deep i
    · rw [e, depth_append]; simpa [depth] using h3

/-- What the machine keeps. -/
structure Keeps (src : List UInt8) (st : St) : Prop where
  good : Good src st.toks
  pos : st.pos ≤ src.length
  last : ∀ p, st.toks.getLast? = some p → p.at_ ≤ st.pos ∧ (p.at_ = st.pos → p.kind = 7 ∨ p.kind = 8)
  deep : depth st.toks + 1 = st.deep.length
  bot : st.deep.getLast? = some 0

theorem last_snoc {α : Type} (l : List α) (t : α) : (l ++ [t]).getLast? = some t := by simp
theorem bareOk {src : List UInt8} {k p : Nat} (hp : p ≤ src.length) (hk : 6 ≤ k ∧ k ≤ 9) : TokOk src ⟨k, [], p⟩ :=
  ⟨hp, hk.2, by show 1 ≤ k; omega, fun _ => rfl, fun h => by unfold isText at h; simp only at h; omega, fun h => by simp only at h; omega, fun h => by simp only at h; omega⟩
theorem barePair {p : Tok} {k q : Nat} (h : p.at_ ≤ q) (hk : 6 ≤ k) : PairOk p ⟨k, [], q⟩ := ⟨h, fun h => by unfold isText at h; simp only at h; omega⟩

theorem Keeps.pops {src : List UInt8} (n : Nat) : ∀ (d : List Nat) (st : St), Keeps src { st with deep := d } → Keeps src { st with toks := (pops n st.pos d st.toks).2, deep := (pops n st.pos d st.toks).1 } := by
  intro d
  induction d with
  | nil => intro st h; exact h
  | cons x r ih =>
    intro st h
    by_cases hx : n < x
    · rw [Go.Proofs.pops_yes _ _ _ _ _ hx]
      obtain ⟨y, r2, hr⟩ : ∃ y r2, r = y :: r2 := by
        cases r with
        | nil => have := h.bot; simp at this; omega
        | cons y r2 => exact ⟨y, r2, rfl⟩
      have hd := h.deep
      simp only [List.length_cons] at hd
      have := ih { st with toks := st.toks ++ [⟨8, [], st.pos⟩] } ⟨h.good.snoc (bareOk h.pos ⟨by omega, by omega⟩) (by simp) (fun p hp => barePair (h.last p hp).1 (by omega)) (by
          show 0 ≤ depth st.toks + -1
          rw [hr, List.length_cons] at hd; omega), h.pos, fun p hp => by
          rw [last_snoc] at hp
          cases hp
          exact ⟨Nat.le_refl _, fun _ => .inr rfl⟩, by
          show depth (st.toks ++ _) + 1 = (r.length : Int)
          rw [depth_append]; show depth st.toks + (-1 + 0) + 1 = _; omega, by
          have := h.bot
          simp only at this ⊢
          rw [hr] at this ⊢
          rw [List.getLast?_cons_cons] at this
          exact this⟩
      exact this
    · rw [Go.Proofs.pops_no _ _ _ _ _ hx]; exact h

theorem Keeps.indent {src : List UInt8} {n : Nat} {st st1 : St} (h : Keeps src st) (hi : indent n st = .ok st1) : Keeps src st1 := by
  unfold Lx.indent at hi
  split at hi
  · split at hi
    · cases hi
    · cases hi
      have hd := h.deep
      refine ⟨h.good.snoc (bareOk h.pos ⟨by omega, by omega⟩) (by simp) (fun p hp => barePair (h.last p hp).1 (by omega)) (by
          show 0 ≤ depth st.toks + 1
          have := h.good.deep st.toks.length
          rw [List.take_length] at this; omega), h.pos, fun p hp => by
          simp only at hp
          rw [last_snoc] at hp
          cases hp
          exact ⟨Nat.le_refl _, fun _ => .inl rfl⟩, by
          show depth (st.toks ++ _) + 1 = ((n :: st.deep).length : Int)
          rw [depth_append, List.length_cons]; show depth st.toks + (1 + 0) + 1 = _; omega, by
          have := h.bot
          simp only
          cases hh : st.deep with
          | nil => rw [hh] at this; cases this
          | cons y r => rw [List.getLast?_cons_cons, ← hh]; exact this⟩
  · simp only at hi
    split at hi
    · cases hi
      exact Keeps.pops n st.deep st h
    · cases hi

theorem textPair {p : Tok} {t : Tok} {q : Nat} (h : p.at_ ≤ q ∧ (p.at_ = q → p.kind = 7 ∨ p.kind = 8)) (ht : t.at_ = q) : PairOk p t := ⟨by rw [ht]; exact h.1, fun _ e => h.2 (by rw [e, ht])⟩
theorem Keeps.put {src : List UInt8} {st : St} {t : Tok} {q o : Nat} (h : Keeps src st) (ht : TokOk src t) (hk : t.kind ≤ 5) (hat : t.at_ = st.pos) (hq : st.pos < q) (hqn : q ≤ src.length) : Keeps src { st with pos := q, toks := st.toks ++ [t], opn := o } := by
  have h7 : step1 t = 0 := by unfold step1; rw [if_neg (by omega), if_neg (by omega)]
  refine ⟨h.good.snoc ht (by omega) (fun p hp => textPair (h.last p hp) hat) (by
      have := h.good.deep st.toks.length
      rw [List.take_length] at this; rw [h7]; omega), hqn, fun p hp => ?_, ?_, h.bot⟩
  · simp only at hp
    rw [last_snoc] at hp
    cases hp
    exact ⟨by show t.at_ ≤ q; omega, fun e => by have e : t.at_ = q := e; omega⟩
  · have := h.deep
    show depth (st.toks ++ [t]) + 1 = (st.deep.length : Int)
    rw [depth_append]; show depth st.toks + (step1 t + 0) + 1 = _; omega
theorem textOk {src : List UInt8} {k p : Nat} {x : List UInt8} (hx : x.isPrefixOf (src.drop p) = true) (hn : x ≠ []) (hk : k ≤ 5) (hk1 : 1 ≤ k) (hp : p ≤ src.length) (h1 : k = 1 → isWord x = false) (h2 : k = 2 → isWord x = true) : TokOk src ⟨k, x, p⟩ := by
  obtain ⟨e, hl⟩ := prefix_take hx
  rw [List.length_drop] at hl
  exact ⟨hp, by show k ≤ 9; omega, hk1, fun h => by have h : 6 ≤ k := h; omega, fun _ => ⟨by show p + x.length ≤ _; omega, e.symm, hn⟩, h1, h2⟩
theorem run_prefix (l : List UInt8) : (runOf l).isPrefixOf l = true := by rw [List.isPrefixOf_iff_prefix]; exact List.takeWhile_prefix _
theorem sign_prefix (l : List UInt8) : (signOf l).isPrefixOf l = true := by
  unfold signOf
  cases hf : signs.find? (·.isPrefixOf l) with
  | none => rfl
  | some y => exact List.find?_some (p := fun x : List UInt8 => x.isPrefixOf l) hf

theorem Keeps.token {src : List UInt8} {st st2 : St} {c : UInt8} {t : List UInt8} (h : Keeps src st) (hd : src.drop st.pos = c :: t) (hk : token (c :: t) st = .ok st2) : Keeps src st2 := by
  have hpos := token_pos hk
  have hln : (c :: t).length = src.length - st.pos := by rw [← hd, List.length_drop]
  rw [hln] at hpos
  have hpn : st.pos < src.length := by
    have : 0 < (c :: t).length := by simp
    omega
  have hq1 := hpos.1
  have hq2 := hpos.2.1
  have hq3 : st2.pos ≤ src.length := by omega
  have hrp := run_prefix (c :: t)
  have hsp := sign_prefix (c :: t)
  rw [← hd] at hrp hsp
  unfold Lx.token at hk
  simp only at hk
  split at hk
  · rename_i hl
    have hne : runOf (c :: t) ≠ [] := by rw [runOf_yes _ _ (by unfold isRun; rw [hl]; rfl)]; simp
    cases hk
    refine h.put (o := st.opn) (textOk (by rw [hd] at hrp ⊢; exact hrp) hne (by split <;> omega) (by split <;> omega) h.pos (fun e => ?_) (fun e => ?_)) (by show (if _ then 2 else 1) ≤ 5; split <;> omega) rfl hq1 hq3
    · cases hw : isWord (runOf (c :: t)) with
      | false => rfl
      | true => rw [hw] at e; simp at e
    · cases hw : isWord (runOf (c :: t)) with
      | true => rfl
      | false => rw [hw] at e; simp at e
  split at hk
  · rename_i hl
    have hne : runOf (c :: t) ≠ [] := by rw [runOf_yes _ _ (by unfold isRun; rw [hl]; simp)]; simp
    split at hk
    · cases hk
      exact h.put (o := st.opn) (textOk (by rw [hd] at hrp ⊢; exact hrp) hne (by omega) (by omega) h.pos (fun e => by omega) (fun e => by omega)) (by show 3 ≤ 5; omega) rfl hq1 hq3
    · cases hk
  split at hk
  · split at hk
    · rename_i x n hu
      cases hk
      exact h.put (o := st.opn) ⟨h.pos, by show 4 ≤ 9; omega, by show 1 ≤ 4; omega, fun e => by have e : 6 ≤ 4 := e; omega, fun e => by unfold isText at e; simp only at e; omega, fun e => by have e : 4 = 1 := e; omega, fun e => by have e : 4 = 2 := e; omega⟩ (by show 4 ≤ 5; omega) rfl hq1 hq3
    · cases hk
  · split at hk
    · cases hk
    · rename_i hne
      have hok : TokOk src ⟨5, signOf (c :: t), st.pos⟩ := textOk (by rw [hd] at hsp ⊢; exact hsp) hne (by omega) (by omega) h.pos (fun e => by omega) (fun e => by omega)
      split at hk
      · split at hk
        · cases hk
        · cases hk
          exact h.put hok (by show 5 ≤ 5; omega) rfl hq1 hq3
      · split at hk
        · cases hk
          exact h.put hok (by show 5 ≤ 5; omega) rfl hq1 hq3
        · cases hk
          exact h.put (o := st.opn) hok (by show 5 ≤ 5; omega) rfl hq1 hq3

theorem indent_at {n : Nat} {st : St} {c a : Nat} (h : indent n st = .error (c, a)) : a = st.pos := by
  unfold indent at h
  split at h
  · split at h
    · cases h; rfl
    · cases h
  · simp only at h
    split at h
    · cases h
    · cases h; rfl
theorem token_at {l : List UInt8} {st : St} {c a : Nat} (h : token l st = .error (c, a)) : a = st.pos := by
  unfold token at h
  split at h
  · cases h
  · split at h
    · cases h
    split at h
    · split at h
      · cases h
      · cases h; rfl
    split at h
    · split at h
      · cases h
      · cases h; rfl
    · simp only at h
      split at h
      · cases h; rfl
      split at h
      · split at h
        · cases h; rfl
        · cases h
      split at h
      · cases h
      · cases h

/-- What is answered. -/
structure Shape (src : List UInt8) (l : List Tok) : Prop where
  last : ∃ l0, l = l0 ++ [⟨9, [], src.length⟩] ∧ ∀ t ∈ l0, t.kind ≠ 9
  one : ∀ t ∈ l, TokOk src t
  pair : ∀ i (h : i + 1 < l.length), PairOk (l[i]'(by omega)) l[i + 1]
  deep : ∀ i, 0 ≤ depth (l.take i)
  whole : depth l = 0

theorem Good.dedents {src : List UInt8} : ∀ (j : Nat) (l : List Tok), Good src l → (∀ p, l.getLast? = some p → p.at_ ≤ src.length) → (j : Int) ≤ depth l → Good src (l ++ List.replicate j ⟨8, [], src.length⟩) ∧ depth (l ++ List.replicate j ⟨8, [], src.length⟩) = depth l - j ∧ ∀ p, (l ++ List.replicate j (⟨8, [], src.length⟩ : Tok)).getLast? = some p → p.at_ ≤ src.length := by
  intro j
  induction j with
  | zero => intro l h h2 h3; simpa using ⟨h, h2⟩
  | succ j ih =>
    intro l h h2 h3
    have h4 := ih (l ++ [⟨8, [], src.length⟩]) (h.snoc (bareOk (Nat.le_refl _) ⟨by omega, by omega⟩) (by simp) (fun p hp => barePair (k := 8) (h2 p hp) (by omega)) (by show 0 ≤ depth l + -1; omega))
      (fun p hp => by rw [last_snoc] at hp; cases hp; exact Nat.le_refl _) (by rw [depth_append]; show (j : Int) ≤ depth l + (-1 + 0); omega)
    rw [List.append_assoc] at h4
    have e : [(⟨8, [], src.length⟩ : Tok)] ++ List.replicate j ⟨8, [], src.length⟩ = List.replicate (j + 1) ⟨8, [], src.length⟩ := by rw [List.replicate_succ]; rfl
    rw [e] at h4
    refine ⟨h4.1, ?_, h4.2.2⟩
    rw [h4.2.1, depth_append]
    show depth l + (-1 + 0) - j = _; omega

theorem Keeps.finish {src : List UInt8} {st : St} (h : Keeps src st) : Shape src (finish src.length st) := by
  obtain ⟨T, hT⟩ : ∃ T, T = (match st.toks.getLast? with | some k => if k.kind < 6 ∨ 8 < k.kind then st.toks ++ [(⟨6, [], src.length⟩ : Tok)] else st.toks | none => st.toks) := ⟨_, rfl⟩
  have hlast : ∀ p, st.toks.getLast? = some p → p.at_ ≤ src.length := fun p hp => Nat.le_trans (h.last p hp).1 h.pos
  have hT2 : Good src T ∧ depth T = depth st.toks ∧ ∀ p, T.getLast? = some p → p.at_ ≤ src.length := by
    have hput : Good src (st.toks ++ [⟨6, [], src.length⟩]) ∧ depth (st.toks ++ [⟨6, [], src.length⟩]) = depth st.toks ∧ ∀ p, (st.toks ++ [(⟨6, [], src.length⟩ : Tok)]).getLast? = some p → p.at_ ≤ src.length := by
      have h0 := h.good.deep st.toks.length
      rw [List.take_length] at h0
      refine ⟨h.good.snoc (bareOk (Nat.le_refl _) ⟨by omega, by omega⟩) (by simp) (fun p hp => barePair (hlast p hp) (by omega)) (by show 0 ≤ depth st.toks + 0; omega), ?_, fun p hp => by rw [last_snoc] at hp; cases hp; exact Nat.le_refl _⟩
      rw [depth_append]; show depth st.toks + (0 + 0) = _; omega
    rw [hT]
    split
    · split
      · exact hput
      · exact ⟨h.good, rfl, hlast⟩
    · exact ⟨h.good, rfl, hlast⟩
  have hd := h.deep
  have hdl : 1 ≤ st.deep.length := by
    cases hh : st.deep with
    | nil => have := h.bot; rw [hh] at this; cases this
    | cons y r => simp
  obtain ⟨g1, g2, g3⟩ := hT2.1.dedents (st.deep.length - 1) T hT2.2.2 (by rw [hT2.2.1]; omega)
  have e : Lx.finish src.length st = T ++ List.replicate (st.deep.length - 1) ⟨8, [], src.length⟩ ++ [⟨9, [], src.length⟩] := by unfold Lx.finish; rw [hT]; rfl
  rw [e]
  obtain ⟨L, hL⟩ : ∃ L, T ++ List.replicate (st.deep.length - 1) (⟨8, [], src.length⟩ : Tok) = L := ⟨_, rfl⟩
  rw [hL] at g1 g2 g3 ⊢
  refine ⟨⟨L, rfl, fun t ht => (g1.one t ht).2⟩, fun t ht => ?_, pair_snoc g1.pair (fun p hp => barePair (g3 p hp) (by omega)), fun i => ?_, ?_⟩
  · rcases List.mem_append.1 ht with ht | ht
    · exact (g1.one t ht).1
    · rw [List.mem_singleton] at ht; subst ht; exact bareOk (Nat.le_refl _) ⟨by omega, by omega⟩
  · rcases take_snoc_le L ⟨9, [], src.length⟩ i with e | e
    · rw [e]; exact g1.deep i
    · rw [e, depth_append, g2]; show 0 ≤ _ - _ + (0 + 0 : Int); rw [hT2.2.1]; omega
  · rw [depth_append, g2]; show _ - _ + (0 + 0 : Int) = 0; rw [hT2.2.1]; omega

theorem go_shape (src : List UInt8) : ∀ (f : Nat) (st : St) (head : Bool) (bl : Nat), Keeps src st → (∀ l, go src f st head bl = .ok l → Shape src l) ∧ ∀ c a, go src f st head bl = .error (c, a) → a ≤ src.length := by
  intro f
  induction f with
  | zero =>
    intro st head bl h
    exact ⟨(fun l hl => by cases hl; exact h.finish), fun c a hl => by cases hl⟩
  | succ f ih =>
    intro st head bl h
    unfold go
    cases hd : src.drop st.pos with
    | nil => exact ⟨(fun l hl => by cases hl; exact h.finish), fun c a hl => by cases hl⟩
    | cons c t =>
      have hln : (c :: t).length = src.length - st.pos := by rw [← hd, List.length_drop]
      have hpn : st.pos < src.length := by
        have : 0 < (c :: t).length := by simp
        omega
      have hmove : ∀ q, st.pos < q → q ≤ src.length → Keeps src { st with pos := q } := fun q h1 h2 =>
        ⟨h.good, h2, fun p hp => ⟨Nat.le_of_lt (Nat.lt_of_le_of_lt (h.last p hp).1 h1), fun e => by have e : p.at_ = q := e; have := (h.last p hp).1; omega⟩, h.deep, h.bot⟩
      simp only
      by_cases h35 : c = 35
      · rw [if_pos h35]
        subst h35
        have h1 := remark_pos t
        have h2 := remark_le (35 :: t)
        exact ih _ _ _ (hmove _ (by omega) (by omega))
      rw [if_neg h35]
      by_cases h32 : c = 32
      · rw [if_pos h32]; exact ih _ _ _ (hmove _ (by omega) (by omega))
      rw [if_neg h32]
      by_cases h10 : c = 10
      · rw [if_pos h10]
        by_cases ho : st.opn = 0 ∧ head = false
        · rw [if_pos ho]
          refine ih _ _ _ ?_
          have h0 := h.good.deep st.toks.length
          rw [List.take_length] at h0
          refine ⟨h.good.snoc (bareOk h.pos ⟨by omega, by omega⟩) (by simp) (fun p hp => barePair (h.last p hp).1 (by omega)) (by show 0 ≤ depth st.toks + 0; omega), by show st.pos + 1 ≤ _; omega, fun p hp => ?_, ?_, h.bot⟩
          · simp only at hp
            rw [last_snoc] at hp
            cases hp
            exact ⟨by show st.pos ≤ st.pos + 1; omega, fun e => by have e : st.pos = st.pos + 1 := e; omega⟩
          · have := h.deep
            show depth (st.toks ++ _) + 1 = (st.deep.length : Int)
            rw [depth_append]; show depth st.toks + (0 + 0) + 1 = _; omega
        · rw [if_neg ho]; exact ih _ _ _ (hmove _ (by omega) (by omega))
      rw [if_neg h10]
      have hst : ∀ st1, (if head then indent bl st else .ok st) = Except.ok st1 → Keeps src st1 ∧ st1.pos = st.pos := by
        intro st1 hs
        cases head with
        | true => exact ⟨h.indent hs, (indent_pos hs).1⟩
        | false => cases hs; exact ⟨h, rfl⟩
      have her : ∀ c a, (if head then indent bl st else .ok st) = Except.error (c, a) → a ≤ src.length := by
        intro c a hs
        cases head with
        | true => rw [indent_at hs]; exact h.pos
        | false => cases hs
      cases hi : (if head then indent bl st else Except.ok st) with
      | error e =>
        obtain ⟨c1, a1⟩ := e
        exact ⟨(fun l hl => by cases hl), fun c a hl => by cases hl; exact her _ _ hi⟩
      | ok st1 =>
        obtain ⟨hk1, hp1⟩ := hst st1 hi
        simp only
        cases htk : Lx.token (c :: t) st1 with
        | error e =>
          obtain ⟨c1, a1⟩ := e
          exact ⟨(fun l hl => by cases hl), fun c a hl => by cases hl; rw [token_at htk]; exact hk1.pos⟩
        | ok st2 => exact ih _ _ _ (hk1.token (by rw [hp1]; exact hd) htk)

theorem lex_shape {src : List UInt8} {l : List Tok} (h : lex src = .ok l) : Shape src l := by
  unfold lex at h
  split at h
  · cases h
  · exact (go_shape src _ _ _ _ ⟨Good.nil _, Nat.zero_le _, (fun p hp => by cases hp), rfl, rfl⟩).1 l h
theorem lex_at {src : List UInt8} {c a : Nat} (h : lex src = .error (c, a)) : a ≤ src.length := by
  unfold lex at h
  split at h
  · cases h; omega
  · exact (go_shape src _ _ _ _ ⟨Good.nil _, Nat.zero_le _, (fun p hp => by cases hp), rfl, rfl⟩).2 c a h
theorem indent_code0 {n : Nat} {st : St} {c a : Nat} (h : indent n st = .error (c, a)) : 0 < c := by
  unfold indent at h
  split at h
  · split at h
    · cases h; decide
    · cases h
  · simp only at h
    split at h
    · cases h
    · cases h; decide
theorem token_code0 {l : List UInt8} {st : St} {c a : Nat} (h : token l st = .error (c, a)) : 0 < c := by
  unfold token at h
  split at h
  · cases h
  · split at h
    · cases h
    split at h
    · split at h
      · cases h
      · cases h; decide
    split at h
    · split at h
      · cases h
      · cases h; decide
    · simp only at h
      split at h
      · cases h; decide
      split at h
      · split at h
        · cases h; decide
        · cases h
      split at h
      · cases h
      · cases h
theorem go_code1 (src : List UInt8) : ∀ (f : Nat) (st : St) (head : Bool) (bl c a : Nat), go src f st head bl = .error (c, a) → 0 < c := by
  intro f
  induction f with
  | zero => intro st head bl c a h; cases h
  | succ f ih =>
    intro st head bl c a h
    unfold go at h
    split at h
    · cases h
    · split at h
      · exact ih _ _ _ _ _ h
      split at h
      · exact ih _ _ _ _ _ h
      split at h
      · exact ih _ _ _ _ _ h
      split at h
      · rename_i e he
        cases h
        cases head with
        | true => exact indent_code0 he
        | false => cases he
      · split at h
        · rename_i e he
          cases h
          exact token_code0 he
        · exact ih _ _ _ _ _ h
theorem lex_code1 {src : List UInt8} {c a : Nat} (h : lex src = .error (c, a)) : 0 < c := by
  unfold lex at h
  split at h
  · cases h; decide
  · exact go_code1 _ _ _ _ _ _ _ h
end Go.Lx
