/-
  Plain: lines of words, numbers, texts and signs, however they are spaced.
-/
import Derived.Test.YtdbkibnplilogaaDoorLyU
set_option linter.unusedVariables false
namespace Go.Lx
open Go.Lib Go.Lt

/-- A piece: how it stands in a source, its token's kind, what the token says. -/
structure Pc where
  w : List UInt8
  kind : Nat
  text : List UInt8
def Sep (l : List UInt8) : Prop := ∃ r, l = 32 :: r ∨ l = 10 :: r
def Pc.Ok (x : Pc) : Prop := (∃ c r, x.w = c :: r ∧ c ≠ 35 ∧ c ≠ 32 ∧ c ≠ 10) ∧ ∀ rest st, Sep rest → token (x.w ++ rest) st = .ok { st with pos := st.pos + x.w.length, toks := st.toks ++ [⟨x.kind, x.text, st.pos⟩] }
def kt (t : Tok) : Nat × List UInt8 := (t.kind, t.text)
def Pc.kt (x : Pc) : Nat × List UInt8 := (x.kind, x.text)

/-- Pieces, each behind so many blanks. -/
def gapSrc : List (Nat × Pc) → List UInt8
  | [] => []
  | (g, x) :: r => List.replicate g 32 ++ (x.w ++ gapSrc r)
theorem gapSrc_append : ∀ (l m : List (Nat × Pc)), gapSrc (l ++ m) = gapSrc l ++ gapSrc m := by
  intro l m
  induction l with
  | nil => rfl
  | cons x r ih => obtain ⟨g, x⟩ := x; show List.replicate g 32 ++ (x.w ++ gapSrc (r ++ m)) = _; rw [ih]; simp [gapSrc]
theorem gapSrc_sep (l : List (Nat × Pc)) (tail : List UInt8) (hl : ∀ x ∈ l, 1 ≤ x.1) (ht : Sep tail) : Sep (gapSrc l ++ tail) := by
  cases l with
  | nil => exact ht
  | cons x r =>
    obtain ⟨g, x⟩ := x
    have h1 : 1 ≤ g := hl (g, x) (by simp)
    obtain ⟨g', rfl⟩ : ∃ g', g = g' + 1 := ⟨g - 1, by omega⟩
    exact ⟨List.replicate g' 32 ++ (x.w ++ gapSrc r) ++ tail, .inl (by simp [gapSrc, List.replicate_succ])⟩
theorem drop_app {src a b : List UInt8} {p : Nat} (h : src.drop p = a ++ b) : src.drop (p + a.length) = b := by
  rw [← List.drop_drop, h, List.drop_left]

theorem blanks_cons (g : Nat) (c : UInt8) (r : List UInt8) (h : c ≠ 32) : ((List.replicate g 32 ++ c :: r).takeWhile (· == 32)).length = g := by
  induction g with
  | zero => rw [List.replicate_zero, List.nil_append, List.takeWhile_cons, if_neg (by simpa using h)]; rfl
  | succ g ih => rw [List.replicate_succ, List.cons_append, List.takeWhile_cons, if_pos (by rfl), List.length_cons, ih]

theorem goes_piece (src : List UInt8) (x : Pc) (hx : x.Ok) (p : Nat) (t : List Tok) (rest : List UInt8) (hr : Sep rest) (hd : src.drop p = x.w ++ rest) :
    goes src ⟨p, t, 0, [0]⟩ false 0 = goes src ⟨p + x.w.length, t ++ [⟨x.kind, x.text, p⟩], 0, [0]⟩ false 0 := by
  obtain ⟨⟨c, r, hw, h1, h2, h3⟩, htok⟩ := hx
  rw [goes_token src ⟨p, t, 0, [0]⟩ 0 c (r ++ rest) h1 h2 h3 (by show src.drop p = _; rw [hd, hw]; rfl)]
  have := htok rest ⟨p, t, 0, [0]⟩ hr
  rw [hw] at this
  rw [show c :: (r ++ rest) = (c :: r) ++ rest from rfl, this, hw]

theorem goes_gaps (src : List UInt8) : ∀ (l : List (Nat × Pc)) (tail : List UInt8) (p : Nat) (t : List Tok), (∀ x ∈ l, 1 ≤ x.1 ∧ x.2.Ok) → Sep tail → src.drop p = gapSrc l ++ tail →
    ∃ ts, ts.map kt = l.map (fun x => x.2.kt) ∧ goes src ⟨p, t, 0, [0]⟩ false 0 = goes src ⟨p + (gapSrc l).length, t ++ ts, 0, [0]⟩ false 0 := by
  intro l
  induction l with
  | nil => intro tail p t _ _ _; exact ⟨[], rfl, by simp [gapSrc]⟩
  | cons x r ih =>
    intro tail p t hl ht hd
    obtain ⟨g, x⟩ := x
    obtain ⟨hg, hx⟩ := hl (g, x) (by simp)
    obtain ⟨⟨c, w, hw, h1, h2, h3⟩, _⟩ := id hx
    have hd' : src.drop p = List.replicate g 32 ++ (x.w ++ (gapSrc r ++ tail)) := by rw [hd]; simp [gapSrc]
    have hsep := gapSrc_sep r tail (fun y hy => (hl y (by simp [hy])).1) ht
    have hb : ((src.drop p).takeWhile (· == 32)).length = g := by rw [hd', hw]; exact blanks_cons g c _ h2
    have hd2 : src.drop (p + g) = x.w ++ (gapSrc r ++ tail) := by
      have := drop_app hd'; rwa [List.length_replicate] at this
    obtain ⟨ts, h5, h6⟩ := ih tail (p + g + x.w.length) (t ++ [⟨x.kind, x.text, p + g⟩]) (fun y hy => hl y (by simp [hy])) ht (drop_app hd2)
    refine ⟨⟨x.kind, x.text, p + g⟩ :: ts, by rw [List.map_cons, List.map_cons, h5]; rfl, ?_⟩
    rw [goes_blanks src false g ⟨p, t, 0, [0]⟩ 0 hb, goes_bl src _ (0 + g) 0]
    rw [goes_piece src x hx (p + g) t _ hsep hd2, h6]
    congr 2
    · show p + g + x.w.length + (gapSrc r).length = p + (List.replicate g 32 ++ (x.w ++ gapSrc r)).length
      simp; omega
    · simp

def rmk (b : Bool) : List UInt8 := if b then [32, 35, 32, 39, 120, 255, 9, 105, 102] else []
def trl (b : Bool) : List UInt8 := if b then [32, 32, 32, 35, 32, 40, 10, 10, 32, 32, 10] else []
/-- A line: its first piece, the others, each behind blanks; is there a remark on it, one behind it? -/
structure Ln where
  hd : Pc
  tl : List (Nat × Pc)
  rm : Bool
  tr : Bool
def Ln.src (l : Ln) : List UInt8 := l.hd.w ++ gapSrc l.tl ++ rmk l.rm ++ [10] ++ trl l.tr
def Ln.Ok (l : Ln) : Prop := l.hd.Ok ∧ ∀ x ∈ l.tl, 1 ≤ x.1 ∧ x.2.Ok
def Ln.want (l : Ln) : List (Nat × List UInt8) := l.hd.kt :: l.tl.map (fun x => x.2.kt) ++ [(6, [])]

theorem indent_flat (p : Nat) (t : List Tok) : indent 0 ⟨p, t, 0, [0]⟩ = .ok ⟨p, t, 0, [0]⟩ := by
  unfold indent; simp [pops]
theorem goes_trl (src : List UInt8) (b : Bool) (p : Nat) (t : List Tok) (rest : List UInt8) (hd : src.drop p = trl b ++ rest) :
    goes src ⟨p, t, 0, [0]⟩ true 0 = goes src ⟨p + (trl b).length, t, 0, [0]⟩ true 0 := by
  cases b with
  | false => rfl
  | true =>
    have d0 : src.drop p = List.replicate 3 32 ++ 35 :: 32 :: 40 :: 10 :: 10 :: 32 :: 32 :: 10 :: rest := hd
    have d3 : src.drop (p + 3) = 35 :: 32 :: 40 :: 10 :: 10 :: 32 :: 32 :: 10 :: rest := drop_app d0
    have d6 : src.drop (p + 6) = 10 :: 10 :: 32 :: 32 :: 10 :: rest := drop_app (a := [35, 32, 40]) d3
    have d7 : src.drop (p + 7) = 10 :: 32 :: 32 :: 10 :: rest := drop_app (a := [10]) d6
    have d8 : src.drop (p + 8) = List.replicate 2 32 ++ 10 :: rest := drop_app (a := [10]) d7
    have d10 : src.drop (p + 10) = 10 :: rest := drop_app d8
    have hb0 : ((src.drop p).takeWhile (· == 32)).length = 3 := by rw [d0]; exact blanks_cons 3 35 _ (by decide)
    have hb8 : ((src.drop (p + 8)).takeWhile (· == 32)).length = 2 := by rw [d8]; exact blanks_cons 2 10 _ (by decide)
    rw [goes_blanks src true 3 ⟨p, t, 0, [0]⟩ 0 hb0]
    rw [goes_remark src ⟨p + 3, t, 0, [0]⟩ true (0 + 3) _ d3]
    have hr : remark (35 :: 32 :: 40 :: 10 :: 10 :: 32 :: 32 :: 10 :: rest) = 3 := by
      unfold remark; simp
    rw [hr]
    rw [goes_over src ⟨p + 3 + 3, t, 0, [0]⟩ (0 + 3) _ rfl d6]
    rw [goes_over src ⟨p + 3 + 3 + 1, t, 0, [0]⟩ 0 _ rfl d7]
    rw [goes_blanks src true 2 ⟨p + 3 + 3 + 1 + 1, t, 0, [0]⟩ 0 hb8]
    rw [goes_over src ⟨p + 3 + 3 + 1 + 1 + 2, t, 0, [0]⟩ (0 + 2) _ rfl d10]
    rfl

theorem goes_ln (src : List UInt8) (l : Ln) (hl : l.Ok) (rest : List UInt8) (p : Nat) (t : List Tok) (hd : src.drop p = l.src ++ rest) :
    ∃ ts q, ts.map kt = l.want ∧ (∃ ts0, ts = ts0 ++ [⟨6, [], q⟩]) ∧ goes src ⟨p, t, 0, [0]⟩ true 0 = goes src ⟨p + l.src.length, t ++ ts, 0, [0]⟩ true 0 := by
  obtain ⟨hh, htl⟩ := hl
  obtain ⟨⟨c, w, hw, h1, h2, h3⟩, _⟩ := id hh
  have e1 : src.drop p = l.hd.w ++ (gapSrc l.tl ++ (rmk l.rm ++ (10 :: (trl l.tr ++ rest)))) := by rw [hd]; simp [Ln.src]
  have hs1 : Sep (rmk l.rm ++ (10 :: (trl l.tr ++ rest))) := by
    cases l.rm with
    | false => exact ⟨_, .inr rfl⟩
    | true => exact ⟨_, .inl rfl⟩
  have e2 := drop_app e1
  have e3 := drop_app e2
  have e4 := drop_app e3
  obtain ⟨ts, h5, h6⟩ := goes_gaps src l.tl _ (p + l.hd.w.length) (t ++ [⟨l.hd.kind, l.hd.text, p⟩]) htl hs1 e2
  have hrm : ∀ t', goes src ⟨p + l.hd.w.length + (gapSrc l.tl).length, t', 0, [0]⟩ false 0 = goes src ⟨p + l.hd.w.length + (gapSrc l.tl).length + (rmk l.rm).length, t', 0, [0]⟩ false 0 := by
    intro t'
    cases hb : l.rm with
    | false => rfl
    | true =>
      rw [hb] at e3
      have d0 : src.drop (p + l.hd.w.length + (gapSrc l.tl).length) = List.replicate 1 32 ++ 35 :: 32 :: 39 :: 120 :: 255 :: 9 :: 105 :: 102 :: 10 :: (trl l.tr ++ rest) := e3
      have d1 : src.drop (p + l.hd.w.length + (gapSrc l.tl).length + 1) = 35 :: 32 :: 39 :: 120 :: 255 :: 9 :: 105 :: 102 :: 10 :: (trl l.tr ++ rest) := drop_app d0
      have hb0 : ((src.drop (p + l.hd.w.length + (gapSrc l.tl).length)).takeWhile (· == 32)).length = 1 := by rw [d0]; exact blanks_cons 1 35 _ (by decide)
      rw [goes_blanks src false 1 ⟨_, t', 0, [0]⟩ 0 hb0, goes_remark src ⟨_ + 1, t', 0, [0]⟩ false (0 + 1) _ d1, goes_bl src _ (0 + 1) 0]
      have hr : remark (35 :: 32 :: 39 :: 120 :: 255 :: 9 :: 105 :: 102 :: 10 :: (trl l.tr ++ rest)) = 8 := by
        unfold remark; simp
      rw [hr]
      rfl
  have e5 : src.drop (p + l.hd.w.length + (gapSrc l.tl).length + (rmk l.rm).length + 1) = trl l.tr ++ rest := drop_app (a := [10]) e4
  refine ⟨⟨l.hd.kind, l.hd.text, p⟩ :: ts ++ [⟨6, [], p + l.hd.w.length + (gapSrc l.tl).length + (rmk l.rm).length⟩], _, ?_, ⟨_, rfl⟩, ?_⟩
  · unfold Ln.want; rw [List.map_append, List.map_cons, h5]; rfl
  · rw [goes_indent src ⟨p, t, 0, [0]⟩ 0 c (w ++ (gapSrc l.tl ++ (rmk l.rm ++ (10 :: (trl l.tr ++ rest))))) h1 h2 h3 (by show src.drop p = _; rw [e1, hw]; rfl), indent_flat]
    simp only
    rw [goes_piece src l.hd hh p t _ (gapSrc_sep l.tl _ (fun y hy => (htl y hy).1) hs1) e1, h6, hrm]
    rw [goes_newline src ⟨_, _, 0, [0]⟩ 0 _ rfl e4]
    rw [goes_trl src l.tr _ _ rest e5]
    congr 2
    · simp [Ln.src]; omega
    · simp

def lnsSrc (L : List Ln) : List UInt8 := L.flatMap Ln.src
def lnsWant (L : List Ln) : List (Nat × List UInt8) := L.flatMap Ln.want
theorem goes_lns (src : List UInt8) : ∀ (L : List Ln) (p : Nat) (t : List Tok), (∀ l ∈ L, l.Ok) → src.drop p = lnsSrc L → (t = [] ∨ ∃ ts q, t = ts ++ [⟨6, [], q⟩]) →
    ∃ ts, ts.map kt = lnsWant L ++ [(9, [])] ∧ goes src ⟨p, t, 0, [0]⟩ true 0 = .ok (t ++ ts) := by
  intro L
  induction L with
  | nil =>
    intro p t _ hd ht
    have hp : src.length ≤ p := by
      have := congrArg List.length hd
      rw [List.length_drop] at this
      simp only [lnsSrc, List.flatMap_nil, List.length_nil] at this; omega
    refine ⟨[⟨9, [], src.length⟩], rfl, ?_⟩
    rw [goes_end _ _ _ _ hp]
    congr 1
    rcases ht with h1 | ⟨ts, q, h1⟩
    · rw [Go.Proofs.finish_none _ _ h1]; simp
    · rw [Go.Proofs.finish_keep _ _ ts ⟨6, [], q⟩ h1 (by simp)]; simp
  | cons l L ih =>
    intro p t hL hd ht
    have hd' : src.drop p = l.src ++ lnsSrc L := hd
    obtain ⟨ts, q, h1, ⟨ts0, h2⟩, h3⟩ := goes_ln src l (hL l (by simp)) (lnsSrc L) p t hd'
    obtain ⟨us, h4, h5⟩ := ih (p + l.src.length) (t ++ ts) (fun y hy => hL y (by simp [hy])) (drop_app hd') (.inr ⟨t ++ ts0, q, by rw [h2]; simp⟩)
    refine ⟨ts ++ us, ?_, ?_⟩
    · rw [List.map_append, h1, h4]; simp [lnsWant]
    · rw [h3, h5]; simp

/-- Such lines, whole. -/
theorem lex_lns (L : List Ln) (hL : ∀ l ∈ L, l.Ok) (h : (lnsSrc L).length ≤ 65536) : ∃ ts, ts.map kt = lnsWant L ++ [(9, [])] ∧ lex (lnsSrc L) = .ok ts := by
  unfold lex
  rw [if_neg (by omega)]
  obtain ⟨ts, h1, h2⟩ := goes_lns (lnsSrc L) L 0 [] hL rfl (.inl rfl)
  exact ⟨ts, h1, h2⟩
end Go.Lx
