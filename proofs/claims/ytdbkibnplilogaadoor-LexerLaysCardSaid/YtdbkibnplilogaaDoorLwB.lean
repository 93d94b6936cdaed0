/-
  Plain: the pieces of LexerLays.
-/
import Derived.Test.YtdbkibnplilogaaDoorLwA
set_option linter.unusedVariables false
namespace Go.Lx
open Go.Lib Go.Lt

def noms : List (List UInt8) := [[97], [120, 49], [95], [90, 101, 100], [105, 102, 102], [110, 111, 116, 116]]
def wrds : List (List UInt8) := [[105, 102], [110, 111, 116], [78, 111, 110, 101], [99, 108, 97, 115, 115], [105, 110], [108, 97, 109, 98, 100, 97], [84, 114, 117, 101]]
def nums : List (List UInt8) := [[48], [55], [49, 48], [57, 56, 55, 54, 53, 52, 51, 50, 49, 48, 57, 56, 55, 54, 53, 52, 51, 50, 49, 48]]
def strs : List (List UInt8) := [[], [97], [105, 116, 39, 115], [97, 195, 177, 10], [92], [35]]
def sgns : List (List UInt8) := [[44], [58], [46], [61], [61, 61], [33, 61], [60], [60, 61], [62], [62, 61], [43], [43, 61], [45], [45, 61], [42], [42, 61], [42, 42], [47, 47], [47, 47, 61], [37], [37, 61], [38], [38, 61], [124], [124, 61], [94], [94, 61]]
def pickI (l : List (List UInt8)) (k : Int) : List UInt8 := l.getD (k % (l.length : Int)).toNat []
theorem pickI_mem (l : List (List UInt8)) (k : Int) (h : l ≠ []) : pickI l k ∈ l := by
  have hl : 0 < l.length := List.length_pos_iff.mpr h
  have h1 := Int.emod_nonneg k (show (l.length : Int) ≠ 0 by omega)
  have h2 := Int.emod_lt_of_pos k (show 0 < (l.length : Int) by omega)
  have h3 : (k % (l.length : Int)).toNat < l.length := by omega
  unfold pickI
  rw [List.getD_eq_getElem?_getD, List.getElem?_eq_getElem h3]
  exact List.getElem_mem h3
def pcOf (k w : Int) : Pc :=
  if k = 0 then ⟨pickI noms w, 1, pickI noms w⟩
  else if k = 1 then ⟨pickI wrds w, if isWord (pickI wrds w) then 2 else 1, pickI wrds w⟩
  else if k = 2 then ⟨pickI nums w, 3, pickI nums w⟩
  else if k = 3 then ⟨quote (pickI strs w), 4, pickI strs w⟩
  else ⟨pickI sgns w, 5, pickI sgns w⟩

theorem runOf_sep : ∀ (x rest : List UInt8), x.all isRun = true → Sep rest → runOf (x ++ rest) = x := by
  intro x rest hx hr
  induction x with
  | nil =>
    obtain ⟨r, rfl | rfl⟩ := hr
    · rfl
    · rfl
  | cons c x ih =>
    simp only [List.all_cons, Bool.and_eq_true] at hx
    rw [List.cons_append, runOf_yes _ _ hx.1, ih hx.2]
theorem ok_let (c : UInt8) (r : List UInt8) (hc : isLet c = true) (hr : (c :: r).all isRun = true) (h : c ≠ 35 ∧ c ≠ 32 ∧ c ≠ 10) : Pc.Ok ⟨c :: r, if isWord (c :: r) then 2 else 1, c :: r⟩ := by
  refine ⟨⟨c, r, rfl, h⟩, fun rest st hs => ?_⟩
  have h1 := runOf_sep (c :: r) rest hr hs
  rw [List.cons_append] at h1
  show token (c :: (r ++ rest)) st = _
  unfold token
  simp only
  rw [if_pos hc, h1]
theorem ok_num (c : UInt8) (r : List UInt8) (hc : isLet c = false) (hd : isDig c = true) (hn : numOk (c :: r) = true) (hr : (c :: r).all isRun = true) (h : c ≠ 35 ∧ c ≠ 32 ∧ c ≠ 10) : Pc.Ok ⟨c :: r, 3, c :: r⟩ := by
  refine ⟨⟨c, r, rfl, h⟩, fun rest st hs => ?_⟩
  have h1 := runOf_sep (c :: r) rest hr hs
  rw [List.cons_append] at h1
  show token (c :: (r ++ rest)) st = _
  unfold token
  simp only
  rw [hc, if_neg (by decide), if_pos hd, h1, if_pos hn]
theorem ok_str (s : List UInt8) (hm : mend s = s) : Pc.Ok ⟨quote s, 4, s⟩ := by
  have hq : quote s = 39 :: ((runes s).flatMap qrune ++ [39]) := rfl
  refine ⟨⟨39, _, hq, by decide, by decide, by decide⟩, fun rest st hs => ?_⟩
  have h1 := unq_quote s rest
  rw [hm] at h1
  show token (quote s ++ rest) st = _
  have e : quote s ++ rest = 39 :: (((runes s).flatMap qrune ++ [39]) ++ rest) := by rw [hq]; rfl
  rw [e] at h1 ⊢
  unfold token
  simp only
  rw [if_neg (by decide), if_neg (by decide), if_pos (.inl (by decide)), h1]
theorem ok_sgn (c : UInt8) (r : List UInt8) (hc : isLet c = false) (hd : isDig c = false) (hq : ¬ (c.toNat = 39 ∨ c.toNat = 34)) (hs : ∀ rest, Sep rest → signOf (c :: (r ++ rest)) = c :: r)
    (hb : ¬ (c :: r = [40] ∨ c :: r = [91] ∨ c :: r = [123]) ∧ ¬ (c :: r = [41] ∨ c :: r = [93] ∨ c :: r = [125])) (h : c ≠ 35 ∧ c ≠ 32 ∧ c ≠ 10) : Pc.Ok ⟨c :: r, 5, c :: r⟩ := by
  refine ⟨⟨c, r, rfl, h⟩, fun rest st hsep => ?_⟩
  show token (c :: (r ++ rest)) st = _
  unfold token
  simp only
  rw [hc, hd, if_neg (by decide), if_neg (by decide), if_neg hq, hs rest hsep, if_neg (by simp), if_neg hb.1, if_neg hb.2]

theorem ok_noms : ∀ x ∈ noms, Pc.Ok ⟨x, 1, x⟩ := by
  intro x hx
  simp only [noms, List.mem_cons, List.not_mem_nil, or_false] at hx
  rcases hx with rfl | rfl | rfl | rfl | rfl | rfl
  all_goals exact ok_let _ _ (by decide) (by decide) (by decide)
theorem ok_wrds : ∀ x ∈ wrds, Pc.Ok ⟨x, if isWord x then 2 else 1, x⟩ := by
  intro x hx
  simp only [wrds, List.mem_cons, List.not_mem_nil, or_false] at hx
  rcases hx with rfl | rfl | rfl | rfl | rfl | rfl | rfl
  all_goals exact ok_let _ _ (by decide) (by decide) (by decide)
theorem ok_nums : ∀ x ∈ nums, Pc.Ok ⟨x, 3, x⟩ := by
  intro x hx
  simp only [nums, List.mem_cons, List.not_mem_nil, or_false] at hx
  rcases hx with rfl | rfl | rfl | rfl
  all_goals exact ok_num _ _ (by decide) (by decide) (by decide) (by decide) (by decide)
theorem ok_strs : ∀ x ∈ strs, Pc.Ok ⟨quote x, 4, x⟩ := by
  intro x hx
  simp only [strs, List.mem_cons, List.not_mem_nil, or_false] at hx
  rcases hx with rfl | rfl | rfl | rfl | rfl | rfl
  all_goals exact ok_str _ (by decide +kernel)
theorem ok_sgns : ∀ x ∈ sgns, Pc.Ok ⟨x, 5, x⟩ := by
  intro x hx
  simp only [sgns, List.mem_cons, List.not_mem_nil, or_false] at hx
  rcases hx with rfl | rfl | rfl | rfl | rfl | rfl | rfl | rfl | rfl | rfl | rfl | rfl | rfl | rfl | rfl | rfl | rfl | rfl | rfl | rfl | rfl | rfl | rfl | rfl | rfl | rfl | rfl
  all_goals exact ok_sgn _ _ (by decide) (by decide) (by decide) (by rintro _ ⟨r, rfl | rfl⟩ <;> rfl) (by decide) (by decide)
theorem pcOf_ok (k w : Int) : (pcOf k w).Ok := by
  unfold pcOf
  split
  · exact ok_noms _ (pickI_mem _ _ (by decide))
  split
  · exact ok_wrds _ (pickI_mem _ _ (by decide))
  split
  · exact ok_nums _ (pickI_mem _ _ (by decide))
  split
  · exact ok_strs _ (pickI_mem _ _ (by decide))
  · exact ok_sgns _ (pickI_mem _ _ (by decide))
/-- No piece is long. -/
theorem pcOf_len (k w : Int) : (pcOf k w).w.length ≤ 20 := by
  have a1 : ∀ x ∈ noms, x.length ≤ 20 := by decide
  have a2 : ∀ x ∈ wrds, x.length ≤ 20 := by decide
  have a3 : ∀ x ∈ nums, x.length ≤ 20 := by decide
  have a4 : ∀ x ∈ strs, (quote x).length ≤ 20 := by decide +kernel
  have a5 : ∀ x ∈ sgns, x.length ≤ 20 := by decide
  unfold pcOf
  split
  · exact a1 _ (pickI_mem _ _ (by decide))
  split
  · exact a2 _ (pickI_mem _ _ (by decide))
  split
  · exact a3 _ (pickI_mem _ _ (by decide))
  split
  · exact a4 _ (pickI_mem _ _ (by decide))
  · exact a5 _ (pickI_mem _ _ (by decide))

/-! Lines of pieces, as the law lays them. -/
abbrev P3 := Int × Int × Int
def pcP (p : P3) : Pc := pcOf p.1 p.2.1
def gapOf (p : P3) : Nat := 1 + (min p.2.2 9).toNat
theorem gapOf_bd (p : P3) : 1 ≤ gapOf p ∧ gapOf p ≤ 10 := by unfold gapOf; omega
def tokP (p : P3) : Tok := ⟨(pcP p).kind, (pcP p).text, 0⟩
def seg (f : P3 → Nat) : List P3 → List UInt8
  | [] => []
  | p :: r => (pcP p).w ++ gapSrc (r.map fun q => (f q, pcP q))
theorem seg_one (f : P3 → Nat) (p : P3) : seg f [p] = (pcP p).w := by simp [seg, gapSrc]
theorem seg_snoc (f : P3 → Nat) (l : List P3) (p : P3) (h : l ≠ []) : seg f (l ++ [p]) = seg f l ++ (List.replicate (f p) 32 ++ (pcP p).w) := by
  cases l with
  | nil => exact absurd rfl h
  | cons q r => simp [seg, gapSrc_append, gapSrc]
theorem gapSrc_len (f : P3 → Nat) (hf : ∀ q, f q ≤ 10) : ∀ l : List P3, (gapSrc (l.map fun q => (f q, pcP q))).length ≤ 30 * l.length
  | [] => by simp [gapSrc]
  | p :: r => by
    have := gapSrc_len f hf r
    have h1 := pcOf_len p.1 p.2.1
    have h2 := hf p
    have h3 : (pcP p).w.length ≤ 20 := h1
    simp only [List.map_cons, gapSrc, List.length_append, List.length_replicate, List.length_cons]
    omega
theorem seg_len (f : P3 → Nat) (hf : ∀ q, f q ≤ 10) (l : List P3) : (seg f l).length ≤ 30 * l.length := by
  cases l with
  | nil => simp [seg]
  | cons p r =>
    have := gapSrc_len f hf r
    have h3 : (pcP p).w.length ≤ 20 := pcOf_len p.1 p.2.1
    simp only [seg, List.length_append, List.length_cons]
    omega
theorem line_ln (f : P3 → Nat) (hf : ∀ q, 1 ≤ f q) (l : List P3) (h : l ≠ []) (rm tr : Bool) :
    ∃ L : Ln, L.Ok ∧ L.src = seg f l ++ rmk rm ++ [10] ++ trl tr ∧ L.want = (l.map tokP ++ ([⟨6, [], 0⟩] : List Tok)).map kt := by
  cases l with
  | nil => exact absurd rfl h
  | cons p r =>
    refine ⟨⟨pcP p, r.map (fun q => (f q, pcP q)), rm, tr⟩, ⟨pcOf_ok _ _, fun x hx => ?_⟩, rfl, ?_⟩
    · obtain ⟨q, _, rfl⟩ := List.mem_map.1 hx
      exact ⟨hf q, pcOf_ok _ _⟩
    · simp [Ln.want, Pc.kt, kt, tokP, pcP, Function.comp_def]
theorem lnsSrc_snoc (L : List Ln) (x : Ln) : lnsSrc (L ++ [x]) = lnsSrc L ++ x.src := by simp [lnsSrc]
theorem lnsWant_snoc (L : List Ln) (x : Ln) : lnsWant (L ++ [x]) = lnsWant L ++ x.want := by simp [lnsWant]
theorem like_kt (la lb : List Tok) (h : la.map kt = lb.map kt) : lb.length = la.length ∧ ∀ i (hi : i < la.length) (hj : i < lb.length), la[i].kind = lb[i].kind ∧ la[i].text = lb[i].text := by
  have hl : lb.length = la.length := by have := congrArg List.length h; simpa using this.symm
  refine ⟨hl, fun i hi hj => ?_⟩
  have h1 : (la.map kt)[i]? = (lb.map kt)[i]? := by rw [h]
  rw [List.getElem?_map, List.getElem?_map, List.getElem?_eq_getElem hi, List.getElem?_eq_getElem hj] at h1
  have h2 : kt la[i] = kt lb[i] := by simpa using h1
  exact ⟨congrArg Prod.fst h2, congrArg Prod.snd h2⟩
theorem rmk_len (b : Bool) : (rmk b).length ≤ 9 := by cases b <;> decide
theorem trl_len (b : Bool) : (trl b).length ≤ 11 := by cases b <;> decide

/-- What the law has laid of some lines. -/
def LaidL (i : Nat) (a b : List UInt8) (T : List Tok) : Prop := ∃ L1 L2 : List Ln, a = lnsSrc L1 ∧ b = lnsSrc L2 ∧ (∀ l ∈ L1, l.Ok) ∧ (∀ l ∈ L2, l.Ok) ∧ lnsWant L1 = T.map kt ∧ lnsWant L2 = T.map kt ∧
  a.length ≤ 1300 * i ∧ b.length ≤ 1300 * i ∧ T.length ≤ 41 * i
theorem laidL_zero : LaidL 0 [] [] [] := ⟨[], [], rfl, rfl, (fun _ h => by cases h), (fun _ h => by cases h), rfl, rfl, by simp, by simp, by simp⟩
theorem LaidL.skip {i : Nat} {a b : List UInt8} {T : List Tok} (h : LaidL i a b T) : LaidL (i + 1) a b T := by
  obtain ⟨L1, L2, h1, h2, h3, h4, h5, h6, h7, h8, h9⟩ := h
  exact ⟨L1, L2, h1, h2, h3, h4, h5, h6, by omega, by omega, by omega⟩
theorem LaidL.line {i : Nat} {a b : List UInt8} {T : List Tok} (h : LaidL i a b T) (l : List P3) (hl : l ≠ []) (hl4 : l.length ≤ 40) (rm tr : Bool) :
    LaidL (i + 1) (a ++ seg (fun _ => 1) l ++ [10]) (b ++ seg gapOf l ++ rmk rm ++ [10] ++ trl tr) (T ++ l.map tokP ++ [⟨6, [], 0⟩]) := by
  obtain ⟨L1, L2, h1, h2, h3, h4, h5, h6, h7, h8, h9⟩ := h
  obtain ⟨x, hx1, hx2, hx3⟩ := line_ln (fun _ => 1) (fun _ => Nat.le_refl _) l hl false false
  obtain ⟨y, hy1, hy2, hy3⟩ := line_ln gapOf (fun q => (gapOf_bd q).1) l hl rm tr
  have b1 := seg_len (fun _ => 1) (fun _ => by decide) l
  have b2 := seg_len gapOf (fun q => (gapOf_bd q).2) l
  have b3 := rmk_len rm
  have b4 := trl_len tr
  refine ⟨L1 ++ [x], L2 ++ [y], ?_, ?_, ?_, ?_, ?_, ?_, ?_, ?_, ?_⟩
  · rw [lnsSrc_snoc, hx2, ← h1]; simp [rmk, trl]
  · rw [lnsSrc_snoc, hy2, ← h2]; simp
  · intro z hz; rcases List.mem_append.1 hz with hz | hz
    · exact h3 z hz
    · obtain rfl := List.mem_singleton.1 hz; exact hx1
  · intro z hz; rcases List.mem_append.1 hz with hz | hz
    · exact h4 z hz
    · obtain rfl := List.mem_singleton.1 hz; exact hy1
  · rw [lnsWant_snoc, hx3, h5, ← List.map_append, List.append_assoc]
  · rw [lnsWant_snoc, hy3, h6, ← List.map_append, List.append_assoc]
  · simp only [List.length_append, List.length_cons, List.length_nil]; omega
  · simp only [List.length_append, List.length_cons, List.length_nil]; omega
  · simp only [List.length_append, List.length_cons, List.length_nil, List.length_map]; omega
/-- Both are read as these tokens. -/
theorem LaidL.lex {i : Nat} {a b : List UInt8} {T : List Tok} (h : LaidL i a b T) (hi : i ≤ 40) :
    ∃ ta tb, lex a = .ok ta ∧ lex b = .ok tb ∧ ta.map kt = (T ++ ([⟨9, [], 0⟩] : List Tok)).map kt ∧ tb.map kt = (T ++ ([⟨9, [], 0⟩] : List Tok)).map kt := by
  obtain ⟨L1, L2, h1, h2, h3, h4, h5, h6, h7, h8, h9⟩ := h
  obtain ⟨ta, e1, e2⟩ := lex_lns L1 h3 (by rw [← h1]; omega)
  obtain ⟨tb, e3, e4⟩ := lex_lns L2 h4 (by rw [← h2]; omega)
  refine ⟨ta, tb, by rw [h1]; exact e2, by rw [h2]; exact e4, ?_, ?_⟩
  · rw [e1, h5, List.map_append]; rfl
  · rw [e3, h6, List.map_append]; rfl
end Go.Lx
