/-
  Plain: lines of one name each, one line more behind; a row of ints.
-/
import Derived.Test.YtdbkibnplilogaaDoorLyU
import Derived.Test.YtdbkibnplilogaaDoorMzG
set_option linter.unusedVariables false
namespace Go.Lx
open Go.Lib Go.Lt

theorem blockSrc_snoc : ∀ (bl : List Nat) (n : Nat), blockSrc (bl ++ [n]) = blockSrc bl ++ (List.replicate n 32 ++ [97, 10]) := by
  intro bl
  induction bl with
  | nil => intro n; rfl
  | cons m r ih => intro n; show List.replicate m 32 ++ 97 :: 10 :: blockSrc (r ++ [n]) = (List.replicate m 32 ++ 97 :: 10 :: blockSrc r) ++ _; rw [ih n]; simp
theorem blocks_snoc : ∀ (bl : List Nat) (n p : Nat) (t : List Tok) (d : List Nat),
    blocks (bl ++ [n]) p t d = match blocks bl p t d with | .error e => .error e | .ok td => blocks [n] (p + (blockSrc bl).length) td.1 td.2 := by
  intro bl
  induction bl with
  | nil => intro n p t d; rfl
  | cons m r ih =>
    intro n p t d
    show blocks (m :: (r ++ [n])) p t d = _
    unfold blocks
    cases hi : indent m ⟨p + m, t, 0, d⟩ with
    | error e => rfl
    | ok st1 =>
      simp only
      rw [ih]
      have e : p + m + 2 + (blockSrc r).length = p + (blockSrc (m :: r)).length := by
        show _ = p + (List.replicate m 32 ++ 97 :: 10 :: blockSrc r).length
        rw [List.length_append, List.length_replicate, List.length_cons, List.length_cons]; omega
      rw [e]
      rfl
theorem blocks_err {bl : List Nat} {n : Nat} {e : Nat × Nat} (h : blocks bl 0 [] [0] = .error e) : blocks (bl ++ [n]) 0 [] [0] = .error e := by rw [blocks_snoc, h]
/-- One line more: deeper. -/
theorem blocks_in {bl : List Nat} {n d0 : Nat} {t : List Tok} {ds : List Nat} (h : blocks bl 0 [] [0] = .ok (t, d0 :: ds)) (hd : d0 < n) (hl : (d0 :: ds).length ≤ 40) :
    blocks (bl ++ [n]) 0 [] [0] = .ok ((t ++ [⟨7, [], (blockSrc bl).length + n⟩]) ++ [⟨1, [97], (blockSrc bl).length + n⟩, ⟨6, [], (blockSrc bl).length + n + 1⟩], n :: d0 :: ds) := by
  rw [blocks_snoc, h]
  simp only [Nat.zero_add]
  unfold blocks indent
  simp only [List.headD_cons]
  rw [if_pos hd, if_neg (by omega)]
  rfl
/-- One line more: as deep, or less so. -/
theorem blocks_out {bl : List Nat} {n d0 : Nat} {t : List Tok} {ds : List Nat} (h : blocks bl 0 [] [0] = .ok (t, d0 :: ds)) (hd : ¬ d0 < n) (t' : List Tok) (d' : List Nat) (hp : pops n ((blockSrc bl).length + n) (d0 :: ds) t = (d', t')) :
    blocks (bl ++ [n]) 0 [] [0] = if d'.headD 0 = n then .ok (t' ++ [⟨1, [97], (blockSrc bl).length + n⟩, ⟨6, [], (blockSrc bl).length + n + 1⟩], d') else .error (103, (blockSrc bl).length + n) := by
  rw [blocks_snoc, h]
  simp only [Nat.zero_add]
  unfold blocks indent
  simp only [List.headD_cons]
  rw [if_neg hd, hp]
  simp only
  by_cases hh : d'.headD 0 = n
  · rw [if_pos hh, if_pos hh]; rfl
  · rw [if_neg hh, if_neg hh]
end Go.Lx
namespace Go.Proofs
open Go.RowKit Go.Lx Go.Lt

/-- A slice of ints that reads as the list. -/
def IsIn (w : World) (a : Option Addr) (xs : List Int) : Prop := ∀ i (h : i < xs.length), ∃ b o, a = some ⟨b, o, none⟩ ∧ b < w.heap.size ∧ w.cell? ⟨b, o + i, none⟩ = some (.int .i64 xs[i])
theorem IsIn.below {w w' : World} {a : Option Addr} {xs : List Int} (h : IsIn w a xs) (hb : Below w.heap.size w w') : IsIn w' a xs := by
  intro i hi
  obtain ⟨b, o, h1, h2, h3⟩ := h i hi
  exact ⟨b, o, h1, Nat.lt_of_lt_of_le h2 hb.size, (hb.cell (p := ⟨b, o + i, none⟩) h2).trans h3⟩
/-- Rows of different sorts lie in different blocks. -/
theorem rows_apart {w : World} {B e e' k k' n n' : Nat} {v v' : Value} {xs ys : List Value} (h : w.ownsRow B e k v n xs) (h' : w.ownsRow B e' k' v' n' ys) (he : e ≠ e') (g : Nat) (hg : v.ownBlock = some g) : v'.ownBlock ≠ some g := by
  intro hg'
  rcases h.2 with ⟨rfl, _⟩ | ⟨g1, c1, u1, rfl, _, hh1, _⟩
  · cases hg
  · rcases h'.2 with ⟨rfl, _⟩ | ⟨g2, c2, u2, rfl, _, hh2, _⟩
    · cases hg'
    · have e1 : g1 = g := by simpa [Value.ownBlock] using hg
      have e2 : g2 = g := by simpa [Value.ownBlock] using hg'
      subst e1; subst e2
      rw [hh1] at hh2
      injection hh2 with hh2
      injection hh2 with h3 h4
      exact he h4
theorem ownsRow_grown {w w' : World} {B e k n : Nat} {v : Value} {xs : List Value} {row : Option Nat} (h : w.ownsRow B e k v n xs) (hg : w.grownBy w' row) (hne : ∀ g, row = some g → v.ownBlock ≠ some g) : w'.ownsRow B e k v n xs :=
  ownsRow_keep h fun g hv => hg.block g (ownsRow_lt h hv).2 (fun e => hne g e.symm hv)

/-- len, where the slice is a variable. -/
theorem wpList_len_form {P : Program} {ops : Array Oper} {rest : List Oper} {o : Oper} {a : Act} {Q : Exit → Act → World → Prop} {w : World} (hgd : o.guard = none) (x : Operand) (t : TypeId)
    (ho : o.op = .call { callee := .builtin .len, args := #[x], argTypes := #[t] }) (e : TypeId) (ht : P.underlying t = some (.slice e)) (v : Value) (q : Option Addr) (n c : Nat) (hx : a.eval x = v) (hv : v = .slice q n c)
    (h : wpList P ops Q rest (a.put o.dst (.int .i64 n)) w) : wpList P ops Q (o :: rest) a w := by
  refine wpList_plain hgd fun K hK => ?_
  subst hv
  unfold Oper.wp execOp
  simp only [ho, resolve, invoke, builtin, Sem.run_bind, Sem.run_pure, Result.andThen_ok, List.map_toArray, List.map_cons, List.map_nil, hx]
  have hr : (Builtin.len_ #[t] o.type #[.slice q n c]).run P w = .ok (.int .i64 n) w := by
    simp [Builtin.len_, underlying, ht, goInt]
  simp only [hr]
  exact hK _ _ h
/-- The three rows of LexerBlocks: the source, the tokens, the depths (the top first). -/
def Tryd.Rows3 (w0 : World) (src : List UInt8) (t : List Tok) (d : List Nat) (v3 v4 v5 : Value) (w : World) : Prop :=
  w.ownsRow w0.heap.size 5 1 v3 src.length (u8Cells src) ∧ w.ownsRow w0.heap.size 35 3 v4 t.length (tokCells t) ∧ w.ownsRow w0.heap.size 3 1 v5 d.length (natCells d.reverse) ∧ Below w0.heap.size w0 w
section
variable {w0 w w' : World} {src src' : List UInt8} {t t' : List Tok} {d d' : List Nat} {v3 v4 v5 v' : Value}
theorem Tryd.Rows3.size (h : Tryd.Rows3 w0 src t d v3 v4 v5 w) : w0.heap.size ≤ w.heap.size := h.2.2.2.size
theorem Tryd.Rows3.alloc (h : Tryd.Rows3 w0 src t d v3 v4 v5 w) (o : Obj) : Tryd.Rows3 w0 src t d v3 v4 v5 (w.alloc o) := ⟨h.1.alloc _, h.2.1.alloc _, h.2.2.1.alloc _, h.2.2.2.alloc h.2.2.2.size _⟩
theorem Tryd.Rows3.drewN (h : Tryd.Rows3 w0 src t d v3 v4 v5 w) (n : Nat) : Tryd.Rows3 w0 src t d v3 v4 v5 (w.drewN n) := ⟨ownsRow_keep h.1 (fun _ _ => rfl), ownsRow_keep h.2.1 (fun _ _ => rfl), ownsRow_keep h.2.2.1 (fun _ _ => rfl), below_drewN h.2.2.2 n⟩
theorem Tryd.Rows3.growS (h : Tryd.Rows3 w0 src t d v3 v4 v5 w) (hg : w.grownBy w' v3.ownBlock) (ho : w'.ownsRow w0.heap.size 5 1 v' src'.length (u8Cells src')) : Tryd.Rows3 w0 src' t d v' v4 v5 w' :=
  ⟨ho, ownsRow_grown h.2.1 hg (fun g hg => rows_apart h.1 h.2.1 (by decide) g hg), ownsRow_grown h.2.2.1 hg (fun g hg => rows_apart h.1 h.2.2.1 (by decide) g hg), h.2.2.2.grown hg h.size (fun k hk => (ownsRow_lt h.1 hk).1)⟩
theorem Tryd.Rows3.growT (h : Tryd.Rows3 w0 src t d v3 v4 v5 w) (hg : w.grownBy w' v4.ownBlock) (ho : w'.ownsRow w0.heap.size 35 3 v' t'.length (tokCells t')) : Tryd.Rows3 w0 src t' d v3 v' v5 w' :=
  ⟨ownsRow_grown h.1 hg (fun g hg => rows_apart h.2.1 h.1 (by decide) g hg), ho, ownsRow_grown h.2.2.1 hg (fun g hg => rows_apart h.2.1 h.2.2.1 (by decide) g hg), h.2.2.2.grown hg h.size (fun k hk => (ownsRow_lt h.2.1 hk).1)⟩
theorem Tryd.Rows3.growD (h : Tryd.Rows3 w0 src t d v3 v4 v5 w) (hg : w.grownBy w' v5.ownBlock) (ho : w'.ownsRow w0.heap.size 3 1 v' d'.length (natCells d'.reverse)) : Tryd.Rows3 w0 src t d' v3 v4 v' w' :=
  ⟨ownsRow_grown h.1 hg (fun g hg => rows_apart h.2.2.1 h.1 (by decide) g hg), ownsRow_grown h.2.1 hg (fun g hg => rows_apart h.2.2.1 h.2.1 (by decide) g hg), ho, h.2.2.2.grown hg h.size (fun k hk => (ownsRow_lt h.2.2.1 hk).1)⟩
theorem Tryd.Rows3.top {d0 : Nat} {ds : List Nat} (h : Tryd.Rows3 w0 src t (d0 :: ds) v3 v4 v5 w) :
    ∃ g c, v5 = .slice (some ⟨g, 0, none⟩) (ds.length + 1) c ∧ ds.length + 1 ≤ c ∧ w.cell? ⟨g, ds.length, none⟩ = some (.int .i64 d0) ∧ Tryd.Rows3 w0 src t ds v3 v4 (.slice (some ⟨g, 0, none⟩) ds.length c) w := by
  have h5 := h.2.2.1
  rw [List.length_cons] at h5
  obtain ⟨a, c, rfl⟩ := slice_form h5
  obtain ⟨g, rfl, h6⟩ := ownsRow_less (g := 0) h5 (natCells_snoc d0 ds)
  have hcap : ds.length + 1 ≤ c := by
    rcases h5.2 with ⟨h, _⟩ | ⟨g', cap', cur, hv, _, _, hc, _⟩
    · cases h
    · simp at hv; omega
  refine ⟨g, c, rfl, hcap, ?_, h.1, h.2.1, h6, h.2.2.2⟩
  rw [h5.cellAt ds.length (by omega), natCells_snoc, List.getElem?_append_right (by rw [natCells_len, List.length_reverse]; exact Nat.le_refl _), natCells_len, List.length_reverse, Nat.sub_self]
  rfl
end
end Go.Proofs
