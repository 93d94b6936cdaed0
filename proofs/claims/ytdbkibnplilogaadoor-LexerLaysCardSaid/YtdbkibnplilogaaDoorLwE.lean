/-
  append of a string's bytes, and where the new slice lies; three rows: two of bytes, one of tokens.
-/
import Derived.Test.YtdbkibnplilogaaDoorMzA
import Derived.Test.YtdbkibnplilogaaDoorLyX
import Derived.Lib.AppendStr
import Derived.Deep.AppendLies
set_option linter.unusedVariables false
namespace Go.Proofs
open Go.RowKit Go.Lx Go.Lt

theorem append_str_at {P : Program} (w : World) (base : Nat) (t u ty e : TypeId) (i : TypeInfo) (ht : P.underlying t = some (.slice e)) (hu : P.underlying u = some .string) (hi : P.info? e = some i) (hz : i.zero = some (.int .u8 0))
    (hsize : i.size = 1) (hby : i.bytes = 1) (v : Value) (n : Nat) (xs : List Value) (hown : w.ownsRow base e 1 v n xs) (s : ByteArray) (h0 : 0 < s.size)
    (h63 : n + s.size ≤ maxLen) (hbytes : n + s.size ≤ 140737488355328) (hbase : base ≤ w.heap.size) :
    ∃ g cap w', (Builtin.append_ #[t, u] ty #[v, .string s]).run P w = .ok (.slice (some ⟨g, 0, none⟩) (n + s.size) cap) w' ∧ w'.ownsRow base e 1 (.slice (some ⟨g, 0, none⟩) (n + s.size) cap) (n + s.size) (xs ++ Lib.strCells s) ∧ w.grownBy w' v.ownBlock ∧
      (v.ownBlock = some g ∨ g = w.heap.size) := by
  have hsmall : n + s.size ≤ 9223372036854775807 := by simp only [maxLen] at h63; omega
  obtain ⟨v', w', hr, h2, h3, _⟩ := Lib.run_append_own_string (P := P) w base t u ty e i ht hu hi hz hsize hby v n xs hown s h63 hbytes hbase
  have key : ∃ g cap w2, (Builtin.append_ #[t, u] ty #[v, .string s]).run P w = .ok (.slice (some ⟨g, 0, none⟩) (n + s.size) cap) w2 ∧ (v.ownBlock = some g ∨ g = w.heap.size) := by
    have hxl : xs.length = n := by simpa using hown.1
    rcases hown.2 with ⟨rfl, rfl⟩ | ⟨g, cap, cur, rfl, hbg, hg, hnc, hcm, hcs, htake⟩
    · have h4 := run_append_nil_string (P := P) w t u ty e i (.int .u8 0) ht hu hi hz s (by omega) (by omega) (by rw [hby]; omega)
      rw [Nat.zero_add]
      exact ⟨_, _, _, h4, .inr rfl⟩
    · by_cases hroom : n + s.size ≤ cap
      · have hcs' : cur.size = cap := by simpa using hcs
        exact ⟨_, _, _, Lib.run_append_room_string (P := P) w t u ty e i ht hu hi hsize g n cap cur hg s hroom (by omega), .inl rfl⟩
      · have holds : ∀ j u, xs[j]? = some u → w.cell? ((⟨g, 0, none⟩ : Addr).add j) = some u := hown.cells (g := g) rfl
        exact ⟨_, _, _, Lib.run_append_grow_string (P := P) w t u ty e i (.int .u8 0) ht hu hi hz ⟨g, 0, none⟩ n cap xs (by rw [hsize]; simpa using hxl) holds s (by omega) (by omega) (by rw [hby]; exact growslice_fits (by omega) (by omega)), .inr rfl⟩
  obtain ⟨g, cap, w2, hr2, hat⟩ := key
  rw [hr] at hr2
  injection hr2 with e1 e2
  subst e1
  exact ⟨g, cap, w', hr, h2, h3, hat⟩
theorem wpList_append_str_lies {P : Program} (w : World) {ops : Array Oper} {rest : List Oper} {o : Oper} {a : Act} {Q : Exit → Act → World → Prop} (hgd : o.guard = none) (sl x : Operand) (t u : TypeId)
    (ho : o.op = .call { callee := .builtin .append, args := #[sl, x], argTypes := #[t, u] })
    (base : Nat) (e : TypeId) (i : TypeInfo) (ht : P.underlying t = some (.slice e)) (hu : P.underlying u = some .string) (hi : P.info? e = some i) (hz : i.zero = some (.int .u8 0))
    (hsize : i.size = 1) (hby : i.bytes = 1) (v : Value) (n : Nat) (xs : List Value) (hs : a.eval sl = v) (hown : w.ownsRow base e 1 v n xs) (s : ByteArray) (hx : a.eval x = .string s) (h0 : 0 < s.size)
    (h63 : n + s.size ≤ maxLen) (hbytes : n + s.size ≤ 140737488355328) (hbase : base ≤ w.heap.size)
    (h : ∀ g cap w', w'.ownsRow base e 1 (.slice (some ⟨g, 0, none⟩) (n + s.size) cap) (n + s.size) (xs ++ Lib.strCells s) → w.grownBy w' v.ownBlock → (v.ownBlock = some g ∨ g = w.heap.size) → wpList P ops Q rest (a.put o.dst (.slice (some ⟨g, 0, none⟩) (n + s.size) cap)) w') :
    wpList P ops Q (o :: rest) a w := by
  refine wpList_plain hgd fun K hK => ?_
  obtain ⟨g, cap, w', hr, h2, h3, h4⟩ := append_str_at (P := P) w base t u o.type e i ht hu hi hz hsize hby v n xs hown s h0 h63 hbytes hbase
  unfold Oper.wp execOp
  simp only [ho, resolve, invoke, builtin, Sem.run_bind, Sem.run_pure, Result.andThen_ok, List.map_toArray, List.map_cons, List.map_nil, hs, hx, hr]
  exact hK _ _ (h g cap w' h2 h3 h4)

theorem alloc_at (w : World) (o : Obj) (B : Nat) (h : w.heap.size = B) : (w.alloc o).heap[B]? = some o := h ▸ alloc_new w o

/-- Three rows of the call's own: two of bytes, one of tokens. -/
def Tryd.RowsL (w0 : World) (a b : List UInt8) (t : List Tok) (v5 v6 v7 : Value) (w : World) : Prop :=
  w.ownsRow w0.heap.size 5 1 v5 a.length (u8Cells a) ∧ w.ownsRow w0.heap.size 5 1 v6 b.length (u8Cells b) ∧ w.ownsRow w0.heap.size 35 3 v7 t.length (tokCells t) ∧ (∀ g, v5.ownBlock = some g → v6.ownBlock ≠ some g) ∧ Below w0.heap.size w0 w
section
variable {w0 w w' : World} {a b a' b' : List UInt8} {t t' : List Tok} {v5 v6 v7 v' : Value}
theorem Tryd.RowsL.size (h : Tryd.RowsL w0 a b t v5 v6 v7 w) : w0.heap.size ≤ w.heap.size := h.2.2.2.2.size
theorem Tryd.RowsL.alloc (h : Tryd.RowsL w0 a b t v5 v6 v7 w) (o : Obj) : Tryd.RowsL w0 a b t v5 v6 v7 (w.alloc o) := ⟨h.1.alloc _, h.2.1.alloc _, h.2.2.1.alloc _, h.2.2.2.1, h.2.2.2.2.alloc h.size _⟩
theorem Tryd.RowsL.below (h : Tryd.RowsL w0 a b t v5 v6 v7 w) (hb : Below w.heap.size w w') : Tryd.RowsL w0 a b t v5 v6 v7 w' :=
  ⟨ownsRow_keep h.1 (fun g hg => hb.block g (ownsRow_lt h.1 hg).2), ownsRow_keep h.2.1 (fun g hg => hb.block g (ownsRow_lt h.2.1 hg).2), ownsRow_keep h.2.2.1 (fun g hg => hb.block g (ownsRow_lt h.2.2.1 hg).2), h.2.2.2.1, h.2.2.2.2.trans (hb.mono h.size)⟩
theorem Tryd.RowsL.growP {g n cap : Nat} (h : Tryd.RowsL w0 a b t v5 v6 v7 w) (hg : w.grownBy w' v5.ownBlock) (ho : w'.ownsRow w0.heap.size 5 1 (.slice (some ⟨g, 0, none⟩) n cap) a'.length (u8Cells a')) (hat : v5.ownBlock = some g ∨ g = w.heap.size) :
    Tryd.RowsL w0 a' b t (.slice (some ⟨g, 0, none⟩) n cap) v6 v7 w' := by
  refine ⟨ho, ownsRow_grown h.2.1 hg (fun k hk => h.2.2.2.1 k hk), ownsRow_grown h.2.2.1 hg (fun k hk => rows_apart h.1 h.2.2.1 (by decide) k hk), fun k hk => ?_, h.2.2.2.2.grown hg h.size (fun k hk => (ownsRow_lt h.1 hk).1)⟩
  obtain rfl : g = k := by simpa [Value.ownBlock] using hk
  rcases hat with hat | hat
  · exact h.2.2.2.1 g hat
  · intro h6
    have := (ownsRow_lt h.2.1 h6).2
    omega
theorem Tryd.RowsL.growL {g n cap : Nat} (h : Tryd.RowsL w0 a b t v5 v6 v7 w) (hg : w.grownBy w' v6.ownBlock) (ho : w'.ownsRow w0.heap.size 5 1 (.slice (some ⟨g, 0, none⟩) n cap) b'.length (u8Cells b')) (hat : v6.ownBlock = some g ∨ g = w.heap.size) :
    Tryd.RowsL w0 a b' t v5 (.slice (some ⟨g, 0, none⟩) n cap) v7 w' := by
  refine ⟨ownsRow_grown h.1 hg (fun k hk h5 => h.2.2.2.1 k h5 hk), ho, ownsRow_grown h.2.2.1 hg (fun k hk => rows_apart h.2.1 h.2.2.1 (by decide) k hk), fun k hk h6 => ?_, h.2.2.2.2.grown hg h.size (fun k hk => (ownsRow_lt h.2.1 hk).1)⟩
  obtain rfl : g = k := by simpa [Value.ownBlock] using h6
  rcases hat with hat | hat
  · exact h.2.2.2.1 g hk hat
  · have := (ownsRow_lt h.1 hk).2
    omega
theorem Tryd.RowsL.growT (h : Tryd.RowsL w0 a b t v5 v6 v7 w) (hg : w.grownBy w' v7.ownBlock) (ho : w'.ownsRow w0.heap.size 35 3 v' t'.length (tokCells t')) : Tryd.RowsL w0 a b t' v5 v6 v' w' :=
  ⟨ownsRow_grown h.1 hg (fun g hg => rows_apart h.2.2.1 h.1 (by decide) g hg), ownsRow_grown h.2.1 hg (fun g hg => rows_apart h.2.2.1 h.2.1 (by decide) g hg), ho, h.2.2.2.1, h.2.2.2.2.grown hg h.size (fun k hk => (ownsRow_lt h.2.2.1 hk).1)⟩
end

/-- The rows, and a block beside them that stays. -/
def Tryd.RowsK (w0 : World) (tb : Nat) (o : Obj) (a b : List UInt8) (t : List Tok) (v5 v6 v7 : Value) (w : World) : Prop :=
  Tryd.RowsL w0 a b t v5 v6 v7 w ∧ w.heap[tb]? = some o ∧ v5.ownBlock ≠ some tb ∧ v6.ownBlock ≠ some tb ∧ v7.ownBlock ≠ some tb
section
variable {w0 w w' : World} {a b a' b' : List UInt8} {t t' : List Tok} {v5 v6 v7 v' : Value} {tb : Nat} {o : Obj}
theorem Tryd.RowsL.beside (h : Tryd.RowsL w0 a b t v5 v6 v7 w) (o : Obj) : Tryd.RowsK w0 w.heap.size o a b t v5 v6 v7 (w.alloc o) :=
  ⟨h.alloc _, alloc_new w o, fun e => by have := (ownsRow_lt h.1 e).2; omega, fun e => by have := (ownsRow_lt h.2.1 e).2; omega, fun e => by have := (ownsRow_lt h.2.2.1 e).2; omega⟩
theorem Tryd.RowsK.size (h : Tryd.RowsK w0 tb o a b t v5 v6 v7 w) : w0.heap.size ≤ w.heap.size := h.1.size
theorem Tryd.RowsK.alloc (h : Tryd.RowsK w0 tb o a b t v5 v6 v7 w) (o' : Obj) : Tryd.RowsK w0 tb o a b t v5 v6 v7 (w.alloc o') := ⟨h.1.alloc _, (Below.heap_alloc _ _ _ (lt_of_block h.2.1)).trans h.2.1, h.2.2⟩
theorem Tryd.RowsK.growP {g n cap : Nat} (h : Tryd.RowsK w0 tb o a b t v5 v6 v7 w) (hg : w.grownBy w' v5.ownBlock) (ho : w'.ownsRow w0.heap.size 5 1 (.slice (some ⟨g, 0, none⟩) n cap) a'.length (u8Cells a')) (hat : v5.ownBlock = some g ∨ g = w.heap.size) :
    Tryd.RowsK w0 tb o a' b t (.slice (some ⟨g, 0, none⟩) n cap) v6 v7 w' := by
  obtain ⟨h1, h2, h3, h4⟩ := h
  have hlt := lt_of_block h2
  refine ⟨h1.growP hg ho hat, (hg.block tb hlt (fun e => h3 e.symm)).trans h2, fun e => ?_, h4⟩
  obtain rfl : g = tb := by simpa [Value.ownBlock] using e
  rcases hat with hat | hat
  · exact h3 hat
  · omega
theorem Tryd.RowsK.growL {g n cap : Nat} (h : Tryd.RowsK w0 tb o a b t v5 v6 v7 w) (hg : w.grownBy w' v6.ownBlock) (ho : w'.ownsRow w0.heap.size 5 1 (.slice (some ⟨g, 0, none⟩) n cap) b'.length (u8Cells b')) (hat : v6.ownBlock = some g ∨ g = w.heap.size) :
    Tryd.RowsK w0 tb o a b' t v5 (.slice (some ⟨g, 0, none⟩) n cap) v7 w' := by
  obtain ⟨h1, h2, h3, h4, h5⟩ := h
  have hlt := lt_of_block h2
  refine ⟨h1.growL hg ho hat, (hg.block tb hlt (fun e => h4 e.symm)).trans h2, h3, fun e => ?_, h5⟩
  obtain rfl : g = tb := by simpa [Value.ownBlock] using e
  rcases hat with hat | hat
  · exact h4 hat
  · omega
end

/-- Pieces in memory. -/
def PcsIn (w : World) (a : Option Addr) (l : List (Int × Int × Int)) : Prop := ∀ i (hi : i < l.length), ∃ b o, a = some ⟨b, o, none⟩ ∧ b < w.heap.size ∧
  w.cell? ⟨b, o + i * 3, none⟩ = some (.int .i64 l[i].1) ∧ w.cell? ⟨b, o + i * 3 + 1, none⟩ = some (.int .i64 l[i].2.1) ∧ w.cell? ⟨b, o + i * 3 + 2, none⟩ = some (.int .i64 l[i].2.2) ∧
  (-9223372036854775808 ≤ l[i].2.1 ∧ l[i].2.1 ≤ 9223372036854775807) ∧ (-9223372036854775808 ≤ l[i].2.2 ∧ l[i].2.2 ≤ 9223372036854775807)
theorem PcsIn.below {w w' : World} {a : Option Addr} {l : List (Int × Int × Int)} (h : PcsIn w a l) (hb : Below w.heap.size w w') : PcsIn w' a l := by
  intro i hi
  obtain ⟨b, o, h1, h2, h3, h4, h5, h6⟩ := h i hi
  exact ⟨b, o, h1, Nat.lt_of_lt_of_le h2 hb.size, (hb.cell (p := ⟨b, o + i * 3, none⟩) h2).trans h3, (hb.cell (p := ⟨b, o + i * 3 + 1, none⟩) h2).trans h4, (hb.cell (p := ⟨b, o + i * 3 + 2, none⟩) h2).trans h5, h6⟩
/-- Lines of pieces in memory. -/
def LinesIn (w : World) (a : Option Addr) (ls : List (List (Int × Int × Int))) : Prop := ∀ i (hi : i < ls.length), ∃ b o q c, a = some ⟨b, o, none⟩ ∧ b < w.heap.size ∧ w.cell? ⟨b, o + i, none⟩ = some (.slice q ls[i].length c) ∧ PcsIn w q ls[i]
theorem LinesIn.below {w w' : World} {a : Option Addr} {ls : List (List (Int × Int × Int))} (h : LinesIn w a ls) (hb : Below w.heap.size w w') : LinesIn w' a ls := by
  intro i hi
  obtain ⟨b, o, q, c, h1, h2, h3, h4⟩ := h i hi
  exact ⟨b, o, q, c, h1, Nat.lt_of_lt_of_le h2 hb.size, (hb.cell (p := ⟨b, o + i, none⟩) h2).trans h3, h4.below hb⟩
end Go.Proofs
