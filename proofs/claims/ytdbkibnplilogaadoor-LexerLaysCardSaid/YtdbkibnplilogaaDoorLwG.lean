/-
  For rows: an argument of lines of pieces.
-/
import Derived.Test.YtdbkibnplilogaaDoorLwE
import Derived.Lib.SmallJoins
import Derived.Deep.Strs
import Derived.OpenShut
set_option linter.unusedVariables false
namespace Go.Proofs
open Go.RowKit Go.ChangeShapes Go.WideShapes Go.ChangeAt

section
variable {H : Type} {enc : TypeId × Value → H} {P : Program} {W : World}

/-- Lists out of what holds at each place. -/
theorem exists_list {α : Type} (p : Nat → α → Prop) : ∀ n : Nat, (∀ i, i < n → ∃ x, p i x) → ∃ l : List α, l.length = n ∧ ∀ i (hi : i < l.length), p i l[i] := by
  intro n
  induction n with
  | zero => intro _; exact ⟨[], rfl, fun i hi => absurd hi (by simp)⟩
  | succ n ih =>
    intro h
    obtain ⟨l, h1, h2⟩ := ih (fun i hi => h i (by omega))
    obtain ⟨x, hx⟩ := h n (by omega)
    refine ⟨l ++ [x], by simp [h1], fun i hi => ?_⟩
    by_cases hin : i < l.length
    · rw [List.getElem_append_left hin]; exact h2 i hin
    · have hi2 : i = l.length := by simp at hi; omega
      subst hi2
      rw [List.getElem_append_right (Nat.le_refl _)]
      simp only [Nat.sub_self, List.getElem_cons_zero]
      rw [h1]; exact hx
theorem addr_add (b o n : Nat) : (⟨b, o, none⟩ : Addr).add n = ⟨b, o + n, none⟩ := by
  unfold Addr.add; split
  · rename_i h; subst h; rfl
  · rfl
/-- A slice that was read as data: each of its elements, in memory. -/
theorem trod_elems {t e : TypeId} {fuel sz : Nat} {a0 : Option Addr} {len cap : Nat} {x : DataW H × List MemPlace} (ht : P.underlying t = some (.slice e)) (hc : P.cellsOf e = sz) (hsz : 0 < sz)
    (h : DataW.trod enc P W 0 (fun _ => true) true fuel t [.slice a0 len cap] = some x) :
    len ≤ 9223372036854775807 ∧ len ≤ cap ∧ ∀ i, i < len → ∃ b o n cs y, a0 = some ⟨b, o, none⟩ ∧ b < W.heap.size ∧ cs.length = sz ∧ (∀ k, k < sz → W.cell? ⟨b, o + i * sz + k, none⟩ = cs[k]?) ∧ DataW.trod enc P W 0 (fun _ => true) true n e cs = some y := by
  rcases DataW.trod_slice ht h with ⟨h0, _⟩ | ⟨a, len', cap', elems, rest, n, _, hcs, _, hb, hl, hm, hlen, hel, _, _⟩
  · simp at h0
    obtain ⟨rfl, rfl, rfl⟩ := h0
    exact ⟨by omega, Nat.le_refl _, fun i hi => by omega⟩
  · simp at hcs
    obtain ⟨rfl, rfl, rfl⟩ := hcs
    rw [hc] at hel
    have key : ∀ i, i < len → ∃ cs y, W.cells? 0 (a.add (i * sz)) sz = some cs ∧ DataW.trod enc P W 0 (fun _ => true) true n e cs = some y := by
      intro i hi
      have h1 := hel i hi
      rw [List.getElem?_eq_getElem (by omega)] at h1
      obtain ⟨cs, h2, h3⟩ := Option.bind_eq_some_iff.1 h1
      exact ⟨cs, _, h2, h3⟩
    refine ⟨by unfold maxLen at hm; omega, hl, fun i hi => ?_⟩
    obtain ⟨cs0, y0, h20, h30⟩ := key 0 (by omega)
    obtain ⟨_, hl0, hc0⟩ := World.cells?_some h20
    have h00 := hc0 0 hsz
    rw [List.getElem?_eq_getElem (by omega), Nat.zero_mul] at h00
    have hsp : a.spot = none := by
      have := World.cell?_spot h00
      simpa [Addr.add] using this
    obtain ⟨b, o, sp⟩ := a
    obtain rfl : sp = none := hsp
    obtain ⟨cs, y, h2, h3⟩ := key i hi
    obtain ⟨_, hli, hci⟩ := World.cells?_some h2
    rw [addr_add] at h00
    refine ⟨b, o, n, cs, y, rfl, by simpa [addr_add] using World.block_lt_of_cell? _ _ h00, hli, fun k hk => ?_, h3⟩
    rw [← hci k hk, addr_add, addr_add]
/-- An argument of type [][]struct{int, int, int}. -/
theorem opened_lines {t e p : TypeId} {f0 f1 f2 : Field} (ht : P.underlying t = some (.slice e)) (he : P.underlying e = some (.slice p)) (hp : P.underlying p = some (.struct #[f0, f1, f2]))
    (h0 : P.underlying f0.type = some (.int .i64)) (h1 : P.underlying f1.type = some (.int .i64)) (h2 : P.underlying f2.type = some (.int .i64)) (ce : P.cellsOf e = 1) (cp : P.cellsOf p = 3) (c0 : P.cellsOf f0.type = 1) (c1 : P.cellsOf f1.type = 1) (c2 : P.cellsOf f2.type = 1)
    (o0 : f0.offset = 0) (o1 : f1.offset = 1) (o2 : f2.offset = 2) {a0 : Option Addr} {len cap : Nat} {d0 : DataW H} {ps : List MemPlace}
    (h : DataW.Trod enc P W 0 (fun _ => true) true t (.slice a0 len cap) d0 ps) : ∃ ls : List (List (Int × Int × Int)), ls.length = len ∧ LinesIn W a0 ls := by
  obtain ⟨fuel, hf⟩ := h
  obtain ⟨_, _, hel⟩ := trod_elems (fuel := fuel) (a0 := a0) (len := len) (cap := cap) ht ce (by decide) (by simpa [Value.cells] using hf)
  obtain ⟨ls, hl, hx⟩ := exists_list (fun i l => ∃ b o q c, a0 = some ⟨b, o, none⟩ ∧ b < W.heap.size ∧ W.cell? ⟨b, o + i, none⟩ = some (.slice q l.length c) ∧ PcsIn W q l) len (by
    intro i hi
    obtain ⟨b, o, n, cs, y, hab, hb, hcs, hcell, htr⟩ := hel i hi
    have hc0 := hcell 0 (by decide)
    rw [Nat.mul_one, Nat.add_zero] at hc0
    obtain ⟨v, rfl⟩ : ∃ v, cs = [v] := by
      match cs, hcs with
      | [v], _ => exact ⟨v, rfl⟩
    have hv : ∃ q m c, v = .slice q m c := by
      rcases DataW.trod_slice he htr with ⟨h0, _⟩ | ⟨a, len', cap', elems, rest, n', _, hcs', _⟩
      · simp at h0; exact ⟨none, 0, 0, h0⟩
      · simp at hcs'; exact ⟨_, _, _, hcs'⟩
    obtain ⟨q, m, c, rfl⟩ := hv
    obtain ⟨_, _, hpe⟩ := trod_elems he cp (by decide) htr
    obtain ⟨l, hll, hlx⟩ := exists_list (fun j (z : Int × Int × Int) => ∃ b o, q = some ⟨b, o, none⟩ ∧ b < W.heap.size ∧
      W.cell? ⟨b, o + j * 3, none⟩ = some (.int .i64 z.1) ∧ W.cell? ⟨b, o + j * 3 + 1, none⟩ = some (.int .i64 z.2.1) ∧ W.cell? ⟨b, o + j * 3 + 2, none⟩ = some (.int .i64 z.2.2) ∧
      (-9223372036854775808 ≤ z.2.1 ∧ z.2.1 ≤ 9223372036854775807) ∧ (-9223372036854775808 ≤ z.2.2 ∧ z.2.2 ≤ 9223372036854775807)) m (by
      intro j hj
      obtain ⟨b', o', n', cs', y', hab', hb', hcs', hcell', htr'⟩ := hpe j hj
      obtain ⟨x0, x1, x2, rfl⟩ : ∃ x0 x1 x2, cs' = [x0, x1, x2] := by
        match cs', hcs' with
        | [x0, x1, x2], _ => exact ⟨x0, x1, x2, rfl⟩
      obtain ⟨y0, y1, y2, k, _, _, t0, t1, t2⟩ := Go.Deep.trod_struct3 hp htr'
      rw [o0, c0] at t0
      rw [o1, c1] at t1
      rw [o2, c2] at t2
      obtain ⟨z0, e0, _, w0⟩ := DataW.trod_int h0 t0
      obtain ⟨z1, e1, _, w1⟩ := DataW.trod_int h1 t1
      obtain ⟨z2, e2, _, w2⟩ := DataW.trod_int h2 t2
      simp at e0 e1 e2
      subst e0; subst e1; subst e2
      exact ⟨(z0, z1, z2), b', o', hab', hb', (hcell' 0 (by decide)).trans rfl, (hcell' 1 (by decide)).trans rfl, (hcell' 2 (by decide)).trans rfl, bounds_i64 w1, bounds_i64 w2⟩)
    refine ⟨l, b, o, q, c, hab, hb, ?_, fun j hj => hlx j hj⟩
    rw [hc0, hll]; rfl)
  exact ⟨ls, hl, fun i hi => hx i hi⟩
end
end Go.Proofs
