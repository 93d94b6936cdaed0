/-
  For rows: an argument of ints, as a list; rows that lie apart.
-/
import Derived.Test.YtdbkibnplilogaaDoorLyA
import Derived.Lib.SlBytesRowKit
import Derived.OpenShut
set_option linter.unusedVariables false
namespace Go.Proofs
open Go.RowKit Go.ChangeShapes Go.WideShapes Go.ChangeAt

/-- A slice of ints that reads as the list. -/
def IsIn (w : World) (a : Option Addr) (xs : List Int) : Prop := ∀ i (h : i < xs.length), ∃ b o, a = some ⟨b, o, none⟩ ∧ b < w.heap.size ∧ w.cell? ⟨b, o + i, none⟩ = some (.int .i64 xs[i])
theorem IsIn.below {w w' : World} {a : Option Addr} {xs : List Int} (h : IsIn w a xs) (hb : Below w.heap.size w w') : IsIn w' a xs := by
  intro i hi
  obtain ⟨b, o, h1, h2, h3⟩ := h i hi
  exact ⟨b, o, h1, Nat.lt_of_lt_of_le h2 hb.size, (hb.cell (p := ⟨b, o + i, none⟩) h2).trans h3⟩
/-- Rows of different sorts lie in different blocks. -/
theorem rows_apart {w : World} {B e e' k k' n n' : Nat} {v v' : Value} {xs ys : List Value} (h : w.ownsRow B e k v n xs) (h' : w.ownsRow B e' k' v' n' ys) (he : e ≠ e') (g : Nat) (hg : v.ownBlock = some g) : v'.ownBlock ≠ some g := by
  intro hg'
  rcases h.2 with ⟨rfl, _⟩ | ⟨g1, c1, u1, rfl, _, hh1, _⟩
  · cases hg
  · rcases h'.2 with ⟨rfl, _⟩ | ⟨g2, c2, u2, rfl, _, hh2, _⟩
    · cases hg'
    · have e1 : g1 = g := by simpa [Value.ownBlock] using hg
      have e2 : g2 = g := by simpa [Value.ownBlock] using hg'
      subst e1; subst e2
      rw [hh1] at hh2
      injection hh2 with hh2
      injection hh2 with h3 h4
      exact he h4
theorem ownsRow_grown {w w' : World} {B e k n : Nat} {v : Value} {xs : List Value} {row : Option Nat} (h : w.ownsRow B e k v n xs) (hg : w.grownBy w' row) (hne : ∀ g, row = some g → v.ownBlock ≠ some g) : w'.ownsRow B e k v n xs :=
  ownsRow_keep h fun g hv => hg.block g (ownsRow_lt h hv).2 (fun e => hne g e.symm hv)

/-- An argument of type []int, nil or not. -/
theorem opened_is {H : Type} {enc : TypeId × Value → H} {P : Program} {t e : TypeId} (ht : P.underlying t = some (.slice e)) (he : P.underlying e = some (.int .i64)) (hc : P.cellsOf e = 1) {W : World} {a0 : Option Addr} {len cap : Nat} {d0 : DataW H} {p : List MemPlace}
    (h0 : DataW.Trod enc P W 0 (fun _ => true) true t (.slice a0 len cap) d0 p) :
    ∃ xs : List Int, xs.length = len ∧ IsIn W a0 xs ∧ len ≤ 9223372036854775807 ∧ len ≤ cap ∧ ∀ x ∈ xs, -9223372036854775808 ≤ x ∧ x ≤ 9223372036854775807 := by
  obtain ⟨fuel, hf⟩ := h0
  rcases open_ints ht he hc hf with ⟨hcs, hx⟩ | ⟨a, len', cap', zs, hcs, _, hl, hm, hz, hx, hcell, hwz⟩
  · simp [Value.cells] at hcs
    obtain ⟨rfl, rfl, rfl⟩ := hcs
    exact ⟨[], rfl, fun i hi => absurd hi (by simp), by omega, Nat.le_refl _, fun x hx => by cases hx⟩
  · simp [Value.cells] at hcs
    obtain ⟨rfl, rfl, rfl⟩ := hcs
    simp only [if_true] at hz
    have hlen : (zs.take len).length = len := by rw [List.length_take]; omega
    refine ⟨zs.take len, hlen, fun i hi => ?_, by unfold maxLen at *; omega, hl, fun x hx => ?_⟩
    · rw [hlen] at hi
      have h1 := hcell i (by omega)
      have h0' := World.cell?_spot (hcell 0 (by omega))
      obtain ⟨b, o, sp⟩ := a
      obtain rfl : sp = none := h0'
      have e1 : (⟨b, o, none⟩ : Addr).add i = ⟨b, o + i, none⟩ := by
        unfold Addr.add; split
        · rename_i h; subst h; rfl
        · rfl
      rw [e1] at h1
      refine ⟨b, o, rfl, World.block_lt_of_cell? _ _ h1, ?_⟩
      rw [h1, List.getElem_take]
      simp [List.getD, List.getElem?_eq_getElem (show i < zs.length by omega)]
    · exact bounds_i64 (hwz x (List.mem_of_mem_take hx))
end Go.Proofs
