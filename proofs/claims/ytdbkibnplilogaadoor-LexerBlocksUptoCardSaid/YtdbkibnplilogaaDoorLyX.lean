/-
  For rows: an argument of ints, as a list.
-/
import Derived.Test.YtdbkibnplilogaaDoorLyV
import Derived.Lib.SlBytesRowKit
import Derived.OpenShut
set_option linter.unusedVariables false
namespace Go.Proofs
open Go.RowKit Go.ChangeShapes Go.WideShapes Go.ChangeAt

/-- An argument of type []int, nil or not. -/
theorem opened_is {H : Type} {enc : TypeId × Value → H} {P : Program} {t e : TypeId} (ht : P.underlying t = some (.slice e)) (he : P.underlying e = some (.int .i64)) (hc : P.cellsOf e = 1) {W : World} {a0 : Option Addr} {len cap : Nat} {d0 : DataW H} {p : List MemPlace}
    (h0 : DataW.Trod enc P W 0 (fun _ => true) true t (.slice a0 len cap) d0 p) :
    ∃ xs : List Int, xs.length = len ∧ IsIn W a0 xs ∧ len ≤ 9223372036854775807 ∧ len ≤ cap ∧ ∀ x ∈ xs, -9223372036854775808 ≤ x ∧ x ≤ 9223372036854775807 := by
  obtain ⟨fuel, hf⟩ := h0
  rcases open_ints ht he hc hf with ⟨hcs, hx⟩ | ⟨a, len', cap', zs, hcs, _, hl, hm, hz, hx, hcell, hwz⟩
  · simp [Value.cells] at hcs
    obtain ⟨rfl, rfl, rfl⟩ := hcs
    exact ⟨[], rfl, fun i hi => absurd hi (by simp), by omega, Nat.le_refl _, fun x hx => by cases hx⟩
  · simp [Value.cells] at hcs
    obtain ⟨rfl, rfl, rfl⟩ := hcs
    simp only [if_true] at hz
    have hlen : (zs.take len).length = len := by rw [List.length_take]; omega
    refine ⟨zs.take len, hlen, fun i hi => ?_, by unfold maxLen at *; omega, hl, fun x hx => ?_⟩
    · rw [hlen] at hi
      have h1 := hcell i (by omega)
      have h0' := World.cell?_spot (hcell 0 (by omega))
      obtain ⟨b, o, sp⟩ := a
      obtain rfl : sp = none := h0'
      have e1 : (⟨b, o, none⟩ : Addr).add i = ⟨b, o + i, none⟩ := by
        unfold Addr.add; split
        · rename_i h; subst h; rfl
        · rfl
      rw [e1] at h1
      refine ⟨b, o, rfl, World.block_lt_of_cell? _ _ h1, ?_⟩
      rw [h1, List.getElem_take]
      simp [List.getD, List.getElem?_eq_getElem (show i < zs.length by omega)]
    · exact bounds_i64 (hwz x (List.mem_of_mem_take hx))
end Go.Proofs
