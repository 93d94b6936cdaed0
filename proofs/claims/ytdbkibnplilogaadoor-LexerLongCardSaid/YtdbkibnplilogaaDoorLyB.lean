/-
  For rows: an argument of bytes, as a string's bytes.
-/
import Derived.Test.YtdbkibnplilogaaDoorLyA
import Derived.Lib.SlBytesRowKit
set_option linter.unusedVariables false
namespace Go.Proofs
open Go.RowKit Go.ChangeShapes Go.WideShapes Go.ChangeAt

theorem bs_of_bytesIn {W : World} {a : Option Addr} {n : Nat} {xs : List Int} (hl : xs.length = n) (hb : Lib.BytesIn W a n xs) (hw : ∀ x ∈ xs, 0 ≤ x ∧ x < 256) : ∃ s : ByteArray, s.size = n ∧ BsIn W a s := by
  refine ⟨Lx.bs (xs.map fun x => UInt8.ofNat x.toNat), by rw [bs_size, List.length_map, hl], fun i hi => ?_⟩
  rw [bs_size, List.length_map, hl] at hi
  obtain ⟨b, o, h1, h2⟩ := hb.at (by omega)
  refine ⟨b, o, h1, ?_⟩
  rw [h2 i hi, bs_get _ i (by rw [List.length_map, hl]; exact hi), List.getElem_map]
  have hx := hw xs[i] (List.getElem_mem _)
  have e : xs.getD i 0 = xs[i] := by simp [List.getD, List.getElem?_eq_getElem (show i < xs.length by omega)]
  have e2 : ((UInt8.ofNat xs[i].toNat).toNat : Int) = xs[i] := by
    rw [UInt8.toNat_ofNat']
    omega
  rw [e, e2]

/-- An argument of type []byte, nil or not. -/
theorem opened_bs {H : Type} {enc : TypeId × Value → H} {P : Program} {t e : TypeId} (ht : P.underlying t = some (.slice e)) (he : P.underlying e = some (.int .u8)) (hc : P.cellsOf e = 1) {W : World} {a0 : Option Addr} {len cap : Nat} {d0 : DataW H} {p : List MemPlace}
    (h0 : DataW.Trod enc P W 0 (fun _ => true) true t (.slice a0 len cap) d0 p) : ∃ s : ByteArray, s.size = len ∧ BsIn W a0 s ∧ s.size ≤ 9223372036854775807 := by
  obtain ⟨xs, hl, _, hb, _, hw, _⟩ := opened_bytes ht he hc h0
  obtain ⟨s, hs, hi⟩ := bs_of_bytesIn hl hb hw
  refine ⟨s, hs, hi, ?_⟩
  obtain ⟨fuel, hf⟩ := h0
  rcases open_ints ht he hc hf with ⟨hcs, hx⟩ | ⟨a, len', cap', zs, hcs, _, hl, hm, hz, hx, hcell, hwz⟩
  · simp [Value.cells] at hcs
    omega
  · simp [Value.cells] at hcs
    unfold maxLen at *
    omega
end Go.Proofs
