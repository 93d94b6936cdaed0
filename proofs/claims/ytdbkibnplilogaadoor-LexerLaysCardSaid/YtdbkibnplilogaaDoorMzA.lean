/-
  For rows: an argument of bytes, as a string's bytes.
  Walks: the laws' own helpers: bytes, tokens.
-/
import Derived.Test.YtdbkibnplilogaaDoorLyA
import Derived.Lib.SlBytesRowKit
set_option linter.unusedVariables false
namespace Go.Proofs
open Go.RowKit Go.ChangeShapes Go.WideShapes Go.ChangeAt

theorem bs_of_bytesIn {W : World} {a : Option Addr} {n : Nat} {xs : List Int} (hl : xs.length = n) (hb : Lib.BytesIn W a n xs) (hw : ∀ x ∈ xs, 0 ≤ x ∧ x < 256) : ∃ s : ByteArray, s.size = n ∧ BsIn W a s := by
  refine ⟨Lx.bs (xs.map fun x => UInt8.ofNat x.toNat), by rw [bs_size, List.length_map, hl], fun i hi => ?_⟩
  rw [bs_size, List.length_map, hl] at hi
  obtain ⟨b, o, h1, h2⟩ := hb.at (by omega)
  refine ⟨b, o, h1, ?_⟩
  rw [h2 i hi, bs_get _ i (by rw [List.length_map, hl]; exact hi), List.getElem_map]
  have hx := hw xs[i] (List.getElem_mem _)
  have e : xs.getD i 0 = xs[i] := by simp [List.getD, List.getElem?_eq_getElem (show i < xs.length by omega)]
  have e2 : ((UInt8.ofNat xs[i].toNat).toNat : Int) = xs[i] := by
    rw [UInt8.toNat_ofNat']
    omega
  rw [e, e2]

/-- An argument of type []byte, nil or not. -/
theorem opened_bs {H : Type} {enc : TypeId × Value → H} {P : Program} {t e : TypeId} (ht : P.underlying t = some (.slice e)) (he : P.underlying e = some (.int .u8)) (hc : P.cellsOf e = 1) {W : World} {a0 : Option Addr} {len cap : Nat} {d0 : DataW H} {p : List MemPlace}
    (h0 : DataW.Trod enc P W 0 (fun _ => true) true t (.slice a0 len cap) d0 p) : ∃ s : ByteArray, s.size = len ∧ BsIn W a0 s ∧ s.size ≤ 9223372036854775807 ∧ s.size ≤ cap := by
  obtain ⟨xs, hl, hlc, hb, _, hw, _⟩ := opened_bytes ht he hc h0
  obtain ⟨s, hs, hi⟩ := bs_of_bytesIn hl hb hw
  refine ⟨s, hs, hi, ?_, by omega⟩
  obtain ⟨fuel, hf⟩ := h0
  rcases open_ints ht he hc hf with ⟨hcs, hx⟩ | ⟨a, len', cap', zs, hcs, _, hl, hm, hz, hx, hcell, hwz⟩
  · simp [Value.cells] at hcs
    omega
  · simp [Value.cells] at hcs
    unfold maxLen at *
    omega
end Go.Proofs

namespace Go.Proofs
open Go.RowKit Go.Lx Go.Lt

set_option maxHeartbeats 4000000 in
theorem Tryd.bytes13_any (a1 a2 : Option Addr) (c1 c2 : Nat) (s : ByteArray) (w : World) (h1 : BsIn w a1 s) (h2 : BsIn w a2 s) (hs : s.size ≤ 1000000) :
    Calls Tryd.prog 12 #[.slice a1 s.size c1, .slice a2 s.size c2] w fun e w' => e = .returned (.bool true) ∧ Below w.heap.size w w' := by
  have H1 := Lib.hid h1
  have H2 := Lib.hid h2
  clear h1 h2
  go_enter Tryd.func12, Tryd.ntmps12
  go_wp2
  go_loopw [5] (fun i wr => ∃ (k : Nat), i = .int .i64 k ∧ k ≤ s.size ∧ Below w.heap.size w wr) (fun i _ => s.size - (intOf i).toNat)
  case atStart => exact ⟨0, rfl, Nat.zero_le _, Below.refl _ _⟩
  case round =>
    obtain ⟨k, rfl, hk, hbw⟩ := hrel
    by_cases hlt : k < s.size
    · have hkI : (k : Int) < (s.size : Int) := by omega
      have b1 := H1.out.below hbw
      have b2 := H2.out.below hbw
      obtain ⟨p1, o1, rfl, _⟩ := b1 k hlt
      obtain ⟨p2, o2, rfl, _⟩ := b2 k hlt
      obtain ⟨p1', o1', e1, k1⟩ := b1 k hlt
      obtain ⟨p2', o2', e2, k2⟩ := b2 k hlt
      cases e1
      cases e2
      obtain ⟨c, hc⟩ : ∃ c, s[k] = c := ⟨_, rfl⟩
      rw [hc] at k1 k2
      have HB := Lib.hid hbw
      clear b1 b2 hc hbw
      go_wp2_with fail
      go_quiet (fail)
      have hb1 := Lib.hid (below_drewN HB.out nq)
      go_wp2_with fail
      go_roundw
      case rel => exact ⟨k + 1, by go_num, by omega, hb1.out⟩
      case measure => simp [intOf]; omega
    · have hkI : ¬ (k : Int) < (s.size : Int) := by omega
      have hkN : ¬ k < s.size := hlt
      go_wp2_with fail
      go_ret
      exact ⟨rfl, hbw⟩

set_option maxHeartbeats 4000000 in
theorem Tryd.tokens13_any (B1 B2 : Nat) (v1 v2 : Value) (la lb : List Tok) (flag : Bool) (w : World) (h1 : w.ownsRow B1 35 3 v1 la.length (tokCells la)) (h2 : w.ownsRow B2 35 3 v2 lb.length (tokCells lb)) (hl : lb.length = la.length)
    (heq : ∀ i (hi : i < la.length), la[i].kind = (lb[i]'(by omega)).kind ∧ la[i].text = (lb[i]'(by omega)).text ∧ (flag = true → la[i].at_ = (lb[i]'(by omega)).at_)) :
    Calls Tryd.prog 13 #[v1, v2, .bool flag] w fun e w' => e = .returned (.bool true) ∧ Below w.heap.size w w' := by
  have hn : la.length ≤ 9223372036854775807 := by
    rcases h1.2 with ⟨_, h⟩ | ⟨_, _, _, _, _, _, h, h', _⟩
    · omega
    · unfold maxLen at h'; omega
  obtain ⟨q1, c1, rfl, o1⟩ := row_open3 h1
  obtain ⟨q2, c2, rfl, o2⟩ := row_open3 h2
  obtain ⟨n, hla⟩ : ∃ n, la.length = n := ⟨_, rfl⟩
  have HC : Hid (∀ k, k < n → ∃ g1 g2 K P1 P2, ∃ X : ByteArray, q1 = some ⟨g1, 0, none⟩ ∧ q2 = some ⟨g2, 0, none⟩ ∧ g1 < w.heap.size ∧ g2 < w.heap.size ∧ w.cell? ⟨g1, k * 3, none⟩ = some (.int .i64 ((K : Nat) : Int)) ∧ w.cell? ⟨g1, k * 3 + 1, none⟩ = some (.string X) ∧ w.cell? ⟨g1, k * 3 + 2, none⟩ = some (.int .i64 ((P1 : Nat) : Int)) ∧
      w.cell? ⟨g2, k * 3, none⟩ = some (.int .i64 (K : Int)) ∧ w.cell? ⟨g2, k * 3 + 1, none⟩ = some (.string X) ∧ w.cell? ⟨g2, k * 3 + 2, none⟩ = some (.int .i64 ((P2 : Nat) : Int)) ∧ (flag = true → P1 = P2)) := by
    intro k hk
    obtain ⟨g1, e1, _, l1, x1⟩ := o1 (by omega)
    obtain ⟨g2, e2, _, l2, x2⟩ := o2 (by omega)
    obtain ⟨y1, y2, y3⟩ := x1 k (by omega)
    obtain ⟨z1, z2, z3⟩ := x2 k (by omega)
    obtain ⟨m1, m2, m3⟩ := heq k (by omega)
    rw [← m1] at z1
    rw [← m2] at z2
    rw [Nat.mul_comm] at y1 y2 y3 z1 z2 z3
    exact ⟨g1, g2, _, _, _, _, e1, e2, l1, l2, y1, y2, y3, z1, z2, z3, m3⟩
  rw [hl, hla]
  rw [hla] at hn
  clear h1 h2 o1 o2 hla heq hl
  go_enter Tryd.func13, Tryd.ntmps13
  go_wp2
  go_loopw [7] (fun i wr => ∃ (k : Nat), i = .int .i64 k ∧ k ≤ n ∧ Below w.heap.size w wr) (fun i _ => n - (intOf i).toNat)
  case atStart => exact ⟨0, rfl, Nat.zero_le _, Below.refl _ _⟩
  case round =>
    obtain ⟨k, rfl, hk, hbw⟩ := hrel
    by_cases hlt : k < n
    · have hkI : (k : Int) < (n : Int) := by omega
      obtain ⟨g1, g2, K, P1, P2, X, rfl, rfl, l1, l2, y1, y2, y3, z1, z2, z3, hP⟩ := HC.out k hlt
      rw [← hbw.cell (p := ⟨g1, k * 3, none⟩) l1] at y1
      rw [← hbw.cell (p := ⟨g1, k * 3 + 1, none⟩) l1] at y2
      rw [← hbw.cell (p := ⟨g1, k * 3 + 2, none⟩) l1] at y3
      rw [← hbw.cell (p := ⟨g2, k * 3, none⟩) l2] at z1
      rw [← hbw.cell (p := ⟨g2, k * 3 + 1, none⟩) l2] at z2
      rw [← hbw.cell (p := ⟨g2, k * 3 + 2, none⟩) l2] at z3
      have HB := Lib.hid hbw
      clear hbw
      cases flag
      · clear hP
        go_wp2_with fail
        go_quiet (fail)
        have hb1 := Lib.hid (below_drewN HB.out nq)
        go_wp2_with fail
        go_roundw
        case rel => exact ⟨k + 1, by go_num, by omega, hb1.out⟩
        case measure => simp [intOf]; omega
      · obtain rfl := hP rfl
        clear hP
        go_wp2_with fail
        go_quiet (fail)
        have hb1 := Lib.hid (below_drewN HB.out nq)
        go_wp2_with fail
        go_roundw
        case rel => exact ⟨k + 1, by go_num, by omega, hb1.out⟩
        case measure => simp [intOf]; omega
    · have hkI : ¬ (k : Int) < (n : Int) := by omega
      have hkN : ¬ k < n := hlt
      go_wp2_with fail
      go_ret
      exact ⟨rfl, hbw⟩
end Go.Proofs
