/-
  Walks: the reference's Word and Sign; the lexer's sign.
-/
import Derived.Test.YtdbkibnplilogaaDoorLxB
set_option linter.unusedVariables false
namespace Go.Proofs
open Go.RowKit Go.Lx

def textVals (l : List (List UInt8)) : List Value := l.map fun x => .string (bs x)
theorem textVals_get (l : List (List UInt8)) (k : Nat) (h : k < l.length) : (textVals l)[k]? = some (.string (bs l[k])) := by
  unfold textVals; rw [List.getElem?_map, List.getElem?_eq_getElem h]; rfl
theorem bs_toList (l : List UInt8) : (bs l).toList = l := by rw [Lib.toList_data]; rfl

theorem cells_new (w : World) (cs : Array Value) (t : TypeId) (fz : Nat × Nat) (j : Nat) : (w.alloc (.cells cs t fz)).cell? ⟨w.heap.size, j, none⟩ = cs[j]? := by
  unfold World.cell?
  rw [alloc_new]
  rfl

set_option maxHeartbeats 4000000 in
set_option maxRecDepth 100000 in
theorem Tryd.rword_any (s : ByteArray) (w : World) : Calls Tryd.prog 15 #[.string s] w fun e w' => e = .returned (.bool (isWord s.data.toList)) ∧ Below w.heap.size w w' := by
  have hlen : words.length = 26 := rfl
  go_enter Tryd.func15, Tryd.ntmps15
  go_wp2
  go_loopw [4] (fun i wr => ∃ (k : Nat), i = .int .i64 k ∧ k ≤ 26 ∧ (∀ j, wr.cell? ⟨w.heap.size, j, none⟩ = (textVals words)[j]?) ∧ Below w.heap.size w wr ∧ Hid (∀ j, j < k → words[j]? ≠ some s.data.toList)) (fun i _ => 26 - (intOf i).toNat)
  case atStart =>
    refine ⟨0, rfl, by omega, ?_, (Below.refl _ w).alloc (Nat.le_refl _) _, fun j hj => absurd hj (Nat.not_lt_zero _)⟩
    intro j
    have := cells_new w (textVals words).toArray 9 (0, 0) j
    rw [List.getElem?_toArray] at this
    exact this
  case round =>
    obtain ⟨k, rfl, hk, hc, hbw, hno⟩ := hrel
    by_cases hlt : k < 26
    · have hlt2 : k < words.length := by omega
      obtain ⟨X, hX⟩ : ∃ X, words[k] = X := ⟨_, rfl⟩
      have hcell : wr.cell? ⟨w.heap.size, k, none⟩ = some (.string (bs X)) := by rw [hc k, textVals_get words k hlt2, hX]
      have hkI : (k : Int) < 26 := by omega
      have Hc := Lib.hid hc
      have Hlt2 := Lib.hid hlt2
      have HX : Hid (words[k]? = some X) := by show _ = _; rw [List.getElem?_eq_getElem hlt2, hX]
      clear hc hX hlt2 hlen
      by_cases he : X = s.data.toList
      · have heq : ((bs X).toList == s.toList) = true := by rw [bs_toList, Lib.toList_data, beq_iff_eq]; exact he
        have hr : Hid (isWord s.data.toList = true) := by
          show _ = _
          unfold isWord
          rw [List.contains_iff_mem, ← he]
          exact List.mem_of_getElem? HX.out
        clear he
        go_wp2_with fail
        go_ret
        exact ⟨by rw [hr.out]; rfl, hbw⟩
      · have heq : ((bs X).toList == s.toList) = false := by rw [bs_toList, Lib.toList_data, beq_eq_false_iff_ne]; exact he
        have hno2 : Hid (∀ j, j < k + 1 → words[j]? ≠ some s.data.toList) := by
          intro j hj h
          rcases Nat.lt_or_ge j k with h1 | h1
          · exact hno.out j h1 h
          · obtain rfl : j = k := by omega
            rw [HX.out] at h
            exact he (Option.some.inj h)
        clear he
        go_wp2_with fail
        go_roundw
        case rel => exact ⟨k + 1, by go_num, by omega, Hc.out, hbw, hno2⟩
        case measure => simp [intOf]; omega
    · obtain rfl : k = 26 := by omega
      have hr : Hid (isWord s.data.toList = false) := by
        show _ = _
        unfold isWord
        rw [Bool.eq_false_iff]
        intro h
        rw [List.contains_iff_mem] at h
        obtain ⟨j, hj, h2⟩ := List.mem_iff_getElem.1 h
        exact hno.out j (by omega) (by rw [List.getElem?_eq_getElem hj, h2])
      clear hc
      go_wp2_with fail
      go_ret
      exact ⟨by rw [hr.out]; rfl, hbw⟩
end Go.Proofs
