/-
  Walks: fail, run, ends.
-/
import Derived.Test.YtdbkibnplilogaaDoorLxE
import Derived.Deep.QuietTactic
import Derived.BigQuiet
set_option linter.unusedVariables false
namespace Go.Lx
open Go.Lib Go.Lt
def endsOf : List UInt8 → Bool
  | [] => true
  | c :: _ => c == 10
theorem runOf_nil : runOf [] = [] := rfl
theorem runOf_yes (c : UInt8) (t : List UInt8) (h : isRun c = true) : runOf (c :: t) = c :: runOf t := by unfold runOf; rw [List.takeWhile_cons, if_pos h]
theorem runOf_no (c : UInt8) (t : List UInt8) (h : isRun c = false) : runOf (c :: t) = [] := by unfold runOf; rw [List.takeWhile_cons, if_neg (by rw [h]; decide)]
end Go.Lx
namespace Go.Proofs
open Go.RowKit Go.Lx

def Tryd.stopV (c a : Nat) : Value := .iface 46 (.agg #[.int .i64 c, .int .i64 a])

theorem Tryd.fail_any (p : Value) (c a : Nat) (w : World) :
    Calls Tryd.prog 39 #[p, .int .i64 c, .int .i64 a] w fun e w' => e = .panicked [{ v := Tryd.stopV c a, recovered := false }] ∧ w' = w := by
  go_enter Tryd.func39, Tryd.ntmps39
  go_wp2
  exact ⟨rfl, rfl, rfl⟩

theorem Tryd.LexV.cells {B b : Nat} {s : ByteArray} {st : St} {lv bv : Value} {w : World} (h : Tryd.LexV B b s st lv bv w) :
    w.cell? ⟨b, 0, none⟩ = some (.string s) ∧ w.cell? ⟨b, 1, none⟩ = some (.int .i64 st.pos) ∧ w.cell? ⟨b, 2, none⟩ = some lv ∧ w.cell? ⟨b, 3, none⟩ = some (.int .i64 st.opn) ∧ w.cell? ⟨b, 4, none⟩ = some bv ∧ w.frozen? ⟨b, 1, none⟩ = false ∧ w.frozen? ⟨b, 3, none⟩ = false ∧ w.frozen? ⟨b, 4, none⟩ = false :=
  ⟨(cell_of_heap h.2.1 0).trans rfl, (cell_of_heap h.2.1 1).trans rfl, (cell_of_heap h.2.1 2).trans rfl, (cell_of_heap h.2.1 3).trans rfl, (cell_of_heap h.2.1 4).trans rfl, free_of_heap h.2.1 1, free_of_heap h.2.1 3, free_of_heap h.2.1 4⟩

set_option maxHeartbeats 2000000 in
theorem Tryd.run_any (B b : Nat) (s : ByteArray) (st : St) (w : World) (h : Tryd.LexAt B b s st w) (hs : s.size ≤ 1000000) (hp : st.pos ≤ s.size) :
    Calls Tryd.prog 50 #[.pointer (some ⟨b, 0, none⟩)] w fun e w' => e = .returned (.string (bs (runOf (s.data.toList.drop st.pos)))) ∧ Below w.heap.size w w' := by
  obtain ⟨lv, bv, hV⟩ := h
  obtain ⟨c0, c1, _⟩ := hV.cells
  obtain ⟨P, hP⟩ : ∃ P, st.pos = P := ⟨_, rfl⟩
  rw [hP] at c1 hp ⊢
  clear hV hP
  go_enter Tryd.func50, Tryd.ntmps50
  go_wp2
  go_loopw [3] (fun i wr => ∃ (k : Nat), i = .int .i64 k ∧ P ≤ k ∧ k ≤ s.size ∧ wr = w ∧ Hid (runOf (s.data.toList.drop P) = (s.data.toList.drop P).take (k - P) ++ runOf (s.data.toList.drop k))) (fun i _ => s.size + 1 - (intOf i).toNat)
  case atStart => exact ⟨P, rfl, by omega, hp, rfl, by show _ = _; simp⟩
  case round =>
    obtain ⟨k, rfl, hk1, hk2, rfl, hr⟩ := hrel
    have hpI : (P : Int) ≤ (k : Int) := by omega
    have hkI : (k : Int) ≤ (s.size : Int) := by omega
    have hfin : Hid (runOf (s.data.toList.drop k) = [] → s.extract P k = bs (runOf (s.data.toList.drop P))) := by
      intro h0
      rw [hr.out, h0, List.append_nil]
      rw [← bs_data (s.extract P k), Lib.extract_data]
    by_cases hlt : k < s.size
    · have hdk := drop_cons s k hlt
      obtain ⟨c, hc⟩ : ∃ c, s[k] = c := ⟨_, rfl⟩
      rw [hc] at hdk
      have hkI2 : (k : Int) < (s.size : Int) := by omega
      have Hdk := Lib.hid hdk
      clear hdk
      have hgo : Hid (isRun c = true → runOf (s.data.toList.drop P) = (s.data.toList.drop P).take (k + 1 - P) ++ runOf (s.data.toList.drop (k + 1))) := by
        intro h1
        rw [hr.out, Hdk.out, runOf_yes _ _ h1]
        have e : k + 1 - P = (k - P) + 1 := by omega
        rw [e, List.take_add_one, List.getElem?_drop]
        have e2 : P + (k - P) = k := by omega
        rw [e2, ← List.head?_drop, Hdk.out]
        simp
      by_cases hl : isLet c = true
      · go_wp2_with fail
        refine (Tryd.isLetter_any c _).mono ?_
        rw [hl]
        rintro e W1 ⟨rfl, rfl⟩
        go_wp2_with fail
        go_roundw
        case rel => exact ⟨k + 1, by go_num, by omega, by omega, trivial, hgo.out (by unfold isRun; rw [hl]; rfl)⟩
        case measure => simp [intOf]; omega
      · replace hl : isLet c = false := by simpa using hl
        by_cases hd : isDig c = true
        · go_wp2_with fail
          refine (Tryd.isLetter_any c _).mono ?_
          rw [hl]
          rintro e W1 ⟨rfl, rfl⟩
          go_wp2_with fail
          refine (Tryd.isDigit_any c _).mono ?_
          rw [hd]
          rintro e W1 ⟨rfl, rfl⟩
          go_wp2_with fail
          go_roundw
          case rel => exact ⟨k + 1, by go_num, by omega, by omega, trivial, hgo.out (by unfold isRun; rw [hl, hd]; rfl)⟩
          case measure => simp [intOf]; omega
        · replace hd : isDig c = false := by simpa using hd
          have hres := hfin.out (by rw [Hdk.out]; exact runOf_no _ _ (by unfold isRun; rw [hl, hd]; rfl))
          have Hres := Lib.hid hres
          clear hres
          go_wp2_with fail
          refine (Tryd.isLetter_any c _).mono ?_
          rw [hl]
          rintro e W1 ⟨rfl, rfl⟩
          go_wp2_with fail
          refine (Tryd.isDigit_any c _).mono ?_
          rw [hd]
          rintro e W1 ⟨rfl, rfl⟩
          go_wp2_with fail
          go_quiet (fail)
          go_wp2_with fail
          go_ret
          exact ⟨by rw [← Hres.out]; rfl, below_drewN (Below.refl _ _) _⟩
    · obtain rfl : k = s.size := by omega
      have hres := hfin.out (by rw [List.drop_eq_nil_of_le (by rw [← Lib.size_eq]; omega)]; rfl)
      have Hres := Lib.hid hres
      clear hres
      go_wp2_with fail
      go_quiet (fail)
      go_wp2_with fail
      go_ret
      exact ⟨by rw [← Hres.out]; rfl, below_drewN (Below.refl _ _) _⟩

set_option maxHeartbeats 2000000 in
theorem Tryd.ends_any (B b : Nat) (s : ByteArray) (st : St) (w : World) (h : Tryd.LexAt B b s st w) (hs : s.size ≤ 1000000) (hp : st.pos ≤ s.size) :
    Calls Tryd.prog 25 #[.pointer (some ⟨b, 0, none⟩)] w fun e w' => e = .returned (.bool (endsOf (s.data.toList.drop st.pos))) ∧ Below w.heap.size w w' := by
  obtain ⟨lv, bv, hV⟩ := h
  obtain ⟨c0, c1, _⟩ := hV.cells
  obtain ⟨P, hP⟩ : ∃ P, st.pos = P := ⟨_, rfl⟩
  rw [hP] at c1 hp ⊢
  clear hV hP
  by_cases hlt : P < s.size
  · have hdk := drop_cons s P hlt
    obtain ⟨c, hc⟩ : ∃ c, s[P] = c := ⟨_, rfl⟩
    rw [hc] at hdk
    have hkI2 : (P : Int) < (s.size : Int) := by omega
    have hne : ((P : Int) == (s.size : Int)) = false := by rw [beq_eq_false_iff_ne]; omega
    have hne2 : decide (P = s.size) = false := by simp; omega
    have he : ((c.toNat : Int) == 10) = (c == 10) := by
      rw [Bool.eq_iff_iff, beq_iff_eq, beq_iff_eq, ← UInt8.toNat_inj]
      show _ ↔ c.toNat = 10
      omega
    rw [hdk]
    show Calls _ _ _ _ (fun e w' => e = .returned (.bool (c == 10)) ∧ _)
    rw [← he]
    clear hdk he
    cases hcc : ((c.toNat : Int) == 10)
    all_goals
      go_enter Tryd.func25, Tryd.ntmps25
      go_wp2_with fail
      go_quiet (fail)
      go_wp2_with fail
      go_ret
      exact ⟨rfl, below_drewN (Below.refl _ _) _⟩
  · obtain rfl : P = s.size := by omega
    rw [List.drop_eq_nil_of_le (by rw [← Lib.size_eq]; omega)]
    go_enter Tryd.func25, Tryd.ntmps25
    go_wp2_with fail
    go_quiet (fail)
    go_wp2_with fail
    go_ret
    exact ⟨rfl, below_drewN (Below.refl _ _) _⟩
end Go.Proofs
