/-
  Walks of LexerLays: pick, word.
-/
import Derived.Test.YtdbkibnplilogaaDoorLwB
import Derived.Test.YtdbkibnplilogaaDoorLwC
import Derived.Test.YtdbkibnplilogaaDoorLyA
set_option linter.unusedVariables false
namespace Go.Proofs
open Go.RowKit Go.Lx Go.Lt

set_option maxHeartbeats 1000000 in
theorem Tryd.pick_any (g cap : Nat) (l : List (List UInt8)) (k : Int) (w : World) (h : ∀ i (hi : i < l.length), w.cell? ⟨g, i, none⟩ = some (.string (bs l[i]))) (h0 : 0 < l.length) (h1 : l.length ≤ 1000)
    (hk : -9223372036854775808 ≤ k ∧ k ≤ 9223372036854775807) :
    Calls Tryd.prog 22 #[.slice (some ⟨g, 0, none⟩) l.length cap, .int .i64 k] w fun e w' => e = .returned (.string (bs (pickI l k))) ∧ w' = w := by
  obtain ⟨n, hn⟩ : ∃ n, l.length = n := ⟨_, rfl⟩
  have hnI : (n : Int) ≠ 0 := by omega
  obtain ⟨hk0, hk1⟩ := hk
  have e1 := Int.emod_nonneg k hnI
  have e2 := Int.emod_lt_of_pos k (show 0 < (n : Int) by omega)
  obtain ⟨m, hm⟩ : ∃ m : Nat, k % (n : Int) = (m : Int) := ⟨(k % (n : Int)).toNat, by omega⟩
  have hmn : m < n := by omega
  have hp : pickI l k = l[m]'(by omega) := by
    unfold pickI
    have e : (k % (l.length : Int)).toNat = m := by rw [hn, hm]; omega
    rw [e, List.getD_eq_getElem?_getD, List.getElem?_eq_getElem (by omega)]; rfl
  have hc := h m (by omega)
  rw [← hp] at hc
  rw [hn]
  have hn1 : n ≤ 1000 := by omega
  have ht : k.tmod (n : Int) = (m : Int) ∨ (k.tmod (n : Int) = (m : Int) - (n : Int)) := by
    rw [Int.tmod_eq_emod, hm]
    split
    · left; simp
    · right; omega
  clear h hp hn hm e1 e2 h1
  rcases ht with ht | ht
  · go_enter Tryd.func22, Tryd.ntmps22
    go_wp2_with fail
    go_ret
    exact ⟨rfl, rfl⟩
  · have hneg : (m : Int) - (n : Int) < 0 := by omega
    go_enter Tryd.func22, Tryd.ntmps22
    go_wp2_with fail
    go_ret
    exact ⟨rfl, rfl⟩

/-- word, its five ways: the texts lie in a block of their own. -/
theorem strs_new (w : World) (l : List (List UInt8)) (t : TypeId) (fz : Nat × Nat) (cs : Array Value) (h : cs = (l.map fun x => Value.string (bs x)).toArray) :
    ∀ i (hi : i < l.length), (w.alloc (.cells cs t fz)).cell? ⟨w.heap.size, i, none⟩ = some (.string (bs l[i])) := by
  intro i hi
  rw [cells_new, h]
  simp [hi]
theorem Tryd.word_block (w : World) (o1 o2 o3 : Obj) : (((w.alloc o1).alloc o2).alloc o3).heap[w.heap.size + 1]? = some o2 := by
  have h := alloc_new (w.alloc o1) o2
  rw [show (w.alloc o1).heap.size = w.heap.size + 1 by show (w.heap.push o1).size = _; simp] at h
  rw [Below.heap_alloc _ _ _ (by show w.heap.size + 1 < ((w.heap.push o1).push o2).size; simp), h]
def Tryd.WordOut (w : World) (x : Pc) (e : Ending) (w' : World) : Prop := e = .returned (.tuple #[.string (bs x.w), .agg #[.int .i64 x.kind, .string (bs x.text), .int .i64 0]]) ∧ Below w.heap.size w w'
theorem Tryd.word_world (w : World) (k wh b : Int) (o : Obj) : Below w.heap.size w (((w.alloc (.cells #[.int .i64 k, .int .i64 wh, .int .i64 b] 42 (0, 0))).alloc (.cells #[.int .i64 0, .string ⟨#[]⟩, .int .i64 0] 35 (0, 0))).alloc o) :=
  (((Below.refl _ w).alloc (Nat.le_refl _) _).alloc (by simp) _).alloc (by simp; omega) _

set_option maxHeartbeats 4000000 in
set_option maxRecDepth 100000 in
theorem Tryd.word_nom (wh b : Int) (w : World) (hw : -9223372036854775808 ≤ wh ∧ wh ≤ 9223372036854775807) :
    Calls Tryd.prog 16 #[.agg #[.int .i64 0, .int .i64 wh, .int .i64 b]] w (Tryd.WordOut w ⟨pickI noms wh, 1, pickI noms wh⟩) := by
  have hpick : Calls Tryd.prog 22 #[.slice (some ⟨w.heap.size + 1 + 1, 0, none⟩) 6 6, .int .i64 wh] (((w.alloc (.cells #[.int .i64 0, .int .i64 wh, .int .i64 b] 42 (0, 0))).alloc (.cells #[.int .i64 0, .string ⟨#[]⟩, .int .i64 0] 35 (0, 0))).alloc (.cells #[.string ⟨#[97]⟩, .string ⟨#[120, 49]⟩, .string ⟨#[95]⟩, .string ⟨#[90, 101, 100]⟩, .string ⟨#[105, 102, 102]⟩, .string ⟨#[110, 111, 116, 116]⟩] 9 (0, 0))) fun e w' => e = .returned (.string (bs (pickI noms wh))) ∧ w' = ((w.alloc (.cells #[.int .i64 0, .int .i64 wh, .int .i64 b] 42 (0, 0))).alloc (.cells #[.int .i64 0, .string ⟨#[]⟩, .int .i64 0] 35 (0, 0))).alloc (.cells #[.string ⟨#[97]⟩, .string ⟨#[120, 49]⟩, .string ⟨#[95]⟩, .string ⟨#[90, 101, 100]⟩, .string ⟨#[105, 102, 102]⟩, .string ⟨#[110, 111, 116, 116]⟩] 9 (0, 0)) :=
    Tryd.pick_any (w.heap.size + 1 + 1) 6 noms wh _ (by intro i hi; have := strs_new ((w.alloc (.cells #[.int .i64 0, .int .i64 wh, .int .i64 b] 42 (0, 0))).alloc (.cells #[.int .i64 0, .string ⟨#[]⟩, .int .i64 0] 35 (0, 0))) noms 9 (0, 0) #[.string ⟨#[97]⟩, .string ⟨#[120, 49]⟩, .string ⟨#[95]⟩, .string ⟨#[90, 101, 100]⟩, .string ⟨#[105, 102, 102]⟩, .string ⟨#[110, 111, 116, 116]⟩] rfl i hi; rw [show ((w.alloc (.cells #[.int .i64 0, .int .i64 wh, .int .i64 b] 42 (0, 0))).alloc (.cells #[.int .i64 0, .string ⟨#[]⟩, .int .i64 0] 35 (0, 0))).heap.size = w.heap.size + 1 + 1 by simp] at this; exact this) (by decide) (by decide) hw
  have HB := Lib.hid (Tryd.word_world w 0 wh b (.cells #[.string ⟨#[97]⟩, .string ⟨#[120, 49]⟩, .string ⟨#[95]⟩, .string ⟨#[90, 101, 100]⟩, .string ⟨#[105, 102, 102]⟩, .string ⟨#[110, 111, 116, 116]⟩] 9 (0, 0)))
  obtain ⟨x, hx⟩ : ∃ x, pickI noms wh = x := ⟨_, rfl⟩
  rw [hx] at hpick ⊢
  have HP := Lib.hid hpick
  have HX := Lib.hid hx
  clear hpick hx
  go_enter Tryd.func16, Tryd.ntmps16
  go_wp2_with fail
  refine HP.out.mono ?_
  rintro e W1 ⟨rfl, rfl⟩
  go_wp2_with fail
  refine bodyPost_ret (v := .tuple #[.string (bs x), .agg #[.int .i64 1, .string (bs x), .int .i64 0]]) (by simp [results, Tryd.results16, go_sem]) rfl ⟨rfl, (((Below.refl _ w).alloc (Nat.le_refl _) _).alloc (by simp) _).alloc (by simp; omega) _⟩

set_option maxHeartbeats 4000000 in
set_option maxRecDepth 100000 in
theorem Tryd.word_num (wh b : Int) (w : World) (hw : -9223372036854775808 ≤ wh ∧ wh ≤ 9223372036854775807) :
    Calls Tryd.prog 16 #[.agg #[.int .i64 2, .int .i64 wh, .int .i64 b]] w (Tryd.WordOut w ⟨pickI nums wh, 3, pickI nums wh⟩) := by
  have hpick : Calls Tryd.prog 22 #[.slice (some ⟨w.heap.size + 1 + 1, 0, none⟩) 4 4, .int .i64 wh] (((w.alloc (.cells #[.int .i64 2, .int .i64 wh, .int .i64 b] 42 (0, 0))).alloc (.cells #[.int .i64 0, .string ⟨#[]⟩, .int .i64 0] 35 (0, 0))).alloc (.cells #[.string ⟨#[48]⟩, .string ⟨#[55]⟩, .string ⟨#[49, 48]⟩, .string ⟨#[57, 56, 55, 54, 53, 52, 51, 50, 49, 48, 57, 56, 55, 54, 53, 52, 51, 50, 49, 48]⟩] 9 (0, 0))) fun e w' => e = .returned (.string (bs (pickI nums wh))) ∧ w' = ((w.alloc (.cells #[.int .i64 2, .int .i64 wh, .int .i64 b] 42 (0, 0))).alloc (.cells #[.int .i64 0, .string ⟨#[]⟩, .int .i64 0] 35 (0, 0))).alloc (.cells #[.string ⟨#[48]⟩, .string ⟨#[55]⟩, .string ⟨#[49, 48]⟩, .string ⟨#[57, 56, 55, 54, 53, 52, 51, 50, 49, 48, 57, 56, 55, 54, 53, 52, 51, 50, 49, 48]⟩] 9 (0, 0)) :=
    Tryd.pick_any (w.heap.size + 1 + 1) 4 nums wh _ (by intro i hi; have := strs_new ((w.alloc (.cells #[.int .i64 2, .int .i64 wh, .int .i64 b] 42 (0, 0))).alloc (.cells #[.int .i64 0, .string ⟨#[]⟩, .int .i64 0] 35 (0, 0))) nums 9 (0, 0) #[.string ⟨#[48]⟩, .string ⟨#[55]⟩, .string ⟨#[49, 48]⟩, .string ⟨#[57, 56, 55, 54, 53, 52, 51, 50, 49, 48, 57, 56, 55, 54, 53, 52, 51, 50, 49, 48]⟩] rfl i hi; rw [show ((w.alloc (.cells #[.int .i64 2, .int .i64 wh, .int .i64 b] 42 (0, 0))).alloc (.cells #[.int .i64 0, .string ⟨#[]⟩, .int .i64 0] 35 (0, 0))).heap.size = w.heap.size + 1 + 1 by simp] at this; exact this) (by decide) (by decide) hw
  have HB := Lib.hid (Tryd.word_world w 2 wh b (.cells #[.string ⟨#[48]⟩, .string ⟨#[55]⟩, .string ⟨#[49, 48]⟩, .string ⟨#[57, 56, 55, 54, 53, 52, 51, 50, 49, 48, 57, 56, 55, 54, 53, 52, 51, 50, 49, 48]⟩] 9 (0, 0)))
  obtain ⟨x, hx⟩ : ∃ x, pickI nums wh = x := ⟨_, rfl⟩
  rw [hx] at hpick ⊢
  have HP := Lib.hid hpick
  have HX := Lib.hid hx
  clear hpick hx
  go_enter Tryd.func16, Tryd.ntmps16
  go_wp2_with fail
  refine HP.out.mono ?_
  rintro e W1 ⟨rfl, rfl⟩
  go_wp2_with fail
  refine bodyPost_ret (v := .tuple #[.string (bs x), .agg #[.int .i64 3, .string (bs x), .int .i64 0]]) (by simp [results, Tryd.results16, go_sem]) rfl ⟨rfl, (((Below.refl _ w).alloc (Nat.le_refl _) _).alloc (by simp) _).alloc (by simp; omega) _⟩

set_option maxHeartbeats 4000000 in
set_option maxRecDepth 100000 in
theorem Tryd.word_sgn (k wh b : Int) (w : World) (hw : -9223372036854775808 ≤ wh ∧ wh ≤ 9223372036854775807) (hk : k ≠ 0 ∧ k ≠ 1 ∧ k ≠ 2 ∧ k ≠ 3) :
    Calls Tryd.prog 16 #[.agg #[.int .i64 k, .int .i64 wh, .int .i64 b]] w (Tryd.WordOut w ⟨pickI sgns wh, 5, pickI sgns wh⟩) := by
  obtain ⟨k0, k1, k2, k3⟩ := hk
  have t0 : ((k : Int) == 0) = false := by rw [beq_eq_false_iff_ne]; exact k0
  have t1 : ((k : Int) == 1) = false := by rw [beq_eq_false_iff_ne]; exact k1
  have t2 : ((k : Int) == 2) = false := by rw [beq_eq_false_iff_ne]; exact k2
  have t3 : ((k : Int) == 3) = false := by rw [beq_eq_false_iff_ne]; exact k3
  clear k0 k1 k2 k3
  have hpick : Calls Tryd.prog 22 #[.slice (some ⟨w.heap.size + 1 + 1, 0, none⟩) 27 27, .int .i64 wh] (((w.alloc (.cells #[.int .i64 k, .int .i64 wh, .int .i64 b] 42 (0, 0))).alloc (.cells #[.int .i64 0, .string ⟨#[]⟩, .int .i64 0] 35 (0, 0))).alloc (.cells #[.string ⟨#[44]⟩, .string ⟨#[58]⟩, .string ⟨#[46]⟩, .string ⟨#[61]⟩, .string ⟨#[61, 61]⟩, .string ⟨#[33, 61]⟩, .string ⟨#[60]⟩, .string ⟨#[60, 61]⟩, .string ⟨#[62]⟩, .string ⟨#[62, 61]⟩, .string ⟨#[43]⟩, .string ⟨#[43, 61]⟩, .string ⟨#[45]⟩, .string ⟨#[45, 61]⟩, .string ⟨#[42]⟩, .string ⟨#[42, 61]⟩, .string ⟨#[42, 42]⟩, .string ⟨#[47, 47]⟩, .string ⟨#[47, 47, 61]⟩, .string ⟨#[37]⟩, .string ⟨#[37, 61]⟩, .string ⟨#[38]⟩, .string ⟨#[38, 61]⟩, .string ⟨#[124]⟩, .string ⟨#[124, 61]⟩, .string ⟨#[94]⟩, .string ⟨#[94, 61]⟩] 9 (0, 0))) fun e w' => e = .returned (.string (bs (pickI sgns wh))) ∧ w' = ((w.alloc (.cells #[.int .i64 k, .int .i64 wh, .int .i64 b] 42 (0, 0))).alloc (.cells #[.int .i64 0, .string ⟨#[]⟩, .int .i64 0] 35 (0, 0))).alloc (.cells #[.string ⟨#[44]⟩, .string ⟨#[58]⟩, .string ⟨#[46]⟩, .string ⟨#[61]⟩, .string ⟨#[61, 61]⟩, .string ⟨#[33, 61]⟩, .string ⟨#[60]⟩, .string ⟨#[60, 61]⟩, .string ⟨#[62]⟩, .string ⟨#[62, 61]⟩, .string ⟨#[43]⟩, .string ⟨#[43, 61]⟩, .string ⟨#[45]⟩, .string ⟨#[45, 61]⟩, .string ⟨#[42]⟩, .string ⟨#[42, 61]⟩, .string ⟨#[42, 42]⟩, .string ⟨#[47, 47]⟩, .string ⟨#[47, 47, 61]⟩, .string ⟨#[37]⟩, .string ⟨#[37, 61]⟩, .string ⟨#[38]⟩, .string ⟨#[38, 61]⟩, .string ⟨#[124]⟩, .string ⟨#[124, 61]⟩, .string ⟨#[94]⟩, .string ⟨#[94, 61]⟩] 9 (0, 0)) :=
    Tryd.pick_any (w.heap.size + 1 + 1) 27 sgns wh _ (by intro i hi; have := strs_new ((w.alloc (.cells #[.int .i64 k, .int .i64 wh, .int .i64 b] 42 (0, 0))).alloc (.cells #[.int .i64 0, .string ⟨#[]⟩, .int .i64 0] 35 (0, 0))) sgns 9 (0, 0) #[.string ⟨#[44]⟩, .string ⟨#[58]⟩, .string ⟨#[46]⟩, .string ⟨#[61]⟩, .string ⟨#[61, 61]⟩, .string ⟨#[33, 61]⟩, .string ⟨#[60]⟩, .string ⟨#[60, 61]⟩, .string ⟨#[62]⟩, .string ⟨#[62, 61]⟩, .string ⟨#[43]⟩, .string ⟨#[43, 61]⟩, .string ⟨#[45]⟩, .string ⟨#[45, 61]⟩, .string ⟨#[42]⟩, .string ⟨#[42, 61]⟩, .string ⟨#[42, 42]⟩, .string ⟨#[47, 47]⟩, .string ⟨#[47, 47, 61]⟩, .string ⟨#[37]⟩, .string ⟨#[37, 61]⟩, .string ⟨#[38]⟩, .string ⟨#[38, 61]⟩, .string ⟨#[124]⟩, .string ⟨#[124, 61]⟩, .string ⟨#[94]⟩, .string ⟨#[94, 61]⟩] rfl i hi; rw [show ((w.alloc (.cells #[.int .i64 k, .int .i64 wh, .int .i64 b] 42 (0, 0))).alloc (.cells #[.int .i64 0, .string ⟨#[]⟩, .int .i64 0] 35 (0, 0))).heap.size = w.heap.size + 1 + 1 by simp] at this; exact this) (by decide) (by decide) hw
  have HB := Lib.hid (Tryd.word_world w k wh b (.cells #[.string ⟨#[44]⟩, .string ⟨#[58]⟩, .string ⟨#[46]⟩, .string ⟨#[61]⟩, .string ⟨#[61, 61]⟩, .string ⟨#[33, 61]⟩, .string ⟨#[60]⟩, .string ⟨#[60, 61]⟩, .string ⟨#[62]⟩, .string ⟨#[62, 61]⟩, .string ⟨#[43]⟩, .string ⟨#[43, 61]⟩, .string ⟨#[45]⟩, .string ⟨#[45, 61]⟩, .string ⟨#[42]⟩, .string ⟨#[42, 61]⟩, .string ⟨#[42, 42]⟩, .string ⟨#[47, 47]⟩, .string ⟨#[47, 47, 61]⟩, .string ⟨#[37]⟩, .string ⟨#[37, 61]⟩, .string ⟨#[38]⟩, .string ⟨#[38, 61]⟩, .string ⟨#[124]⟩, .string ⟨#[124, 61]⟩, .string ⟨#[94]⟩, .string ⟨#[94, 61]⟩] 9 (0, 0)))
  obtain ⟨x, hx⟩ : ∃ x, pickI sgns wh = x := ⟨_, rfl⟩
  rw [hx] at hpick ⊢
  have HP := Lib.hid hpick
  have HX := Lib.hid hx
  clear hpick hx
  go_enter Tryd.func16, Tryd.ntmps16
  go_wp2_with fail
  refine HP.out.mono ?_
  rintro e W1 ⟨rfl, rfl⟩
  go_wp2_with fail
  refine bodyPost_ret (v := .tuple #[.string (bs x), .agg #[.int .i64 5, .string (bs x), .int .i64 0]]) (by simp [results, Tryd.results16, go_sem]) rfl ⟨rfl, (((Below.refl _ w).alloc (Nat.le_refl _) _).alloc (by simp) _).alloc (by simp; omega) _⟩

set_option maxHeartbeats 4000000 in
set_option maxRecDepth 100000 in
theorem Tryd.word_str (wh b : Int) (w : World) (hw : -9223372036854775808 ≤ wh ∧ wh ≤ 9223372036854775807) :
    Calls Tryd.prog 16 #[.agg #[.int .i64 3, .int .i64 wh, .int .i64 b]] w (Tryd.WordOut w ⟨quote (pickI strs wh), 4, pickI strs wh⟩) := by
  have hpick : Calls Tryd.prog 22 #[.slice (some ⟨w.heap.size + 1 + 1, 0, none⟩) 6 6, .int .i64 wh] (((w.alloc (.cells #[.int .i64 3, .int .i64 wh, .int .i64 b] 42 (0, 0))).alloc (.cells #[.int .i64 0, .string ⟨#[]⟩, .int .i64 0] 35 (0, 0))).alloc (.cells #[.string ⟨#[]⟩, .string ⟨#[97]⟩, .string ⟨#[105, 116, 39, 115]⟩, .string ⟨#[97, 195, 177, 10]⟩, .string ⟨#[92]⟩, .string ⟨#[35]⟩] 9 (0, 0))) fun e w' => e = .returned (.string (bs (pickI strs wh))) ∧ w' = ((w.alloc (.cells #[.int .i64 3, .int .i64 wh, .int .i64 b] 42 (0, 0))).alloc (.cells #[.int .i64 0, .string ⟨#[]⟩, .int .i64 0] 35 (0, 0))).alloc (.cells #[.string ⟨#[]⟩, .string ⟨#[97]⟩, .string ⟨#[105, 116, 39, 115]⟩, .string ⟨#[97, 195, 177, 10]⟩, .string ⟨#[92]⟩, .string ⟨#[35]⟩] 9 (0, 0)) :=
    Tryd.pick_any (w.heap.size + 1 + 1) 6 strs wh _ (by intro i hi; have := strs_new ((w.alloc (.cells #[.int .i64 3, .int .i64 wh, .int .i64 b] 42 (0, 0))).alloc (.cells #[.int .i64 0, .string ⟨#[]⟩, .int .i64 0] 35 (0, 0))) strs 9 (0, 0) #[.string ⟨#[]⟩, .string ⟨#[97]⟩, .string ⟨#[105, 116, 39, 115]⟩, .string ⟨#[97, 195, 177, 10]⟩, .string ⟨#[92]⟩, .string ⟨#[35]⟩] rfl i hi; rw [show ((w.alloc (.cells #[.int .i64 3, .int .i64 wh, .int .i64 b] 42 (0, 0))).alloc (.cells #[.int .i64 0, .string ⟨#[]⟩, .int .i64 0] 35 (0, 0))).heap.size = w.heap.size + 1 + 1 by simp] at this; exact this) (by decide) (by decide) hw
  have HB := Lib.hid (Tryd.word_world w 3 wh b (.cells #[.string ⟨#[]⟩, .string ⟨#[97]⟩, .string ⟨#[105, 116, 39, 115]⟩, .string ⟨#[97, 195, 177, 10]⟩, .string ⟨#[92]⟩, .string ⟨#[35]⟩] 9 (0, 0)))
  obtain ⟨x, hx⟩ : ∃ x, pickI strs wh = x := ⟨_, rfl⟩
  rw [hx] at hpick ⊢
  have HP := Lib.hid hpick
  have HX := Lib.hid hx
  clear hpick hx
  go_enter Tryd.func16, Tryd.ntmps16
  go_wp2_with fail
  refine HP.out.mono ?_
  rintro e W1 ⟨rfl, rfl⟩
  have hxs : x ∈ strs := by rw [← HX.out]; exact pickI_mem _ _ (by decide)
  have hxl : (bs x).size ≤ 8796093022208 := by
    have a1 : ∀ y ∈ strs, (bs y).size ≤ 8796093022208 := by decide
    exact a1 x hxs
  have HC := Lib.hid (Tryd.rquote_any (bs x) (((w.alloc (.cells #[.int .i64 3, .int .i64 wh, .int .i64 b] 42 (0, 0))).alloc (.cells #[.int .i64 0, .string ⟨#[]⟩, .int .i64 0] 35 (0, 0))).alloc (.cells #[.string ⟨#[]⟩, .string ⟨#[97]⟩, .string ⟨#[105, 116, 39, 115]⟩, .string ⟨#[97, 195, 177, 10]⟩, .string ⟨#[92]⟩, .string ⟨#[35]⟩] 9 (0, 0))) hxl)
  clear hxs hxl
  go_wp2_with fail
  have hz2 : (((w.alloc (.cells #[.int .i64 3, .int .i64 wh, .int .i64 b] 42 (0, 0))).alloc (.cells #[.int .i64 0, .string ⟨#[]⟩, .int .i64 0] 35 (0, 0))).alloc (.cells #[.string ⟨#[]⟩, .string ⟨#[97]⟩, .string ⟨#[105, 116, 39, 115]⟩, .string ⟨#[97, 195, 177, 10]⟩, .string ⟨#[92]⟩, .string ⟨#[35]⟩] 9 (0, 0))).heap.size = w.heap.size + 1 + 1 + 1 := by simp
  refine HC.out.mono ?_
  rintro e W2 ⟨rfl, b2⟩
  rw [hz2] at b2
  have hblk : W2.heap[w.heap.size + 1]? = some (.cells #[.int .i64 0, .string ⟨#[]⟩, .int .i64 0] 35 (0, 0)) := (b2.block _ (by omega)).trans (Tryd.word_block w _ _ _)
  have k0 : W2.cell? ⟨w.heap.size + 1, 0, none⟩ = some (.int .i64 0) := (cell_of_heap hblk 0).trans rfl
  have k1 : W2.cell? ⟨w.heap.size + 1, 1, none⟩ = some (.string ⟨#[]⟩) := (cell_of_heap hblk 1).trans rfl
  have k2 : W2.cell? ⟨w.heap.size + 1, 2, none⟩ = some (.int .i64 0) := (cell_of_heap hblk 2).trans rfl
  have f00 : W2.frozen? ⟨w.heap.size + 1, 0, none⟩ = false := free_of_heap hblk 0
  have f01 : W2.frozen? ⟨w.heap.size + 1, 1, none⟩ = false := free_of_heap hblk 1
  have f02 : W2.frozen? ⟨w.heap.size + 1, 2, none⟩ = false := free_of_heap hblk 2
  have q0 := (cell_of_heap (setCell_heap (o := 0) hblk (.int .i64 4)) 0).trans rfl
  have q1 := (cell_of_heap (setCell_heap (o := 1) (setCell_heap (o := 0) hblk (.int .i64 4)) (.string (bs x))) 1).trans rfl
  have q2 := (cell_of_heap (setCell_heap (o := 2) (setCell_heap (o := 1) (setCell_heap (o := 0) hblk (.int .i64 4)) (.string (bs x))) (.int .i64 0)) 2).trans rfl
  have Q := Lib.hid (And.intro q0 (And.intro q1 q2))
  clear hblk q0 q1 q2
  have HB2 := Lib.hid (HB.out.trans (b2.mono (by omega)))
  clear b2 hz2
  go_wp2_with fail
  refine bodyPost_ret (v := .tuple #[.string ⟨(quote (bs x).data.toList).toArray⟩, .agg #[.int .i64 4, .string (bs x), .int .i64 0]]) (by simp [results, Tryd.results16, go_sem, Q.out.1, Q.out.2.1, Q.out.2.2]) rfl ⟨rfl, ((HB2.out.setCell (p := ⟨w.heap.size + 1, 0, none⟩) (by show w.heap.size ≤ w.heap.size + 1; omega) _).setCell (p := ⟨w.heap.size + 1, 1, none⟩) (by show w.heap.size ≤ w.heap.size + 1; omega) _).setCell (p := ⟨w.heap.size + 1, 2, none⟩) (by show w.heap.size ≤ w.heap.size + 1; omega) _⟩

set_option maxHeartbeats 4000000 in
set_option maxRecDepth 100000 in
theorem Tryd.word_wrd (wh b : Int) (w : World) (hw : -9223372036854775808 ≤ wh ∧ wh ≤ 9223372036854775807) :
    Calls Tryd.prog 16 #[.agg #[.int .i64 1, .int .i64 wh, .int .i64 b]] w (Tryd.WordOut w ⟨pickI wrds wh, if isWord (pickI wrds wh) then 2 else 1, pickI wrds wh⟩) := by
  have hpick : Calls Tryd.prog 22 #[.slice (some ⟨w.heap.size + 1 + 1, 0, none⟩) 7 7, .int .i64 wh] (((w.alloc (.cells #[.int .i64 1, .int .i64 wh, .int .i64 b] 42 (0, 0))).alloc (.cells #[.int .i64 0, .string ⟨#[]⟩, .int .i64 0] 35 (0, 0))).alloc (.cells #[.string ⟨#[105, 102]⟩, .string ⟨#[110, 111, 116]⟩, .string ⟨#[78, 111, 110, 101]⟩, .string ⟨#[99, 108, 97, 115, 115]⟩, .string ⟨#[105, 110]⟩, .string ⟨#[108, 97, 109, 98, 100, 97]⟩, .string ⟨#[84, 114, 117, 101]⟩] 9 (0, 0))) fun e w' => e = .returned (.string (bs (pickI wrds wh))) ∧ w' = ((w.alloc (.cells #[.int .i64 1, .int .i64 wh, .int .i64 b] 42 (0, 0))).alloc (.cells #[.int .i64 0, .string ⟨#[]⟩, .int .i64 0] 35 (0, 0))).alloc (.cells #[.string ⟨#[105, 102]⟩, .string ⟨#[110, 111, 116]⟩, .string ⟨#[78, 111, 110, 101]⟩, .string ⟨#[99, 108, 97, 115, 115]⟩, .string ⟨#[105, 110]⟩, .string ⟨#[108, 97, 109, 98, 100, 97]⟩, .string ⟨#[84, 114, 117, 101]⟩] 9 (0, 0)) :=
    Tryd.pick_any (w.heap.size + 1 + 1) 7 wrds wh _ (by intro i hi; have := strs_new ((w.alloc (.cells #[.int .i64 1, .int .i64 wh, .int .i64 b] 42 (0, 0))).alloc (.cells #[.int .i64 0, .string ⟨#[]⟩, .int .i64 0] 35 (0, 0))) wrds 9 (0, 0) #[.string ⟨#[105, 102]⟩, .string ⟨#[110, 111, 116]⟩, .string ⟨#[78, 111, 110, 101]⟩, .string ⟨#[99, 108, 97, 115, 115]⟩, .string ⟨#[105, 110]⟩, .string ⟨#[108, 97, 109, 98, 100, 97]⟩, .string ⟨#[84, 114, 117, 101]⟩] rfl i hi; rw [show ((w.alloc (.cells #[.int .i64 1, .int .i64 wh, .int .i64 b] 42 (0, 0))).alloc (.cells #[.int .i64 0, .string ⟨#[]⟩, .int .i64 0] 35 (0, 0))).heap.size = w.heap.size + 1 + 1 by simp] at this; exact this) (by decide) (by decide) hw
  have HB := Lib.hid (Tryd.word_world w 1 wh b (.cells #[.string ⟨#[105, 102]⟩, .string ⟨#[110, 111, 116]⟩, .string ⟨#[78, 111, 110, 101]⟩, .string ⟨#[99, 108, 97, 115, 115]⟩, .string ⟨#[105, 110]⟩, .string ⟨#[108, 97, 109, 98, 100, 97]⟩, .string ⟨#[84, 114, 117, 101]⟩] 9 (0, 0)))
  obtain ⟨x, hx⟩ : ∃ x, pickI wrds wh = x := ⟨_, rfl⟩
  rw [hx] at hpick ⊢
  have HP := Lib.hid hpick
  have HX := Lib.hid hx
  clear hpick hx
  obtain ⟨B, hB⟩ : ∃ B, isWord x = B := ⟨_, rfl⟩
  rw [hB]
  have hC : Calls Tryd.prog 15 #[.string (bs x)] (((w.alloc (.cells #[.int .i64 1, .int .i64 wh, .int .i64 b] 42 (0, 0))).alloc (.cells #[.int .i64 0, .string ⟨#[]⟩, .int .i64 0] 35 (0, 0))).alloc (.cells #[.string ⟨#[105, 102]⟩, .string ⟨#[110, 111, 116]⟩, .string ⟨#[78, 111, 110, 101]⟩, .string ⟨#[99, 108, 97, 115, 115]⟩, .string ⟨#[105, 110]⟩, .string ⟨#[108, 97, 109, 98, 100, 97]⟩, .string ⟨#[84, 114, 117, 101]⟩] 9 (0, 0))) fun e w' => e = .returned (.bool (isWord x)) ∧ Below (((w.alloc (.cells #[.int .i64 1, .int .i64 wh, .int .i64 b] 42 (0, 0))).alloc (.cells #[.int .i64 0, .string ⟨#[]⟩, .int .i64 0] 35 (0, 0))).alloc (.cells #[.string ⟨#[105, 102]⟩, .string ⟨#[110, 111, 116]⟩, .string ⟨#[78, 111, 110, 101]⟩, .string ⟨#[99, 108, 97, 115, 115]⟩, .string ⟨#[105, 110]⟩, .string ⟨#[108, 97, 109, 98, 100, 97]⟩, .string ⟨#[84, 114, 117, 101]⟩] 9 (0, 0))).heap.size (((w.alloc (.cells #[.int .i64 1, .int .i64 wh, .int .i64 b] 42 (0, 0))).alloc (.cells #[.int .i64 0, .string ⟨#[]⟩, .int .i64 0] 35 (0, 0))).alloc (.cells #[.string ⟨#[105, 102]⟩, .string ⟨#[110, 111, 116]⟩, .string ⟨#[78, 111, 110, 101]⟩, .string ⟨#[99, 108, 97, 115, 115]⟩, .string ⟨#[105, 110]⟩, .string ⟨#[108, 97, 109, 98, 100, 97]⟩, .string ⟨#[84, 114, 117, 101]⟩] 9 (0, 0))) w' := Tryd.rword_any (bs x) _
  rw [hB] at hC
  have HC := Lib.hid hC
  clear hC hB
  cases B
  · go_enter Tryd.func16, Tryd.ntmps16
    go_wp2_with fail
    refine HP.out.mono ?_
    rintro e W1 ⟨rfl, rfl⟩
    go_wp2_with fail
    have hz2 : (((w.alloc (.cells #[.int .i64 1, .int .i64 wh, .int .i64 b] 42 (0, 0))).alloc (.cells #[.int .i64 0, .string ⟨#[]⟩, .int .i64 0] 35 (0, 0))).alloc (.cells #[.string ⟨#[105, 102]⟩, .string ⟨#[110, 111, 116]⟩, .string ⟨#[78, 111, 110, 101]⟩, .string ⟨#[99, 108, 97, 115, 115]⟩, .string ⟨#[105, 110]⟩, .string ⟨#[108, 97, 109, 98, 100, 97]⟩, .string ⟨#[84, 114, 117, 101]⟩] 9 (0, 0))).heap.size = w.heap.size + 1 + 1 + 1 := by simp
    refine HC.out.mono ?_
    rintro e W2 ⟨rfl, b2⟩
    rw [hz2] at b2
    have hblk : W2.heap[w.heap.size + 1]? = some (.cells #[.int .i64 0, .string ⟨#[]⟩, .int .i64 0] 35 (0, 0)) := (b2.block _ (by omega)).trans (Tryd.word_block w _ _ _)
    have k0 : W2.cell? ⟨w.heap.size + 1, 0, none⟩ = some (.int .i64 0) := (cell_of_heap hblk 0).trans rfl
    have k1 : W2.cell? ⟨w.heap.size + 1, 1, none⟩ = some (.string ⟨#[]⟩) := (cell_of_heap hblk 1).trans rfl
    have k2 : W2.cell? ⟨w.heap.size + 1, 2, none⟩ = some (.int .i64 0) := (cell_of_heap hblk 2).trans rfl
    have f00 : W2.frozen? ⟨w.heap.size + 1, 0, none⟩ = false := free_of_heap hblk 0
    have f01 : W2.frozen? ⟨w.heap.size + 1, 1, none⟩ = false := free_of_heap hblk 1
    have f02 : W2.frozen? ⟨w.heap.size + 1, 2, none⟩ = false := free_of_heap hblk 2
    have q0 := (cell_of_heap (setCell_heap (o := 0) hblk (.int .i64 1)) 0).trans rfl
    have q1 := (cell_of_heap (setCell_heap (o := 1) (setCell_heap (o := 0) hblk (.int .i64 1)) (.string (bs x))) 1).trans rfl
    have q2 := (cell_of_heap (setCell_heap (o := 2) (setCell_heap (o := 1) (setCell_heap (o := 0) hblk (.int .i64 1)) (.string (bs x))) (.int .i64 0)) 2).trans rfl
    have Q := Lib.hid (And.intro q0 (And.intro q1 q2))
    clear hblk q0 q1 q2
    have HB2 := Lib.hid (HB.out.trans (b2.mono (by omega)))
    clear b2 hz2
    go_wp2_with fail
    refine bodyPost_ret (v := .tuple #[.string (bs x), .agg #[.int .i64 1, .string (bs x), .int .i64 0]]) (by simp [results, Tryd.results16, go_sem, Q.out.1, Q.out.2.1, Q.out.2.2]) rfl ⟨rfl, ((HB2.out.setCell (p := ⟨w.heap.size + 1, 0, none⟩) (by show w.heap.size ≤ w.heap.size + 1; omega) _).setCell (p := ⟨w.heap.size + 1, 1, none⟩) (by show w.heap.size ≤ w.heap.size + 1; omega) _).setCell (p := ⟨w.heap.size + 1, 2, none⟩) (by show w.heap.size ≤ w.heap.size + 1; omega) _⟩
  · go_enter Tryd.func16, Tryd.ntmps16
    go_wp2_with fail
    refine HP.out.mono ?_
    rintro e W1 ⟨rfl, rfl⟩
    go_wp2_with fail
    have hz2 : (((w.alloc (.cells #[.int .i64 1, .int .i64 wh, .int .i64 b] 42 (0, 0))).alloc (.cells #[.int .i64 0, .string ⟨#[]⟩, .int .i64 0] 35 (0, 0))).alloc (.cells #[.string ⟨#[105, 102]⟩, .string ⟨#[110, 111, 116]⟩, .string ⟨#[78, 111, 110, 101]⟩, .string ⟨#[99, 108, 97, 115, 115]⟩, .string ⟨#[105, 110]⟩, .string ⟨#[108, 97, 109, 98, 100, 97]⟩, .string ⟨#[84, 114, 117, 101]⟩] 9 (0, 0))).heap.size = w.heap.size + 1 + 1 + 1 := by simp
    refine HC.out.mono ?_
    rintro e W2 ⟨rfl, b2⟩
    rw [hz2] at b2
    have hblk : W2.heap[w.heap.size + 1]? = some (.cells #[.int .i64 0, .string ⟨#[]⟩, .int .i64 0] 35 (0, 0)) := (b2.block _ (by omega)).trans (Tryd.word_block w _ _ _)
    have k0 : W2.cell? ⟨w.heap.size + 1, 0, none⟩ = some (.int .i64 0) := (cell_of_heap hblk 0).trans rfl
    have k1 : W2.cell? ⟨w.heap.size + 1, 1, none⟩ = some (.string ⟨#[]⟩) := (cell_of_heap hblk 1).trans rfl
    have k2 : W2.cell? ⟨w.heap.size + 1, 2, none⟩ = some (.int .i64 0) := (cell_of_heap hblk 2).trans rfl
    have f00 : W2.frozen? ⟨w.heap.size + 1, 0, none⟩ = false := free_of_heap hblk 0
    have f01 : W2.frozen? ⟨w.heap.size + 1, 1, none⟩ = false := free_of_heap hblk 1
    have f02 : W2.frozen? ⟨w.heap.size + 1, 2, none⟩ = false := free_of_heap hblk 2
    have q0 := (cell_of_heap (setCell_heap (o := 0) hblk (.int .i64 2)) 0).trans rfl
    have q1 := (cell_of_heap (setCell_heap (o := 1) (setCell_heap (o := 0) hblk (.int .i64 2)) (.string (bs x))) 1).trans rfl
    have q2 := (cell_of_heap (setCell_heap (o := 2) (setCell_heap (o := 1) (setCell_heap (o := 0) hblk (.int .i64 2)) (.string (bs x))) (.int .i64 0)) 2).trans rfl
    have Q := Lib.hid (And.intro q0 (And.intro q1 q2))
    clear hblk q0 q1 q2
    have HB2 := Lib.hid (HB.out.trans (b2.mono (by omega)))
    clear b2 hz2
    go_wp2_with fail
    refine bodyPost_ret (v := .tuple #[.string (bs x), .agg #[.int .i64 2, .string (bs x), .int .i64 0]]) (by simp [results, Tryd.results16, go_sem, Q.out.1, Q.out.2.1, Q.out.2.2]) rfl ⟨rfl, ((HB2.out.setCell (p := ⟨w.heap.size + 1, 0, none⟩) (by show w.heap.size ≤ w.heap.size + 1; omega) _).setCell (p := ⟨w.heap.size + 1, 1, none⟩) (by show w.heap.size ≤ w.heap.size + 1; omega) _).setCell (p := ⟨w.heap.size + 1, 2, none⟩) (by show w.heap.size ≤ w.heap.size + 1; omega) _⟩

theorem Tryd.piece_any (k wh b : Int) (w : World) (hw : -9223372036854775808 ≤ wh ∧ wh ≤ 9223372036854775807) :
    Calls Tryd.prog 16 #[.agg #[.int .i64 k, .int .i64 wh, .int .i64 b]] w (Tryd.WordOut w (pcOf k wh)) := by
  unfold pcOf
  by_cases h0 : k = 0
  · subst h0; rw [if_pos rfl]; exact Tryd.word_nom wh b w hw
  by_cases h1 : k = 1
  · subst h1; rw [if_neg h0, if_pos rfl]; exact Tryd.word_wrd wh b w hw
  by_cases h2 : k = 2
  · subst h2; rw [if_neg h0, if_neg h1, if_pos rfl]; exact Tryd.word_num wh b w hw
  by_cases h3 : k = 3
  · subst h3; rw [if_neg h0, if_neg h1, if_neg h2, if_pos rfl]; exact Tryd.word_str wh b w hw
  rw [if_neg h0, if_neg h1, if_neg h2, if_neg h3]
  exact Tryd.word_sgn k wh b w hw ⟨h0, h1, h2, h3⟩
end Go.Proofs
