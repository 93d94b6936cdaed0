/-
  Walks: what Tokens defers.
-/
import Derived.Test.YtdbkibnplilogaaDoorLxW
import Derived.Defers
import Derived.Recover
import Derived.Laws.Pointers
import Derived.RegionTactic
import Derived.ChangeAlike
set_option linter.unusedVariables false
namespace Go.Proofs
open Go.RowKit Go.Lx Go.Lt

set_option maxHeartbeats 4000000 in
set_option maxRecDepth 100000 in
theorem Tryd.caught_any (p q c a : Nat) (x0 y0 y1 : Value) (older : List PanicEntry) (w : World) (hp : w.heap[p]? = some (.cells #[x0] 24 (0, 0))) (hq : w.heap[q]? = some (.cells #[y0, y1] 26 (0, 0))) (hpq : p ≠ q) :
    CallsD Tryd.prog 17 #[.pointer (some ⟨p, 0, none⟩), .pointer (some ⟨q, 0, none⟩)] (.panicking ({ v := Tryd.stopV c a, recovered := false } :: older)) w fun e u' w' =>
      e = .returned (.tuple #[]) ∧ u' = .panicking ({ v := Tryd.stopV c a, recovered := true } :: older) ∧
      w'.cell? ⟨p, 0, none⟩ = some (.slice none 0 0) ∧ w'.cell? ⟨q, 0, none⟩ = some (.int .i64 c) ∧ w'.cell? ⟨q, 1, none⟩ = some (.int .i64 a) ∧ (∀ B, B ≤ p → B ≤ q → B ≤ w.heap.size → Below B w w') := by
  have hta : ∀ (x y : Int) (W : World), (Instr.typeAssert (.iface 46 (.agg #[.int .i64 x, .int .i64 y])) 20 46 true).run Tryd.prog W = .ok (.tuple #[.agg #[.int .i64 x, .int .i64 y], .bool true]) W := by intro x y W; kernel_rfl
  refine callsD_of_wpS Tryd.func17 rfl fun c₀ cs hu => ?_
  apply wpS_seq
  apply wpS_region
  simp [wpOpsS, go_sem, recoverD, hu, Tryd.ntmps17, Exit.thenS, Tryd.stopV, show Array.replicate 16 undef = #[undef, undef, undef, undef, undef, undef, undef, undef, undef, undef, undef, undef, undef, undef, undef, undef] from rfl]
  refine wpS_of_wp ?_
  obtain ⟨Q, hQ⟩ : ∃ Q : Exit → Act → World → Prop, Q = fun e a' w' => bodyPostS Tryd.prog Tryd.f17 c₀ cs (fun e u' w' => e = .returned (.tuple #[]) ∧ u' = .panicking ({ v := .iface 46 (.agg #[.int .i64 c, .int .i64 a]), recovered := true } :: older) ∧
      w'.cell? ⟨p, 0, none⟩ = some (.slice none 0 0) ∧ w'.cell? ⟨q, 0, none⟩ = some (.int .i64 c) ∧ w'.cell? ⟨q, 1, none⟩ = some (.int .i64 a) ∧ (∀ B, B ≤ p → B ≤ q → B ≤ w.heap.size → Below B w w')) e a' ({ c₀ with mode := .panicking ({ v := .iface 46 (.agg #[.int .i64 c, .int .i64 a]), recovered := true } :: older) } :: cs) w' := ⟨_, rfl⟩
  show Code.wp _ _ (fun e a' w' => _) _ _
  rw [← hQ]
  have HQ := Lib.hid hQ
  clear hQ
  have hpl := lt_of_block hp
  have hql := lt_of_block hq
  have HB : Hid (∀ B, B ≤ w.heap.size → Below B w (w.alloc (.cells #[.int .i64 c, .int .i64 a] 46 (0, 0)))) := fun B hB => (Below.refl B w).alloc hB _
  have hp1 : (w.alloc (.cells #[.int .i64 c, .int .i64 a] 46 (0, 0))).heap[p]? = some (.cells #[x0] 24 (0, 0)) := (Below.heap_alloc _ _ _ hpl).trans hp
  have hq1 : (w.alloc (.cells #[.int .i64 c, .int .i64 a] 46 (0, 0))).heap[q]? = some (.cells #[y0, y1] 26 (0, 0)) := (Below.heap_alloc _ _ _ hql).trans hq
  have hn1 : (w.alloc (.cells #[.int .i64 c, .int .i64 a] 46 (0, 0))).heap[w.heap.size]? = some (.cells #[.int .i64 c, .int .i64 a] 46 (0, 0)) := alloc_new w _
  obtain ⟨n, hn⟩ : ∃ n, n = w.heap.size := ⟨_, rfl⟩
  have hnp : ¬ n = p := by omega
  have hnq : ¬ n = q := by omega
  clear hp hq
  go_wp2_with fail
  rw [← hn] at hn1 ⊢
  obtain ⟨W, hW⟩ : ∃ W, W = w.alloc (.cells #[.int .i64 c, .int .i64 a] 46 (0, 0)) := ⟨_, rfl⟩
  rw [← hW] at hp1 hq1 hn1 HB ⊢
  have cp : W.cell? ⟨p, 0, none⟩ = some x0 := (cell_of_heap hp1 0).trans rfl
  have fp : W.frozen? ⟨p, 0, none⟩ = false := free_of_heap hp1 0
  have cq0 : W.cell? ⟨q, 0, none⟩ = some y0 := (cell_of_heap hq1 0).trans rfl
  have fq0 : W.frozen? ⟨q, 0, none⟩ = false := free_of_heap hq1 0
  have cq1 : W.cell? ⟨q, 1, none⟩ = some y1 := (cell_of_heap hq1 1).trans rfl
  have fq1 : W.frozen? ⟨q, 1, none⟩ = false := free_of_heap hq1 1
  have cn0 : W.cell? ⟨n, 0, none⟩ = some (.int .i64 c) := (cell_of_heap hn1 0).trans rfl
  have cn1 : W.cell? ⟨n, 1, none⟩ = some (.int .i64 a) := (cell_of_heap hn1 1).trans rfl
  clear hp1 hq1 hn1 hW hpl hql hn
  go_region
  rw [HQ.out]
  have hqp : q ≠ p := fun e => hpq e.symm
  refine ⟨rfl, _, rfl, _, results_none rfl _ _ _, rfl, rfl, ?_, ?_, ?_, fun B h1 h2 h3 => ((((HB.out B h3).setCell (p := ⟨p, 0, none⟩) h1 _).setCell (p := ⟨q, 0, none⟩) h2 _).setCell (p := ⟨q, 1, none⟩) h2 _).drew⟩
  · go_simp
  · go_simp
  · go_simp

set_option maxHeartbeats 4000000 in
theorem Tryd.idle_any (p q : Value) (w : World) :
    CallsD Tryd.prog 17 #[p, q] .returning w fun e u' w' => e = .returned (.tuple #[]) ∧ u' = .returning ∧ w' = w := by
  refine callsD_of_wpS Tryd.func17 rfl fun c₀ cs hu => ?_
  apply wpS_seq
  apply wpS_region
  simp [wpOpsS, go_sem, recoverD, hu, Tryd.ntmps17, Exit.thenS, show Array.replicate 16 undef = #[undef, undef, undef, undef, undef, undef, undef, undef, undef, undef, undef, undef, undef, undef, undef, undef] from rfl]
  refine wpS_of_wp ?_
  obtain ⟨Q, hQ⟩ : ∃ Q : Exit → Act → World → Prop, Q = fun e a' w' => bodyPostS Tryd.prog Tryd.f17 c₀ cs (fun e u' w' => e = .returned (.tuple #[]) ∧ u' = .returning ∧ w' = w) e a' (c₀ :: cs) w' := ⟨_, rfl⟩
  show Code.wp _ _ (fun e a' w' => _) _ _
  rw [← hQ]
  have HQ := Lib.hid hQ
  clear hQ
  go_wp2_with fail
  rw [HQ.out]
  refine ⟨rfl, _, ?_, _, results_none rfl _ _ _, rfl, rfl, rfl⟩
  cases c₀
  simp_all
end Go.Proofs
