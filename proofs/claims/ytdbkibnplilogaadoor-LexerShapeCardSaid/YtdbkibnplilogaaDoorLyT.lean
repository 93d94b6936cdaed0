/-
  Walks: LexerShape.
-/
import Derived.Test.YtdbkibnplilogaaDoorLyR
import Derived.Test.YtdbkibnplilogaaDoorMzG
set_option linter.unusedVariables false
namespace Go.Proofs
open Go.RowKit Go.Lx Go.Lt

set_option maxHeartbeats 16000000 in
set_option maxRecDepth 100000 in
theorem Tryd.shape_no (a : Option Addr) (cap : Nat) (s : ByteArray) (w : World) (hb : BsIn w a s) (hs : s.size ≤ 70000) (hT : Tryd.Tabs w) (c1 a1 : Nat) (hR : lex s.data.toList = .error (c1, a1)) :
    Calls Tryd.prog 6 #[.slice a s.size cap] w fun e w' => e = .returned (.bool true) ∧ Below w.heap.size w w' := by
  have hsI : ¬ (70000 : Int) < (s.size : Int) := by omega
  have hsN : ¬ 70000 < s.size := by omega
  have ha := lex_at hR
  rw [← Lib.size_eq] at ha
  have hc : c1 ≠ 0 := by
    have := lex_code1 hR
    omega
  have hcI : ((c1 : Int) != 0) = true := by rw [bne_iff_ne]; omega
  have haI : (a1 : Int) ≤ (s.size : Int) := by omega
  have HTok := Lib.hid (Tryd.tokens_any a cap s w hb hT)
  have HT := Lib.hid hT
  have HR := Lib.hid hR
  clear hb hT hR hc
  go_enter Tryd.func6, Tryd.ntmps6
  go_wp2_with fail
  refine HTok.out.mono ?_
  rw [HR.out]
  rintro e W1 ⟨rfl, b1⟩
  have HB1 := Lib.hid b1
  have hz := b1.size
  clear b1
  go_wp2_with fail
  refine (Tryd.awake13_any _ (Tryd.Tabs_below HT.out (HB1.out.alloc hz _) (Nat.le_refl _))).mono ?_
  rintro e W2 ⟨rfl, b2⟩
  have HB2 := Lib.hid ((HB1.out.alloc hz _).trans (b2.mono (by simp; omega)))
  clear b2
  go_wp2_with fail
  go_ret
  exact ⟨rfl, HB2.out⟩

theorem depth_take (l : List Tok) (i : Nat) (h : i < l.length) : depth (l.take (i + 1)) = depth (l.take i) + step1 l[i] := by
  rw [← List.take_append_getElem h, depth_append]; simp [depth]
theorem depth_le : ∀ (l : List Tok), depth l ≤ l.length := by
  intro l
  induction l with
  | nil => simp [depth]
  | cons t l ih =>
    simp only [depth, List.length_cons]
    have : step1 t ≤ 1 := by unfold step1; split <;> (try split) <;> omega
    omega

set_option maxHeartbeats 64000000 in
set_option maxRecDepth 100000 in
theorem Tryd.shape_yes (a : Option Addr) (cap : Nat) (s : ByteArray) (w : World) (hb : BsIn w a s) (hcap : s.size ≤ cap) (hs : s.size ≤ 70000) (hT : Tryd.Tabs w) (l : List Tok) (hR : lex s.data.toList = .ok l) :
    Calls Tryd.prog 6 #[.slice a s.size cap] w fun e w' => e = .returned (.bool true) ∧ Below w.heap.size w w' := by
  have hsI : ¬ (70000 : Int) < (s.size : Int) := by omega
  have hsN : ¬ 70000 < s.size := by omega
  have hsh := lex_shape hR
  obtain ⟨l0, hl0, hl9⟩ := hsh.last
  have hll : l.length = l0.length + 1 := by rw [hl0, List.length_append]; rfl
  obtain ⟨n, hn⟩ : ∃ n, l.length = n := ⟨_, rfl⟩
  have HSH := Lib.hid hsh
  have HN := Lib.hid hn
  have HL0 := Lib.hid (And.intro hl0 hl9)
  have HTok := Lib.hid (Tryd.tokens_any a cap s w hb hT)
  have HT := Lib.hid hT
  have HR := Lib.hid hR
  have HBS := Lib.hid hb
  clear hb hT hR hl0 hl9 hsh
  go_enter Tryd.func6, Tryd.ntmps6
  go_wp2_with fail
  refine HTok.out.mono ?_
  rw [HR.out]
  rintro e W1 ⟨⟨lv, rfl, hown⟩, b1⟩
  have hcap3 : l.length ≤ 9223372036854775807 := by
    rcases hown.2 with ⟨_, h⟩ | ⟨_, _, _, _, _, _, h, h', _⟩
    · omega
    · unfold maxLen at h'; omega
  obtain ⟨q, k, rfl, ho⟩ := row_open3 hown
  obtain ⟨g, rfl, hg1, hg2, hcell⟩ := ho (by omega)
  rw [hn] at hll hcap3 ⊢
  have hn1 : n = l0.length + 1 := hll
  have HCell : Hid (∀ (W : World), Below (W1.heap.size + 1) (W1.alloc (.cells #[.int .i64 0, .int .i64 0] 26 (0, 0))) W → ∀ i (hi : i < l.length), W.cell? ⟨g, i * 3, none⟩ = some (.int .i64 l[i].kind) ∧ W.cell? ⟨g, i * 3 + 1, none⟩ = some (.string (bs l[i].text)) ∧ W.cell? ⟨g, i * 3 + 2, none⟩ = some (.int .i64 l[i].at_)) := by
    intro W hW i hi
    have h9 := hcell i hi
    rw [Nat.mul_comm] at h9
    have key : ∀ j v, W1.cell? ⟨g, j, none⟩ = some v → W.cell? ⟨g, j, none⟩ = some v := fun j v hv => by
      rw [hW.cell (p := ⟨g, j, none⟩) (Nat.lt_succ_of_lt hg2)]
      rw [((Below.refl _ W1).alloc (Nat.le_refl _) _).cell (p := ⟨g, j, none⟩) hg2]
      exact hv
    exact ⟨key _ _ h9.1, key _ _ h9.2.1, key _ _ h9.2.2⟩
  have hz := b1.size
  have HB1 := Lib.hid (b1.alloc hz (.cells #[.int .i64 0, .int .i64 0] 26 (0, 0)))
  have hlast := HCell.out _ (Below.refl _ _) (n - 1) (by rw [hn]; omega)
  have hlt : l[n - 1]'(by rw [hn]; omega) = ⟨9, [], s.size⟩ := by
    have h5 := HL0.out.1
    have h6 : l[n - 1]? = some ⟨9, [], s.data.toList.length⟩ := by rw [h5, show n - 1 = l0.length by omega]; simp
    rw [List.getElem?_eq_getElem (by rw [hn]; omega)] at h6
    rw [Option.some.inj h6, ← Lib.size_eq]
  rw [hlt, show n - 1 = l0.length by omega] at hlast
  have z1 : (W1.alloc (.cells #[.int .i64 0, .int .i64 0] 26 (0, 0))).cell? ⟨g, l0.length * 3 + 1, none⟩ = some (.string ⟨#[]⟩) := hlast.2.1
  have z0 : (W1.alloc (.cells #[.int .i64 0, .int .i64 0] 26 (0, 0))).cell? ⟨g, l0.length * 3, none⟩ = some (.int .i64 9) := hlast.1
  have z2 : (W1.alloc (.cells #[.int .i64 0, .int .i64 0] 26 (0, 0))).cell? ⟨g, l0.length * 3 + 2, none⟩ = some (.int .i64 s.size) := hlast.2.2
  clear hlast
  have hnn : ¬ n = 0 := by omega
  have hsub : IntKind.i64.wrap ((n : Int) - 1) = (l0.length : Int) := by rw [IntWalk.i64_in _ (by omega)]; omega
  have hi0 : (0 : Int) ≤ (l0.length : Int) := by omega
  have hi1 : (l0.length : Int) < (n : Int) := by omega
  have hn0 : ((n : Int) == 0) = false := by rw [beq_eq_false_iff_ne]; omega
  have Hn1 := Lib.hid hn1
  have Hg := Lib.hid (And.intro hg1 hg2)
  have hgW : g < W1.heap.size + 1 := by omega
  clear b1 hcell ho hown hlt hn hll hn1 hg1 hg2
  go_wp2
  obtain ⟨Wf, hWf⟩ : ∃ W, W = W1.alloc (.cells #[.int .i64 0, .int .i64 0] 26 (0, 0)) := ⟨_, rfl⟩
  have hWfs : Wf.heap.size = W1.heap.size + 1 := by rw [hWf]; show (W1.heap.push _).size = _; rw [Array.size_push]
  rw [← hWf] at HCell HB1 ⊢
  rw [← hWfs] at HCell hgW
  clear hWf z0 z1 z2 hsub hi0 hi1 hnn hn0
  go_loopw [5, 6] (fun i5 i6 wr => ∃ (i : Nat), i5 = .int .i64 (depth (l.take i)) ∧ i6 = .int .i64 i ∧ i ≤ n ∧ Below Wf.heap.size Wf wr) (fun _ i6 _ => n - (intOf i6).toNat)
  case atStart => exact ⟨0, by simp [depth], rfl, Nat.zero_le _, Below.refl _ _⟩
  case round =>
    obtain ⟨i, rfl, rfl, hi, hbw⟩ := hrel
    have HB := Lib.hid hbw
    by_cases hin : i < n
    · have hinI : (i : Int) < (n : Int) := by omega
      have hil : i < l.length := by have := HN.out; omega
      have hy := HCell.out wr hbw i hil
      obtain ⟨tk, htk⟩ : ∃ tk, l[i] = tk := ⟨_, rfl⟩
      rw [htk] at hy
      have hok := HSH.out.one tk (by rw [← htk]; exact List.getElem_mem hil)
      have h9n : tk.kind = 9 → i + 1 = n := by
        intro h9
        have h5 := HL0.out.1
        have h7 := Hn1.out
        rcases Nat.lt_or_ge (i + 1) n with h6 | h6
        · exfalso
          have h8 : l[i]? = l0[i]? := by rw [h5, List.getElem?_append_left (by omega)]
          rw [List.getElem?_eq_getElem hil, List.getElem?_eq_getElem (by omega)] at h8
          have h10 := HL0.out.2 l0[i] (List.getElem_mem (by omega))
          rw [← Option.some.inj h8, htk] at h10
          exact h10 h9
        · omega
      have hd0 : 0 ≤ depth (l.take i) := HSH.out.deep i
      have hd1 : depth (l.take i) ≤ (i : Int) := by have := depth_le (l.take i); rw [List.length_take] at this; omega
      have hds0 := depth_take l i hil
      rw [htk] at hds0
      have hd2 : 0 ≤ depth (l.take (i + 1)) := HSH.out.deep (i + 1)
      obtain ⟨d, hd⟩ : ∃ d, depth (l.take i) = d := ⟨_, rfl⟩
      obtain ⟨d', hd'⟩ : ∃ d', depth (l.take (i + 1)) = d' := ⟨_, rfl⟩
      rw [hd] at hd0 hd1 hds0 ⊢
      rw [hd'] at hds0 hd2
      have Hd' := Lib.hid hd'
      have htl0 := hok.text
      obtain ⟨K, X, A, eT⟩ : ∃ K X A, tk = ⟨K, X, A⟩ := ⟨_, _, _, rfl⟩
      have hprev : i = 0 ∨ ∃ j K' A', i = j + 1 ∧ wr.cell? ⟨g, j * 3, none⟩ = some (.int .i64 ((K' : Nat) : Int)) ∧ wr.cell? ⟨g, j * 3 + 2, none⟩ = some (.int .i64 ((A' : Nat) : Int)) ∧ A' ≤ A ∧ (isText K → A' = A → K' = 7 ∨ K' = 8) := by
        rcases Nat.eq_zero_or_pos i with h | h
        · exact .inl h
        · right
          obtain ⟨j, rfl⟩ : ∃ j, i = j + 1 := ⟨i - 1, by omega⟩
          obtain ⟨w0, w1, w2⟩ := HCell.out wr hbw j (by omega)
          have hp := HSH.out.pair j hil
          rw [htk, eT] at hp
          exact ⟨j, _, _, rfl, w0, w2, hp.1, hp.2⟩
      subst eT
      have y0 : wr.cell? ⟨g, i * 3, none⟩ = some (.int .i64 K) := hy.1
      have y1 : wr.cell? ⟨g, i * 3 + 1, none⟩ = some (.string (bs X)) := hy.2.1
      have y2 : wr.cell? ⟨g, i * 3 + 2, none⟩ = some (.int .i64 A) := hy.2.2
      clear hy
      have hkl : K ≤ 9 := hok.kind_le
      have hkg : 1 ≤ K := hok.kind_ge
      have hal : A ≤ s.size := by have : A ≤ s.data.toList.length := hok.at_le; rw [← Lib.size_eq] at this; exact this
      have h9m : K = 9 → i + 1 = n := h9n
      clear h9n
      have hbare : 6 ≤ K → X = [] := hok.bare
      have hnm : K = 1 → isWord X = false := hok.name
      have hwd : K = 2 → isWord X = true := hok.word
      have htl : isText K → A + X.length ≤ s.data.toList.length ∧ (s.data.toList.drop A).take X.length = X ∧ X ≠ [] := htl0
      clear htl0
      rw [← Lib.size_eq] at htl
      have hds : d' = d + (if K = 7 then 1 else if K = 8 then -1 else 0) := hds0
      clear hds0
      have HSRC : Hid (∀ m, BsIn ((wr.alloc (.cells #[.int .i64 K, .string (bs X), .int .i64 A] 35 (0, 0))).drewN m) a s) := fun m => by
        have h1 := HBS.out.below HB1.out
        have h2 := h1.below hbw
        have h3 := h2.below ((Below.refl _ wr).alloc (Nat.le_refl _) (.cells #[.int .i64 K, .string (bs X), .int .i64 A] 35 (0, 0)))
        exact h3.below (below_drewN (Below.refl _ _) m)
      have haI : decide ((A : Int) < 0) = false := by simp
      have haN : decide ((s.size : Int) < (A : Int)) = false := by simp; omega
      have haN2 : decide (s.size < A) = false := by simp; omega
      have haN3 : ¬ s.size < A := by omega
      have haN4 : ¬ (s.size : Int) < (A : Int) := by omega
      clear hbw htk hd hd' hok
      have hK9 : K = 1 ∨ K = 2 ∨ K = 3 ∨ K = 4 ∨ K = 5 ∨ K = 6 ∨ K = 7 ∨ K = 8 ∨ K = 9 := by omega
      clear hkl hkg
      rcases hK9 with rfl | rfl | rfl | rfl | rfl | rfl | rfl | rfl | rfl
      · rcases hprev with rfl | ⟨j, K', A', rfl, p0, p2, hAA, hpk⟩
        · have hfirst : True := trivial
          as_aux_lemma =>
            obtain ⟨Y, hY⟩ : ∃ Y, bs X = Y := ⟨_, rfl⟩
            rw [hY] at y1
            simp only [Nat.zero_mul, Nat.zero_add] at y0 y1 y2
            have hin0 : (0 : Int) < (n : Int) := by omega
            have hin1 : 0 < n := by omega
            have hdd : d' = d := by simpa using hds
            have hneg : ¬ d < 0 := by omega
            obtain ⟨tx1, tx2, tx3⟩ := htl (by unfold isText; omega)
            obtain ⟨m, hm⟩ : ∃ m, X.length = m := ⟨_, rfl⟩
            rw [hm] at tx1 tx2
            have hYs : Y.size = m := by rw [← hY, bs_size, hm]
            have hex : s.extract A (A + m) = Y := by rw [← hY, ← bs_data (s.extract A (A + m)), Lib.extract_data, show A + m - A = m by omega, tx2]
            have gE : Y.toList.isEmpty = false := by rw [isEmpty_beq, bs_beq X _ Y hY, beq_eq_false_iff_ne]; exact tx3
            have gN : (Y.toList == []) = false := by rw [bs_beq X _ Y hY, beq_eq_false_iff_ne]; exact tx3
            have gM : decide ((s.size : Int) < (A : Int) + (m : Int)) = false := by simp; omega
            have gM2 : ¬ (s.size : Int) < (A : Int) + (m : Int) := by omega
            have HYX : Hid (Y.data.toList = X) := by show _ = _; rw [← hY]; rfl
            have Hnw : Hid (isWord Y.data.toList = false) := by show _ = _; rw [HYX.out]; exact hnm rfl
            clear hY hm tx2 tx3
            clear hbare hnm hwd htl hds h9m
            have hal2 : Below Wf.heap.size Wf (wr.alloc (.cells #[.int .i64 1, .string Y, .int .i64 A] 35 (0, 0))) := HB.out.alloc HB.out.size _
            have t0 : (wr.alloc (.cells #[.int .i64 1, .string Y, .int .i64 A] 35 (0, 0))).cell? ⟨wr.heap.size, 0, none⟩ = some (.int .i64 1) := cells_new wr _ _ _ 0
            have t1 : (wr.alloc (.cells #[.int .i64 1, .string Y, .int .i64 A] 35 (0, 0))).cell? ⟨wr.heap.size, 1, none⟩ = some (.string Y) := cells_new wr _ _ _ 1
            have t2 : (wr.alloc (.cells #[.int .i64 1, .string Y, .int .i64 A] 35 (0, 0))).cell? ⟨wr.heap.size, 2, none⟩ = some (.int .i64 A) := cells_new wr _ _ _ 2
            go_wp2_with fail
            obtain ⟨V0, hV0⟩ : ∃ W, W = (wr.alloc (.cells #[.int .i64 1, .string Y, .int .i64 A] 35 (0, 0))) := ⟨_, rfl⟩
            rw [← hV0] at t0 t1 t2 hal2 ⊢
            have hV0B : Below Wf.heap.size Wf V0 := hal2
            clear hV0 hal2 y0 y1 y2
            refine wp_region_quiet_lit Tryd.mixed Tryd.shape14 ?_
            repeat (go_big_quiet_step (fail))
            refine wpQuiet_nil ?_
            intro _ hw9
            obtain ⟨nq, hw8⟩ := hw9
            subst hw8
            have s0 : (V0.drewN nq).cell? ⟨wr.heap.size, 0, none⟩ = some (.int .i64 1) := t0
            have s1 : (V0.drewN nq).cell? ⟨wr.heap.size, 1, none⟩ = some (.string Y) := t1
            have s2 : (V0.drewN nq).cell? ⟨wr.heap.size, 2, none⟩ = some (.int .i64 A) := t2
            have hV1 : Below Wf.heap.size Wf (V0.drewN nq) := below_drewN hV0B nq
            obtain ⟨V1, hW⟩ : ∃ W, W = V0.drewN nq := ⟨_, rfl⟩
            rw [← hW] at s0 s1 s2 hV1 ⊢
            clear hW hV0B t0 t1 t2
            go_wp2_with fail
            have hsrc : BsIn V1 a s := (HBS.out.below HB1.out).below hV1
            obtain ⟨a', c', hsl, hbs'⟩ := Tryd.bytes_sub hsrc hcap A (A + m) (by omega) (by omega)
            rw [hex] at hbs'
            rw [show A + m - A = m by omega, show ((A + m : Nat) : Int) = (A : Int) + (m : Int) by omega] at hsl
            have hcv : ∀ q, (convert 22 9 (.slice a' m c')).run Tryd.prog (V1.drewN q) = .ok (.string Y) (V1.drewN q) := fun q => by
              have h9 := run_convert_bs (P := Tryd.prog) (V1.drewN q) 22 5 9 Tryd.underlying22 Tryd.underlying5 Tryd.underlying9 a' c' Y (hbs'.below (below_drewN (Below.refl _ V1) q))
              rw [hYs] at h9; exact h9
            have hcv2 : (convert 22 9 (.slice a' m c')).run Tryd.prog V1.drew = .ok (.string Y) V1.drew := hcv 1
            clear hsrc hbs'
            refine wp_region_quiet_lit Tryd.mixed Tryd.shape25 ?_
            repeat (go_big_quiet_step (fail))
            refine wpQuiet_nil ?_
            intro _ hw9
            obtain ⟨nq, hw8⟩ := hw9
            subst hw8
            have t0 : (V1.drewN nq).cell? ⟨wr.heap.size, 0, none⟩ = some (.int .i64 1) := s0
            have t1 : (V1.drewN nq).cell? ⟨wr.heap.size, 1, none⟩ = some (.string Y) := s1
            have t2 : (V1.drewN nq).cell? ⟨wr.heap.size, 2, none⟩ = some (.int .i64 A) := s2
            have hV2 : Below Wf.heap.size Wf (V1.drewN nq) := below_drewN hV1 nq
            obtain ⟨V2, hW⟩ : ∃ W, W = V1.drewN nq := ⟨_, rfl⟩
            rw [← hW] at t0 t1 t2 hV2 ⊢
            clear hW hV1 s0 s1 s2
            clear hsl hcv hcv2
            go_wp2_with fail
            have hWc : Hid (∀ W, Calls Tryd.prog 14 #[.string Y] W fun e w' => e = .returned (.bool false) ∧ w' = W) := fun W => by have h9 := Tryd.word_any Y W; rw [Hnw.out] at h9; exact h9
            refine wp_region_quiet_lit Tryd.mixed Tryd.shape27 ?_
            repeat (go_big_quiet_step ((go_at_call 14; exact Calls.quiet_of_same (hWc.out _))))
            refine wpQuiet_nil ?_
            intro _ hw9
            obtain ⟨nq, hw8⟩ := hw9
            subst hw8
            have s0 : (V2.drewN nq).cell? ⟨wr.heap.size, 0, none⟩ = some (.int .i64 1) := t0
            have s1 : (V2.drewN nq).cell? ⟨wr.heap.size, 1, none⟩ = some (.string Y) := t1
            have s2 : (V2.drewN nq).cell? ⟨wr.heap.size, 2, none⟩ = some (.int .i64 A) := t2
            have hV3 : Below Wf.heap.size Wf (V2.drewN nq) := below_drewN hV2 nq
            obtain ⟨V3, hW⟩ : ∃ W, W = V2.drewN nq := ⟨_, rfl⟩
            rw [← hW] at s0 s1 s2 hV3 ⊢
            clear hW hV2 t0 t1 t2
            go_wp2_with fail
            go_roundw
            case rel => exact ⟨1, by rw [Hd'.out, hdd] <;> go_num, by go_num, by omega, hV3⟩
            case measure => simp [intOf]; omega
        · by_cases hA : A' = A
          · obtain rfl : A = A' := hA.symm
            rcases hpk (by unfold isText; omega) rfl with rfl | rfl
            · clear hpk
              as_aux_lemma =>
                obtain ⟨Y, hY⟩ : ∃ Y, bs X = Y := ⟨_, rfl⟩
                rw [hY] at y1
                have hj0 : (0 : Int) ≤ (j : Int) := by omega
                have hjn : (j : Int) < (n : Int) := by omega
                have hwrj : IntKind.i64.wrap (j : Int) = (j : Int) := IntWalk.i64_in _ (by omega)
                have hsubj : IntKind.i64.wrap ((j : Int) + 1 - 1) = (j : Int) := by rw [IntWalk.i64_in _ (by omega)]; omega
                have hdd : d' = d := by simpa using hds
                have hneg : ¬ d < 0 := by omega
                obtain ⟨tx1, tx2, tx3⟩ := htl (by unfold isText; omega)
                obtain ⟨m, hm⟩ : ∃ m, X.length = m := ⟨_, rfl⟩
                rw [hm] at tx1 tx2
                have hYs : Y.size = m := by rw [← hY, bs_size, hm]
                have hex : s.extract A (A + m) = Y := by rw [← hY, ← bs_data (s.extract A (A + m)), Lib.extract_data, show A + m - A = m by omega, tx2]
                have gE : Y.toList.isEmpty = false := by rw [isEmpty_beq, bs_beq X _ Y hY, beq_eq_false_iff_ne]; exact tx3
                have gN : (Y.toList == []) = false := by rw [bs_beq X _ Y hY, beq_eq_false_iff_ne]; exact tx3
                have gM : decide ((s.size : Int) < (A : Int) + (m : Int)) = false := by simp; omega
                have gM2 : ¬ (s.size : Int) < (A : Int) + (m : Int) := by omega
                have HYX : Hid (Y.data.toList = X) := by show _ = _; rw [← hY]; rfl
                have Hnw : Hid (isWord Y.data.toList = false) := by show _ = _; rw [HYX.out]; exact hnm rfl
                clear hY hm tx2 tx3
                have hAlt2 : ¬ (A : Int) < (A : Int) := by omega
                have hAlt3 : ¬ A < A := by omega
                have hgt2 : (0 : Int) < (j : Int) + 1 := by omega
                have hAlt : decide ((A : Int) < (A : Int)) = false := by simp
                have hgt : decide ((0 : Int) < (j : Int) + 1) = true := by rw [decide_eq_true_eq]; omega
                clear hbare hnm hwd htl hds h9m
                have hal2 : Below Wf.heap.size Wf (wr.alloc (.cells #[.int .i64 1, .string Y, .int .i64 A] 35 (0, 0))) := HB.out.alloc HB.out.size _
                have t0 : (wr.alloc (.cells #[.int .i64 1, .string Y, .int .i64 A] 35 (0, 0))).cell? ⟨wr.heap.size, 0, none⟩ = some (.int .i64 1) := cells_new wr _ _ _ 0
                have t1 : (wr.alloc (.cells #[.int .i64 1, .string Y, .int .i64 A] 35 (0, 0))).cell? ⟨wr.heap.size, 1, none⟩ = some (.string Y) := cells_new wr _ _ _ 1
                have t2 : (wr.alloc (.cells #[.int .i64 1, .string Y, .int .i64 A] 35 (0, 0))).cell? ⟨wr.heap.size, 2, none⟩ = some (.int .i64 A) := cells_new wr _ _ _ 2
                have hgwr : g < wr.heap.size := Nat.lt_of_lt_of_le hgW HB.out.size
                have tp : (wr.alloc (.cells #[.int .i64 1, .string Y, .int .i64 A] 35 (0, 0))).cell? ⟨g, j * 3, none⟩ = some (.int .i64 7) := (((Below.refl _ wr).alloc (Nat.le_refl _) _).cell (p := ⟨g, j * 3, none⟩) hgwr).trans p0
                have tq : (wr.alloc (.cells #[.int .i64 1, .string Y, .int .i64 A] 35 (0, 0))).cell? ⟨g, j * 3 + 2, none⟩ = some (.int .i64 A) := (((Below.refl _ wr).alloc (Nat.le_refl _) _).cell (p := ⟨g, j * 3 + 2, none⟩) hgwr).trans p2
                go_wp2_with fail
                obtain ⟨V0, hV0⟩ : ∃ W, W = (wr.alloc (.cells #[.int .i64 1, .string Y, .int .i64 A] 35 (0, 0))) := ⟨_, rfl⟩
                rw [← hV0] at t0 t1 t2 hal2 tp tq ⊢
                have hV0B : Below Wf.heap.size Wf V0 := hal2
                clear hV0 hal2 y0 y1 y2 p0 p2
                refine wp_region_quiet_lit Tryd.mixed Tryd.shape14 ?_
                repeat (go_big_quiet_step (fail))
                refine wpQuiet_nil ?_
                intro _ hw9
                obtain ⟨nq, hw8⟩ := hw9
                subst hw8
                have s0 : (V0.drewN nq).cell? ⟨wr.heap.size, 0, none⟩ = some (.int .i64 1) := t0
                have s1 : (V0.drewN nq).cell? ⟨wr.heap.size, 1, none⟩ = some (.string Y) := t1
                have s2 : (V0.drewN nq).cell? ⟨wr.heap.size, 2, none⟩ = some (.int .i64 A) := t2
                have sp : (V0.drewN nq).cell? ⟨g, j * 3, none⟩ = some (.int .i64 7) := tp
                have sq : (V0.drewN nq).cell? ⟨g, j * 3 + 2, none⟩ = some (.int .i64 A) := tq
                have hV1 : Below Wf.heap.size Wf (V0.drewN nq) := below_drewN hV0B nq
                obtain ⟨V1, hW⟩ : ∃ W, W = V0.drewN nq := ⟨_, rfl⟩
                rw [← hW] at s0 s1 s2 sp sq hV1 ⊢
                clear hW hV0B t0 t1 t2 tp tq
                go_wp2_with fail
                have hsrc : BsIn V1 a s := (HBS.out.below HB1.out).below hV1
                obtain ⟨a', c', hsl, hbs'⟩ := Tryd.bytes_sub hsrc hcap A (A + m) (by omega) (by omega)
                rw [hex] at hbs'
                rw [show A + m - A = m by omega, show ((A + m : Nat) : Int) = (A : Int) + (m : Int) by omega] at hsl
                have hcv : ∀ q, (convert 22 9 (.slice a' m c')).run Tryd.prog (V1.drewN q) = .ok (.string Y) (V1.drewN q) := fun q => by
                  have h9 := run_convert_bs (P := Tryd.prog) (V1.drewN q) 22 5 9 Tryd.underlying22 Tryd.underlying5 Tryd.underlying9 a' c' Y (hbs'.below (below_drewN (Below.refl _ V1) q))
                  rw [hYs] at h9; exact h9
                have hcv2 : (convert 22 9 (.slice a' m c')).run Tryd.prog V1.drew = .ok (.string Y) V1.drew := hcv 1
                clear hsrc hbs'
                refine wp_region_quiet_lit Tryd.mixed Tryd.shape25 ?_
                repeat (go_big_quiet_step (fail))
                refine wpQuiet_nil ?_
                intro _ hw9
                obtain ⟨nq, hw8⟩ := hw9
                subst hw8
                have t0 : (V1.drewN nq).cell? ⟨wr.heap.size, 0, none⟩ = some (.int .i64 1) := s0
                have t1 : (V1.drewN nq).cell? ⟨wr.heap.size, 1, none⟩ = some (.string Y) := s1
                have t2 : (V1.drewN nq).cell? ⟨wr.heap.size, 2, none⟩ = some (.int .i64 A) := s2
                have tp : (V1.drewN nq).cell? ⟨g, j * 3, none⟩ = some (.int .i64 7) := sp
                have tq : (V1.drewN nq).cell? ⟨g, j * 3 + 2, none⟩ = some (.int .i64 A) := sq
                have hV2 : Below Wf.heap.size Wf (V1.drewN nq) := below_drewN hV1 nq
                obtain ⟨V2, hW⟩ : ∃ W, W = V1.drewN nq := ⟨_, rfl⟩
                rw [← hW] at t0 t1 t2 tp tq hV2 ⊢
                clear hW hV1 s0 s1 s2 sp sq
                clear hsl hcv hcv2
                go_wp2_with fail
                have hWc : Hid (∀ W, Calls Tryd.prog 14 #[.string Y] W fun e w' => e = .returned (.bool false) ∧ w' = W) := fun W => by have h9 := Tryd.word_any Y W; rw [Hnw.out] at h9; exact h9
                refine wp_region_quiet_lit Tryd.mixed Tryd.shape27 ?_
                repeat (go_big_quiet_step ((go_at_call 14; exact Calls.quiet_of_same (hWc.out _))))
                refine wpQuiet_nil ?_
                intro _ hw9
                obtain ⟨nq, hw8⟩ := hw9
                subst hw8
                have s0 : (V2.drewN nq).cell? ⟨wr.heap.size, 0, none⟩ = some (.int .i64 1) := t0
                have s1 : (V2.drewN nq).cell? ⟨wr.heap.size, 1, none⟩ = some (.string Y) := t1
                have s2 : (V2.drewN nq).cell? ⟨wr.heap.size, 2, none⟩ = some (.int .i64 A) := t2
                have sp : (V2.drewN nq).cell? ⟨g, j * 3, none⟩ = some (.int .i64 7) := tp
                have sq : (V2.drewN nq).cell? ⟨g, j * 3 + 2, none⟩ = some (.int .i64 A) := tq
                have hV3 : Below Wf.heap.size Wf (V2.drewN nq) := below_drewN hV2 nq
                obtain ⟨V3, hW⟩ : ∃ W, W = V2.drewN nq := ⟨_, rfl⟩
                rw [← hW] at s0 s1 s2 sp sq hV3 ⊢
                clear hW hV2 t0 t1 t2 tp tq
                go_wp2_with fail
                go_roundw
                case rel => exact ⟨(j + 1 + 1), by rw [Hd'.out, hdd] <;> go_num, by go_num, by omega, hV3⟩
                case measure => simp [intOf]; omega
            · clear hpk
              as_aux_lemma =>
                obtain ⟨Y, hY⟩ : ∃ Y, bs X = Y := ⟨_, rfl⟩
                rw [hY] at y1
                have hj0 : (0 : Int) ≤ (j : Int) := by omega
                have hjn : (j : Int) < (n : Int) := by omega
                have hwrj : IntKind.i64.wrap (j : Int) = (j : Int) := IntWalk.i64_in _ (by omega)
                have hsubj : IntKind.i64.wrap ((j : Int) + 1 - 1) = (j : Int) := by rw [IntWalk.i64_in _ (by omega)]; omega
                have hdd : d' = d := by simpa using hds
                have hneg : ¬ d < 0 := by omega
                obtain ⟨tx1, tx2, tx3⟩ := htl (by unfold isText; omega)
                obtain ⟨m, hm⟩ : ∃ m, X.length = m := ⟨_, rfl⟩
                rw [hm] at tx1 tx2
                have hYs : Y.size = m := by rw [← hY, bs_size, hm]
                have hex : s.extract A (A + m) = Y := by rw [← hY, ← bs_data (s.extract A (A + m)), Lib.extract_data, show A + m - A = m by omega, tx2]
                have gE : Y.toList.isEmpty = false := by rw [isEmpty_beq, bs_beq X _ Y hY, beq_eq_false_iff_ne]; exact tx3
                have gN : (Y.toList == []) = false := by rw [bs_beq X _ Y hY, beq_eq_false_iff_ne]; exact tx3
                have gM : decide ((s.size : Int) < (A : Int) + (m : Int)) = false := by simp; omega
                have gM2 : ¬ (s.size : Int) < (A : Int) + (m : Int) := by omega
                have HYX : Hid (Y.data.toList = X) := by show _ = _; rw [← hY]; rfl
                have Hnw : Hid (isWord Y.data.toList = false) := by show _ = _; rw [HYX.out]; exact hnm rfl
                clear hY hm tx2 tx3
                have hAlt2 : ¬ (A : Int) < (A : Int) := by omega
                have hAlt3 : ¬ A < A := by omega
                have hgt2 : (0 : Int) < (j : Int) + 1 := by omega
                have hAlt : decide ((A : Int) < (A : Int)) = false := by simp
                have hgt : decide ((0 : Int) < (j : Int) + 1) = true := by rw [decide_eq_true_eq]; omega
                clear hbare hnm hwd htl hds h9m
                have hal2 : Below Wf.heap.size Wf (wr.alloc (.cells #[.int .i64 1, .string Y, .int .i64 A] 35 (0, 0))) := HB.out.alloc HB.out.size _
                have t0 : (wr.alloc (.cells #[.int .i64 1, .string Y, .int .i64 A] 35 (0, 0))).cell? ⟨wr.heap.size, 0, none⟩ = some (.int .i64 1) := cells_new wr _ _ _ 0
                have t1 : (wr.alloc (.cells #[.int .i64 1, .string Y, .int .i64 A] 35 (0, 0))).cell? ⟨wr.heap.size, 1, none⟩ = some (.string Y) := cells_new wr _ _ _ 1
                have t2 : (wr.alloc (.cells #[.int .i64 1, .string Y, .int .i64 A] 35 (0, 0))).cell? ⟨wr.heap.size, 2, none⟩ = some (.int .i64 A) := cells_new wr _ _ _ 2
                have hgwr : g < wr.heap.size := Nat.lt_of_lt_of_le hgW HB.out.size
                have tp : (wr.alloc (.cells #[.int .i64 1, .string Y, .int .i64 A] 35 (0, 0))).cell? ⟨g, j * 3, none⟩ = some (.int .i64 8) := (((Below.refl _ wr).alloc (Nat.le_refl _) _).cell (p := ⟨g, j * 3, none⟩) hgwr).trans p0
                have tq : (wr.alloc (.cells #[.int .i64 1, .string Y, .int .i64 A] 35 (0, 0))).cell? ⟨g, j * 3 + 2, none⟩ = some (.int .i64 A) := (((Below.refl _ wr).alloc (Nat.le_refl _) _).cell (p := ⟨g, j * 3 + 2, none⟩) hgwr).trans p2
                go_wp2_with fail
                obtain ⟨V0, hV0⟩ : ∃ W, W = (wr.alloc (.cells #[.int .i64 1, .string Y, .int .i64 A] 35 (0, 0))) := ⟨_, rfl⟩
                rw [← hV0] at t0 t1 t2 hal2 tp tq ⊢
                have hV0B : Below Wf.heap.size Wf V0 := hal2
                clear hV0 hal2 y0 y1 y2 p0 p2
                refine wp_region_quiet_lit Tryd.mixed Tryd.shape14 ?_
                repeat (go_big_quiet_step (fail))
                refine wpQuiet_nil ?_
                intro _ hw9
                obtain ⟨nq, hw8⟩ := hw9
                subst hw8
                have s0 : (V0.drewN nq).cell? ⟨wr.heap.size, 0, none⟩ = some (.int .i64 1) := t0
                have s1 : (V0.drewN nq).cell? ⟨wr.heap.size, 1, none⟩ = some (.string Y) := t1
                have s2 : (V0.drewN nq).cell? ⟨wr.heap.size, 2, none⟩ = some (.int .i64 A) := t2
                have sp : (V0.drewN nq).cell? ⟨g, j * 3, none⟩ = some (.int .i64 8) := tp
                have sq : (V0.drewN nq).cell? ⟨g, j * 3 + 2, none⟩ = some (.int .i64 A) := tq
                have hV1 : Below Wf.heap.size Wf (V0.drewN nq) := below_drewN hV0B nq
                obtain ⟨V1, hW⟩ : ∃ W, W = V0.drewN nq := ⟨_, rfl⟩
                rw [← hW] at s0 s1 s2 sp sq hV1 ⊢
                clear hW hV0B t0 t1 t2 tp tq
                go_wp2_with fail
                have hsrc : BsIn V1 a s := (HBS.out.below HB1.out).below hV1
                obtain ⟨a', c', hsl, hbs'⟩ := Tryd.bytes_sub hsrc hcap A (A + m) (by omega) (by omega)
                rw [hex] at hbs'
                rw [show A + m - A = m by omega, show ((A + m : Nat) : Int) = (A : Int) + (m : Int) by omega] at hsl
                have hcv : ∀ q, (convert 22 9 (.slice a' m c')).run Tryd.prog (V1.drewN q) = .ok (.string Y) (V1.drewN q) := fun q => by
                  have h9 := run_convert_bs (P := Tryd.prog) (V1.drewN q) 22 5 9 Tryd.underlying22 Tryd.underlying5 Tryd.underlying9 a' c' Y (hbs'.below (below_drewN (Below.refl _ V1) q))
                  rw [hYs] at h9; exact h9
                have hcv2 : (convert 22 9 (.slice a' m c')).run Tryd.prog V1.drew = .ok (.string Y) V1.drew := hcv 1
                clear hsrc hbs'
                refine wp_region_quiet_lit Tryd.mixed Tryd.shape25 ?_
                repeat (go_big_quiet_step (fail))
                refine wpQuiet_nil ?_
                intro _ hw9
                obtain ⟨nq, hw8⟩ := hw9
                subst hw8
                have t0 : (V1.drewN nq).cell? ⟨wr.heap.size, 0, none⟩ = some (.int .i64 1) := s0
                have t1 : (V1.drewN nq).cell? ⟨wr.heap.size, 1, none⟩ = some (.string Y) := s1
                have t2 : (V1.drewN nq).cell? ⟨wr.heap.size, 2, none⟩ = some (.int .i64 A) := s2
                have tp : (V1.drewN nq).cell? ⟨g, j * 3, none⟩ = some (.int .i64 8) := sp
                have tq : (V1.drewN nq).cell? ⟨g, j * 3 + 2, none⟩ = some (.int .i64 A) := sq
                have hV2 : Below Wf.heap.size Wf (V1.drewN nq) := below_drewN hV1 nq
                obtain ⟨V2, hW⟩ : ∃ W, W = V1.drewN nq := ⟨_, rfl⟩
                rw [← hW] at t0 t1 t2 tp tq hV2 ⊢
                clear hW hV1 s0 s1 s2 sp sq
                clear hsl hcv hcv2
                go_wp2_with fail
                have hWc : Hid (∀ W, Calls Tryd.prog 14 #[.string Y] W fun e w' => e = .returned (.bool false) ∧ w' = W) := fun W => by have h9 := Tryd.word_any Y W; rw [Hnw.out] at h9; exact h9
                refine wp_region_quiet_lit Tryd.mixed Tryd.shape27 ?_
                repeat (go_big_quiet_step ((go_at_call 14; exact Calls.quiet_of_same (hWc.out _))))
                refine wpQuiet_nil ?_
                intro _ hw9
                obtain ⟨nq, hw8⟩ := hw9
                subst hw8
                have s0 : (V2.drewN nq).cell? ⟨wr.heap.size, 0, none⟩ = some (.int .i64 1) := t0
                have s1 : (V2.drewN nq).cell? ⟨wr.heap.size, 1, none⟩ = some (.string Y) := t1
                have s2 : (V2.drewN nq).cell? ⟨wr.heap.size, 2, none⟩ = some (.int .i64 A) := t2
                have sp : (V2.drewN nq).cell? ⟨g, j * 3, none⟩ = some (.int .i64 8) := tp
                have sq : (V2.drewN nq).cell? ⟨g, j * 3 + 2, none⟩ = some (.int .i64 A) := tq
                have hV3 : Below Wf.heap.size Wf (V2.drewN nq) := below_drewN hV2 nq
                obtain ⟨V3, hW⟩ : ∃ W, W = V2.drewN nq := ⟨_, rfl⟩
                rw [← hW] at s0 s1 s2 sp sq hV3 ⊢
                clear hW hV2 t0 t1 t2 tp tq
                go_wp2_with fail
                go_roundw
                case rel => exact ⟨(j + 1 + 1), by rw [Hd'.out, hdd] <;> go_num, by go_num, by omega, hV3⟩
                case measure => simp [intOf]; omega
          · clear hpk
            as_aux_lemma =>
              obtain ⟨Y, hY⟩ : ∃ Y, bs X = Y := ⟨_, rfl⟩
              rw [hY] at y1
              have hj0 : (0 : Int) ≤ (j : Int) := by omega
              have hjn : (j : Int) < (n : Int) := by omega
              have hwrj : IntKind.i64.wrap (j : Int) = (j : Int) := IntWalk.i64_in _ (by omega)
              have hsubj : IntKind.i64.wrap ((j : Int) + 1 - 1) = (j : Int) := by rw [IntWalk.i64_in _ (by omega)]; omega
              have hdd : d' = d := by simpa using hds
              have hneg : ¬ d < 0 := by omega
              obtain ⟨tx1, tx2, tx3⟩ := htl (by unfold isText; omega)
              obtain ⟨m, hm⟩ : ∃ m, X.length = m := ⟨_, rfl⟩
              rw [hm] at tx1 tx2
              have hYs : Y.size = m := by rw [← hY, bs_size, hm]
              have hex : s.extract A (A + m) = Y := by rw [← hY, ← bs_data (s.extract A (A + m)), Lib.extract_data, show A + m - A = m by omega, tx2]
              have gE : Y.toList.isEmpty = false := by rw [isEmpty_beq, bs_beq X _ Y hY, beq_eq_false_iff_ne]; exact tx3
              have gN : (Y.toList == []) = false := by rw [bs_beq X _ Y hY, beq_eq_false_iff_ne]; exact tx3
              have gM : decide ((s.size : Int) < (A : Int) + (m : Int)) = false := by simp; omega
              have gM2 : ¬ (s.size : Int) < (A : Int) + (m : Int) := by omega
              have HYX : Hid (Y.data.toList = X) := by show _ = _; rw [← hY]; rfl
              have Hnw : Hid (isWord Y.data.toList = false) := by show _ = _; rw [HYX.out]; exact hnm rfl
              clear hY hm tx2 tx3
              have hAlt2 : ¬ (A : Int) < (A' : Int) := by omega
              have hAlt3 : ¬ A < A' := by omega
              have hgt2 : (0 : Int) < (j : Int) + 1 := by omega
              have hAlt : decide ((A : Int) < (A' : Int)) = false := by simp; omega
              have hAne2 : ¬ A' = A := by omega
              have hAne3 : ¬ (A' : Int) = (A : Int) := by omega
              have hAne : ((A' : Int) == (A : Int)) = false := by rw [beq_eq_false_iff_ne]; omega
              have hgt : decide ((0 : Int) < (j : Int) + 1) = true := by rw [decide_eq_true_eq]; omega
              clear hbare hnm hwd htl hds h9m
              have hal2 : Below Wf.heap.size Wf (wr.alloc (.cells #[.int .i64 1, .string Y, .int .i64 A] 35 (0, 0))) := HB.out.alloc HB.out.size _
              have t0 : (wr.alloc (.cells #[.int .i64 1, .string Y, .int .i64 A] 35 (0, 0))).cell? ⟨wr.heap.size, 0, none⟩ = some (.int .i64 1) := cells_new wr _ _ _ 0
              have t1 : (wr.alloc (.cells #[.int .i64 1, .string Y, .int .i64 A] 35 (0, 0))).cell? ⟨wr.heap.size, 1, none⟩ = some (.string Y) := cells_new wr _ _ _ 1
              have t2 : (wr.alloc (.cells #[.int .i64 1, .string Y, .int .i64 A] 35 (0, 0))).cell? ⟨wr.heap.size, 2, none⟩ = some (.int .i64 A) := cells_new wr _ _ _ 2
              have hgwr : g < wr.heap.size := Nat.lt_of_lt_of_le hgW HB.out.size
              have tp : (wr.alloc (.cells #[.int .i64 1, .string Y, .int .i64 A] 35 (0, 0))).cell? ⟨g, j * 3, none⟩ = some (.int .i64 K') := (((Below.refl _ wr).alloc (Nat.le_refl _) _).cell (p := ⟨g, j * 3, none⟩) hgwr).trans p0
              have tq : (wr.alloc (.cells #[.int .i64 1, .string Y, .int .i64 A] 35 (0, 0))).cell? ⟨g, j * 3 + 2, none⟩ = some (.int .i64 A') := (((Below.refl _ wr).alloc (Nat.le_refl _) _).cell (p := ⟨g, j * 3 + 2, none⟩) hgwr).trans p2
              go_wp2_with fail
              obtain ⟨V0, hV0⟩ : ∃ W, W = (wr.alloc (.cells #[.int .i64 1, .string Y, .int .i64 A] 35 (0, 0))) := ⟨_, rfl⟩
              rw [← hV0] at t0 t1 t2 hal2 tp tq ⊢
              have hV0B : Below Wf.heap.size Wf V0 := hal2
              clear hV0 hal2 y0 y1 y2 p0 p2
              refine wp_region_quiet_lit Tryd.mixed Tryd.shape14 ?_
              repeat (go_big_quiet_step (fail))
              refine wpQuiet_nil ?_
              intro _ hw9
              obtain ⟨nq, hw8⟩ := hw9
              subst hw8
              have s0 : (V0.drewN nq).cell? ⟨wr.heap.size, 0, none⟩ = some (.int .i64 1) := t0
              have s1 : (V0.drewN nq).cell? ⟨wr.heap.size, 1, none⟩ = some (.string Y) := t1
              have s2 : (V0.drewN nq).cell? ⟨wr.heap.size, 2, none⟩ = some (.int .i64 A) := t2
              have sp : (V0.drewN nq).cell? ⟨g, j * 3, none⟩ = some (.int .i64 K') := tp
              have sq : (V0.drewN nq).cell? ⟨g, j * 3 + 2, none⟩ = some (.int .i64 A') := tq
              have hV1 : Below Wf.heap.size Wf (V0.drewN nq) := below_drewN hV0B nq
              obtain ⟨V1, hW⟩ : ∃ W, W = V0.drewN nq := ⟨_, rfl⟩
              rw [← hW] at s0 s1 s2 sp sq hV1 ⊢
              clear hW hV0B t0 t1 t2 tp tq
              go_wp2_with fail
              have hsrc : BsIn V1 a s := (HBS.out.below HB1.out).below hV1
              obtain ⟨a', c', hsl, hbs'⟩ := Tryd.bytes_sub hsrc hcap A (A + m) (by omega) (by omega)
              rw [hex] at hbs'
              rw [show A + m - A = m by omega, show ((A + m : Nat) : Int) = (A : Int) + (m : Int) by omega] at hsl
              have hcv : ∀ q, (convert 22 9 (.slice a' m c')).run Tryd.prog (V1.drewN q) = .ok (.string Y) (V1.drewN q) := fun q => by
                have h9 := run_convert_bs (P := Tryd.prog) (V1.drewN q) 22 5 9 Tryd.underlying22 Tryd.underlying5 Tryd.underlying9 a' c' Y (hbs'.below (below_drewN (Below.refl _ V1) q))
                rw [hYs] at h9; exact h9
              have hcv2 : (convert 22 9 (.slice a' m c')).run Tryd.prog V1.drew = .ok (.string Y) V1.drew := hcv 1
              clear hsrc hbs'
              refine wp_region_quiet_lit Tryd.mixed Tryd.shape25 ?_
              repeat (go_big_quiet_step (fail))
              refine wpQuiet_nil ?_
              intro _ hw9
              obtain ⟨nq, hw8⟩ := hw9
              subst hw8
              have t0 : (V1.drewN nq).cell? ⟨wr.heap.size, 0, none⟩ = some (.int .i64 1) := s0
              have t1 : (V1.drewN nq).cell? ⟨wr.heap.size, 1, none⟩ = some (.string Y) := s1
              have t2 : (V1.drewN nq).cell? ⟨wr.heap.size, 2, none⟩ = some (.int .i64 A) := s2
              have tp : (V1.drewN nq).cell? ⟨g, j * 3, none⟩ = some (.int .i64 K') := sp
              have tq : (V1.drewN nq).cell? ⟨g, j * 3 + 2, none⟩ = some (.int .i64 A') := sq
              have hV2 : Below Wf.heap.size Wf (V1.drewN nq) := below_drewN hV1 nq
              obtain ⟨V2, hW⟩ : ∃ W, W = V1.drewN nq := ⟨_, rfl⟩
              rw [← hW] at t0 t1 t2 tp tq hV2 ⊢
              clear hW hV1 s0 s1 s2 sp sq
              clear hsl hcv hcv2
              go_wp2_with fail
              have hWc : Hid (∀ W, Calls Tryd.prog 14 #[.string Y] W fun e w' => e = .returned (.bool false) ∧ w' = W) := fun W => by have h9 := Tryd.word_any Y W; rw [Hnw.out] at h9; exact h9
              refine wp_region_quiet_lit Tryd.mixed Tryd.shape27 ?_
              repeat (go_big_quiet_step ((go_at_call 14; exact Calls.quiet_of_same (hWc.out _))))
              refine wpQuiet_nil ?_
              intro _ hw9
              obtain ⟨nq, hw8⟩ := hw9
              subst hw8
              have s0 : (V2.drewN nq).cell? ⟨wr.heap.size, 0, none⟩ = some (.int .i64 1) := t0
              have s1 : (V2.drewN nq).cell? ⟨wr.heap.size, 1, none⟩ = some (.string Y) := t1
              have s2 : (V2.drewN nq).cell? ⟨wr.heap.size, 2, none⟩ = some (.int .i64 A) := t2
              have sp : (V2.drewN nq).cell? ⟨g, j * 3, none⟩ = some (.int .i64 K') := tp
              have sq : (V2.drewN nq).cell? ⟨g, j * 3 + 2, none⟩ = some (.int .i64 A') := tq
              have hV3 : Below Wf.heap.size Wf (V2.drewN nq) := below_drewN hV2 nq
              obtain ⟨V3, hW⟩ : ∃ W, W = V2.drewN nq := ⟨_, rfl⟩
              rw [← hW] at s0 s1 s2 sp sq hV3 ⊢
              clear hW hV2 t0 t1 t2 tp tq
              go_wp2_with fail
              go_roundw
              case rel => exact ⟨(j + 1 + 1), by rw [Hd'.out, hdd] <;> go_num, by go_num, by omega, hV3⟩
              case measure => simp [intOf]; omega
      · rcases hprev with rfl | ⟨j, K', A', rfl, p0, p2, hAA, hpk⟩
        · have hfirst : True := trivial
          as_aux_lemma =>
            obtain ⟨Y, hY⟩ : ∃ Y, bs X = Y := ⟨_, rfl⟩
            rw [hY] at y1
            simp only [Nat.zero_mul, Nat.zero_add] at y0 y1 y2
            have hin0 : (0 : Int) < (n : Int) := by omega
            have hin1 : 0 < n := by omega
            have hdd : d' = d := by simpa using hds
            have hneg : ¬ d < 0 := by omega
            obtain ⟨tx1, tx2, tx3⟩ := htl (by unfold isText; omega)
            obtain ⟨m, hm⟩ : ∃ m, X.length = m := ⟨_, rfl⟩
            rw [hm] at tx1 tx2
            have hYs : Y.size = m := by rw [← hY, bs_size, hm]
            have hex : s.extract A (A + m) = Y := by rw [← hY, ← bs_data (s.extract A (A + m)), Lib.extract_data, show A + m - A = m by omega, tx2]
            have gE : Y.toList.isEmpty = false := by rw [isEmpty_beq, bs_beq X _ Y hY, beq_eq_false_iff_ne]; exact tx3
            have gN : (Y.toList == []) = false := by rw [bs_beq X _ Y hY, beq_eq_false_iff_ne]; exact tx3
            have gM : decide ((s.size : Int) < (A : Int) + (m : Int)) = false := by simp; omega
            have gM2 : ¬ (s.size : Int) < (A : Int) + (m : Int) := by omega
            have HYX : Hid (Y.data.toList = X) := by show _ = _; rw [← hY]; rfl
            have Hnw : Hid (isWord Y.data.toList = true) := by show _ = _; rw [HYX.out]; exact hwd rfl
            clear hY hm tx2 tx3
            clear hbare hnm hwd htl hds h9m
            have hal2 : Below Wf.heap.size Wf (wr.alloc (.cells #[.int .i64 2, .string Y, .int .i64 A] 35 (0, 0))) := HB.out.alloc HB.out.size _
            have t0 : (wr.alloc (.cells #[.int .i64 2, .string Y, .int .i64 A] 35 (0, 0))).cell? ⟨wr.heap.size, 0, none⟩ = some (.int .i64 2) := cells_new wr _ _ _ 0
            have t1 : (wr.alloc (.cells #[.int .i64 2, .string Y, .int .i64 A] 35 (0, 0))).cell? ⟨wr.heap.size, 1, none⟩ = some (.string Y) := cells_new wr _ _ _ 1
            have t2 : (wr.alloc (.cells #[.int .i64 2, .string Y, .int .i64 A] 35 (0, 0))).cell? ⟨wr.heap.size, 2, none⟩ = some (.int .i64 A) := cells_new wr _ _ _ 2
            go_wp2_with fail
            obtain ⟨V0, hV0⟩ : ∃ W, W = (wr.alloc (.cells #[.int .i64 2, .string Y, .int .i64 A] 35 (0, 0))) := ⟨_, rfl⟩
            rw [← hV0] at t0 t1 t2 hal2 ⊢
            have hV0B : Below Wf.heap.size Wf V0 := hal2
            clear hV0 hal2 y0 y1 y2
            refine wp_region_quiet_lit Tryd.mixed Tryd.shape14 ?_
            repeat (go_big_quiet_step (fail))
            refine wpQuiet_nil ?_
            intro _ hw9
            obtain ⟨nq, hw8⟩ := hw9
            subst hw8
            have s0 : (V0.drewN nq).cell? ⟨wr.heap.size, 0, none⟩ = some (.int .i64 2) := t0
            have s1 : (V0.drewN nq).cell? ⟨wr.heap.size, 1, none⟩ = some (.string Y) := t1
            have s2 : (V0.drewN nq).cell? ⟨wr.heap.size, 2, none⟩ = some (.int .i64 A) := t2
            have hV1 : Below Wf.heap.size Wf (V0.drewN nq) := below_drewN hV0B nq
            obtain ⟨V1, hW⟩ : ∃ W, W = V0.drewN nq := ⟨_, rfl⟩
            rw [← hW] at s0 s1 s2 hV1 ⊢
            clear hW hV0B t0 t1 t2
            go_wp2_with fail
            have hsrc : BsIn V1 a s := (HBS.out.below HB1.out).below hV1
            obtain ⟨a', c', hsl, hbs'⟩ := Tryd.bytes_sub hsrc hcap A (A + m) (by omega) (by omega)
            rw [hex] at hbs'
            rw [show A + m - A = m by omega, show ((A + m : Nat) : Int) = (A : Int) + (m : Int) by omega] at hsl
            have hcv : ∀ q, (convert 22 9 (.slice a' m c')).run Tryd.prog (V1.drewN q) = .ok (.string Y) (V1.drewN q) := fun q => by
              have h9 := run_convert_bs (P := Tryd.prog) (V1.drewN q) 22 5 9 Tryd.underlying22 Tryd.underlying5 Tryd.underlying9 a' c' Y (hbs'.below (below_drewN (Below.refl _ V1) q))
              rw [hYs] at h9; exact h9
            have hcv2 : (convert 22 9 (.slice a' m c')).run Tryd.prog V1.drew = .ok (.string Y) V1.drew := hcv 1
            clear hsrc hbs'
            refine wp_region_quiet_lit Tryd.mixed Tryd.shape25 ?_
            repeat (go_big_quiet_step (fail))
            refine wpQuiet_nil ?_
            intro _ hw9
            obtain ⟨nq, hw8⟩ := hw9
            subst hw8
            have t0 : (V1.drewN nq).cell? ⟨wr.heap.size, 0, none⟩ = some (.int .i64 2) := s0
            have t1 : (V1.drewN nq).cell? ⟨wr.heap.size, 1, none⟩ = some (.string Y) := s1
            have t2 : (V1.drewN nq).cell? ⟨wr.heap.size, 2, none⟩ = some (.int .i64 A) := s2
            have hV2 : Below Wf.heap.size Wf (V1.drewN nq) := below_drewN hV1 nq
            obtain ⟨V2, hW⟩ : ∃ W, W = V1.drewN nq := ⟨_, rfl⟩
            rw [← hW] at t0 t1 t2 hV2 ⊢
            clear hW hV1 s0 s1 s2
            clear hsl hcv hcv2
            go_wp2_with fail
            have hWc : Hid (∀ W, Calls Tryd.prog 14 #[.string Y] W fun e w' => e = .returned (.bool true) ∧ w' = W) := fun W => by have h9 := Tryd.word_any Y W; rw [Hnw.out] at h9; exact h9
            refine wp_region_quiet_lit Tryd.mixed Tryd.shape27 ?_
            repeat (go_big_quiet_step ((go_at_call 14; exact Calls.quiet_of_same (hWc.out _))))
            refine wpQuiet_nil ?_
            intro _ hw9
            obtain ⟨nq, hw8⟩ := hw9
            subst hw8
            have s0 : (V2.drewN nq).cell? ⟨wr.heap.size, 0, none⟩ = some (.int .i64 2) := t0
            have s1 : (V2.drewN nq).cell? ⟨wr.heap.size, 1, none⟩ = some (.string Y) := t1
            have s2 : (V2.drewN nq).cell? ⟨wr.heap.size, 2, none⟩ = some (.int .i64 A) := t2
            have hV3 : Below Wf.heap.size Wf (V2.drewN nq) := below_drewN hV2 nq
            obtain ⟨V3, hW⟩ : ∃ W, W = V2.drewN nq := ⟨_, rfl⟩
            rw [← hW] at s0 s1 s2 hV3 ⊢
            clear hW hV2 t0 t1 t2
            go_wp2_with fail
            go_roundw
            case rel => exact ⟨1, by rw [Hd'.out, hdd] <;> go_num, by go_num, by omega, hV3⟩
            case measure => simp [intOf]; omega
        · by_cases hA : A' = A
          · obtain rfl : A = A' := hA.symm
            rcases hpk (by unfold isText; omega) rfl with rfl | rfl
            · clear hpk
              as_aux_lemma =>
                obtain ⟨Y, hY⟩ : ∃ Y, bs X = Y := ⟨_, rfl⟩
                rw [hY] at y1
                have hj0 : (0 : Int) ≤ (j : Int) := by omega
                have hjn : (j : Int) < (n : Int) := by omega
                have hwrj : IntKind.i64.wrap (j : Int) = (j : Int) := IntWalk.i64_in _ (by omega)
                have hsubj : IntKind.i64.wrap ((j : Int) + 1 - 1) = (j : Int) := by rw [IntWalk.i64_in _ (by omega)]; omega
                have hdd : d' = d := by simpa using hds
                have hneg : ¬ d < 0 := by omega
                obtain ⟨tx1, tx2, tx3⟩ := htl (by unfold isText; omega)
                obtain ⟨m, hm⟩ : ∃ m, X.length = m := ⟨_, rfl⟩
                rw [hm] at tx1 tx2
                have hYs : Y.size = m := by rw [← hY, bs_size, hm]
                have hex : s.extract A (A + m) = Y := by rw [← hY, ← bs_data (s.extract A (A + m)), Lib.extract_data, show A + m - A = m by omega, tx2]
                have gE : Y.toList.isEmpty = false := by rw [isEmpty_beq, bs_beq X _ Y hY, beq_eq_false_iff_ne]; exact tx3
                have gN : (Y.toList == []) = false := by rw [bs_beq X _ Y hY, beq_eq_false_iff_ne]; exact tx3
                have gM : decide ((s.size : Int) < (A : Int) + (m : Int)) = false := by simp; omega
                have gM2 : ¬ (s.size : Int) < (A : Int) + (m : Int) := by omega
                have HYX : Hid (Y.data.toList = X) := by show _ = _; rw [← hY]; rfl
                have Hnw : Hid (isWord Y.data.toList = true) := by show _ = _; rw [HYX.out]; exact hwd rfl
                clear hY hm tx2 tx3
                have hAlt2 : ¬ (A : Int) < (A : Int) := by omega
                have hAlt3 : ¬ A < A := by omega
                have hgt2 : (0 : Int) < (j : Int) + 1 := by omega
                have hAlt : decide ((A : Int) < (A : Int)) = false := by simp
                have hgt : decide ((0 : Int) < (j : Int) + 1) = true := by rw [decide_eq_true_eq]; omega
                clear hbare hnm hwd htl hds h9m
                have hal2 : Below Wf.heap.size Wf (wr.alloc (.cells #[.int .i64 2, .string Y, .int .i64 A] 35 (0, 0))) := HB.out.alloc HB.out.size _
                have t0 : (wr.alloc (.cells #[.int .i64 2, .string Y, .int .i64 A] 35 (0, 0))).cell? ⟨wr.heap.size, 0, none⟩ = some (.int .i64 2) := cells_new wr _ _ _ 0
                have t1 : (wr.alloc (.cells #[.int .i64 2, .string Y, .int .i64 A] 35 (0, 0))).cell? ⟨wr.heap.size, 1, none⟩ = some (.string Y) := cells_new wr _ _ _ 1
                have t2 : (wr.alloc (.cells #[.int .i64 2, .string Y, .int .i64 A] 35 (0, 0))).cell? ⟨wr.heap.size, 2, none⟩ = some (.int .i64 A) := cells_new wr _ _ _ 2
                have hgwr : g < wr.heap.size := Nat.lt_of_lt_of_le hgW HB.out.size
                have tp : (wr.alloc (.cells #[.int .i64 2, .string Y, .int .i64 A] 35 (0, 0))).cell? ⟨g, j * 3, none⟩ = some (.int .i64 7) := (((Below.refl _ wr).alloc (Nat.le_refl _) _).cell (p := ⟨g, j * 3, none⟩) hgwr).trans p0
                have tq : (wr.alloc (.cells #[.int .i64 2, .string Y, .int .i64 A] 35 (0, 0))).cell? ⟨g, j * 3 + 2, none⟩ = some (.int .i64 A) := (((Below.refl _ wr).alloc (Nat.le_refl _) _).cell (p := ⟨g, j * 3 + 2, none⟩) hgwr).trans p2
                go_wp2_with fail
                obtain ⟨V0, hV0⟩ : ∃ W, W = (wr.alloc (.cells #[.int .i64 2, .string Y, .int .i64 A] 35 (0, 0))) := ⟨_, rfl⟩
                rw [← hV0] at t0 t1 t2 hal2 tp tq ⊢
                have hV0B : Below Wf.heap.size Wf V0 := hal2
                clear hV0 hal2 y0 y1 y2 p0 p2
                refine wp_region_quiet_lit Tryd.mixed Tryd.shape14 ?_
                repeat (go_big_quiet_step (fail))
                refine wpQuiet_nil ?_
                intro _ hw9
                obtain ⟨nq, hw8⟩ := hw9
                subst hw8
                have s0 : (V0.drewN nq).cell? ⟨wr.heap.size, 0, none⟩ = some (.int .i64 2) := t0
                have s1 : (V0.drewN nq).cell? ⟨wr.heap.size, 1, none⟩ = some (.string Y) := t1
                have s2 : (V0.drewN nq).cell? ⟨wr.heap.size, 2, none⟩ = some (.int .i64 A) := t2
                have sp : (V0.drewN nq).cell? ⟨g, j * 3, none⟩ = some (.int .i64 7) := tp
                have sq : (V0.drewN nq).cell? ⟨g, j * 3 + 2, none⟩ = some (.int .i64 A) := tq
                have hV1 : Below Wf.heap.size Wf (V0.drewN nq) := below_drewN hV0B nq
                obtain ⟨V1, hW⟩ : ∃ W, W = V0.drewN nq := ⟨_, rfl⟩
                rw [← hW] at s0 s1 s2 sp sq hV1 ⊢
                clear hW hV0B t0 t1 t2 tp tq
                go_wp2_with fail
                have hsrc : BsIn V1 a s := (HBS.out.below HB1.out).below hV1
                obtain ⟨a', c', hsl, hbs'⟩ := Tryd.bytes_sub hsrc hcap A (A + m) (by omega) (by omega)
                rw [hex] at hbs'
                rw [show A + m - A = m by omega, show ((A + m : Nat) : Int) = (A : Int) + (m : Int) by omega] at hsl
                have hcv : ∀ q, (convert 22 9 (.slice a' m c')).run Tryd.prog (V1.drewN q) = .ok (.string Y) (V1.drewN q) := fun q => by
                  have h9 := run_convert_bs (P := Tryd.prog) (V1.drewN q) 22 5 9 Tryd.underlying22 Tryd.underlying5 Tryd.underlying9 a' c' Y (hbs'.below (below_drewN (Below.refl _ V1) q))
                  rw [hYs] at h9; exact h9
                have hcv2 : (convert 22 9 (.slice a' m c')).run Tryd.prog V1.drew = .ok (.string Y) V1.drew := hcv 1
                clear hsrc hbs'
                refine wp_region_quiet_lit Tryd.mixed Tryd.shape25 ?_
                repeat (go_big_quiet_step (fail))
                refine wpQuiet_nil ?_
                intro _ hw9
                obtain ⟨nq, hw8⟩ := hw9
                subst hw8
                have t0 : (V1.drewN nq).cell? ⟨wr.heap.size, 0, none⟩ = some (.int .i64 2) := s0
                have t1 : (V1.drewN nq).cell? ⟨wr.heap.size, 1, none⟩ = some (.string Y) := s1
                have t2 : (V1.drewN nq).cell? ⟨wr.heap.size, 2, none⟩ = some (.int .i64 A) := s2
                have tp : (V1.drewN nq).cell? ⟨g, j * 3, none⟩ = some (.int .i64 7) := sp
                have tq : (V1.drewN nq).cell? ⟨g, j * 3 + 2, none⟩ = some (.int .i64 A) := sq
                have hV2 : Below Wf.heap.size Wf (V1.drewN nq) := below_drewN hV1 nq
                obtain ⟨V2, hW⟩ : ∃ W, W = V1.drewN nq := ⟨_, rfl⟩
                rw [← hW] at t0 t1 t2 tp tq hV2 ⊢
                clear hW hV1 s0 s1 s2 sp sq
                clear hsl hcv hcv2
                go_wp2_with fail
                have hWc : Hid (∀ W, Calls Tryd.prog 14 #[.string Y] W fun e w' => e = .returned (.bool true) ∧ w' = W) := fun W => by have h9 := Tryd.word_any Y W; rw [Hnw.out] at h9; exact h9
                refine wp_region_quiet_lit Tryd.mixed Tryd.shape27 ?_
                repeat (go_big_quiet_step ((go_at_call 14; exact Calls.quiet_of_same (hWc.out _))))
                refine wpQuiet_nil ?_
                intro _ hw9
                obtain ⟨nq, hw8⟩ := hw9
                subst hw8
                have s0 : (V2.drewN nq).cell? ⟨wr.heap.size, 0, none⟩ = some (.int .i64 2) := t0
                have s1 : (V2.drewN nq).cell? ⟨wr.heap.size, 1, none⟩ = some (.string Y) := t1
                have s2 : (V2.drewN nq).cell? ⟨wr.heap.size, 2, none⟩ = some (.int .i64 A) := t2
                have sp : (V2.drewN nq).cell? ⟨g, j * 3, none⟩ = some (.int .i64 7) := tp
                have sq : (V2.drewN nq).cell? ⟨g, j * 3 + 2, none⟩ = some (.int .i64 A) := tq
                have hV3 : Below Wf.heap.size Wf (V2.drewN nq) := below_drewN hV2 nq
                obtain ⟨V3, hW⟩ : ∃ W, W = V2.drewN nq := ⟨_, rfl⟩
                rw [← hW] at s0 s1 s2 sp sq hV3 ⊢
                clear hW hV2 t0 t1 t2 tp tq
                go_wp2_with fail
                go_roundw
                case rel => exact ⟨(j + 1 + 1), by rw [Hd'.out, hdd] <;> go_num, by go_num, by omega, hV3⟩
                case measure => simp [intOf]; omega
            · clear hpk
              as_aux_lemma =>
                obtain ⟨Y, hY⟩ : ∃ Y, bs X = Y := ⟨_, rfl⟩
                rw [hY] at y1
                have hj0 : (0 : Int) ≤ (j : Int) := by omega
                have hjn : (j : Int) < (n : Int) := by omega
                have hwrj : IntKind.i64.wrap (j : Int) = (j : Int) := IntWalk.i64_in _ (by omega)
                have hsubj : IntKind.i64.wrap ((j : Int) + 1 - 1) = (j : Int) := by rw [IntWalk.i64_in _ (by omega)]; omega
                have hdd : d' = d := by simpa using hds
                have hneg : ¬ d < 0 := by omega
                obtain ⟨tx1, tx2, tx3⟩ := htl (by unfold isText; omega)
                obtain ⟨m, hm⟩ : ∃ m, X.length = m := ⟨_, rfl⟩
                rw [hm] at tx1 tx2
                have hYs : Y.size = m := by rw [← hY, bs_size, hm]
                have hex : s.extract A (A + m) = Y := by rw [← hY, ← bs_data (s.extract A (A + m)), Lib.extract_data, show A + m - A = m by omega, tx2]
                have gE : Y.toList.isEmpty = false := by rw [isEmpty_beq, bs_beq X _ Y hY, beq_eq_false_iff_ne]; exact tx3
                have gN : (Y.toList == []) = false := by rw [bs_beq X _ Y hY, beq_eq_false_iff_ne]; exact tx3
                have gM : decide ((s.size : Int) < (A : Int) + (m : Int)) = false := by simp; omega
                have gM2 : ¬ (s.size : Int) < (A : Int) + (m : Int) := by omega
                have HYX : Hid (Y.data.toList = X) := by show _ = _; rw [← hY]; rfl
                have Hnw : Hid (isWord Y.data.toList = true) := by show _ = _; rw [HYX.out]; exact hwd rfl
                clear hY hm tx2 tx3
                have hAlt2 : ¬ (A : Int) < (A : Int) := by omega
                have hAlt3 : ¬ A < A := by omega
                have hgt2 : (0 : Int) < (j : Int) + 1 := by omega
                have hAlt : decide ((A : Int) < (A : Int)) = false := by simp
                have hgt : decide ((0 : Int) < (j : Int) + 1) = true := by rw [decide_eq_true_eq]; omega
                clear hbare hnm hwd htl hds h9m
                have hal2 : Below Wf.heap.size Wf (wr.alloc (.cells #[.int .i64 2, .string Y, .int .i64 A] 35 (0, 0))) := HB.out.alloc HB.out.size _
                have t0 : (wr.alloc (.cells #[.int .i64 2, .string Y, .int .i64 A] 35 (0, 0))).cell? ⟨wr.heap.size, 0, none⟩ = some (.int .i64 2) := cells_new wr _ _ _ 0
                have t1 : (wr.alloc (.cells #[.int .i64 2, .string Y, .int .i64 A] 35 (0, 0))).cell? ⟨wr.heap.size, 1, none⟩ = some (.string Y) := cells_new wr _ _ _ 1
                have t2 : (wr.alloc (.cells #[.int .i64 2, .string Y, .int .i64 A] 35 (0, 0))).cell? ⟨wr.heap.size, 2, none⟩ = some (.int .i64 A) := cells_new wr _ _ _ 2
                have hgwr : g < wr.heap.size := Nat.lt_of_lt_of_le hgW HB.out.size
                have tp : (wr.alloc (.cells #[.int .i64 2, .string Y, .int .i64 A] 35 (0, 0))).cell? ⟨g, j * 3, none⟩ = some (.int .i64 8) := (((Below.refl _ wr).alloc (Nat.le_refl _) _).cell (p := ⟨g, j * 3, none⟩) hgwr).trans p0
                have tq : (wr.alloc (.cells #[.int .i64 2, .string Y, .int .i64 A] 35 (0, 0))).cell? ⟨g, j * 3 + 2, none⟩ = some (.int .i64 A) := (((Below.refl _ wr).alloc (Nat.le_refl _) _).cell (p := ⟨g, j * 3 + 2, none⟩) hgwr).trans p2
                go_wp2_with fail
                obtain ⟨V0, hV0⟩ : ∃ W, W = (wr.alloc (.cells #[.int .i64 2, .string Y, .int .i64 A] 35 (0, 0))) := ⟨_, rfl⟩
                rw [← hV0] at t0 t1 t2 hal2 tp tq ⊢
                have hV0B : Below Wf.heap.size Wf V0 := hal2
                clear hV0 hal2 y0 y1 y2 p0 p2
                refine wp_region_quiet_lit Tryd.mixed Tryd.shape14 ?_
                repeat (go_big_quiet_step (fail))
                refine wpQuiet_nil ?_
                intro _ hw9
                obtain ⟨nq, hw8⟩ := hw9
                subst hw8
                have s0 : (V0.drewN nq).cell? ⟨wr.heap.size, 0, none⟩ = some (.int .i64 2) := t0
                have s1 : (V0.drewN nq).cell? ⟨wr.heap.size, 1, none⟩ = some (.string Y) := t1
                have s2 : (V0.drewN nq).cell? ⟨wr.heap.size, 2, none⟩ = some (.int .i64 A) := t2
                have sp : (V0.drewN nq).cell? ⟨g, j * 3, none⟩ = some (.int .i64 8) := tp
                have sq : (V0.drewN nq).cell? ⟨g, j * 3 + 2, none⟩ = some (.int .i64 A) := tq
                have hV1 : Below Wf.heap.size Wf (V0.drewN nq) := below_drewN hV0B nq
                obtain ⟨V1, hW⟩ : ∃ W, W = V0.drewN nq := ⟨_, rfl⟩
                rw [← hW] at s0 s1 s2 sp sq hV1 ⊢
                clear hW hV0B t0 t1 t2 tp tq
                go_wp2_with fail
                have hsrc : BsIn V1 a s := (HBS.out.below HB1.out).below hV1
                obtain ⟨a', c', hsl, hbs'⟩ := Tryd.bytes_sub hsrc hcap A (A + m) (by omega) (by omega)
                rw [hex] at hbs'
                rw [show A + m - A = m by omega, show ((A + m : Nat) : Int) = (A : Int) + (m : Int) by omega] at hsl
                have hcv : ∀ q, (convert 22 9 (.slice a' m c')).run Tryd.prog (V1.drewN q) = .ok (.string Y) (V1.drewN q) := fun q => by
                  have h9 := run_convert_bs (P := Tryd.prog) (V1.drewN q) 22 5 9 Tryd.underlying22 Tryd.underlying5 Tryd.underlying9 a' c' Y (hbs'.below (below_drewN (Below.refl _ V1) q))
                  rw [hYs] at h9; exact h9
                have hcv2 : (convert 22 9 (.slice a' m c')).run Tryd.prog V1.drew = .ok (.string Y) V1.drew := hcv 1
                clear hsrc hbs'
                refine wp_region_quiet_lit Tryd.mixed Tryd.shape25 ?_
                repeat (go_big_quiet_step (fail))
                refine wpQuiet_nil ?_
                intro _ hw9
                obtain ⟨nq, hw8⟩ := hw9
                subst hw8
                have t0 : (V1.drewN nq).cell? ⟨wr.heap.size, 0, none⟩ = some (.int .i64 2) := s0
                have t1 : (V1.drewN nq).cell? ⟨wr.heap.size, 1, none⟩ = some (.string Y) := s1
                have t2 : (V1.drewN nq).cell? ⟨wr.heap.size, 2, none⟩ = some (.int .i64 A) := s2
                have tp : (V1.drewN nq).cell? ⟨g, j * 3, none⟩ = some (.int .i64 8) := sp
                have tq : (V1.drewN nq).cell? ⟨g, j * 3 + 2, none⟩ = some (.int .i64 A) := sq
                have hV2 : Below Wf.heap.size Wf (V1.drewN nq) := below_drewN hV1 nq
                obtain ⟨V2, hW⟩ : ∃ W, W = V1.drewN nq := ⟨_, rfl⟩
                rw [← hW] at t0 t1 t2 tp tq hV2 ⊢
                clear hW hV1 s0 s1 s2 sp sq
                clear hsl hcv hcv2
                go_wp2_with fail
                have hWc : Hid (∀ W, Calls Tryd.prog 14 #[.string Y] W fun e w' => e = .returned (.bool true) ∧ w' = W) := fun W => by have h9 := Tryd.word_any Y W; rw [Hnw.out] at h9; exact h9
                refine wp_region_quiet_lit Tryd.mixed Tryd.shape27 ?_
                repeat (go_big_quiet_step ((go_at_call 14; exact Calls.quiet_of_same (hWc.out _))))
                refine wpQuiet_nil ?_
                intro _ hw9
                obtain ⟨nq, hw8⟩ := hw9
                subst hw8
                have s0 : (V2.drewN nq).cell? ⟨wr.heap.size, 0, none⟩ = some (.int .i64 2) := t0
                have s1 : (V2.drewN nq).cell? ⟨wr.heap.size, 1, none⟩ = some (.string Y) := t1
                have s2 : (V2.drewN nq).cell? ⟨wr.heap.size, 2, none⟩ = some (.int .i64 A) := t2
                have sp : (V2.drewN nq).cell? ⟨g, j * 3, none⟩ = some (.int .i64 8) := tp
                have sq : (V2.drewN nq).cell? ⟨g, j * 3 + 2, none⟩ = some (.int .i64 A) := tq
                have hV3 : Below Wf.heap.size Wf (V2.drewN nq) := below_drewN hV2 nq
                obtain ⟨V3, hW⟩ : ∃ W, W = V2.drewN nq := ⟨_, rfl⟩
                rw [← hW] at s0 s1 s2 sp sq hV3 ⊢
                clear hW hV2 t0 t1 t2 tp tq
                go_wp2_with fail
                go_roundw
                case rel => exact ⟨(j + 1 + 1), by rw [Hd'.out, hdd] <;> go_num, by go_num, by omega, hV3⟩
                case measure => simp [intOf]; omega
          · clear hpk
            as_aux_lemma =>
              obtain ⟨Y, hY⟩ : ∃ Y, bs X = Y := ⟨_, rfl⟩
              rw [hY] at y1
              have hj0 : (0 : Int) ≤ (j : Int) := by omega
              have hjn : (j : Int) < (n : Int) := by omega
              have hwrj : IntKind.i64.wrap (j : Int) = (j : Int) := IntWalk.i64_in _ (by omega)
              have hsubj : IntKind.i64.wrap ((j : Int) + 1 - 1) = (j : Int) := by rw [IntWalk.i64_in _ (by omega)]; omega
              have hdd : d' = d := by simpa using hds
              have hneg : ¬ d < 0 := by omega
              obtain ⟨tx1, tx2, tx3⟩ := htl (by unfold isText; omega)
              obtain ⟨m, hm⟩ : ∃ m, X.length = m := ⟨_, rfl⟩
              rw [hm] at tx1 tx2
              have hYs : Y.size = m := by rw [← hY, bs_size, hm]
              have hex : s.extract A (A + m) = Y := by rw [← hY, ← bs_data (s.extract A (A + m)), Lib.extract_data, show A + m - A = m by omega, tx2]
              have gE : Y.toList.isEmpty = false := by rw [isEmpty_beq, bs_beq X _ Y hY, beq_eq_false_iff_ne]; exact tx3
              have gN : (Y.toList == []) = false := by rw [bs_beq X _ Y hY, beq_eq_false_iff_ne]; exact tx3
              have gM : decide ((s.size : Int) < (A : Int) + (m : Int)) = false := by simp; omega
              have gM2 : ¬ (s.size : Int) < (A : Int) + (m : Int) := by omega
              have HYX : Hid (Y.data.toList = X) := by show _ = _; rw [← hY]; rfl
              have Hnw : Hid (isWord Y.data.toList = true) := by show _ = _; rw [HYX.out]; exact hwd rfl
              clear hY hm tx2 tx3
              have hAlt2 : ¬ (A : Int) < (A' : Int) := by omega
              have hAlt3 : ¬ A < A' := by omega
              have hgt2 : (0 : Int) < (j : Int) + 1 := by omega
              have hAlt : decide ((A : Int) < (A' : Int)) = false := by simp; omega
              have hAne2 : ¬ A' = A := by omega
              have hAne3 : ¬ (A' : Int) = (A : Int) := by omega
              have hAne : ((A' : Int) == (A : Int)) = false := by rw [beq_eq_false_iff_ne]; omega
              have hgt : decide ((0 : Int) < (j : Int) + 1) = true := by rw [decide_eq_true_eq]; omega
              clear hbare hnm hwd htl hds h9m
              have hal2 : Below Wf.heap.size Wf (wr.alloc (.cells #[.int .i64 2, .string Y, .int .i64 A] 35 (0, 0))) := HB.out.alloc HB.out.size _
              have t0 : (wr.alloc (.cells #[.int .i64 2, .string Y, .int .i64 A] 35 (0, 0))).cell? ⟨wr.heap.size, 0, none⟩ = some (.int .i64 2) := cells_new wr _ _ _ 0
              have t1 : (wr.alloc (.cells #[.int .i64 2, .string Y, .int .i64 A] 35 (0, 0))).cell? ⟨wr.heap.size, 1, none⟩ = some (.string Y) := cells_new wr _ _ _ 1
              have t2 : (wr.alloc (.cells #[.int .i64 2, .string Y, .int .i64 A] 35 (0, 0))).cell? ⟨wr.heap.size, 2, none⟩ = some (.int .i64 A) := cells_new wr _ _ _ 2
              have hgwr : g < wr.heap.size := Nat.lt_of_lt_of_le hgW HB.out.size
              have tp : (wr.alloc (.cells #[.int .i64 2, .string Y, .int .i64 A] 35 (0, 0))).cell? ⟨g, j * 3, none⟩ = some (.int .i64 K') := (((Below.refl _ wr).alloc (Nat.le_refl _) _).cell (p := ⟨g, j * 3, none⟩) hgwr).trans p0
              have tq : (wr.alloc (.cells #[.int .i64 2, .string Y, .int .i64 A] 35 (0, 0))).cell? ⟨g, j * 3 + 2, none⟩ = some (.int .i64 A') := (((Below.refl _ wr).alloc (Nat.le_refl _) _).cell (p := ⟨g, j * 3 + 2, none⟩) hgwr).trans p2
              go_wp2_with fail
              obtain ⟨V0, hV0⟩ : ∃ W, W = (wr.alloc (.cells #[.int .i64 2, .string Y, .int .i64 A] 35 (0, 0))) := ⟨_, rfl⟩
              rw [← hV0] at t0 t1 t2 hal2 tp tq ⊢
              have hV0B : Below Wf.heap.size Wf V0 := hal2
              clear hV0 hal2 y0 y1 y2 p0 p2
              refine wp_region_quiet_lit Tryd.mixed Tryd.shape14 ?_
              repeat (go_big_quiet_step (fail))
              refine wpQuiet_nil ?_
              intro _ hw9
              obtain ⟨nq, hw8⟩ := hw9
              subst hw8
              have s0 : (V0.drewN nq).cell? ⟨wr.heap.size, 0, none⟩ = some (.int .i64 2) := t0
              have s1 : (V0.drewN nq).cell? ⟨wr.heap.size, 1, none⟩ = some (.string Y) := t1
              have s2 : (V0.drewN nq).cell? ⟨wr.heap.size, 2, none⟩ = some (.int .i64 A) := t2
              have sp : (V0.drewN nq).cell? ⟨g, j * 3, none⟩ = some (.int .i64 K') := tp
              have sq : (V0.drewN nq).cell? ⟨g, j * 3 + 2, none⟩ = some (.int .i64 A') := tq
              have hV1 : Below Wf.heap.size Wf (V0.drewN nq) := below_drewN hV0B nq
              obtain ⟨V1, hW⟩ : ∃ W, W = V0.drewN nq := ⟨_, rfl⟩
              rw [← hW] at s0 s1 s2 sp sq hV1 ⊢
              clear hW hV0B t0 t1 t2 tp tq
              go_wp2_with fail
              have hsrc : BsIn V1 a s := (HBS.out.below HB1.out).below hV1
              obtain ⟨a', c', hsl, hbs'⟩ := Tryd.bytes_sub hsrc hcap A (A + m) (by omega) (by omega)
              rw [hex] at hbs'
              rw [show A + m - A = m by omega, show ((A + m : Nat) : Int) = (A : Int) + (m : Int) by omega] at hsl
              have hcv : ∀ q, (convert 22 9 (.slice a' m c')).run Tryd.prog (V1.drewN q) = .ok (.string Y) (V1.drewN q) := fun q => by
                have h9 := run_convert_bs (P := Tryd.prog) (V1.drewN q) 22 5 9 Tryd.underlying22 Tryd.underlying5 Tryd.underlying9 a' c' Y (hbs'.below (below_drewN (Below.refl _ V1) q))
                rw [hYs] at h9; exact h9
              have hcv2 : (convert 22 9 (.slice a' m c')).run Tryd.prog V1.drew = .ok (.string Y) V1.drew := hcv 1
              clear hsrc hbs'
              refine wp_region_quiet_lit Tryd.mixed Tryd.shape25 ?_
              repeat (go_big_quiet_step (fail))
              refine wpQuiet_nil ?_
              intro _ hw9
              obtain ⟨nq, hw8⟩ := hw9
              subst hw8
              have t0 : (V1.drewN nq).cell? ⟨wr.heap.size, 0, none⟩ = some (.int .i64 2) := s0
              have t1 : (V1.drewN nq).cell? ⟨wr.heap.size, 1, none⟩ = some (.string Y) := s1
              have t2 : (V1.drewN nq).cell? ⟨wr.heap.size, 2, none⟩ = some (.int .i64 A) := s2
              have tp : (V1.drewN nq).cell? ⟨g, j * 3, none⟩ = some (.int .i64 K') := sp
              have tq : (V1.drewN nq).cell? ⟨g, j * 3 + 2, none⟩ = some (.int .i64 A') := sq
              have hV2 : Below Wf.heap.size Wf (V1.drewN nq) := below_drewN hV1 nq
              obtain ⟨V2, hW⟩ : ∃ W, W = V1.drewN nq := ⟨_, rfl⟩
              rw [← hW] at t0 t1 t2 tp tq hV2 ⊢
              clear hW hV1 s0 s1 s2 sp sq
              clear hsl hcv hcv2
              go_wp2_with fail
              have hWc : Hid (∀ W, Calls Tryd.prog 14 #[.string Y] W fun e w' => e = .returned (.bool true) ∧ w' = W) := fun W => by have h9 := Tryd.word_any Y W; rw [Hnw.out] at h9; exact h9
              refine wp_region_quiet_lit Tryd.mixed Tryd.shape27 ?_
              repeat (go_big_quiet_step ((go_at_call 14; exact Calls.quiet_of_same (hWc.out _))))
              refine wpQuiet_nil ?_
              intro _ hw9
              obtain ⟨nq, hw8⟩ := hw9
              subst hw8
              have s0 : (V2.drewN nq).cell? ⟨wr.heap.size, 0, none⟩ = some (.int .i64 2) := t0
              have s1 : (V2.drewN nq).cell? ⟨wr.heap.size, 1, none⟩ = some (.string Y) := t1
              have s2 : (V2.drewN nq).cell? ⟨wr.heap.size, 2, none⟩ = some (.int .i64 A) := t2
              have sp : (V2.drewN nq).cell? ⟨g, j * 3, none⟩ = some (.int .i64 K') := tp
              have sq : (V2.drewN nq).cell? ⟨g, j * 3 + 2, none⟩ = some (.int .i64 A') := tq
              have hV3 : Below Wf.heap.size Wf (V2.drewN nq) := below_drewN hV2 nq
              obtain ⟨V3, hW⟩ : ∃ W, W = V2.drewN nq := ⟨_, rfl⟩
              rw [← hW] at s0 s1 s2 sp sq hV3 ⊢
              clear hW hV2 t0 t1 t2 tp tq
              go_wp2_with fail
              go_roundw
              case rel => exact ⟨(j + 1 + 1), by rw [Hd'.out, hdd] <;> go_num, by go_num, by omega, hV3⟩
              case measure => simp [intOf]; omega
      · rcases hprev with rfl | ⟨j, K', A', rfl, p0, p2, hAA, hpk⟩
        · have hfirst : True := trivial
          as_aux_lemma =>
            obtain ⟨Y, hY⟩ : ∃ Y, bs X = Y := ⟨_, rfl⟩
            rw [hY] at y1
            simp only [Nat.zero_mul, Nat.zero_add] at y0 y1 y2
            have hin0 : (0 : Int) < (n : Int) := by omega
            have hin1 : 0 < n := by omega
            have hdd : d' = d := by simpa using hds
            have hneg : ¬ d < 0 := by omega
            obtain ⟨tx1, tx2, tx3⟩ := htl (by unfold isText; omega)
            obtain ⟨m, hm⟩ : ∃ m, X.length = m := ⟨_, rfl⟩
            rw [hm] at tx1 tx2
            have hYs : Y.size = m := by rw [← hY, bs_size, hm]
            have hex : s.extract A (A + m) = Y := by rw [← hY, ← bs_data (s.extract A (A + m)), Lib.extract_data, show A + m - A = m by omega, tx2]
            have gE : Y.toList.isEmpty = false := by rw [isEmpty_beq, bs_beq X _ Y hY, beq_eq_false_iff_ne]; exact tx3
            have gN : (Y.toList == []) = false := by rw [bs_beq X _ Y hY, beq_eq_false_iff_ne]; exact tx3
            have gM : decide ((s.size : Int) < (A : Int) + (m : Int)) = false := by simp; omega
            have gM2 : ¬ (s.size : Int) < (A : Int) + (m : Int) := by omega
            have HYX : Hid (Y.data.toList = X) := by show _ = _; rw [← hY]; rfl
            clear hY hm tx2 tx3
            clear hbare hnm hwd htl hds h9m
            have hal2 : Below Wf.heap.size Wf (wr.alloc (.cells #[.int .i64 3, .string Y, .int .i64 A] 35 (0, 0))) := HB.out.alloc HB.out.size _
            have t0 : (wr.alloc (.cells #[.int .i64 3, .string Y, .int .i64 A] 35 (0, 0))).cell? ⟨wr.heap.size, 0, none⟩ = some (.int .i64 3) := cells_new wr _ _ _ 0
            have t1 : (wr.alloc (.cells #[.int .i64 3, .string Y, .int .i64 A] 35 (0, 0))).cell? ⟨wr.heap.size, 1, none⟩ = some (.string Y) := cells_new wr _ _ _ 1
            have t2 : (wr.alloc (.cells #[.int .i64 3, .string Y, .int .i64 A] 35 (0, 0))).cell? ⟨wr.heap.size, 2, none⟩ = some (.int .i64 A) := cells_new wr _ _ _ 2
            go_wp2_with fail
            obtain ⟨V0, hV0⟩ : ∃ W, W = (wr.alloc (.cells #[.int .i64 3, .string Y, .int .i64 A] 35 (0, 0))) := ⟨_, rfl⟩
            rw [← hV0] at t0 t1 t2 hal2 ⊢
            have hV0B : Below Wf.heap.size Wf V0 := hal2
            clear hV0 hal2 y0 y1 y2
            refine wp_region_quiet_lit Tryd.mixed Tryd.shape14 ?_
            repeat (go_big_quiet_step (fail))
            refine wpQuiet_nil ?_
            intro _ hw9
            obtain ⟨nq, hw8⟩ := hw9
            subst hw8
            have s0 : (V0.drewN nq).cell? ⟨wr.heap.size, 0, none⟩ = some (.int .i64 3) := t0
            have s1 : (V0.drewN nq).cell? ⟨wr.heap.size, 1, none⟩ = some (.string Y) := t1
            have s2 : (V0.drewN nq).cell? ⟨wr.heap.size, 2, none⟩ = some (.int .i64 A) := t2
            have hV1 : Below Wf.heap.size Wf (V0.drewN nq) := below_drewN hV0B nq
            obtain ⟨V1, hW⟩ : ∃ W, W = V0.drewN nq := ⟨_, rfl⟩
            rw [← hW] at s0 s1 s2 hV1 ⊢
            clear hW hV0B t0 t1 t2
            go_wp2_with fail
            have hsrc : BsIn V1 a s := (HBS.out.below HB1.out).below hV1
            obtain ⟨a', c', hsl, hbs'⟩ := Tryd.bytes_sub hsrc hcap A (A + m) (by omega) (by omega)
            rw [hex] at hbs'
            rw [show A + m - A = m by omega, show ((A + m : Nat) : Int) = (A : Int) + (m : Int) by omega] at hsl
            have hcv : ∀ q, (convert 22 9 (.slice a' m c')).run Tryd.prog (V1.drewN q) = .ok (.string Y) (V1.drewN q) := fun q => by
              have h9 := run_convert_bs (P := Tryd.prog) (V1.drewN q) 22 5 9 Tryd.underlying22 Tryd.underlying5 Tryd.underlying9 a' c' Y (hbs'.below (below_drewN (Below.refl _ V1) q))
              rw [hYs] at h9; exact h9
            have hcv2 : (convert 22 9 (.slice a' m c')).run Tryd.prog V1.drew = .ok (.string Y) V1.drew := hcv 1
            clear hsrc hbs'
            refine wp_region_quiet_lit Tryd.mixed Tryd.shape25 ?_
            repeat (go_big_quiet_step (fail))
            refine wpQuiet_nil ?_
            intro _ hw9
            obtain ⟨nq, hw8⟩ := hw9
            subst hw8
            have t0 : (V1.drewN nq).cell? ⟨wr.heap.size, 0, none⟩ = some (.int .i64 3) := s0
            have t1 : (V1.drewN nq).cell? ⟨wr.heap.size, 1, none⟩ = some (.string Y) := s1
            have t2 : (V1.drewN nq).cell? ⟨wr.heap.size, 2, none⟩ = some (.int .i64 A) := s2
            have hV2 : Below Wf.heap.size Wf (V1.drewN nq) := below_drewN hV1 nq
            obtain ⟨V2, hW⟩ : ∃ W, W = V1.drewN nq := ⟨_, rfl⟩
            rw [← hW] at t0 t1 t2 hV2 ⊢
            clear hW hV1 s0 s1 s2
            clear hsl hcv hcv2
            go_wp2_with fail
            refine wp_region_quiet_lit Tryd.mixed Tryd.shape27 ?_
            repeat (go_big_quiet_step (fail))
            refine wpQuiet_nil ?_
            intro _ hw9
            obtain ⟨nq, hw8⟩ := hw9
            subst hw8
            have s0 : (V2.drewN nq).cell? ⟨wr.heap.size, 0, none⟩ = some (.int .i64 3) := t0
            have s1 : (V2.drewN nq).cell? ⟨wr.heap.size, 1, none⟩ = some (.string Y) := t1
            have s2 : (V2.drewN nq).cell? ⟨wr.heap.size, 2, none⟩ = some (.int .i64 A) := t2
            have hV3 : Below Wf.heap.size Wf (V2.drewN nq) := below_drewN hV2 nq
            obtain ⟨V3, hW⟩ : ∃ W, W = V2.drewN nq := ⟨_, rfl⟩
            rw [← hW] at s0 s1 s2 hV3 ⊢
            clear hW hV2 t0 t1 t2
            go_wp2_with fail
            go_roundw
            case rel => exact ⟨1, by rw [Hd'.out, hdd] <;> go_num, by go_num, by omega, hV3⟩
            case measure => simp [intOf]; omega
        · by_cases hA : A' = A
          · obtain rfl : A = A' := hA.symm
            rcases hpk (by unfold isText; omega) rfl with rfl | rfl
            · clear hpk
              as_aux_lemma =>
                obtain ⟨Y, hY⟩ : ∃ Y, bs X = Y := ⟨_, rfl⟩
                rw [hY] at y1
                have hj0 : (0 : Int) ≤ (j : Int) := by omega
                have hjn : (j : Int) < (n : Int) := by omega
                have hwrj : IntKind.i64.wrap (j : Int) = (j : Int) := IntWalk.i64_in _ (by omega)
                have hsubj : IntKind.i64.wrap ((j : Int) + 1 - 1) = (j : Int) := by rw [IntWalk.i64_in _ (by omega)]; omega
                have hdd : d' = d := by simpa using hds
                have hneg : ¬ d < 0 := by omega
                obtain ⟨tx1, tx2, tx3⟩ := htl (by unfold isText; omega)
                obtain ⟨m, hm⟩ : ∃ m, X.length = m := ⟨_, rfl⟩
                rw [hm] at tx1 tx2
                have hYs : Y.size = m := by rw [← hY, bs_size, hm]
                have hex : s.extract A (A + m) = Y := by rw [← hY, ← bs_data (s.extract A (A + m)), Lib.extract_data, show A + m - A = m by omega, tx2]
                have gE : Y.toList.isEmpty = false := by rw [isEmpty_beq, bs_beq X _ Y hY, beq_eq_false_iff_ne]; exact tx3
                have gN : (Y.toList == []) = false := by rw [bs_beq X _ Y hY, beq_eq_false_iff_ne]; exact tx3
                have gM : decide ((s.size : Int) < (A : Int) + (m : Int)) = false := by simp; omega
                have gM2 : ¬ (s.size : Int) < (A : Int) + (m : Int) := by omega
                have HYX : Hid (Y.data.toList = X) := by show _ = _; rw [← hY]; rfl
                clear hY hm tx2 tx3
                have hAlt2 : ¬ (A : Int) < (A : Int) := by omega
                have hAlt3 : ¬ A < A := by omega
                have hgt2 : (0 : Int) < (j : Int) + 1 := by omega
                have hAlt : decide ((A : Int) < (A : Int)) = false := by simp
                have hgt : decide ((0 : Int) < (j : Int) + 1) = true := by rw [decide_eq_true_eq]; omega
                clear hbare hnm hwd htl hds h9m
                have hal2 : Below Wf.heap.size Wf (wr.alloc (.cells #[.int .i64 3, .string Y, .int .i64 A] 35 (0, 0))) := HB.out.alloc HB.out.size _
                have t0 : (wr.alloc (.cells #[.int .i64 3, .string Y, .int .i64 A] 35 (0, 0))).cell? ⟨wr.heap.size, 0, none⟩ = some (.int .i64 3) := cells_new wr _ _ _ 0
                have t1 : (wr.alloc (.cells #[.int .i64 3, .string Y, .int .i64 A] 35 (0, 0))).cell? ⟨wr.heap.size, 1, none⟩ = some (.string Y) := cells_new wr _ _ _ 1
                have t2 : (wr.alloc (.cells #[.int .i64 3, .string Y, .int .i64 A] 35 (0, 0))).cell? ⟨wr.heap.size, 2, none⟩ = some (.int .i64 A) := cells_new wr _ _ _ 2
                have hgwr : g < wr.heap.size := Nat.lt_of_lt_of_le hgW HB.out.size
                have tp : (wr.alloc (.cells #[.int .i64 3, .string Y, .int .i64 A] 35 (0, 0))).cell? ⟨g, j * 3, none⟩ = some (.int .i64 7) := (((Below.refl _ wr).alloc (Nat.le_refl _) _).cell (p := ⟨g, j * 3, none⟩) hgwr).trans p0
                have tq : (wr.alloc (.cells #[.int .i64 3, .string Y, .int .i64 A] 35 (0, 0))).cell? ⟨g, j * 3 + 2, none⟩ = some (.int .i64 A) := (((Below.refl _ wr).alloc (Nat.le_refl _) _).cell (p := ⟨g, j * 3 + 2, none⟩) hgwr).trans p2
                go_wp2_with fail
                obtain ⟨V0, hV0⟩ : ∃ W, W = (wr.alloc (.cells #[.int .i64 3, .string Y, .int .i64 A] 35 (0, 0))) := ⟨_, rfl⟩
                rw [← hV0] at t0 t1 t2 hal2 tp tq ⊢
                have hV0B : Below Wf.heap.size Wf V0 := hal2
                clear hV0 hal2 y0 y1 y2 p0 p2
                refine wp_region_quiet_lit Tryd.mixed Tryd.shape14 ?_
                repeat (go_big_quiet_step (fail))
                refine wpQuiet_nil ?_
                intro _ hw9
                obtain ⟨nq, hw8⟩ := hw9
                subst hw8
                have s0 : (V0.drewN nq).cell? ⟨wr.heap.size, 0, none⟩ = some (.int .i64 3) := t0
                have s1 : (V0.drewN nq).cell? ⟨wr.heap.size, 1, none⟩ = some (.string Y) := t1
                have s2 : (V0.drewN nq).cell? ⟨wr.heap.size, 2, none⟩ = some (.int .i64 A) := t2
                have sp : (V0.drewN nq).cell? ⟨g, j * 3, none⟩ = some (.int .i64 7) := tp
                have sq : (V0.drewN nq).cell? ⟨g, j * 3 + 2, none⟩ = some (.int .i64 A) := tq
                have hV1 : Below Wf.heap.size Wf (V0.drewN nq) := below_drewN hV0B nq
                obtain ⟨V1, hW⟩ : ∃ W, W = V0.drewN nq := ⟨_, rfl⟩
                rw [← hW] at s0 s1 s2 sp sq hV1 ⊢
                clear hW hV0B t0 t1 t2 tp tq
                go_wp2_with fail
                have hsrc : BsIn V1 a s := (HBS.out.below HB1.out).below hV1
                obtain ⟨a', c', hsl, hbs'⟩ := Tryd.bytes_sub hsrc hcap A (A + m) (by omega) (by omega)
                rw [hex] at hbs'
                rw [show A + m - A = m by omega, show ((A + m : Nat) : Int) = (A : Int) + (m : Int) by omega] at hsl
                have hcv : ∀ q, (convert 22 9 (.slice a' m c')).run Tryd.prog (V1.drewN q) = .ok (.string Y) (V1.drewN q) := fun q => by
                  have h9 := run_convert_bs (P := Tryd.prog) (V1.drewN q) 22 5 9 Tryd.underlying22 Tryd.underlying5 Tryd.underlying9 a' c' Y (hbs'.below (below_drewN (Below.refl _ V1) q))
                  rw [hYs] at h9; exact h9
                have hcv2 : (convert 22 9 (.slice a' m c')).run Tryd.prog V1.drew = .ok (.string Y) V1.drew := hcv 1
                clear hsrc hbs'
                refine wp_region_quiet_lit Tryd.mixed Tryd.shape25 ?_
                repeat (go_big_quiet_step (fail))
                refine wpQuiet_nil ?_
                intro _ hw9
                obtain ⟨nq, hw8⟩ := hw9
                subst hw8
                have t0 : (V1.drewN nq).cell? ⟨wr.heap.size, 0, none⟩ = some (.int .i64 3) := s0
                have t1 : (V1.drewN nq).cell? ⟨wr.heap.size, 1, none⟩ = some (.string Y) := s1
                have t2 : (V1.drewN nq).cell? ⟨wr.heap.size, 2, none⟩ = some (.int .i64 A) := s2
                have tp : (V1.drewN nq).cell? ⟨g, j * 3, none⟩ = some (.int .i64 7) := sp
                have tq : (V1.drewN nq).cell? ⟨g, j * 3 + 2, none⟩ = some (.int .i64 A) := sq
                have hV2 : Below Wf.heap.size Wf (V1.drewN nq) := below_drewN hV1 nq
                obtain ⟨V2, hW⟩ : ∃ W, W = V1.drewN nq := ⟨_, rfl⟩
                rw [← hW] at t0 t1 t2 tp tq hV2 ⊢
                clear hW hV1 s0 s1 s2 sp sq
                clear hsl hcv hcv2
                go_wp2_with fail
                refine wp_region_quiet_lit Tryd.mixed Tryd.shape27 ?_
                repeat (go_big_quiet_step (fail))
                refine wpQuiet_nil ?_
                intro _ hw9
                obtain ⟨nq, hw8⟩ := hw9
                subst hw8
                have s0 : (V2.drewN nq).cell? ⟨wr.heap.size, 0, none⟩ = some (.int .i64 3) := t0
                have s1 : (V2.drewN nq).cell? ⟨wr.heap.size, 1, none⟩ = some (.string Y) := t1
                have s2 : (V2.drewN nq).cell? ⟨wr.heap.size, 2, none⟩ = some (.int .i64 A) := t2
                have sp : (V2.drewN nq).cell? ⟨g, j * 3, none⟩ = some (.int .i64 7) := tp
                have sq : (V2.drewN nq).cell? ⟨g, j * 3 + 2, none⟩ = some (.int .i64 A) := tq
                have hV3 : Below Wf.heap.size Wf (V2.drewN nq) := below_drewN hV2 nq
                obtain ⟨V3, hW⟩ : ∃ W, W = V2.drewN nq := ⟨_, rfl⟩
                rw [← hW] at s0 s1 s2 sp sq hV3 ⊢
                clear hW hV2 t0 t1 t2 tp tq
                go_wp2_with fail
                go_roundw
                case rel => exact ⟨(j + 1 + 1), by rw [Hd'.out, hdd] <;> go_num, by go_num, by omega, hV3⟩
                case measure => simp [intOf]; omega
            · clear hpk
              as_aux_lemma =>
                obtain ⟨Y, hY⟩ : ∃ Y, bs X = Y := ⟨_, rfl⟩
                rw [hY] at y1
                have hj0 : (0 : Int) ≤ (j : Int) := by omega
                have hjn : (j : Int) < (n : Int) := by omega
                have hwrj : IntKind.i64.wrap (j : Int) = (j : Int) := IntWalk.i64_in _ (by omega)
                have hsubj : IntKind.i64.wrap ((j : Int) + 1 - 1) = (j : Int) := by rw [IntWalk.i64_in _ (by omega)]; omega
                have hdd : d' = d := by simpa using hds
                have hneg : ¬ d < 0 := by omega
                obtain ⟨tx1, tx2, tx3⟩ := htl (by unfold isText; omega)
                obtain ⟨m, hm⟩ : ∃ m, X.length = m := ⟨_, rfl⟩
                rw [hm] at tx1 tx2
                have hYs : Y.size = m := by rw [← hY, bs_size, hm]
                have hex : s.extract A (A + m) = Y := by rw [← hY, ← bs_data (s.extract A (A + m)), Lib.extract_data, show A + m - A = m by omega, tx2]
                have gE : Y.toList.isEmpty = false := by rw [isEmpty_beq, bs_beq X _ Y hY, beq_eq_false_iff_ne]; exact tx3
                have gN : (Y.toList == []) = false := by rw [bs_beq X _ Y hY, beq_eq_false_iff_ne]; exact tx3
                have gM : decide ((s.size : Int) < (A : Int) + (m : Int)) = false := by simp; omega
                have gM2 : ¬ (s.size : Int) < (A : Int) + (m : Int) := by omega
                have HYX : Hid (Y.data.toList = X) := by show _ = _; rw [← hY]; rfl
                clear hY hm tx2 tx3
                have hAlt2 : ¬ (A : Int) < (A : Int) := by omega
                have hAlt3 : ¬ A < A := by omega
                have hgt2 : (0 : Int) < (j : Int) + 1 := by omega
                have hAlt : decide ((A : Int) < (A : Int)) = false := by simp
                have hgt : decide ((0 : Int) < (j : Int) + 1) = true := by rw [decide_eq_true_eq]; omega
                clear hbare hnm hwd htl hds h9m
                have hal2 : Below Wf.heap.size Wf (wr.alloc (.cells #[.int .i64 3, .string Y, .int .i64 A] 35 (0, 0))) := HB.out.alloc HB.out.size _
                have t0 : (wr.alloc (.cells #[.int .i64 3, .string Y, .int .i64 A] 35 (0, 0))).cell? ⟨wr.heap.size, 0, none⟩ = some (.int .i64 3) := cells_new wr _ _ _ 0
                have t1 : (wr.alloc (.cells #[.int .i64 3, .string Y, .int .i64 A] 35 (0, 0))).cell? ⟨wr.heap.size, 1, none⟩ = some (.string Y) := cells_new wr _ _ _ 1
                have t2 : (wr.alloc (.cells #[.int .i64 3, .string Y, .int .i64 A] 35 (0, 0))).cell? ⟨wr.heap.size, 2, none⟩ = some (.int .i64 A) := cells_new wr _ _ _ 2
                have hgwr : g < wr.heap.size := Nat.lt_of_lt_of_le hgW HB.out.size
                have tp : (wr.alloc (.cells #[.int .i64 3, .string Y, .int .i64 A] 35 (0, 0))).cell? ⟨g, j * 3, none⟩ = some (.int .i64 8) := (((Below.refl _ wr).alloc (Nat.le_refl _) _).cell (p := ⟨g, j * 3, none⟩) hgwr).trans p0
                have tq : (wr.alloc (.cells #[.int .i64 3, .string Y, .int .i64 A] 35 (0, 0))).cell? ⟨g, j * 3 + 2, none⟩ = some (.int .i64 A) := (((Below.refl _ wr).alloc (Nat.le_refl _) _).cell (p := ⟨g, j * 3 + 2, none⟩) hgwr).trans p2
                go_wp2_with fail
                obtain ⟨V0, hV0⟩ : ∃ W, W = (wr.alloc (.cells #[.int .i64 3, .string Y, .int .i64 A] 35 (0, 0))) := ⟨_, rfl⟩
                rw [← hV0] at t0 t1 t2 hal2 tp tq ⊢
                have hV0B : Below Wf.heap.size Wf V0 := hal2
                clear hV0 hal2 y0 y1 y2 p0 p2
                refine wp_region_quiet_lit Tryd.mixed Tryd.shape14 ?_
                repeat (go_big_quiet_step (fail))
                refine wpQuiet_nil ?_
                intro _ hw9
                obtain ⟨nq, hw8⟩ := hw9
                subst hw8
                have s0 : (V0.drewN nq).cell? ⟨wr.heap.size, 0, none⟩ = some (.int .i64 3) := t0
                have s1 : (V0.drewN nq).cell? ⟨wr.heap.size, 1, none⟩ = some (.string Y) := t1
                have s2 : (V0.drewN nq).cell? ⟨wr.heap.size, 2, none⟩ = some (.int .i64 A) := t2
                have sp : (V0.drewN nq).cell? ⟨g, j * 3, none⟩ = some (.int .i64 8) := tp
                have sq : (V0.drewN nq).cell? ⟨g, j * 3 + 2, none⟩ = some (.int .i64 A) := tq
                have hV1 : Below Wf.heap.size Wf (V0.drewN nq) := below_drewN hV0B nq
                obtain ⟨V1, hW⟩ : ∃ W, W = V0.drewN nq := ⟨_, rfl⟩
                rw [← hW] at s0 s1 s2 sp sq hV1 ⊢
                clear hW hV0B t0 t1 t2 tp tq
                go_wp2_with fail
                have hsrc : BsIn V1 a s := (HBS.out.below HB1.out).below hV1
                obtain ⟨a', c', hsl, hbs'⟩ := Tryd.bytes_sub hsrc hcap A (A + m) (by omega) (by omega)
                rw [hex] at hbs'
                rw [show A + m - A = m by omega, show ((A + m : Nat) : Int) = (A : Int) + (m : Int) by omega] at hsl
                have hcv : ∀ q, (convert 22 9 (.slice a' m c')).run Tryd.prog (V1.drewN q) = .ok (.string Y) (V1.drewN q) := fun q => by
                  have h9 := run_convert_bs (P := Tryd.prog) (V1.drewN q) 22 5 9 Tryd.underlying22 Tryd.underlying5 Tryd.underlying9 a' c' Y (hbs'.below (below_drewN (Below.refl _ V1) q))
                  rw [hYs] at h9; exact h9
                have hcv2 : (convert 22 9 (.slice a' m c')).run Tryd.prog V1.drew = .ok (.string Y) V1.drew := hcv 1
                clear hsrc hbs'
                refine wp_region_quiet_lit Tryd.mixed Tryd.shape25 ?_
                repeat (go_big_quiet_step (fail))
                refine wpQuiet_nil ?_
                intro _ hw9
                obtain ⟨nq, hw8⟩ := hw9
                subst hw8
                have t0 : (V1.drewN nq).cell? ⟨wr.heap.size, 0, none⟩ = some (.int .i64 3) := s0
                have t1 : (V1.drewN nq).cell? ⟨wr.heap.size, 1, none⟩ = some (.string Y) := s1
                have t2 : (V1.drewN nq).cell? ⟨wr.heap.size, 2, none⟩ = some (.int .i64 A) := s2
                have tp : (V1.drewN nq).cell? ⟨g, j * 3, none⟩ = some (.int .i64 8) := sp
                have tq : (V1.drewN nq).cell? ⟨g, j * 3 + 2, none⟩ = some (.int .i64 A) := sq
                have hV2 : Below Wf.heap.size Wf (V1.drewN nq) := below_drewN hV1 nq
                obtain ⟨V2, hW⟩ : ∃ W, W = V1.drewN nq := ⟨_, rfl⟩
                rw [← hW] at t0 t1 t2 tp tq hV2 ⊢
                clear hW hV1 s0 s1 s2 sp sq
                clear hsl hcv hcv2
                go_wp2_with fail
                refine wp_region_quiet_lit Tryd.mixed Tryd.shape27 ?_
                repeat (go_big_quiet_step (fail))
                refine wpQuiet_nil ?_
                intro _ hw9
                obtain ⟨nq, hw8⟩ := hw9
                subst hw8
                have s0 : (V2.drewN nq).cell? ⟨wr.heap.size, 0, none⟩ = some (.int .i64 3) := t0
                have s1 : (V2.drewN nq).cell? ⟨wr.heap.size, 1, none⟩ = some (.string Y) := t1
                have s2 : (V2.drewN nq).cell? ⟨wr.heap.size, 2, none⟩ = some (.int .i64 A) := t2
                have sp : (V2.drewN nq).cell? ⟨g, j * 3, none⟩ = some (.int .i64 8) := tp
                have sq : (V2.drewN nq).cell? ⟨g, j * 3 + 2, none⟩ = some (.int .i64 A) := tq
                have hV3 : Below Wf.heap.size Wf (V2.drewN nq) := below_drewN hV2 nq
                obtain ⟨V3, hW⟩ : ∃ W, W = V2.drewN nq := ⟨_, rfl⟩
                rw [← hW] at s0 s1 s2 sp sq hV3 ⊢
                clear hW hV2 t0 t1 t2 tp tq
                go_wp2_with fail
                go_roundw
                case rel => exact ⟨(j + 1 + 1), by rw [Hd'.out, hdd] <;> go_num, by go_num, by omega, hV3⟩
                case measure => simp [intOf]; omega
          · clear hpk
            as_aux_lemma =>
              obtain ⟨Y, hY⟩ : ∃ Y, bs X = Y := ⟨_, rfl⟩
              rw [hY] at y1
              have hj0 : (0 : Int) ≤ (j : Int) := by omega
              have hjn : (j : Int) < (n : Int) := by omega
              have hwrj : IntKind.i64.wrap (j : Int) = (j : Int) := IntWalk.i64_in _ (by omega)
              have hsubj : IntKind.i64.wrap ((j : Int) + 1 - 1) = (j : Int) := by rw [IntWalk.i64_in _ (by omega)]; omega
              have hdd : d' = d := by simpa using hds
              have hneg : ¬ d < 0 := by omega
              obtain ⟨tx1, tx2, tx3⟩ := htl (by unfold isText; omega)
              obtain ⟨m, hm⟩ : ∃ m, X.length = m := ⟨_, rfl⟩
              rw [hm] at tx1 tx2
              have hYs : Y.size = m := by rw [← hY, bs_size, hm]
              have hex : s.extract A (A + m) = Y := by rw [← hY, ← bs_data (s.extract A (A + m)), Lib.extract_data, show A + m - A = m by omega, tx2]
              have gE : Y.toList.isEmpty = false := by rw [isEmpty_beq, bs_beq X _ Y hY, beq_eq_false_iff_ne]; exact tx3
              have gN : (Y.toList == []) = false := by rw [bs_beq X _ Y hY, beq_eq_false_iff_ne]; exact tx3
              have gM : decide ((s.size : Int) < (A : Int) + (m : Int)) = false := by simp; omega
              have gM2 : ¬ (s.size : Int) < (A : Int) + (m : Int) := by omega
              have HYX : Hid (Y.data.toList = X) := by show _ = _; rw [← hY]; rfl
              clear hY hm tx2 tx3
              have hAlt2 : ¬ (A : Int) < (A' : Int) := by omega
              have hAlt3 : ¬ A < A' := by omega
              have hgt2 : (0 : Int) < (j : Int) + 1 := by omega
              have hAlt : decide ((A : Int) < (A' : Int)) = false := by simp; omega
              have hAne2 : ¬ A' = A := by omega
              have hAne3 : ¬ (A' : Int) = (A : Int) := by omega
              have hAne : ((A' : Int) == (A : Int)) = false := by rw [beq_eq_false_iff_ne]; omega
              have hgt : decide ((0 : Int) < (j : Int) + 1) = true := by rw [decide_eq_true_eq]; omega
              clear hbare hnm hwd htl hds h9m
              have hal2 : Below Wf.heap.size Wf (wr.alloc (.cells #[.int .i64 3, .string Y, .int .i64 A] 35 (0, 0))) := HB.out.alloc HB.out.size _
              have t0 : (wr.alloc (.cells #[.int .i64 3, .string Y, .int .i64 A] 35 (0, 0))).cell? ⟨wr.heap.size, 0, none⟩ = some (.int .i64 3) := cells_new wr _ _ _ 0
              have t1 : (wr.alloc (.cells #[.int .i64 3, .string Y, .int .i64 A] 35 (0, 0))).cell? ⟨wr.heap.size, 1, none⟩ = some (.string Y) := cells_new wr _ _ _ 1
              have t2 : (wr.alloc (.cells #[.int .i64 3, .string Y, .int .i64 A] 35 (0, 0))).cell? ⟨wr.heap.size, 2, none⟩ = some (.int .i64 A) := cells_new wr _ _ _ 2
              have hgwr : g < wr.heap.size := Nat.lt_of_lt_of_le hgW HB.out.size
              have tp : (wr.alloc (.cells #[.int .i64 3, .string Y, .int .i64 A] 35 (0, 0))).cell? ⟨g, j * 3, none⟩ = some (.int .i64 K') := (((Below.refl _ wr).alloc (Nat.le_refl _) _).cell (p := ⟨g, j * 3, none⟩) hgwr).trans p0
              have tq : (wr.alloc (.cells #[.int .i64 3, .string Y, .int .i64 A] 35 (0, 0))).cell? ⟨g, j * 3 + 2, none⟩ = some (.int .i64 A') := (((Below.refl _ wr).alloc (Nat.le_refl _) _).cell (p := ⟨g, j * 3 + 2, none⟩) hgwr).trans p2
              go_wp2_with fail
              obtain ⟨V0, hV0⟩ : ∃ W, W = (wr.alloc (.cells #[.int .i64 3, .string Y, .int .i64 A] 35 (0, 0))) := ⟨_, rfl⟩
              rw [← hV0] at t0 t1 t2 hal2 tp tq ⊢
              have hV0B : Below Wf.heap.size Wf V0 := hal2
              clear hV0 hal2 y0 y1 y2 p0 p2
              refine wp_region_quiet_lit Tryd.mixed Tryd.shape14 ?_
              repeat (go_big_quiet_step (fail))
              refine wpQuiet_nil ?_
              intro _ hw9
              obtain ⟨nq, hw8⟩ := hw9
              subst hw8
              have s0 : (V0.drewN nq).cell? ⟨wr.heap.size, 0, none⟩ = some (.int .i64 3) := t0
              have s1 : (V0.drewN nq).cell? ⟨wr.heap.size, 1, none⟩ = some (.string Y) := t1
              have s2 : (V0.drewN nq).cell? ⟨wr.heap.size, 2, none⟩ = some (.int .i64 A) := t2
              have sp : (V0.drewN nq).cell? ⟨g, j * 3, none⟩ = some (.int .i64 K') := tp
              have sq : (V0.drewN nq).cell? ⟨g, j * 3 + 2, none⟩ = some (.int .i64 A') := tq
              have hV1 : Below Wf.heap.size Wf (V0.drewN nq) := below_drewN hV0B nq
              obtain ⟨V1, hW⟩ : ∃ W, W = V0.drewN nq := ⟨_, rfl⟩
              rw [← hW] at s0 s1 s2 sp sq hV1 ⊢
              clear hW hV0B t0 t1 t2 tp tq
              go_wp2_with fail
              have hsrc : BsIn V1 a s := (HBS.out.below HB1.out).below hV1
              obtain ⟨a', c', hsl, hbs'⟩ := Tryd.bytes_sub hsrc hcap A (A + m) (by omega) (by omega)
              rw [hex] at hbs'
              rw [show A + m - A = m by omega, show ((A + m : Nat) : Int) = (A : Int) + (m : Int) by omega] at hsl
              have hcv : ∀ q, (convert 22 9 (.slice a' m c')).run Tryd.prog (V1.drewN q) = .ok (.string Y) (V1.drewN q) := fun q => by
                have h9 := run_convert_bs (P := Tryd.prog) (V1.drewN q) 22 5 9 Tryd.underlying22 Tryd.underlying5 Tryd.underlying9 a' c' Y (hbs'.below (below_drewN (Below.refl _ V1) q))
                rw [hYs] at h9; exact h9
              have hcv2 : (convert 22 9 (.slice a' m c')).run Tryd.prog V1.drew = .ok (.string Y) V1.drew := hcv 1
              clear hsrc hbs'
              refine wp_region_quiet_lit Tryd.mixed Tryd.shape25 ?_
              repeat (go_big_quiet_step (fail))
              refine wpQuiet_nil ?_
              intro _ hw9
              obtain ⟨nq, hw8⟩ := hw9
              subst hw8
              have t0 : (V1.drewN nq).cell? ⟨wr.heap.size, 0, none⟩ = some (.int .i64 3) := s0
              have t1 : (V1.drewN nq).cell? ⟨wr.heap.size, 1, none⟩ = some (.string Y) := s1
              have t2 : (V1.drewN nq).cell? ⟨wr.heap.size, 2, none⟩ = some (.int .i64 A) := s2
              have tp : (V1.drewN nq).cell? ⟨g, j * 3, none⟩ = some (.int .i64 K') := sp
              have tq : (V1.drewN nq).cell? ⟨g, j * 3 + 2, none⟩ = some (.int .i64 A') := sq
              have hV2 : Below Wf.heap.size Wf (V1.drewN nq) := below_drewN hV1 nq
              obtain ⟨V2, hW⟩ : ∃ W, W = V1.drewN nq := ⟨_, rfl⟩
              rw [← hW] at t0 t1 t2 tp tq hV2 ⊢
              clear hW hV1 s0 s1 s2 sp sq
              clear hsl hcv hcv2
              go_wp2_with fail
              refine wp_region_quiet_lit Tryd.mixed Tryd.shape27 ?_
              repeat (go_big_quiet_step (fail))
              refine wpQuiet_nil ?_
              intro _ hw9
              obtain ⟨nq, hw8⟩ := hw9
              subst hw8
              have s0 : (V2.drewN nq).cell? ⟨wr.heap.size, 0, none⟩ = some (.int .i64 3) := t0
              have s1 : (V2.drewN nq).cell? ⟨wr.heap.size, 1, none⟩ = some (.string Y) := t1
              have s2 : (V2.drewN nq).cell? ⟨wr.heap.size, 2, none⟩ = some (.int .i64 A) := t2
              have sp : (V2.drewN nq).cell? ⟨g, j * 3, none⟩ = some (.int .i64 K') := tp
              have sq : (V2.drewN nq).cell? ⟨g, j * 3 + 2, none⟩ = some (.int .i64 A') := tq
              have hV3 : Below Wf.heap.size Wf (V2.drewN nq) := below_drewN hV2 nq
              obtain ⟨V3, hW⟩ : ∃ W, W = V2.drewN nq := ⟨_, rfl⟩
              rw [← hW] at s0 s1 s2 sp sq hV3 ⊢
              clear hW hV2 t0 t1 t2 tp tq
              go_wp2_with fail
              go_roundw
              case rel => exact ⟨(j + 1 + 1), by rw [Hd'.out, hdd] <;> go_num, by go_num, by omega, hV3⟩
              case measure => simp [intOf]; omega
      · rcases hprev with rfl | ⟨j, K', A', rfl, p0, p2, hAA, hpk⟩
        · have hfirst : True := trivial
          as_aux_lemma =>
            obtain ⟨Y, hY⟩ : ∃ Y, bs X = Y := ⟨_, rfl⟩
            rw [hY] at y1
            simp only [Nat.zero_mul, Nat.zero_add] at y0 y1 y2
            have hin0 : (0 : Int) < (n : Int) := by omega
            have hin1 : 0 < n := by omega
            have hdd : d' = d := by simpa using hds
            have hneg : ¬ d < 0 := by omega
            clear hY
            clear hbare hnm hwd htl hds h9m
            have hal2 : Below Wf.heap.size Wf (wr.alloc (.cells #[.int .i64 4, .string Y, .int .i64 A] 35 (0, 0))) := HB.out.alloc HB.out.size _
            have t0 : (wr.alloc (.cells #[.int .i64 4, .string Y, .int .i64 A] 35 (0, 0))).cell? ⟨wr.heap.size, 0, none⟩ = some (.int .i64 4) := cells_new wr _ _ _ 0
            have t1 : (wr.alloc (.cells #[.int .i64 4, .string Y, .int .i64 A] 35 (0, 0))).cell? ⟨wr.heap.size, 1, none⟩ = some (.string Y) := cells_new wr _ _ _ 1
            have t2 : (wr.alloc (.cells #[.int .i64 4, .string Y, .int .i64 A] 35 (0, 0))).cell? ⟨wr.heap.size, 2, none⟩ = some (.int .i64 A) := cells_new wr _ _ _ 2
            go_wp2_with fail
            obtain ⟨V0, hV0⟩ : ∃ W, W = (wr.alloc (.cells #[.int .i64 4, .string Y, .int .i64 A] 35 (0, 0))) := ⟨_, rfl⟩
            rw [← hV0] at t0 t1 t2 hal2 ⊢
            have hV0B : Below Wf.heap.size Wf V0 := hal2
            clear hV0 hal2 y0 y1 y2
            refine wp_region_quiet_lit Tryd.mixed Tryd.shape14 ?_
            repeat (go_big_quiet_step (fail))
            refine wpQuiet_nil ?_
            intro _ hw9
            obtain ⟨nq, hw8⟩ := hw9
            subst hw8
            have s0 : (V0.drewN nq).cell? ⟨wr.heap.size, 0, none⟩ = some (.int .i64 4) := t0
            have s1 : (V0.drewN nq).cell? ⟨wr.heap.size, 1, none⟩ = some (.string Y) := t1
            have s2 : (V0.drewN nq).cell? ⟨wr.heap.size, 2, none⟩ = some (.int .i64 A) := t2
            have hV1 : Below Wf.heap.size Wf (V0.drewN nq) := below_drewN hV0B nq
            obtain ⟨V1, hW⟩ : ∃ W, W = V0.drewN nq := ⟨_, rfl⟩
            rw [← hW] at s0 s1 s2 hV1 ⊢
            clear hW hV0B t0 t1 t2
            go_wp2_with fail
            go_roundw
            case rel => exact ⟨1, by rw [Hd'.out, hdd] <;> go_num, by go_num, by omega, hV1⟩
            case measure => simp [intOf]; omega
        · have hnext : True := trivial
          as_aux_lemma =>
            obtain ⟨Y, hY⟩ : ∃ Y, bs X = Y := ⟨_, rfl⟩
            rw [hY] at y1
            have hj0 : (0 : Int) ≤ (j : Int) := by omega
            have hjn : (j : Int) < (n : Int) := by omega
            have hwrj : IntKind.i64.wrap (j : Int) = (j : Int) := IntWalk.i64_in _ (by omega)
            have hsubj : IntKind.i64.wrap ((j : Int) + 1 - 1) = (j : Int) := by rw [IntWalk.i64_in _ (by omega)]; omega
            have hdd : d' = d := by simpa using hds
            have hneg : ¬ d < 0 := by omega
            clear hY
            have hAlt2 : ¬ (A : Int) < (A' : Int) := by omega
            have hAlt3 : ¬ A < A' := by omega
            have hgt2 : (0 : Int) < (j : Int) + 1 := by omega
            have hAlt : decide ((A : Int) < (A' : Int)) = false := by simp; omega
            have hgt : decide ((0 : Int) < (j : Int) + 1) = true := by rw [decide_eq_true_eq]; omega
            clear hbare hnm hwd htl hds h9m hpk
            have hal2 : Below Wf.heap.size Wf (wr.alloc (.cells #[.int .i64 4, .string Y, .int .i64 A] 35 (0, 0))) := HB.out.alloc HB.out.size _
            have t0 : (wr.alloc (.cells #[.int .i64 4, .string Y, .int .i64 A] 35 (0, 0))).cell? ⟨wr.heap.size, 0, none⟩ = some (.int .i64 4) := cells_new wr _ _ _ 0
            have t1 : (wr.alloc (.cells #[.int .i64 4, .string Y, .int .i64 A] 35 (0, 0))).cell? ⟨wr.heap.size, 1, none⟩ = some (.string Y) := cells_new wr _ _ _ 1
            have t2 : (wr.alloc (.cells #[.int .i64 4, .string Y, .int .i64 A] 35 (0, 0))).cell? ⟨wr.heap.size, 2, none⟩ = some (.int .i64 A) := cells_new wr _ _ _ 2
            have hgwr : g < wr.heap.size := Nat.lt_of_lt_of_le hgW HB.out.size
            have tp : (wr.alloc (.cells #[.int .i64 4, .string Y, .int .i64 A] 35 (0, 0))).cell? ⟨g, j * 3, none⟩ = some (.int .i64 K') := (((Below.refl _ wr).alloc (Nat.le_refl _) _).cell (p := ⟨g, j * 3, none⟩) hgwr).trans p0
            have tq : (wr.alloc (.cells #[.int .i64 4, .string Y, .int .i64 A] 35 (0, 0))).cell? ⟨g, j * 3 + 2, none⟩ = some (.int .i64 A') := (((Below.refl _ wr).alloc (Nat.le_refl _) _).cell (p := ⟨g, j * 3 + 2, none⟩) hgwr).trans p2
            go_wp2_with fail
            obtain ⟨V0, hV0⟩ : ∃ W, W = (wr.alloc (.cells #[.int .i64 4, .string Y, .int .i64 A] 35 (0, 0))) := ⟨_, rfl⟩
            rw [← hV0] at t0 t1 t2 hal2 tp tq ⊢
            have hV0B : Below Wf.heap.size Wf V0 := hal2
            clear hV0 hal2 y0 y1 y2 p0 p2
            refine wp_region_quiet_lit Tryd.mixed Tryd.shape14 ?_
            repeat (go_big_quiet_step (fail))
            refine wpQuiet_nil ?_
            intro _ hw9
            obtain ⟨nq, hw8⟩ := hw9
            subst hw8
            have s0 : (V0.drewN nq).cell? ⟨wr.heap.size, 0, none⟩ = some (.int .i64 4) := t0
            have s1 : (V0.drewN nq).cell? ⟨wr.heap.size, 1, none⟩ = some (.string Y) := t1
            have s2 : (V0.drewN nq).cell? ⟨wr.heap.size, 2, none⟩ = some (.int .i64 A) := t2
            have sp : (V0.drewN nq).cell? ⟨g, j * 3, none⟩ = some (.int .i64 K') := tp
            have sq : (V0.drewN nq).cell? ⟨g, j * 3 + 2, none⟩ = some (.int .i64 A') := tq
            have hV1 : Below Wf.heap.size Wf (V0.drewN nq) := below_drewN hV0B nq
            obtain ⟨V1, hW⟩ : ∃ W, W = V0.drewN nq := ⟨_, rfl⟩
            rw [← hW] at s0 s1 s2 sp sq hV1 ⊢
            clear hW hV0B t0 t1 t2 tp tq
            go_wp2_with fail
            go_roundw
            case rel => exact ⟨(j + 1 + 1), by rw [Hd'.out, hdd] <;> go_num, by go_num, by omega, hV1⟩
            case measure => simp [intOf]; omega
      · rcases hprev with rfl | ⟨j, K', A', rfl, p0, p2, hAA, hpk⟩
        · have hfirst : True := trivial
          as_aux_lemma =>
            obtain ⟨Y, hY⟩ : ∃ Y, bs X = Y := ⟨_, rfl⟩
            rw [hY] at y1
            simp only [Nat.zero_mul, Nat.zero_add] at y0 y1 y2
            have hin0 : (0 : Int) < (n : Int) := by omega
            have hin1 : 0 < n := by omega
            have hdd : d' = d := by simpa using hds
            have hneg : ¬ d < 0 := by omega
            obtain ⟨tx1, tx2, tx3⟩ := htl (by unfold isText; omega)
            obtain ⟨m, hm⟩ : ∃ m, X.length = m := ⟨_, rfl⟩
            rw [hm] at tx1 tx2
            have hYs : Y.size = m := by rw [← hY, bs_size, hm]
            have hex : s.extract A (A + m) = Y := by rw [← hY, ← bs_data (s.extract A (A + m)), Lib.extract_data, show A + m - A = m by omega, tx2]
            have gE : Y.toList.isEmpty = false := by rw [isEmpty_beq, bs_beq X _ Y hY, beq_eq_false_iff_ne]; exact tx3
            have gN : (Y.toList == []) = false := by rw [bs_beq X _ Y hY, beq_eq_false_iff_ne]; exact tx3
            have gM : decide ((s.size : Int) < (A : Int) + (m : Int)) = false := by simp; omega
            have gM2 : ¬ (s.size : Int) < (A : Int) + (m : Int) := by omega
            have HYX : Hid (Y.data.toList = X) := by show _ = _; rw [← hY]; rfl
            clear hY hm tx2 tx3
            clear hbare hnm hwd htl hds h9m
            have hal2 : Below Wf.heap.size Wf (wr.alloc (.cells #[.int .i64 5, .string Y, .int .i64 A] 35 (0, 0))) := HB.out.alloc HB.out.size _
            have t0 : (wr.alloc (.cells #[.int .i64 5, .string Y, .int .i64 A] 35 (0, 0))).cell? ⟨wr.heap.size, 0, none⟩ = some (.int .i64 5) := cells_new wr _ _ _ 0
            have t1 : (wr.alloc (.cells #[.int .i64 5, .string Y, .int .i64 A] 35 (0, 0))).cell? ⟨wr.heap.size, 1, none⟩ = some (.string Y) := cells_new wr _ _ _ 1
            have t2 : (wr.alloc (.cells #[.int .i64 5, .string Y, .int .i64 A] 35 (0, 0))).cell? ⟨wr.heap.size, 2, none⟩ = some (.int .i64 A) := cells_new wr _ _ _ 2
            go_wp2_with fail
            obtain ⟨V0, hV0⟩ : ∃ W, W = (wr.alloc (.cells #[.int .i64 5, .string Y, .int .i64 A] 35 (0, 0))) := ⟨_, rfl⟩
            rw [← hV0] at t0 t1 t2 hal2 ⊢
            have hV0B : Below Wf.heap.size Wf V0 := hal2
            clear hV0 hal2 y0 y1 y2
            refine wp_region_quiet_lit Tryd.mixed Tryd.shape14 ?_
            repeat (go_big_quiet_step (fail))
            refine wpQuiet_nil ?_
            intro _ hw9
            obtain ⟨nq, hw8⟩ := hw9
            subst hw8
            have s0 : (V0.drewN nq).cell? ⟨wr.heap.size, 0, none⟩ = some (.int .i64 5) := t0
            have s1 : (V0.drewN nq).cell? ⟨wr.heap.size, 1, none⟩ = some (.string Y) := t1
            have s2 : (V0.drewN nq).cell? ⟨wr.heap.size, 2, none⟩ = some (.int .i64 A) := t2
            have hV1 : Below Wf.heap.size Wf (V0.drewN nq) := below_drewN hV0B nq
            obtain ⟨V1, hW⟩ : ∃ W, W = V0.drewN nq := ⟨_, rfl⟩
            rw [← hW] at s0 s1 s2 hV1 ⊢
            clear hW hV0B t0 t1 t2
            go_wp2_with fail
            have hsrc : BsIn V1 a s := (HBS.out.below HB1.out).below hV1
            obtain ⟨a', c', hsl, hbs'⟩ := Tryd.bytes_sub hsrc hcap A (A + m) (by omega) (by omega)
            rw [hex] at hbs'
            rw [show A + m - A = m by omega, show ((A + m : Nat) : Int) = (A : Int) + (m : Int) by omega] at hsl
            have hcv : ∀ q, (convert 22 9 (.slice a' m c')).run Tryd.prog (V1.drewN q) = .ok (.string Y) (V1.drewN q) := fun q => by
              have h9 := run_convert_bs (P := Tryd.prog) (V1.drewN q) 22 5 9 Tryd.underlying22 Tryd.underlying5 Tryd.underlying9 a' c' Y (hbs'.below (below_drewN (Below.refl _ V1) q))
              rw [hYs] at h9; exact h9
            have hcv2 : (convert 22 9 (.slice a' m c')).run Tryd.prog V1.drew = .ok (.string Y) V1.drew := hcv 1
            clear hsrc hbs'
            refine wp_region_quiet_lit Tryd.mixed Tryd.shape25 ?_
            repeat (go_big_quiet_step (fail))
            refine wpQuiet_nil ?_
            intro _ hw9
            obtain ⟨nq, hw8⟩ := hw9
            subst hw8
            have t0 : (V1.drewN nq).cell? ⟨wr.heap.size, 0, none⟩ = some (.int .i64 5) := s0
            have t1 : (V1.drewN nq).cell? ⟨wr.heap.size, 1, none⟩ = some (.string Y) := s1
            have t2 : (V1.drewN nq).cell? ⟨wr.heap.size, 2, none⟩ = some (.int .i64 A) := s2
            have hV2 : Below Wf.heap.size Wf (V1.drewN nq) := below_drewN hV1 nq
            obtain ⟨V2, hW⟩ : ∃ W, W = V1.drewN nq := ⟨_, rfl⟩
            rw [← hW] at t0 t1 t2 hV2 ⊢
            clear hW hV1 s0 s1 s2
            clear hsl hcv hcv2
            go_wp2_with fail
            refine wp_region_quiet_lit Tryd.mixed Tryd.shape27 ?_
            repeat (go_big_quiet_step (fail))
            refine wpQuiet_nil ?_
            intro _ hw9
            obtain ⟨nq, hw8⟩ := hw9
            subst hw8
            have s0 : (V2.drewN nq).cell? ⟨wr.heap.size, 0, none⟩ = some (.int .i64 5) := t0
            have s1 : (V2.drewN nq).cell? ⟨wr.heap.size, 1, none⟩ = some (.string Y) := t1
            have s2 : (V2.drewN nq).cell? ⟨wr.heap.size, 2, none⟩ = some (.int .i64 A) := t2
            have hV3 : Below Wf.heap.size Wf (V2.drewN nq) := below_drewN hV2 nq
            obtain ⟨V3, hW⟩ : ∃ W, W = V2.drewN nq := ⟨_, rfl⟩
            rw [← hW] at s0 s1 s2 hV3 ⊢
            clear hW hV2 t0 t1 t2
            go_wp2_with fail
            go_roundw
            case rel => exact ⟨1, by rw [Hd'.out, hdd] <;> go_num, by go_num, by omega, hV3⟩
            case measure => simp [intOf]; omega
        · by_cases hA : A' = A
          · obtain rfl : A = A' := hA.symm
            rcases hpk (by unfold isText; omega) rfl with rfl | rfl
            · clear hpk
              as_aux_lemma =>
                obtain ⟨Y, hY⟩ : ∃ Y, bs X = Y := ⟨_, rfl⟩
                rw [hY] at y1
                have hj0 : (0 : Int) ≤ (j : Int) := by omega
                have hjn : (j : Int) < (n : Int) := by omega
                have hwrj : IntKind.i64.wrap (j : Int) = (j : Int) := IntWalk.i64_in _ (by omega)
                have hsubj : IntKind.i64.wrap ((j : Int) + 1 - 1) = (j : Int) := by rw [IntWalk.i64_in _ (by omega)]; omega
                have hdd : d' = d := by simpa using hds
                have hneg : ¬ d < 0 := by omega
                obtain ⟨tx1, tx2, tx3⟩ := htl (by unfold isText; omega)
                obtain ⟨m, hm⟩ : ∃ m, X.length = m := ⟨_, rfl⟩
                rw [hm] at tx1 tx2
                have hYs : Y.size = m := by rw [← hY, bs_size, hm]
                have hex : s.extract A (A + m) = Y := by rw [← hY, ← bs_data (s.extract A (A + m)), Lib.extract_data, show A + m - A = m by omega, tx2]
                have gE : Y.toList.isEmpty = false := by rw [isEmpty_beq, bs_beq X _ Y hY, beq_eq_false_iff_ne]; exact tx3
                have gN : (Y.toList == []) = false := by rw [bs_beq X _ Y hY, beq_eq_false_iff_ne]; exact tx3
                have gM : decide ((s.size : Int) < (A : Int) + (m : Int)) = false := by simp; omega
                have gM2 : ¬ (s.size : Int) < (A : Int) + (m : Int) := by omega
                have HYX : Hid (Y.data.toList = X) := by show _ = _; rw [← hY]; rfl
                clear hY hm tx2 tx3
                have hAlt2 : ¬ (A : Int) < (A : Int) := by omega
                have hAlt3 : ¬ A < A := by omega
                have hgt2 : (0 : Int) < (j : Int) + 1 := by omega
                have hAlt : decide ((A : Int) < (A : Int)) = false := by simp
                have hgt : decide ((0 : Int) < (j : Int) + 1) = true := by rw [decide_eq_true_eq]; omega
                clear hbare hnm hwd htl hds h9m
                have hal2 : Below Wf.heap.size Wf (wr.alloc (.cells #[.int .i64 5, .string Y, .int .i64 A] 35 (0, 0))) := HB.out.alloc HB.out.size _
                have t0 : (wr.alloc (.cells #[.int .i64 5, .string Y, .int .i64 A] 35 (0, 0))).cell? ⟨wr.heap.size, 0, none⟩ = some (.int .i64 5) := cells_new wr _ _ _ 0
                have t1 : (wr.alloc (.cells #[.int .i64 5, .string Y, .int .i64 A] 35 (0, 0))).cell? ⟨wr.heap.size, 1, none⟩ = some (.string Y) := cells_new wr _ _ _ 1
                have t2 : (wr.alloc (.cells #[.int .i64 5, .string Y, .int .i64 A] 35 (0, 0))).cell? ⟨wr.heap.size, 2, none⟩ = some (.int .i64 A) := cells_new wr _ _ _ 2
                have hgwr : g < wr.heap.size := Nat.lt_of_lt_of_le hgW HB.out.size
                have tp : (wr.alloc (.cells #[.int .i64 5, .string Y, .int .i64 A] 35 (0, 0))).cell? ⟨g, j * 3, none⟩ = some (.int .i64 7) := (((Below.refl _ wr).alloc (Nat.le_refl _) _).cell (p := ⟨g, j * 3, none⟩) hgwr).trans p0
                have tq : (wr.alloc (.cells #[.int .i64 5, .string Y, .int .i64 A] 35 (0, 0))).cell? ⟨g, j * 3 + 2, none⟩ = some (.int .i64 A) := (((Below.refl _ wr).alloc (Nat.le_refl _) _).cell (p := ⟨g, j * 3 + 2, none⟩) hgwr).trans p2
                go_wp2_with fail
                obtain ⟨V0, hV0⟩ : ∃ W, W = (wr.alloc (.cells #[.int .i64 5, .string Y, .int .i64 A] 35 (0, 0))) := ⟨_, rfl⟩
                rw [← hV0] at t0 t1 t2 hal2 tp tq ⊢
                have hV0B : Below Wf.heap.size Wf V0 := hal2
                clear hV0 hal2 y0 y1 y2 p0 p2
                refine wp_region_quiet_lit Tryd.mixed Tryd.shape14 ?_
                repeat (go_big_quiet_step (fail))
                refine wpQuiet_nil ?_
                intro _ hw9
                obtain ⟨nq, hw8⟩ := hw9
                subst hw8
                have s0 : (V0.drewN nq).cell? ⟨wr.heap.size, 0, none⟩ = some (.int .i64 5) := t0
                have s1 : (V0.drewN nq).cell? ⟨wr.heap.size, 1, none⟩ = some (.string Y) := t1
                have s2 : (V0.drewN nq).cell? ⟨wr.heap.size, 2, none⟩ = some (.int .i64 A) := t2
                have sp : (V0.drewN nq).cell? ⟨g, j * 3, none⟩ = some (.int .i64 7) := tp
                have sq : (V0.drewN nq).cell? ⟨g, j * 3 + 2, none⟩ = some (.int .i64 A) := tq
                have hV1 : Below Wf.heap.size Wf (V0.drewN nq) := below_drewN hV0B nq
                obtain ⟨V1, hW⟩ : ∃ W, W = V0.drewN nq := ⟨_, rfl⟩
                rw [← hW] at s0 s1 s2 sp sq hV1 ⊢
                clear hW hV0B t0 t1 t2 tp tq
                go_wp2_with fail
                have hsrc : BsIn V1 a s := (HBS.out.below HB1.out).below hV1
                obtain ⟨a', c', hsl, hbs'⟩ := Tryd.bytes_sub hsrc hcap A (A + m) (by omega) (by omega)
                rw [hex] at hbs'
                rw [show A + m - A = m by omega, show ((A + m : Nat) : Int) = (A : Int) + (m : Int) by omega] at hsl
                have hcv : ∀ q, (convert 22 9 (.slice a' m c')).run Tryd.prog (V1.drewN q) = .ok (.string Y) (V1.drewN q) := fun q => by
                  have h9 := run_convert_bs (P := Tryd.prog) (V1.drewN q) 22 5 9 Tryd.underlying22 Tryd.underlying5 Tryd.underlying9 a' c' Y (hbs'.below (below_drewN (Below.refl _ V1) q))
                  rw [hYs] at h9; exact h9
                have hcv2 : (convert 22 9 (.slice a' m c')).run Tryd.prog V1.drew = .ok (.string Y) V1.drew := hcv 1
                clear hsrc hbs'
                refine wp_region_quiet_lit Tryd.mixed Tryd.shape25 ?_
                repeat (go_big_quiet_step (fail))
                refine wpQuiet_nil ?_
                intro _ hw9
                obtain ⟨nq, hw8⟩ := hw9
                subst hw8
                have t0 : (V1.drewN nq).cell? ⟨wr.heap.size, 0, none⟩ = some (.int .i64 5) := s0
                have t1 : (V1.drewN nq).cell? ⟨wr.heap.size, 1, none⟩ = some (.string Y) := s1
                have t2 : (V1.drewN nq).cell? ⟨wr.heap.size, 2, none⟩ = some (.int .i64 A) := s2
                have tp : (V1.drewN nq).cell? ⟨g, j * 3, none⟩ = some (.int .i64 7) := sp
                have tq : (V1.drewN nq).cell? ⟨g, j * 3 + 2, none⟩ = some (.int .i64 A) := sq
                have hV2 : Below Wf.heap.size Wf (V1.drewN nq) := below_drewN hV1 nq
                obtain ⟨V2, hW⟩ : ∃ W, W = V1.drewN nq := ⟨_, rfl⟩
                rw [← hW] at t0 t1 t2 tp tq hV2 ⊢
                clear hW hV1 s0 s1 s2 sp sq
                clear hsl hcv hcv2
                go_wp2_with fail
                refine wp_region_quiet_lit Tryd.mixed Tryd.shape27 ?_
                repeat (go_big_quiet_step (fail))
                refine wpQuiet_nil ?_
                intro _ hw9
                obtain ⟨nq, hw8⟩ := hw9
                subst hw8
                have s0 : (V2.drewN nq).cell? ⟨wr.heap.size, 0, none⟩ = some (.int .i64 5) := t0
                have s1 : (V2.drewN nq).cell? ⟨wr.heap.size, 1, none⟩ = some (.string Y) := t1
                have s2 : (V2.drewN nq).cell? ⟨wr.heap.size, 2, none⟩ = some (.int .i64 A) := t2
                have sp : (V2.drewN nq).cell? ⟨g, j * 3, none⟩ = some (.int .i64 7) := tp
                have sq : (V2.drewN nq).cell? ⟨g, j * 3 + 2, none⟩ = some (.int .i64 A) := tq
                have hV3 : Below Wf.heap.size Wf (V2.drewN nq) := below_drewN hV2 nq
                obtain ⟨V3, hW⟩ : ∃ W, W = V2.drewN nq := ⟨_, rfl⟩
                rw [← hW] at s0 s1 s2 sp sq hV3 ⊢
                clear hW hV2 t0 t1 t2 tp tq
                go_wp2_with fail
                go_roundw
                case rel => exact ⟨(j + 1 + 1), by rw [Hd'.out, hdd] <;> go_num, by go_num, by omega, hV3⟩
                case measure => simp [intOf]; omega
            · clear hpk
              as_aux_lemma =>
                obtain ⟨Y, hY⟩ : ∃ Y, bs X = Y := ⟨_, rfl⟩
                rw [hY] at y1
                have hj0 : (0 : Int) ≤ (j : Int) := by omega
                have hjn : (j : Int) < (n : Int) := by omega
                have hwrj : IntKind.i64.wrap (j : Int) = (j : Int) := IntWalk.i64_in _ (by omega)
                have hsubj : IntKind.i64.wrap ((j : Int) + 1 - 1) = (j : Int) := by rw [IntWalk.i64_in _ (by omega)]; omega
                have hdd : d' = d := by simpa using hds
                have hneg : ¬ d < 0 := by omega
                obtain ⟨tx1, tx2, tx3⟩ := htl (by unfold isText; omega)
                obtain ⟨m, hm⟩ : ∃ m, X.length = m := ⟨_, rfl⟩
                rw [hm] at tx1 tx2
                have hYs : Y.size = m := by rw [← hY, bs_size, hm]
                have hex : s.extract A (A + m) = Y := by rw [← hY, ← bs_data (s.extract A (A + m)), Lib.extract_data, show A + m - A = m by omega, tx2]
                have gE : Y.toList.isEmpty = false := by rw [isEmpty_beq, bs_beq X _ Y hY, beq_eq_false_iff_ne]; exact tx3
                have gN : (Y.toList == []) = false := by rw [bs_beq X _ Y hY, beq_eq_false_iff_ne]; exact tx3
                have gM : decide ((s.size : Int) < (A : Int) + (m : Int)) = false := by simp; omega
                have gM2 : ¬ (s.size : Int) < (A : Int) + (m : Int) := by omega
                have HYX : Hid (Y.data.toList = X) := by show _ = _; rw [← hY]; rfl
                clear hY hm tx2 tx3
                have hAlt2 : ¬ (A : Int) < (A : Int) := by omega
                have hAlt3 : ¬ A < A := by omega
                have hgt2 : (0 : Int) < (j : Int) + 1 := by omega
                have hAlt : decide ((A : Int) < (A : Int)) = false := by simp
                have hgt : decide ((0 : Int) < (j : Int) + 1) = true := by rw [decide_eq_true_eq]; omega
                clear hbare hnm hwd htl hds h9m
                have hal2 : Below Wf.heap.size Wf (wr.alloc (.cells #[.int .i64 5, .string Y, .int .i64 A] 35 (0, 0))) := HB.out.alloc HB.out.size _
                have t0 : (wr.alloc (.cells #[.int .i64 5, .string Y, .int .i64 A] 35 (0, 0))).cell? ⟨wr.heap.size, 0, none⟩ = some (.int .i64 5) := cells_new wr _ _ _ 0
                have t1 : (wr.alloc (.cells #[.int .i64 5, .string Y, .int .i64 A] 35 (0, 0))).cell? ⟨wr.heap.size, 1, none⟩ = some (.string Y) := cells_new wr _ _ _ 1
                have t2 : (wr.alloc (.cells #[.int .i64 5, .string Y, .int .i64 A] 35 (0, 0))).cell? ⟨wr.heap.size, 2, none⟩ = some (.int .i64 A) := cells_new wr _ _ _ 2
                have hgwr : g < wr.heap.size := Nat.lt_of_lt_of_le hgW HB.out.size
                have tp : (wr.alloc (.cells #[.int .i64 5, .string Y, .int .i64 A] 35 (0, 0))).cell? ⟨g, j * 3, none⟩ = some (.int .i64 8) := (((Below.refl _ wr).alloc (Nat.le_refl _) _).cell (p := ⟨g, j * 3, none⟩) hgwr).trans p0
                have tq : (wr.alloc (.cells #[.int .i64 5, .string Y, .int .i64 A] 35 (0, 0))).cell? ⟨g, j * 3 + 2, none⟩ = some (.int .i64 A) := (((Below.refl _ wr).alloc (Nat.le_refl _) _).cell (p := ⟨g, j * 3 + 2, none⟩) hgwr).trans p2
                go_wp2_with fail
                obtain ⟨V0, hV0⟩ : ∃ W, W = (wr.alloc (.cells #[.int .i64 5, .string Y, .int .i64 A] 35 (0, 0))) := ⟨_, rfl⟩
                rw [← hV0] at t0 t1 t2 hal2 tp tq ⊢
                have hV0B : Below Wf.heap.size Wf V0 := hal2
                clear hV0 hal2 y0 y1 y2 p0 p2
                refine wp_region_quiet_lit Tryd.mixed Tryd.shape14 ?_
                repeat (go_big_quiet_step (fail))
                refine wpQuiet_nil ?_
                intro _ hw9
                obtain ⟨nq, hw8⟩ := hw9
                subst hw8
                have s0 : (V0.drewN nq).cell? ⟨wr.heap.size, 0, none⟩ = some (.int .i64 5) := t0
                have s1 : (V0.drewN nq).cell? ⟨wr.heap.size, 1, none⟩ = some (.string Y) := t1
                have s2 : (V0.drewN nq).cell? ⟨wr.heap.size, 2, none⟩ = some (.int .i64 A) := t2
                have sp : (V0.drewN nq).cell? ⟨g, j * 3, none⟩ = some (.int .i64 8) := tp
                have sq : (V0.drewN nq).cell? ⟨g, j * 3 + 2, none⟩ = some (.int .i64 A) := tq
                have hV1 : Below Wf.heap.size Wf (V0.drewN nq) := below_drewN hV0B nq
                obtain ⟨V1, hW⟩ : ∃ W, W = V0.drewN nq := ⟨_, rfl⟩
                rw [← hW] at s0 s1 s2 sp sq hV1 ⊢
                clear hW hV0B t0 t1 t2 tp tq
                go_wp2_with fail
                have hsrc : BsIn V1 a s := (HBS.out.below HB1.out).below hV1
                obtain ⟨a', c', hsl, hbs'⟩ := Tryd.bytes_sub hsrc hcap A (A + m) (by omega) (by omega)
                rw [hex] at hbs'
                rw [show A + m - A = m by omega, show ((A + m : Nat) : Int) = (A : Int) + (m : Int) by omega] at hsl
                have hcv : ∀ q, (convert 22 9 (.slice a' m c')).run Tryd.prog (V1.drewN q) = .ok (.string Y) (V1.drewN q) := fun q => by
                  have h9 := run_convert_bs (P := Tryd.prog) (V1.drewN q) 22 5 9 Tryd.underlying22 Tryd.underlying5 Tryd.underlying9 a' c' Y (hbs'.below (below_drewN (Below.refl _ V1) q))
                  rw [hYs] at h9; exact h9
                have hcv2 : (convert 22 9 (.slice a' m c')).run Tryd.prog V1.drew = .ok (.string Y) V1.drew := hcv 1
                clear hsrc hbs'
                refine wp_region_quiet_lit Tryd.mixed Tryd.shape25 ?_
                repeat (go_big_quiet_step (fail))
                refine wpQuiet_nil ?_
                intro _ hw9
                obtain ⟨nq, hw8⟩ := hw9
                subst hw8
                have t0 : (V1.drewN nq).cell? ⟨wr.heap.size, 0, none⟩ = some (.int .i64 5) := s0
                have t1 : (V1.drewN nq).cell? ⟨wr.heap.size, 1, none⟩ = some (.string Y) := s1
                have t2 : (V1.drewN nq).cell? ⟨wr.heap.size, 2, none⟩ = some (.int .i64 A) := s2
                have tp : (V1.drewN nq).cell? ⟨g, j * 3, none⟩ = some (.int .i64 8) := sp
                have tq : (V1.drewN nq).cell? ⟨g, j * 3 + 2, none⟩ = some (.int .i64 A) := sq
                have hV2 : Below Wf.heap.size Wf (V1.drewN nq) := below_drewN hV1 nq
                obtain ⟨V2, hW⟩ : ∃ W, W = V1.drewN nq := ⟨_, rfl⟩
                rw [← hW] at t0 t1 t2 tp tq hV2 ⊢
                clear hW hV1 s0 s1 s2 sp sq
                clear hsl hcv hcv2
                go_wp2_with fail
                refine wp_region_quiet_lit Tryd.mixed Tryd.shape27 ?_
                repeat (go_big_quiet_step (fail))
                refine wpQuiet_nil ?_
                intro _ hw9
                obtain ⟨nq, hw8⟩ := hw9
                subst hw8
                have s0 : (V2.drewN nq).cell? ⟨wr.heap.size, 0, none⟩ = some (.int .i64 5) := t0
                have s1 : (V2.drewN nq).cell? ⟨wr.heap.size, 1, none⟩ = some (.string Y) := t1
                have s2 : (V2.drewN nq).cell? ⟨wr.heap.size, 2, none⟩ = some (.int .i64 A) := t2
                have sp : (V2.drewN nq).cell? ⟨g, j * 3, none⟩ = some (.int .i64 8) := tp
                have sq : (V2.drewN nq).cell? ⟨g, j * 3 + 2, none⟩ = some (.int .i64 A) := tq
                have hV3 : Below Wf.heap.size Wf (V2.drewN nq) := below_drewN hV2 nq
                obtain ⟨V3, hW⟩ : ∃ W, W = V2.drewN nq := ⟨_, rfl⟩
                rw [← hW] at s0 s1 s2 sp sq hV3 ⊢
                clear hW hV2 t0 t1 t2 tp tq
                go_wp2_with fail
                go_roundw
                case rel => exact ⟨(j + 1 + 1), by rw [Hd'.out, hdd] <;> go_num, by go_num, by omega, hV3⟩
                case measure => simp [intOf]; omega
          · clear hpk
            as_aux_lemma =>
              obtain ⟨Y, hY⟩ : ∃ Y, bs X = Y := ⟨_, rfl⟩
              rw [hY] at y1
              have hj0 : (0 : Int) ≤ (j : Int) := by omega
              have hjn : (j : Int) < (n : Int) := by omega
              have hwrj : IntKind.i64.wrap (j : Int) = (j : Int) := IntWalk.i64_in _ (by omega)
              have hsubj : IntKind.i64.wrap ((j : Int) + 1 - 1) = (j : Int) := by rw [IntWalk.i64_in _ (by omega)]; omega
              have hdd : d' = d := by simpa using hds
              have hneg : ¬ d < 0 := by omega
              obtain ⟨tx1, tx2, tx3⟩ := htl (by unfold isText; omega)
              obtain ⟨m, hm⟩ : ∃ m, X.length = m := ⟨_, rfl⟩
              rw [hm] at tx1 tx2
              have hYs : Y.size = m := by rw [← hY, bs_size, hm]
              have hex : s.extract A (A + m) = Y := by rw [← hY, ← bs_data (s.extract A (A + m)), Lib.extract_data, show A + m - A = m by omega, tx2]
              have gE : Y.toList.isEmpty = false := by rw [isEmpty_beq, bs_beq X _ Y hY, beq_eq_false_iff_ne]; exact tx3
              have gN : (Y.toList == []) = false := by rw [bs_beq X _ Y hY, beq_eq_false_iff_ne]; exact tx3
              have gM : decide ((s.size : Int) < (A : Int) + (m : Int)) = false := by simp; omega
              have gM2 : ¬ (s.size : Int) < (A : Int) + (m : Int) := by omega
              have HYX : Hid (Y.data.toList = X) := by show _ = _; rw [← hY]; rfl
              clear hY hm tx2 tx3
              have hAlt2 : ¬ (A : Int) < (A' : Int) := by omega
              have hAlt3 : ¬ A < A' := by omega
              have hgt2 : (0 : Int) < (j : Int) + 1 := by omega
              have hAlt : decide ((A : Int) < (A' : Int)) = false := by simp; omega
              have hAne2 : ¬ A' = A := by omega
              have hAne3 : ¬ (A' : Int) = (A : Int) := by omega
              have hAne : ((A' : Int) == (A : Int)) = false := by rw [beq_eq_false_iff_ne]; omega
              have hgt : decide ((0 : Int) < (j : Int) + 1) = true := by rw [decide_eq_true_eq]; omega
              clear hbare hnm hwd htl hds h9m
              have hal2 : Below Wf.heap.size Wf (wr.alloc (.cells #[.int .i64 5, .string Y, .int .i64 A] 35 (0, 0))) := HB.out.alloc HB.out.size _
              have t0 : (wr.alloc (.cells #[.int .i64 5, .string Y, .int .i64 A] 35 (0, 0))).cell? ⟨wr.heap.size, 0, none⟩ = some (.int .i64 5) := cells_new wr _ _ _ 0
              have t1 : (wr.alloc (.cells #[.int .i64 5, .string Y, .int .i64 A] 35 (0, 0))).cell? ⟨wr.heap.size, 1, none⟩ = some (.string Y) := cells_new wr _ _ _ 1
              have t2 : (wr.alloc (.cells #[.int .i64 5, .string Y, .int .i64 A] 35 (0, 0))).cell? ⟨wr.heap.size, 2, none⟩ = some (.int .i64 A) := cells_new wr _ _ _ 2
              have hgwr : g < wr.heap.size := Nat.lt_of_lt_of_le hgW HB.out.size
              have tp : (wr.alloc (.cells #[.int .i64 5, .string Y, .int .i64 A] 35 (0, 0))).cell? ⟨g, j * 3, none⟩ = some (.int .i64 K') := (((Below.refl _ wr).alloc (Nat.le_refl _) _).cell (p := ⟨g, j * 3, none⟩) hgwr).trans p0
              have tq : (wr.alloc (.cells #[.int .i64 5, .string Y, .int .i64 A] 35 (0, 0))).cell? ⟨g, j * 3 + 2, none⟩ = some (.int .i64 A') := (((Below.refl _ wr).alloc (Nat.le_refl _) _).cell (p := ⟨g, j * 3 + 2, none⟩) hgwr).trans p2
              go_wp2_with fail
              obtain ⟨V0, hV0⟩ : ∃ W, W = (wr.alloc (.cells #[.int .i64 5, .string Y, .int .i64 A] 35 (0, 0))) := ⟨_, rfl⟩
              rw [← hV0] at t0 t1 t2 hal2 tp tq ⊢
              have hV0B : Below Wf.heap.size Wf V0 := hal2
              clear hV0 hal2 y0 y1 y2 p0 p2
              refine wp_region_quiet_lit Tryd.mixed Tryd.shape14 ?_
              repeat (go_big_quiet_step (fail))
              refine wpQuiet_nil ?_
              intro _ hw9
              obtain ⟨nq, hw8⟩ := hw9
              subst hw8
              have s0 : (V0.drewN nq).cell? ⟨wr.heap.size, 0, none⟩ = some (.int .i64 5) := t0
              have s1 : (V0.drewN nq).cell? ⟨wr.heap.size, 1, none⟩ = some (.string Y) := t1
              have s2 : (V0.drewN nq).cell? ⟨wr.heap.size, 2, none⟩ = some (.int .i64 A) := t2
              have sp : (V0.drewN nq).cell? ⟨g, j * 3, none⟩ = some (.int .i64 K') := tp
              have sq : (V0.drewN nq).cell? ⟨g, j * 3 + 2, none⟩ = some (.int .i64 A') := tq
              have hV1 : Below Wf.heap.size Wf (V0.drewN nq) := below_drewN hV0B nq
              obtain ⟨V1, hW⟩ : ∃ W, W = V0.drewN nq := ⟨_, rfl⟩
              rw [← hW] at s0 s1 s2 sp sq hV1 ⊢
              clear hW hV0B t0 t1 t2 tp tq
              go_wp2_with fail
              have hsrc : BsIn V1 a s := (HBS.out.below HB1.out).below hV1
              obtain ⟨a', c', hsl, hbs'⟩ := Tryd.bytes_sub hsrc hcap A (A + m) (by omega) (by omega)
              rw [hex] at hbs'
              rw [show A + m - A = m by omega, show ((A + m : Nat) : Int) = (A : Int) + (m : Int) by omega] at hsl
              have hcv : ∀ q, (convert 22 9 (.slice a' m c')).run Tryd.prog (V1.drewN q) = .ok (.string Y) (V1.drewN q) := fun q => by
                have h9 := run_convert_bs (P := Tryd.prog) (V1.drewN q) 22 5 9 Tryd.underlying22 Tryd.underlying5 Tryd.underlying9 a' c' Y (hbs'.below (below_drewN (Below.refl _ V1) q))
                rw [hYs] at h9; exact h9
              have hcv2 : (convert 22 9 (.slice a' m c')).run Tryd.prog V1.drew = .ok (.string Y) V1.drew := hcv 1
              clear hsrc hbs'
              refine wp_region_quiet_lit Tryd.mixed Tryd.shape25 ?_
              repeat (go_big_quiet_step (fail))
              refine wpQuiet_nil ?_
              intro _ hw9
              obtain ⟨nq, hw8⟩ := hw9
              subst hw8
              have t0 : (V1.drewN nq).cell? ⟨wr.heap.size, 0, none⟩ = some (.int .i64 5) := s0
              have t1 : (V1.drewN nq).cell? ⟨wr.heap.size, 1, none⟩ = some (.string Y) := s1
              have t2 : (V1.drewN nq).cell? ⟨wr.heap.size, 2, none⟩ = some (.int .i64 A) := s2
              have tp : (V1.drewN nq).cell? ⟨g, j * 3, none⟩ = some (.int .i64 K') := sp
              have tq : (V1.drewN nq).cell? ⟨g, j * 3 + 2, none⟩ = some (.int .i64 A') := sq
              have hV2 : Below Wf.heap.size Wf (V1.drewN nq) := below_drewN hV1 nq
              obtain ⟨V2, hW⟩ : ∃ W, W = V1.drewN nq := ⟨_, rfl⟩
              rw [← hW] at t0 t1 t2 tp tq hV2 ⊢
              clear hW hV1 s0 s1 s2 sp sq
              clear hsl hcv hcv2
              go_wp2_with fail
              refine wp_region_quiet_lit Tryd.mixed Tryd.shape27 ?_
              repeat (go_big_quiet_step (fail))
              refine wpQuiet_nil ?_
              intro _ hw9
              obtain ⟨nq, hw8⟩ := hw9
              subst hw8
              have s0 : (V2.drewN nq).cell? ⟨wr.heap.size, 0, none⟩ = some (.int .i64 5) := t0
              have s1 : (V2.drewN nq).cell? ⟨wr.heap.size, 1, none⟩ = some (.string Y) := t1
              have s2 : (V2.drewN nq).cell? ⟨wr.heap.size, 2, none⟩ = some (.int .i64 A) := t2
              have sp : (V2.drewN nq).cell? ⟨g, j * 3, none⟩ = some (.int .i64 K') := tp
              have sq : (V2.drewN nq).cell? ⟨g, j * 3 + 2, none⟩ = some (.int .i64 A') := tq
              have hV3 : Below Wf.heap.size Wf (V2.drewN nq) := below_drewN hV2 nq
              obtain ⟨V3, hW⟩ : ∃ W, W = V2.drewN nq := ⟨_, rfl⟩
              rw [← hW] at s0 s1 s2 sp sq hV3 ⊢
              clear hW hV2 t0 t1 t2 tp tq
              go_wp2_with fail
              go_roundw
              case rel => exact ⟨(j + 1 + 1), by rw [Hd'.out, hdd] <;> go_num, by go_num, by omega, hV3⟩
              case measure => simp [intOf]; omega
      · rcases hprev with rfl | ⟨j, K', A', rfl, p0, p2, hAA, hpk⟩
        · have hfirst : True := trivial
          as_aux_lemma =>
            obtain rfl : X = [] := hbare (by omega)
            rw [show bs [] = (⟨#[]⟩ : ByteArray) from rfl] at y1
            simp only [Nat.zero_mul, Nat.zero_add] at y0 y1 y2
            have hin0 : (0 : Int) < (n : Int) := by omega
            have hin1 : 0 < n := by omega
            have hdd : d' = d := by simpa using hds
            have hneg : ¬ d < 0 := by omega
            clear hbare hnm hwd htl hds h9m
            have hal2 : Below Wf.heap.size Wf (wr.alloc (.cells #[.int .i64 6, .string ⟨#[]⟩, .int .i64 A] 35 (0, 0))) := HB.out.alloc HB.out.size _
            have t0 : (wr.alloc (.cells #[.int .i64 6, .string ⟨#[]⟩, .int .i64 A] 35 (0, 0))).cell? ⟨wr.heap.size, 0, none⟩ = some (.int .i64 6) := cells_new wr _ _ _ 0
            have t1 : (wr.alloc (.cells #[.int .i64 6, .string ⟨#[]⟩, .int .i64 A] 35 (0, 0))).cell? ⟨wr.heap.size, 1, none⟩ = some (.string ⟨#[]⟩) := cells_new wr _ _ _ 1
            have t2 : (wr.alloc (.cells #[.int .i64 6, .string ⟨#[]⟩, .int .i64 A] 35 (0, 0))).cell? ⟨wr.heap.size, 2, none⟩ = some (.int .i64 A) := cells_new wr _ _ _ 2
            go_wp2_with fail
            obtain ⟨V0, hV0⟩ : ∃ W, W = (wr.alloc (.cells #[.int .i64 6, .string ⟨#[]⟩, .int .i64 A] 35 (0, 0))) := ⟨_, rfl⟩
            rw [← hV0] at t0 t1 t2 hal2 ⊢
            have hV0B : Below Wf.heap.size Wf V0 := hal2
            clear hV0 hal2 y0 y1 y2
            refine wp_region_quiet_lit Tryd.mixed Tryd.shape14 ?_
            repeat (go_big_quiet_step (fail))
            refine wpQuiet_nil ?_
            intro _ hw9
            obtain ⟨nq, hw8⟩ := hw9
            subst hw8
            have s0 : (V0.drewN nq).cell? ⟨wr.heap.size, 0, none⟩ = some (.int .i64 6) := t0
            have s1 : (V0.drewN nq).cell? ⟨wr.heap.size, 1, none⟩ = some (.string ⟨#[]⟩) := t1
            have s2 : (V0.drewN nq).cell? ⟨wr.heap.size, 2, none⟩ = some (.int .i64 A) := t2
            have hV1 : Below Wf.heap.size Wf (V0.drewN nq) := below_drewN hV0B nq
            obtain ⟨V1, hW⟩ : ∃ W, W = V0.drewN nq := ⟨_, rfl⟩
            rw [← hW] at s0 s1 s2 hV1 ⊢
            clear hW hV0B t0 t1 t2
            go_wp2_with fail
            go_roundw
            case rel => exact ⟨1, by rw [Hd'.out, hdd] <;> go_num, by go_num, by omega, hV1⟩
            case measure => simp [intOf]; omega
        · have hnext : True := trivial
          as_aux_lemma =>
            obtain rfl : X = [] := hbare (by omega)
            rw [show bs [] = (⟨#[]⟩ : ByteArray) from rfl] at y1
            have hj0 : (0 : Int) ≤ (j : Int) := by omega
            have hjn : (j : Int) < (n : Int) := by omega
            have hwrj : IntKind.i64.wrap (j : Int) = (j : Int) := IntWalk.i64_in _ (by omega)
            have hsubj : IntKind.i64.wrap ((j : Int) + 1 - 1) = (j : Int) := by rw [IntWalk.i64_in _ (by omega)]; omega
            have hdd : d' = d := by simpa using hds
            have hneg : ¬ d < 0 := by omega
            have hAlt2 : ¬ (A : Int) < (A' : Int) := by omega
            have hAlt3 : ¬ A < A' := by omega
            have hgt2 : (0 : Int) < (j : Int) + 1 := by omega
            have hAlt : decide ((A : Int) < (A' : Int)) = false := by simp; omega
            have hgt : decide ((0 : Int) < (j : Int) + 1) = true := by rw [decide_eq_true_eq]; omega
            clear hbare hnm hwd htl hds h9m hpk
            have hal2 : Below Wf.heap.size Wf (wr.alloc (.cells #[.int .i64 6, .string ⟨#[]⟩, .int .i64 A] 35 (0, 0))) := HB.out.alloc HB.out.size _
            have t0 : (wr.alloc (.cells #[.int .i64 6, .string ⟨#[]⟩, .int .i64 A] 35 (0, 0))).cell? ⟨wr.heap.size, 0, none⟩ = some (.int .i64 6) := cells_new wr _ _ _ 0
            have t1 : (wr.alloc (.cells #[.int .i64 6, .string ⟨#[]⟩, .int .i64 A] 35 (0, 0))).cell? ⟨wr.heap.size, 1, none⟩ = some (.string ⟨#[]⟩) := cells_new wr _ _ _ 1
            have t2 : (wr.alloc (.cells #[.int .i64 6, .string ⟨#[]⟩, .int .i64 A] 35 (0, 0))).cell? ⟨wr.heap.size, 2, none⟩ = some (.int .i64 A) := cells_new wr _ _ _ 2
            have hgwr : g < wr.heap.size := Nat.lt_of_lt_of_le hgW HB.out.size
            have tp : (wr.alloc (.cells #[.int .i64 6, .string ⟨#[]⟩, .int .i64 A] 35 (0, 0))).cell? ⟨g, j * 3, none⟩ = some (.int .i64 K') := (((Below.refl _ wr).alloc (Nat.le_refl _) _).cell (p := ⟨g, j * 3, none⟩) hgwr).trans p0
            have tq : (wr.alloc (.cells #[.int .i64 6, .string ⟨#[]⟩, .int .i64 A] 35 (0, 0))).cell? ⟨g, j * 3 + 2, none⟩ = some (.int .i64 A') := (((Below.refl _ wr).alloc (Nat.le_refl _) _).cell (p := ⟨g, j * 3 + 2, none⟩) hgwr).trans p2
            go_wp2_with fail
            obtain ⟨V0, hV0⟩ : ∃ W, W = (wr.alloc (.cells #[.int .i64 6, .string ⟨#[]⟩, .int .i64 A] 35 (0, 0))) := ⟨_, rfl⟩
            rw [← hV0] at t0 t1 t2 hal2 tp tq ⊢
            have hV0B : Below Wf.heap.size Wf V0 := hal2
            clear hV0 hal2 y0 y1 y2 p0 p2
            refine wp_region_quiet_lit Tryd.mixed Tryd.shape14 ?_
            repeat (go_big_quiet_step (fail))
            refine wpQuiet_nil ?_
            intro _ hw9
            obtain ⟨nq, hw8⟩ := hw9
            subst hw8
            have s0 : (V0.drewN nq).cell? ⟨wr.heap.size, 0, none⟩ = some (.int .i64 6) := t0
            have s1 : (V0.drewN nq).cell? ⟨wr.heap.size, 1, none⟩ = some (.string ⟨#[]⟩) := t1
            have s2 : (V0.drewN nq).cell? ⟨wr.heap.size, 2, none⟩ = some (.int .i64 A) := t2
            have sp : (V0.drewN nq).cell? ⟨g, j * 3, none⟩ = some (.int .i64 K') := tp
            have sq : (V0.drewN nq).cell? ⟨g, j * 3 + 2, none⟩ = some (.int .i64 A') := tq
            have hV1 : Below Wf.heap.size Wf (V0.drewN nq) := below_drewN hV0B nq
            obtain ⟨V1, hW⟩ : ∃ W, W = V0.drewN nq := ⟨_, rfl⟩
            rw [← hW] at s0 s1 s2 sp sq hV1 ⊢
            clear hW hV0B t0 t1 t2 tp tq
            go_wp2_with fail
            go_roundw
            case rel => exact ⟨(j + 1 + 1), by rw [Hd'.out, hdd] <;> go_num, by go_num, by omega, hV1⟩
            case measure => simp [intOf]; omega
      · rcases hprev with rfl | ⟨j, K', A', rfl, p0, p2, hAA, hpk⟩
        · have hfirst : True := trivial
          as_aux_lemma =>
            obtain rfl : X = [] := hbare (by omega)
            rw [show bs [] = (⟨#[]⟩ : ByteArray) from rfl] at y1
            simp only [Nat.zero_mul, Nat.zero_add] at y0 y1 y2
            have hin0 : (0 : Int) < (n : Int) := by omega
            have hin1 : 0 < n := by omega
            have hdd : d' = d + 1 := by simpa using hds
            have hneg : ¬ d + 1 < 0 := by omega
            clear hbare hnm hwd htl hds h9m
            have hal2 : Below Wf.heap.size Wf (wr.alloc (.cells #[.int .i64 7, .string ⟨#[]⟩, .int .i64 A] 35 (0, 0))) := HB.out.alloc HB.out.size _
            have t0 : (wr.alloc (.cells #[.int .i64 7, .string ⟨#[]⟩, .int .i64 A] 35 (0, 0))).cell? ⟨wr.heap.size, 0, none⟩ = some (.int .i64 7) := cells_new wr _ _ _ 0
            have t1 : (wr.alloc (.cells #[.int .i64 7, .string ⟨#[]⟩, .int .i64 A] 35 (0, 0))).cell? ⟨wr.heap.size, 1, none⟩ = some (.string ⟨#[]⟩) := cells_new wr _ _ _ 1
            have t2 : (wr.alloc (.cells #[.int .i64 7, .string ⟨#[]⟩, .int .i64 A] 35 (0, 0))).cell? ⟨wr.heap.size, 2, none⟩ = some (.int .i64 A) := cells_new wr _ _ _ 2
            go_wp2_with fail
            obtain ⟨V0, hV0⟩ : ∃ W, W = (wr.alloc (.cells #[.int .i64 7, .string ⟨#[]⟩, .int .i64 A] 35 (0, 0))) := ⟨_, rfl⟩
            rw [← hV0] at t0 t1 t2 hal2 ⊢
            have hV0B : Below Wf.heap.size Wf V0 := hal2
            clear hV0 hal2 y0 y1 y2
            refine wp_region_quiet_lit Tryd.mixed Tryd.shape14 ?_
            repeat (go_big_quiet_step (fail))
            refine wpQuiet_nil ?_
            intro _ hw9
            obtain ⟨nq, hw8⟩ := hw9
            subst hw8
            have s0 : (V0.drewN nq).cell? ⟨wr.heap.size, 0, none⟩ = some (.int .i64 7) := t0
            have s1 : (V0.drewN nq).cell? ⟨wr.heap.size, 1, none⟩ = some (.string ⟨#[]⟩) := t1
            have s2 : (V0.drewN nq).cell? ⟨wr.heap.size, 2, none⟩ = some (.int .i64 A) := t2
            have hV1 : Below Wf.heap.size Wf (V0.drewN nq) := below_drewN hV0B nq
            obtain ⟨V1, hW⟩ : ∃ W, W = V0.drewN nq := ⟨_, rfl⟩
            rw [← hW] at s0 s1 s2 hV1 ⊢
            clear hW hV0B t0 t1 t2
            go_wp2_with fail
            go_roundw
            case rel => exact ⟨1, by rw [Hd'.out, hdd] <;> go_num, by go_num, by omega, hV1⟩
            case measure => simp [intOf]; omega
        · have hnext : True := trivial
          as_aux_lemma =>
            obtain rfl : X = [] := hbare (by omega)
            rw [show bs [] = (⟨#[]⟩ : ByteArray) from rfl] at y1
            have hj0 : (0 : Int) ≤ (j : Int) := by omega
            have hjn : (j : Int) < (n : Int) := by omega
            have hwrj : IntKind.i64.wrap (j : Int) = (j : Int) := IntWalk.i64_in _ (by omega)
            have hsubj : IntKind.i64.wrap ((j : Int) + 1 - 1) = (j : Int) := by rw [IntWalk.i64_in _ (by omega)]; omega
            have hdd : d' = d + 1 := by simpa using hds
            have hneg : ¬ d + 1 < 0 := by omega
            have hAlt2 : ¬ (A : Int) < (A' : Int) := by omega
            have hAlt3 : ¬ A < A' := by omega
            have hgt2 : (0 : Int) < (j : Int) + 1 := by omega
            have hAlt : decide ((A : Int) < (A' : Int)) = false := by simp; omega
            have hgt : decide ((0 : Int) < (j : Int) + 1) = true := by rw [decide_eq_true_eq]; omega
            clear hbare hnm hwd htl hds h9m hpk
            have hal2 : Below Wf.heap.size Wf (wr.alloc (.cells #[.int .i64 7, .string ⟨#[]⟩, .int .i64 A] 35 (0, 0))) := HB.out.alloc HB.out.size _
            have t0 : (wr.alloc (.cells #[.int .i64 7, .string ⟨#[]⟩, .int .i64 A] 35 (0, 0))).cell? ⟨wr.heap.size, 0, none⟩ = some (.int .i64 7) := cells_new wr _ _ _ 0
            have t1 : (wr.alloc (.cells #[.int .i64 7, .string ⟨#[]⟩, .int .i64 A] 35 (0, 0))).cell? ⟨wr.heap.size, 1, none⟩ = some (.string ⟨#[]⟩) := cells_new wr _ _ _ 1
            have t2 : (wr.alloc (.cells #[.int .i64 7, .string ⟨#[]⟩, .int .i64 A] 35 (0, 0))).cell? ⟨wr.heap.size, 2, none⟩ = some (.int .i64 A) := cells_new wr _ _ _ 2
            have hgwr : g < wr.heap.size := Nat.lt_of_lt_of_le hgW HB.out.size
            have tp : (wr.alloc (.cells #[.int .i64 7, .string ⟨#[]⟩, .int .i64 A] 35 (0, 0))).cell? ⟨g, j * 3, none⟩ = some (.int .i64 K') := (((Below.refl _ wr).alloc (Nat.le_refl _) _).cell (p := ⟨g, j * 3, none⟩) hgwr).trans p0
            have tq : (wr.alloc (.cells #[.int .i64 7, .string ⟨#[]⟩, .int .i64 A] 35 (0, 0))).cell? ⟨g, j * 3 + 2, none⟩ = some (.int .i64 A') := (((Below.refl _ wr).alloc (Nat.le_refl _) _).cell (p := ⟨g, j * 3 + 2, none⟩) hgwr).trans p2
            go_wp2_with fail
            obtain ⟨V0, hV0⟩ : ∃ W, W = (wr.alloc (.cells #[.int .i64 7, .string ⟨#[]⟩, .int .i64 A] 35 (0, 0))) := ⟨_, rfl⟩
            rw [← hV0] at t0 t1 t2 hal2 tp tq ⊢
            have hV0B : Below Wf.heap.size Wf V0 := hal2
            clear hV0 hal2 y0 y1 y2 p0 p2
            refine wp_region_quiet_lit Tryd.mixed Tryd.shape14 ?_
            repeat (go_big_quiet_step (fail))
            refine wpQuiet_nil ?_
            intro _ hw9
            obtain ⟨nq, hw8⟩ := hw9
            subst hw8
            have s0 : (V0.drewN nq).cell? ⟨wr.heap.size, 0, none⟩ = some (.int .i64 7) := t0
            have s1 : (V0.drewN nq).cell? ⟨wr.heap.size, 1, none⟩ = some (.string ⟨#[]⟩) := t1
            have s2 : (V0.drewN nq).cell? ⟨wr.heap.size, 2, none⟩ = some (.int .i64 A) := t2
            have sp : (V0.drewN nq).cell? ⟨g, j * 3, none⟩ = some (.int .i64 K') := tp
            have sq : (V0.drewN nq).cell? ⟨g, j * 3 + 2, none⟩ = some (.int .i64 A') := tq
            have hV1 : Below Wf.heap.size Wf (V0.drewN nq) := below_drewN hV0B nq
            obtain ⟨V1, hW⟩ : ∃ W, W = V0.drewN nq := ⟨_, rfl⟩
            rw [← hW] at s0 s1 s2 sp sq hV1 ⊢
            clear hW hV0B t0 t1 t2 tp tq
            go_wp2_with fail
            go_roundw
            case rel => exact ⟨(j + 1 + 1), by rw [Hd'.out, hdd] <;> go_num, by go_num, by omega, hV1⟩
            case measure => simp [intOf]; omega
      · rcases hprev with rfl | ⟨j, K', A', rfl, p0, p2, hAA, hpk⟩
        · have hfirst : True := trivial
          exfalso
          have hdd : d' = d + -1 := by simpa using hds
          omega
        · have hnext : True := trivial
          as_aux_lemma =>
            obtain rfl : X = [] := hbare (by omega)
            rw [show bs [] = (⟨#[]⟩ : ByteArray) from rfl] at y1
            have hj0 : (0 : Int) ≤ (j : Int) := by omega
            have hjn : (j : Int) < (n : Int) := by omega
            have hwrj : IntKind.i64.wrap (j : Int) = (j : Int) := IntWalk.i64_in _ (by omega)
            have hsubj : IntKind.i64.wrap ((j : Int) + 1 - 1) = (j : Int) := by rw [IntWalk.i64_in _ (by omega)]; omega
            have hdd : d' = d + -1 := by simpa using hds
            have hneg : ¬ d - 1 < 0 := by omega
            have hneg2 : ¬ d + -1 < 0 := by omega
            have hAlt2 : ¬ (A : Int) < (A' : Int) := by omega
            have hAlt3 : ¬ A < A' := by omega
            have hgt2 : (0 : Int) < (j : Int) + 1 := by omega
            have hAlt : decide ((A : Int) < (A' : Int)) = false := by simp; omega
            have hgt : decide ((0 : Int) < (j : Int) + 1) = true := by rw [decide_eq_true_eq]; omega
            clear hbare hnm hwd htl hds h9m hpk
            have hal2 : Below Wf.heap.size Wf (wr.alloc (.cells #[.int .i64 8, .string ⟨#[]⟩, .int .i64 A] 35 (0, 0))) := HB.out.alloc HB.out.size _
            have t0 : (wr.alloc (.cells #[.int .i64 8, .string ⟨#[]⟩, .int .i64 A] 35 (0, 0))).cell? ⟨wr.heap.size, 0, none⟩ = some (.int .i64 8) := cells_new wr _ _ _ 0
            have t1 : (wr.alloc (.cells #[.int .i64 8, .string ⟨#[]⟩, .int .i64 A] 35 (0, 0))).cell? ⟨wr.heap.size, 1, none⟩ = some (.string ⟨#[]⟩) := cells_new wr _ _ _ 1
            have t2 : (wr.alloc (.cells #[.int .i64 8, .string ⟨#[]⟩, .int .i64 A] 35 (0, 0))).cell? ⟨wr.heap.size, 2, none⟩ = some (.int .i64 A) := cells_new wr _ _ _ 2
            have hgwr : g < wr.heap.size := Nat.lt_of_lt_of_le hgW HB.out.size
            have tp : (wr.alloc (.cells #[.int .i64 8, .string ⟨#[]⟩, .int .i64 A] 35 (0, 0))).cell? ⟨g, j * 3, none⟩ = some (.int .i64 K') := (((Below.refl _ wr).alloc (Nat.le_refl _) _).cell (p := ⟨g, j * 3, none⟩) hgwr).trans p0
            have tq : (wr.alloc (.cells #[.int .i64 8, .string ⟨#[]⟩, .int .i64 A] 35 (0, 0))).cell? ⟨g, j * 3 + 2, none⟩ = some (.int .i64 A') := (((Below.refl _ wr).alloc (Nat.le_refl _) _).cell (p := ⟨g, j * 3 + 2, none⟩) hgwr).trans p2
            go_wp2_with fail
            obtain ⟨V0, hV0⟩ : ∃ W, W = (wr.alloc (.cells #[.int .i64 8, .string ⟨#[]⟩, .int .i64 A] 35 (0, 0))) := ⟨_, rfl⟩
            rw [← hV0] at t0 t1 t2 hal2 tp tq ⊢
            have hV0B : Below Wf.heap.size Wf V0 := hal2
            clear hV0 hal2 y0 y1 y2 p0 p2
            refine wp_region_quiet_lit Tryd.mixed Tryd.shape14 ?_
            repeat (go_big_quiet_step (fail))
            refine wpQuiet_nil ?_
            intro _ hw9
            obtain ⟨nq, hw8⟩ := hw9
            subst hw8
            have s0 : (V0.drewN nq).cell? ⟨wr.heap.size, 0, none⟩ = some (.int .i64 8) := t0
            have s1 : (V0.drewN nq).cell? ⟨wr.heap.size, 1, none⟩ = some (.string ⟨#[]⟩) := t1
            have s2 : (V0.drewN nq).cell? ⟨wr.heap.size, 2, none⟩ = some (.int .i64 A) := t2
            have sp : (V0.drewN nq).cell? ⟨g, j * 3, none⟩ = some (.int .i64 K') := tp
            have sq : (V0.drewN nq).cell? ⟨g, j * 3 + 2, none⟩ = some (.int .i64 A') := tq
            have hV1 : Below Wf.heap.size Wf (V0.drewN nq) := below_drewN hV0B nq
            obtain ⟨V1, hW⟩ : ∃ W, W = V0.drewN nq := ⟨_, rfl⟩
            rw [← hW] at s0 s1 s2 sp sq hV1 ⊢
            clear hW hV0B t0 t1 t2 tp tq
            go_wp2_with fail
            go_roundw
            case rel => exact ⟨(j + 1 + 1), by rw [Hd'.out, hdd] <;> go_num, by go_num, by omega, hV1⟩
            case measure => simp [intOf]; omega
      · rcases hprev with rfl | ⟨j, K', A', rfl, p0, p2, hAA, hpk⟩
        · have hfirst : True := trivial
          as_aux_lemma =>
            obtain rfl : X = [] := hbare (by omega)
            rw [show bs [] = (⟨#[]⟩ : ByteArray) from rfl] at y1
            have hend : decide ((0 : Int) + 1 < (n : Int)) = false := by have := h9m rfl; rw [decide_eq_false_iff_not]; omega
            have hend2 : ¬ (0 : Int) + 1 < (n : Int) := by have := h9m rfl; omega
            simp only [Nat.zero_mul, Nat.zero_add] at y0 y1 y2
            have hin0 : (0 : Int) < (n : Int) := by omega
            have hin1 : 0 < n := by omega
            have hdd : d' = d := by simpa using hds
            have hneg : ¬ d < 0 := by omega
            clear hbare hnm hwd htl hds h9m
            have hal2 : Below Wf.heap.size Wf (wr.alloc (.cells #[.int .i64 9, .string ⟨#[]⟩, .int .i64 A] 35 (0, 0))) := HB.out.alloc HB.out.size _
            have t0 : (wr.alloc (.cells #[.int .i64 9, .string ⟨#[]⟩, .int .i64 A] 35 (0, 0))).cell? ⟨wr.heap.size, 0, none⟩ = some (.int .i64 9) := cells_new wr _ _ _ 0
            have t1 : (wr.alloc (.cells #[.int .i64 9, .string ⟨#[]⟩, .int .i64 A] 35 (0, 0))).cell? ⟨wr.heap.size, 1, none⟩ = some (.string ⟨#[]⟩) := cells_new wr _ _ _ 1
            have t2 : (wr.alloc (.cells #[.int .i64 9, .string ⟨#[]⟩, .int .i64 A] 35 (0, 0))).cell? ⟨wr.heap.size, 2, none⟩ = some (.int .i64 A) := cells_new wr _ _ _ 2
            go_wp2_with fail
            obtain ⟨V0, hV0⟩ : ∃ W, W = (wr.alloc (.cells #[.int .i64 9, .string ⟨#[]⟩, .int .i64 A] 35 (0, 0))) := ⟨_, rfl⟩
            rw [← hV0] at t0 t1 t2 hal2 ⊢
            have hV0B : Below Wf.heap.size Wf V0 := hal2
            clear hV0 hal2 y0 y1 y2
            refine wp_region_quiet_lit Tryd.mixed Tryd.shape14 ?_
            repeat (go_big_quiet_step (fail))
            refine wpQuiet_nil ?_
            intro _ hw9
            obtain ⟨nq, hw8⟩ := hw9
            subst hw8
            have s0 : (V0.drewN nq).cell? ⟨wr.heap.size, 0, none⟩ = some (.int .i64 9) := t0
            have s1 : (V0.drewN nq).cell? ⟨wr.heap.size, 1, none⟩ = some (.string ⟨#[]⟩) := t1
            have s2 : (V0.drewN nq).cell? ⟨wr.heap.size, 2, none⟩ = some (.int .i64 A) := t2
            have hV1 : Below Wf.heap.size Wf (V0.drewN nq) := below_drewN hV0B nq
            obtain ⟨V1, hW⟩ : ∃ W, W = V0.drewN nq := ⟨_, rfl⟩
            rw [← hW] at s0 s1 s2 hV1 ⊢
            clear hW hV0B t0 t1 t2
            go_wp2_with fail
            go_roundw
            case rel => exact ⟨1, by rw [Hd'.out, hdd] <;> go_num, by go_num, by omega, hV1⟩
            case measure => simp [intOf]; omega
        · have hnext : True := trivial
          as_aux_lemma =>
            obtain rfl : X = [] := hbare (by omega)
            rw [show bs [] = (⟨#[]⟩ : ByteArray) from rfl] at y1
            have hend : decide ((((j : Int) + 1) : Int) + 1 < (n : Int)) = false := by have := h9m rfl; rw [decide_eq_false_iff_not]; omega
            have hend2 : ¬ (((j : Int) + 1) : Int) + 1 < (n : Int) := by have := h9m rfl; omega
            have hj0 : (0 : Int) ≤ (j : Int) := by omega
            have hjn : (j : Int) < (n : Int) := by omega
            have hwrj : IntKind.i64.wrap (j : Int) = (j : Int) := IntWalk.i64_in _ (by omega)
            have hsubj : IntKind.i64.wrap ((j : Int) + 1 - 1) = (j : Int) := by rw [IntWalk.i64_in _ (by omega)]; omega
            have hdd : d' = d := by simpa using hds
            have hneg : ¬ d < 0 := by omega
            have hAlt2 : ¬ (A : Int) < (A' : Int) := by omega
            have hAlt3 : ¬ A < A' := by omega
            have hgt2 : (0 : Int) < (j : Int) + 1 := by omega
            have hAlt : decide ((A : Int) < (A' : Int)) = false := by simp; omega
            have hgt : decide ((0 : Int) < (j : Int) + 1) = true := by rw [decide_eq_true_eq]; omega
            clear hbare hnm hwd htl hds h9m hpk
            have hal2 : Below Wf.heap.size Wf (wr.alloc (.cells #[.int .i64 9, .string ⟨#[]⟩, .int .i64 A] 35 (0, 0))) := HB.out.alloc HB.out.size _
            have t0 : (wr.alloc (.cells #[.int .i64 9, .string ⟨#[]⟩, .int .i64 A] 35 (0, 0))).cell? ⟨wr.heap.size, 0, none⟩ = some (.int .i64 9) := cells_new wr _ _ _ 0
            have t1 : (wr.alloc (.cells #[.int .i64 9, .string ⟨#[]⟩, .int .i64 A] 35 (0, 0))).cell? ⟨wr.heap.size, 1, none⟩ = some (.string ⟨#[]⟩) := cells_new wr _ _ _ 1
            have t2 : (wr.alloc (.cells #[.int .i64 9, .string ⟨#[]⟩, .int .i64 A] 35 (0, 0))).cell? ⟨wr.heap.size, 2, none⟩ = some (.int .i64 A) := cells_new wr _ _ _ 2
            have hgwr : g < wr.heap.size := Nat.lt_of_lt_of_le hgW HB.out.size
            have tp : (wr.alloc (.cells #[.int .i64 9, .string ⟨#[]⟩, .int .i64 A] 35 (0, 0))).cell? ⟨g, j * 3, none⟩ = some (.int .i64 K') := (((Below.refl _ wr).alloc (Nat.le_refl _) _).cell (p := ⟨g, j * 3, none⟩) hgwr).trans p0
            have tq : (wr.alloc (.cells #[.int .i64 9, .string ⟨#[]⟩, .int .i64 A] 35 (0, 0))).cell? ⟨g, j * 3 + 2, none⟩ = some (.int .i64 A') := (((Below.refl _ wr).alloc (Nat.le_refl _) _).cell (p := ⟨g, j * 3 + 2, none⟩) hgwr).trans p2
            go_wp2_with fail
            obtain ⟨V0, hV0⟩ : ∃ W, W = (wr.alloc (.cells #[.int .i64 9, .string ⟨#[]⟩, .int .i64 A] 35 (0, 0))) := ⟨_, rfl⟩
            rw [← hV0] at t0 t1 t2 hal2 tp tq ⊢
            have hV0B : Below Wf.heap.size Wf V0 := hal2
            clear hV0 hal2 y0 y1 y2 p0 p2
            refine wp_region_quiet_lit Tryd.mixed Tryd.shape14 ?_
            repeat (go_big_quiet_step (fail))
            refine wpQuiet_nil ?_
            intro _ hw9
            obtain ⟨nq, hw8⟩ := hw9
            subst hw8
            have s0 : (V0.drewN nq).cell? ⟨wr.heap.size, 0, none⟩ = some (.int .i64 9) := t0
            have s1 : (V0.drewN nq).cell? ⟨wr.heap.size, 1, none⟩ = some (.string ⟨#[]⟩) := t1
            have s2 : (V0.drewN nq).cell? ⟨wr.heap.size, 2, none⟩ = some (.int .i64 A) := t2
            have sp : (V0.drewN nq).cell? ⟨g, j * 3, none⟩ = some (.int .i64 K') := tp
            have sq : (V0.drewN nq).cell? ⟨g, j * 3 + 2, none⟩ = some (.int .i64 A') := tq
            have hV1 : Below Wf.heap.size Wf (V0.drewN nq) := below_drewN hV0B nq
            obtain ⟨V1, hW⟩ : ∃ W, W = V0.drewN nq := ⟨_, rfl⟩
            rw [← hW] at s0 s1 s2 sp sq hV1 ⊢
            clear hW hV0B t0 t1 t2 tp tq
            go_wp2_with fail
            go_roundw
            case rel => exact ⟨(j + 1 + 1), by rw [Hd'.out, hdd] <;> go_num, by go_num, by omega, hV1⟩
            case measure => simp [intOf]; omega
    · obtain rfl : i = n := by omega
      have hinI : ¬ (i : Int) < (i : Int) := by omega
      have hfin : depth (l.take i) = 0 := by rw [← HSH.out.whole, List.take_of_length_le (by rw [HN.out]; exact Nat.le_refl _)]
      rw [hfin]
      clear hbw
      go_wp2_with fail
      refine (Tryd.awake13_any _ (Tryd.Tabs_below HT.out (HB1.out.trans (HB.out.mono (by have := HB1.out.size; exact this))) (Nat.le_refl _))).mono ?_
      rintro e W9 ⟨rfl, b9⟩
      have HB9 := Lib.hid ((HB1.out.trans (HB.out.mono HB1.out.size)).trans (b9.mono (Nat.le_trans HB1.out.size HB.out.size)))
      clear b9
      go_wp2_with fail
      go_ret
      exact ⟨rfl, HB9.out⟩

set_option maxHeartbeats 2000000 in
set_option maxRecDepth 100000 in
/-- LexerShape, whole. -/
theorem Tryd.lexerShape_any (a : Option Addr) (cap : Nat) (s : ByteArray) (w : World) (hb : BsIn w a s) (hs : s.size ≤ 9223372036854775807) (hcap : s.size ≤ cap) (hT : Tryd.Tabs w) :
    Calls Tryd.prog 6 #[.slice a s.size cap] w fun e w' => e = .returned (.bool true) ∧ Below w.heap.size w w' := by
  by_cases h7 : 70000 < s.size
  · have h7I : (70000 : Int) < (s.size : Int) := by omega
    have H := Lib.hid (Tryd.awake13_any w hT)
    go_enter Tryd.func6, Tryd.ntmps6
    go_wp2_with fail
    refine H.out.mono ?_
    rintro e W1 ⟨rfl, b1⟩
    go_wp2_with fail
    go_ret
    exact ⟨rfl, b1⟩
  · cases hR : lex s.data.toList with
    | ok l => exact Tryd.shape_yes a cap s w hb hcap (by omega) hT l hR
    | error ca => obtain ⟨c1, a1⟩ := ca; exact Tryd.shape_no a cap s w hb (by omega) hT c1 a1 hR
end Go.Proofs
