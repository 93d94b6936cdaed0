/-
  Walks: indent, the way that ends blocks; indent whole.
-/
import Derived.Test.YtdbkibnplilogaaDoorLxN
set_option linter.unusedVariables false
namespace Go.Proofs
open Go.RowKit Go.Lx Go.Lt

theorem ownsRow_less {w : World} {B e g n cap : Nat} {a : Option Addr} {xs ys : List Value} {y : Value} (h : w.ownsRow B e 1 (.slice a (n + 1) cap) (n + 1) xs) (hx : xs = ys ++ [y]) :
    ∃ g, a = some ⟨g, 0, none⟩ ∧ w.ownsRow B e 1 (.slice (some ⟨g, 0, none⟩) n cap) n ys := by
  have hl := h.1
  rw [hx, List.length_append] at hl
  have hyl : ys.length = n := by simp at hl; omega
  rcases h.2 with ⟨h1, _⟩ | ⟨g, cap', cur, hv, hbg, hg, h1, h2, h3, h4⟩
  · cases h1
  · obtain ⟨rfl, -, rfl⟩ : a = some ⟨g, 0, none⟩ ∧ n + 1 = n + 1 ∧ cap = cap' := by simpa using hv
    refine ⟨g, rfl, by rw [hyl]; omega, .inr ⟨g, cap, cur, rfl, hbg, hg, by omega, h2, h3, ?_⟩⟩
    have := congrArg (List.take n) h4
    rw [List.take_take, hx] at this
    simp only [Nat.mul_one] at this
    rw [show min n (n + 1) = n by omega] at this
    rw [Nat.mul_one, this, ← hyl, List.take_left]

/-- The last depth off the row, and the shorter row in the struct. -/
theorem Tryd.lex_pop {B b : Nat} {s : ByteArray} {st : St} {lv bv : Value} {w : World} {d : Nat} {ds : List Nat} (h : Tryd.LexV B b s st lv bv w) (hd : st.deep = d :: ds) :
    ∃ g cap, bv = .slice (some ⟨g, 0, none⟩) (ds.length + 1) cap ∧ ds.length + 1 ≤ cap ∧ ∀ w' : World, w'.heap = w.heap → Tryd.LexV B b s { st with deep := ds } lv (.slice (some ⟨g, 0, none⟩) ds.length cap) (w'.setCell ⟨b, 4, none⟩ (.slice (some ⟨g, 0, none⟩) ds.length cap)) := by
  obtain ⟨hBb, h2, h3, h4, n1, n2, n3⟩ := h
  rw [hd, List.length_cons] at h4
  obtain ⟨A, cap, rfl, _⟩ := row_open_s h4
  obtain ⟨g, rfl, h6⟩ := ownsRow_less (g := 0) h4 (natCells_snoc d ds)
  have hcap : ds.length + 1 ≤ cap := by
    rcases h4.2 with ⟨h, _⟩ | ⟨g', cap', cur, hv, _, _, hc, _⟩
    · cases h
    · simp at hv; omega
  refine ⟨g, cap, rfl, hcap, fun w' hw => ?_⟩
  have o3 : ∀ (k : Nat) (u : Value), k ≠ b → (w'.setCell ⟨b, 4, none⟩ u).heap[k]? = w.heap[k]? := fun k u hk => by rw [Below.heap_setCell w' ⟨b, 4, none⟩ u k hk, hw]
  have h2' : w'.heap[b]? = some (.cells #[.string s, .int .i64 st.pos, lv, .int .i64 st.opn, .slice (some ⟨g, 0, none⟩) (ds.length + 1) cap] 50 (0, 0)) := by rw [hw]; exact h2
  exact ⟨hBb, setCell_heap h2' _, ownsRow_keep h3 (fun k hk => o3 k _ (fun e => n1 (by rw [hk, e]))), ownsRow_keep h6 (fun k hk => o3 k _ (fun e => n2 (by rw [← e]; exact hk))), n1, n2, n3⟩

def Tryd.mdeep (b : Nat) (w : World) : Nat := match w.cell? ⟨b, 4, none⟩ with | some (.slice _ n _) => n | _ => 0
theorem Tryd.LexX.mdeep {B b x : Nat} {s : ByteArray} {st : St} {w : World} (h : Tryd.LexX B b x s st w) : Tryd.mdeep b w = st.deep.length := by
  obtain ⟨_, bv, h4, g, cap, rfl⟩ := h.cells
  unfold Tryd.mdeep; rw [h4]

theorem pops_no (n a d : Nat) (ds : List Nat) (t : List Tok) (h : ¬ n < d) : pops n a (d :: ds) t = (d :: ds, t) := by unfold pops; rw [if_neg h]
theorem pops_yes (n a d : Nat) (ds : List Nat) (t : List Tok) (h : n < d) : pops n a (d :: ds) t = pops n a ds (t ++ [⟨8, [], a⟩]) := by rw [pops, if_pos h]

set_option maxHeartbeats 8000000 in
set_option maxRecDepth 100000 in
theorem Tryd.indent_pop (B b : Nat) (s : ByteArray) (st : St) (n d : Nat) (ds : List Nat) (w : World) (h : Tryd.LexAt B b s st w) (hd : st.deep = d :: ds) (hbot : st.deep.getLast? = some 0) (hl : st.toks.length + st.deep.length ≤ 1000000) (hn : ¬ d < n) :
    Calls Tryd.prog 26 #[.pointer (some ⟨b, 0, none⟩), .int .i64 n] w
      (Tryd.LexOut B b s w (if (pops n st.pos st.deep st.toks).1.headD 0 = n then .ok { st with toks := (pops n st.pos st.deep st.toks).2, deep := (pops n st.pos st.deep st.toks).1 } else .error (103, st.pos))) := by
  obtain ⟨PP, hPP⟩ : ∃ p, pops n st.pos st.deep st.toks = p := ⟨_, rfl⟩
  rw [hPP]
  obtain ⟨RES, hRES⟩ : ∃ r, (if PP.1.headD 0 = n then Except.ok { st with toks := PP.2, deep := PP.1 } else Except.error (103, st.pos) : Res St) = r := ⟨_, rfl⟩
  rw [hRES]
  have HRES := Lib.hid hRES
  have HPP := Lib.hid hPP
  obtain ⟨hbox, hbb⟩ := h.box (.cells #[.pointer (some ⟨b, 0, none⟩)] 48 (0, 0))
  have H := Lib.hid hbox
  have hcx : (w.alloc (.cells #[.pointer (some ⟨b, 0, none⟩)] 48 (0, 0))).cell? ⟨w.heap.size, 0, none⟩ = some (.pointer (some ⟨b, 0, none⟩)) := cells_new w _ _ _ 0
  have HC := Lib.hid hcx
  have hnI : decide ((d : Int) < (n : Int)) = false := by simp; omega
  have HD := Lib.hid hd
  have HBt := Lib.hid hbot
  have HL := Lib.hid hl
  clear h hbox hcx hd hRES hPP hbot
  go_enter Tryd.func26, Tryd.ntmps26
  go_wp2_with fail
  refine (Tryd.last_any B b w.heap.size s st d ds _ H.out.at_ HD.out HC.out (by omega)).mono ?_
  rintro e W1 ⟨rfl, nq, rfl⟩
  have H1 := Lib.hid (H.out.drewN nq)
  have hb1 := below_drewN hbb nq
  have e0 : ((w.alloc (.cells #[.pointer (some ⟨b, 0, none⟩)] 48 (0, 0))).drewN nq).cell? ⟨w.heap.size, 0, none⟩ = some (.pointer (some ⟨b, 0, none⟩)) := HC.out
  obtain ⟨W2, hW2⟩ : ∃ W, W = (w.alloc (.cells #[.pointer (some ⟨b, 0, none⟩)] 48 (0, 0))).drewN nq := ⟨_, rfl⟩
  rw [← hW2] at H1 hb1 e0 ⊢
  clear hW2 H HC hbb hl
  go_wp2
  go_loopw [] (fun wr => ∃ (st' : St) (d' : Nat) (ds' : List Nat), Tryd.LexX B b w.heap.size s st' wr ∧ wr.cell? ⟨w.heap.size, 0, none⟩ = some (.pointer (some ⟨b, 0, none⟩)) ∧ Below B w wr ∧ Hid (st'.deep = d' :: ds') ∧ Hid (st'.pos = st.pos) ∧ Hid (st'.opn = st.opn) ∧ Hid ((d' :: ds').getLast? = some 0) ∧ Hid (pops n st.pos (d' :: ds') st'.toks = PP) ∧ Hid (st'.toks.length + (d' :: ds').length ≤ 1000000)) (fun wr => Tryd.mdeep b wr)
  case atStart => exact ⟨st, d, ds, H1.out, e0, hb1, HD.out, rfl, rfl, by rw [← HD.out]; exact HBt.out, by rw [← HD.out]; exact HPP.out, by rw [← HD.out]; exact HL.out⟩
  case round =>
    clear H1 e0 hb1 HD HBt HL HPP hnI hn
    obtain ⟨st', d', ds', hX, hbx, hbw, hD, hP, hO, hB0, hPo, hLe⟩ := hrel
    have HX := Lib.hid hX
    have HBX := Lib.hid hbx
    have hlen : Hid (st'.deep.length ≤ 1000000) := by show _ ≤ _; have := hLe.out; rw [hD.out]; omega
    clear hX hbx
    by_cases hlt : n < d'
    · have hltI : decide ((n : Int) < (d' : Int)) = true := by simp; omega
      obtain ⟨d2, ds2, hds⟩ : ∃ d2 ds2, ds' = d2 :: ds2 := by
        cases ds' with
        | nil =>
          have := hB0.out
          simp at this
          omega
        | cons a2 l2 => exact Exists.intro a2 (Exists.intro l2 rfl)
      have hPo2 : Hid (pops n st.pos (d2 :: ds2) (st'.toks ++ [⟨8, [], st.pos⟩]) = PP) := by
        show _ = _; rw [← hPo.out, pops_yes _ _ _ _ _ hlt, hds]
      have hB2 : Hid ((d2 :: ds2).getLast? = some 0) := by
        have := hB0.out
        rw [hds] at this
        show _ = _; rw [← this, List.getLast?_cons_cons]
      have hLe2 : Hid ((st'.toks ++ ([⟨8, [], st.pos⟩] : List Tok)).length + (d2 :: ds2).length ≤ 1000000) := by
        have := hLe.out
        rw [hds] at this
        show _ ≤ _
        simp only [List.length_append, List.length_cons, List.length_nil] at this ⊢; omega
      have htl : st'.toks.length ≤ 1000000 := by have := hLe.out; omega
      have Hds := Lib.hid hds
      have Hlt := Lib.hid hlt
      clear hlt hds
      go_wp2_with fail
      refine (Tryd.last_any B b w.heap.size s st' d' ds' _ HX.out.at_ hD.out HBX.out hlen.out).mono ?_
      rintro e W3 ⟨rfl, nq3, rfl⟩
      have H3 := Lib.hid (HX.out.drewN nq3)
      have hb3 := below_drewN hbw nq3
      have e3 : (wr.drewN nq3).cell? ⟨w.heap.size, 0, none⟩ = some (.pointer (some ⟨b, 0, none⟩)) := HBX.out
      obtain ⟨W4, hW4⟩ : ∃ W, W = wr.drewN nq3 := ⟨_, rfl⟩
      rw [← hW4] at H3 hb3 e3 ⊢
      obtain ⟨d1, bv, d4, g, cap, rfl⟩ := H3.out.cells
      rw [hP.out] at d1
      clear hW4
      go_wp2_with fail
      go_still_tail 5, (by kernel_rfl)
      change wpList _ _ _ _ _ W4.drew
      have hb4 : Below B w W4.drew := hb3.drew
      have H4 := Lib.hid (H3.out.drewN 1)
      have E4 : Hid (W4.drew.cell? ⟨w.heap.size, 0, none⟩ = some (.pointer (some ⟨b, 0, none⟩))) := e3
      obtain ⟨W5, hW5⟩ : ∃ W, W = W4.drew := ⟨_, rfl⟩
      have hW5' : W5 = W4.drewN 1 := hW5
      rw [← hW5'] at H4
      rw [← hW5] at hb4 E4 ⊢
      clear hW5 hW5' e3 d1 d4
      go_wp2_with fail
      refine (Tryd.put_x B b w.heap.size s st' 8 st.pos ⟨#[]⟩ _ H4.out (by decide) htl).mono ?_
      rintro e W6 ⟨rfl, H6, b6, hx6⟩
      have hb6 := hb4.trans b6
      have e6 : W6.cell? ⟨w.heap.size, 0, none⟩ = some (.pointer (some ⟨b, 0, none⟩)) := (World.cell?_of_block (a := ⟨w.heap.size, 0, none⟩) hx6).trans E4.out
      obtain ⟨lv7, bv7, hV7, x1, x2, x3, x4⟩ := H6
      obtain ⟨_, _, _, _, c74, _, _, f74⟩ := hV7.cells
      obtain ⟨g7, cap7, rfl, hcap7, hpop⟩ := Tryd.lex_pop hV7 (d := d') (ds := ds') hD.out
      have Hpop := Lib.hid hpop
      have Hx := Lib.hid (And.intro x1 (And.intro x2 (And.intro x3 x4)))
      have hBb := hV7.1
      have hds1 : ds'.length ≤ 1000000 := by have := hLe.out; rw [List.length_cons] at this; omega
      have hsub : IntKind.i64.wrap (((ds'.length + 1 : Nat) : Int) - 1) = (ds'.length : Int) := by rw [IntWalk.i64_in _ (by omega)]; omega
      have hwr : IntKind.i64.wrap (ds'.length : Int) = (ds'.length : Int) := IntWalk.i64_in _ (by omega)
      have hi0 : (0 : Int) ≤ (ds'.length : Int) := by omega
      have hi1 : (ds'.length : Int) ≤ (cap7 : Int) := by omega
      have hi2 : ds'.length ≤ cap7 := by omega
      have hsl : ∀ W : World, (Instr.slice 37 (.slice (some ⟨g7, 0, none⟩) (ds'.length + 1) cap7) none (some (.int .i64 (ds'.length : Int))) none).run Tryd.prog W = .ok (.slice (some ⟨g7, 0, none⟩) ds'.length cap7) W := by
        intro W
        rw [run_slice_h W 37 (some ⟨g7, 0, none⟩) (ds'.length + 1) cap7 (ht := by rw [Tryd.underlying37]; rfl) .i64 _ (by omega) (by omega)]
        simp [go_sem, sliced]
      clear hV7 hpop x1 x2 x3 x4 hx6
      go_wp2_with fail
      go_still_tail 14, (by kernel_rfl)
      change wpList _ _ _ _ _ W6.drew
      have hV8 := Lib.hid (Hpop.out W6.drew rfl)
      have hb8 : Below B w (W6.drew.setCell ⟨b, 4, none⟩ (.slice (some ⟨g7, 0, none⟩) ds'.length cap7)) := hb6.drew.setCell (p := ⟨b, 4, none⟩) hBb _
      have hx8 : Hid ((W6.drew.setCell ⟨b, 4, none⟩ (.slice (some ⟨g7, 0, none⟩) ds'.length cap7)).cell? ⟨w.heap.size, 0, none⟩ = some (.pointer (some ⟨b, 0, none⟩))) := by
        show _ = _
        rw [World.cell?_of_block (a := ⟨w.heap.size, 0, none⟩) (Below.heap_setCell W6.drew ⟨b, 4, none⟩ _ w.heap.size (fun h => Hx.out.1 h.symm))]
        exact e6
      have Hb8 := Lib.hid hb8
      have HX8 : Hid (Tryd.LexX B b w.heap.size s { st' with toks := st'.toks ++ [⟨8, [], st.pos⟩], deep := ds' } (W6.drew.setCell ⟨b, 4, none⟩ (.slice (some ⟨g7, 0, none⟩) ds'.length cap7))) :=
        ⟨_, _, hV8.out, Hx.out.1, Hx.out.2.1, Hx.out.2.2.1, by have := Hx.out.2.2.2; show _ < (W6.drew.setCell _ _).heap.size; simpa [World.setCell] using this⟩
      clear hb8
      go_wp2_with fail
      refine ⟨⟨{ st' with toks := st'.toks ++ [⟨8, [], st.pos⟩], deep := ds' }, d2, ds2, HX8.out, hx8.out, Hb8.out, Hds.out, hP.out, hO.out, hB2, hPo2, hLe2⟩, ?_⟩
      show Tryd.mdeep b (W6.drew.setCell ⟨b, 4, none⟩ (.slice (some ⟨g7, 0, none⟩) ds'.length cap7)) < Tryd.mdeep b wr
      rw [HX8.out.mdeep, HX.out.mdeep, hD.out]
      show ds'.length < (d' :: ds').length
      simp
    · have hltI : decide ((n : Int) < (d' : Int)) = false := by simp; omega
      have hpp : PP = (d' :: ds', st'.toks) := by rw [← hPo.out, pops_no _ _ _ _ _ hlt]
      go_wp2_with fail
      refine (Tryd.last_any B b w.heap.size s st' d' ds' _ HX.out.at_ hD.out HBX.out hlen.out).mono ?_
      rintro e W3 ⟨rfl, nq3, rfl⟩
      have H3 := Lib.hid (HX.out.drewN nq3)
      have hb3 := below_drewN hbw nq3
      have e3 : Hid ((wr.drewN nq3).cell? ⟨w.heap.size, 0, none⟩ = some (.pointer (some ⟨b, 0, none⟩))) := HBX.out
      obtain ⟨W4, hW4⟩ : ∃ W, W = wr.drewN nq3 := ⟨_, rfl⟩
      rw [← hW4] at H3 hb3 e3 ⊢
      clear hW4
      go_wp2_with fail
      refine (Tryd.last_any B b w.heap.size s st' d' ds' _ H3.out.at_ hD.out e3.out hlen.out).mono ?_
      rintro e W5 ⟨rfl, nq5, rfl⟩
      have H5 := Lib.hid (H3.out.drewN nq5)
      have hb5 := below_drewN hb3 nq5
      have e5 : Hid ((W4.drewN nq5).cell? ⟨w.heap.size, 0, none⟩ = some (.pointer (some ⟨b, 0, none⟩))) := e3.out
      obtain ⟨W6, hW6⟩ : ∃ W, W = W4.drewN nq5 := ⟨_, rfl⟩
      rw [← hW6] at H5 hb5 e5 ⊢
      clear hW6
      by_cases hdn : d' = n
      · have hok : RES = Except.ok { st with toks := st'.toks, deep := d' :: ds' } := by rw [← HRES.out, hpp, if_pos (by exact hdn)]
        have hst : ({ st with toks := st'.toks, deep := d' :: ds' } : St) = st' := by
          have h1 := hD.out; have h2 := hP.out; have h3 := hO.out
          cases st'; cases st; simp_all
        have hdI : ((d' : Int) == (n : Int)) = true := by rw [beq_iff_eq]; omega
        have HH : Hid (Tryd.LexAt B b s { st with toks := st'.toks, deep := d' :: ds' } W6) := by show Tryd.LexAt B b s _ W6; rw [hst]; exact H5.out.at_
        subst hok
        clear hst hpp
        go_wp2_with fail
        refine bodyPost_end (results_none rfl _ _ _) rfl ?_
        exact ⟨rfl, HH.out, hb5⟩
      · have herr : RES = Except.error (103, st.pos) := by rw [← HRES.out, hpp, if_neg (by exact hdn)]
        have hdI : ((d' : Int) == (n : Int)) = false := by rw [beq_eq_false_iff_ne]; omega
        subst herr
        have e5 := e5.out
        obtain ⟨d1, bv, d4, g, cap, rfl⟩ := H5.out.cells
        rw [hP.out] at d1
        have hdn2 : ¬ d' = n := hdn
        go_wp2_with fail
        go_still_tail 5, (by kernel_rfl)
        change wpList _ _ _ _ _ W6.drew
        have hb6 : Below B w W6.drew := hb5.drew
        obtain ⟨W7, hW7⟩ : ∃ W, W = W6.drew := ⟨_, rfl⟩
        rw [← hW7] at hb6 ⊢
        clear hW7
        go_wp2_with fail
        refine (Tryd.fail_any _ 103 st.pos _).mono ?_
        rintro e W8 ⟨rfl, rfl⟩
        go_wp2_with fail
        exact ⟨rfl, rfl, hb6⟩

/-- indent, whole. -/
theorem Tryd.indent_any (B b : Nat) (s : ByteArray) (st : St) (n : Nat) (w : World) (h : Tryd.LexAt B b s st w) (hbot : st.deep.getLast? = some 0) (hl : st.toks.length + st.deep.length ≤ 1000000) :
    Calls Tryd.prog 26 #[.pointer (some ⟨b, 0, none⟩), .int .i64 n] w (Tryd.LexOut B b s w (Lx.indent n st)) := by
  obtain ⟨d, ds, hd⟩ : ∃ d ds, st.deep = d :: ds := by
    cases hh : st.deep with
    | nil => rw [hh] at hbot; cases hbot
    | cons a l => exact ⟨a, l, rfl⟩
  unfold Lx.indent
  by_cases hn : d < n
  · rw [if_pos (by rw [hd]; exact hn)]
    by_cases h40 : 40 < st.deep.length
    · rw [if_pos h40]
      exact Tryd.indent_deep B b s st n d ds w h hd (by omega) hn h40
    · rw [if_neg h40]
      exact Tryd.indent_push B b s st n d ds w h hd (by omega) hn (by omega)
  · rw [if_neg (by rw [hd]; exact hn)]
    exact Tryd.indent_pop B b s st n d ds w h hd hbot hl hn
end Go.Proofs
