/-
  Plain: a source that is not too long is not rejected for its length. Walks: LexerLong.
-/
import Derived.Test.YtdbkibnplilogaaDoorLxZ
import Derived.Deep.AppendLies
set_option linter.unusedVariables false
namespace Go.Lx
open Go.Lib Go.Lt

theorem indent_code {n : Nat} {st : St} {c a : Nat} (h : indent n st = .error (c, a)) : c ≠ 101 := by
  unfold indent at h
  split at h
  · split at h
    · cases h; decide
    · cases h
  · simp only at h
    split at h
    · cases h
    · cases h; decide
theorem token_code {l : List UInt8} {st : St} {c a : Nat} (h : token l st = .error (c, a)) : c ≠ 101 := by
  unfold token at h
  split at h
  · cases h
  · split at h
    · cases h
    split at h
    · split at h
      · cases h
      · cases h; decide
    split at h
    · split at h
      · cases h
      · cases h; decide
    · simp only at h
      split at h
      · cases h; decide
      split at h
      · split at h
        · cases h; decide
        · cases h
      split at h
      · cases h
      · cases h
theorem go_code (src : List UInt8) : ∀ (f : Nat) (st : St) (head : Bool) (bl c a : Nat), go src f st head bl = .error (c, a) → c ≠ 101 := by
  intro f
  induction f with
  | zero => intro st head bl c a h; cases h
  | succ f ih =>
    intro st head bl c a h
    unfold go at h
    split at h
    · cases h
    · split at h
      · exact ih _ _ _ _ _ h
      split at h
      · exact ih _ _ _ _ _ h
      split at h
      · exact ih _ _ _ _ _ h
      split at h
      · rename_i e he
        cases h
        cases head with
        | true => exact indent_code he
        | false => cases he
      · split at h
        · rename_i e he
          cases h
          exact token_code he
        · exact ih _ _ _ _ _ h
theorem lex_code {src : List UInt8} {c a : Nat} (hs : src.length ≤ 65536) (h : lex src = .error (c, a)) : c ≠ 101 := by
  unfold lex at h
  rw [if_neg (by omega)] at h
  exact go_code _ _ _ _ _ _ _ h
theorem lex_long {src : List UInt8} (hs : 65536 < src.length) : lex src = .error (101, 65536) := by unfold lex; rw [if_pos hs]
end Go.Lx
namespace Go.Proofs
open Go.RowKit Go.Lx Go.Lt

def u8Cells (l : List UInt8) : List Value := l.map fun b => Value.int .u8 (b.toNat : Int)
theorem u8Cells_len (l : List UInt8) : (u8Cells l).length = l.length := by unfold u8Cells; simp
theorem u8Cells_append (l m : List UInt8) : u8Cells (l ++ m) = u8Cells l ++ u8Cells m := by unfold u8Cells; simp
theorem u8Cells_one (l : List UInt8) : ∀ u ∈ u8Cells l, u.oneCell' = true := by
  intro u hu
  unfold u8Cells at hu
  rw [List.mem_map] at hu
  obtain ⟨b, _, rfl⟩ := hu
  rfl
theorem bs_size (l : List UInt8) : (bs l).size = l.length := by rw [Lib.size_eq]; rfl
theorem bs_get (l : List UInt8) (i : Nat) (h : i < l.length) : (bs l)[i]'(by rw [bs_size]; exact h) = l[i] := rfl
theorem BsIn.of_own {w : World} {B e : Nat} {a : Option Addr} {n cap : Nat} {l : List UInt8} (h : w.ownsRow B e 1 (.slice a n cap) n (u8Cells l)) : l.length = n ∧ BsIn w a (bs l) := by
  have hl : l.length = n := by have := h.1; rw [u8Cells_len] at this; omega
  refine ⟨hl, fun i hi => ?_⟩
  rw [bs_size] at hi
  have h0 := h
  rcases h.2 with ⟨h1, h2⟩ | ⟨g, cap', cur, hv, hgb, hgh, _⟩
  · omega
  · cases hv
    refine ⟨g, 0, rfl, ?_⟩
    rw [Nat.zero_add, h0.cellAt i (by rw [Nat.mul_one]; omega)]
    unfold u8Cells
    rw [List.getElem?_map, List.getElem?_eq_getElem hi]
    rfl
/-- The cells of a slice, for append. -/
theorem BsIn.news {w : World} {a : Option Addr} {s : ByteArray} (h : BsIn w a s) (h0 : 0 < s.size) : ∃ ad, a = some ad ∧ ∀ j u, (u8Cells s.data.toList)[j]? = some u → w.cell? (ad.add j) = some u := by
  obtain ⟨b, o, rfl, _⟩ := h 0 h0
  refine ⟨_, rfl, fun j u hu => ?_⟩
  have hj : j < s.size := by
    rcases Nat.lt_or_ge j s.size with h | h
    · exact h
    · rw [List.getElem?_eq_none (by rw [u8Cells_len, ← Lib.size_eq]; exact h)] at hu; cases hu
  obtain ⟨b', o', h1, h2⟩ := h j hj
  cases h1
  rw [Go.WideShapes.add_plain, h2]
  unfold u8Cells at hu
  rw [List.getElem?_map] at hu
  have : s.data.toList[j]? = some s[j] := by rw [List.getElem?_eq_getElem (by rw [← Lib.size_eq]; exact hj)]; rfl
  rw [this] at hu
  exact hu
def lenOf : Value → Nat | .slice _ n _ => n | _ => 0
theorem slice_form {w : World} {B e sz : Nat} {v : Value} {n : Nat} {xs : List Value} (h : w.ownsRow B e sz v n xs) : ∃ a cap, v = .slice a n cap := by
  rcases h.2 with ⟨h, h0⟩ | ⟨g, cap', cur, h, _⟩
  · exact ⟨none, 0, by rw [h0]; exact h⟩
  · exact ⟨_, _, h⟩

set_option maxHeartbeats 4000000 in
set_option maxRecDepth 100000 in
theorem Tryd.lexerLong_any (a : Option Addr) (cap : Nat) (p : ByteArray) (n : Int) (w : World) (hp : BsIn w a p) (hps : p.size ≤ 9223372036854775807) (hn : -9223372036854775808 ≤ n ∧ n ≤ 9223372036854775807) (hT : Tryd.Tabs w) :
    Calls Tryd.prog 5 #[.slice a p.size cap, .int .i64 n] w fun e w' => e = .returned (.bool true) ∧ Below w.heap.size w w' := by
  obtain ⟨i0, hi, hz0, hz1, hz2⟩ := info_parts Tryd.infoU8
  by_cases h0 : p.size = 0 ∨ 100 < p.size ∨ n < 0 ∨ 70000 < n
  · have e1 : (((p.size : Int) == 0) || decide ((100 : Int) < (p.size : Int)) || decide (n < 0) || decide ((70000 : Int) < n)) = true := by
      simp only [Bool.or_eq_true, beq_iff_eq, decide_eq_true_eq]; omega
    have H := Lib.hid (Tryd.awake13_any w hT)
    obtain ⟨x1, g1⟩ : ∃ x, ((p.size : Int) == 0) = x := ⟨_, rfl⟩
    obtain ⟨x2, g2⟩ : ∃ x, decide ((100 : Int) < (p.size : Int)) = x := ⟨_, rfl⟩
    obtain ⟨x3, g3⟩ : ∃ x, decide (n < 0) = x := ⟨_, rfl⟩
    obtain ⟨x4, g4⟩ : ∃ x, decide ((70000 : Int) < n) = x := ⟨_, rfl⟩
    rw [g1, g2, g3, g4] at e1
    clear h0 hT hp
    cases x1 <;> cases x2 <;> cases x3 <;> cases x4 <;> first | (exact absurd e1 (by decide)) | skip
    all_goals
      clear e1
      go_enter Tryd.func5, Tryd.ntmps5
      go_wp2_with fail
      refine H.out.mono ?_
      rintro e W1 ⟨rfl, b1⟩
      go_wp2_with fail
      go_ret
      exact ⟨rfl, b1⟩
  · have f1 : ((p.size : Int) == 0) = false := by rw [beq_eq_false_iff_ne]; omega
    have f2 : decide ((100 : Int) < (p.size : Int)) = false := by rw [decide_eq_false_iff_not]; omega
    have f3 : decide (n < 0) = false := by rw [decide_eq_false_iff_not]; omega
    have f4 : decide ((70000 : Int) < n) = false := by rw [decide_eq_false_iff_not]; omega
    have hp0 : 0 < p.size := by omega
    have hp1 : p.size ≤ 100 := by omega
    obtain ⟨m, rfl⟩ : ∃ m : Nat, n = (m : Int) := ⟨n.toNat, by omega⟩
    have hm : m ≤ 70000 := by omega
    have HP := Lib.hid hp
    obtain ⟨ad, rfl, _⟩ := hp.news hp0
    have HT := Lib.hid hT
    clear h0 hn hps hp hT
    go_enter Tryd.func5, Tryd.ntmps5
    go_wp2
    go_loopw [5] (fun i wr => ∃ (q : Option Addr) (c : Nat) (l : List UInt8), i = .slice q l.length c ∧ wr.ownsRow w.heap.size 5 1 (.slice q l.length c) l.length (u8Cells l) ∧ Below w.heap.size w wr ∧ l.length ≤ m + 100) (fun i _ => m + 100 - lenOf i)
    case atStart => exact ⟨none, 0, [], rfl, ⟨rfl, .inl ⟨rfl, rfl⟩⟩, Below.refl _ _, by simp⟩
    case round =>
      obtain ⟨q, c, l, rfl, hown, hbw, hll⟩ := hrel
      by_cases hlt : l.length < m
      · have hltI : (l.length : Int) < (m : Int) := by omega
        have HN : Hid (∀ j u, (u8Cells p.data.toList)[j]? = some u → wr.cell? (ad.add j) = some u) := by
          obtain ⟨ad', h1, h2⟩ := (HP.out.below hbw).news hp0
          cases h1; exact h2
        have HO := Lib.hid hown
        have HB := Lib.hid hbw
        clear hown hbw
        go_wp2_with (
          at_builtin; refine wpList_append_lies _ rfl _ _ 22 rfl w.heap.size 5 i0 (.int .u8 0) 1 1 Tryd.underlying22 hi hz0 hz1 hz2 rfl (by decide) _ _ _ rfl HO.out ad p.size cap (u8Cells p.data.toList) rfl (by rw [u8Cells_len, Lib.size_eq, Nat.mul_one]) HN.out (u8Cells_one _) hp0 (by unfold maxLen; omega) (by omega) HB.out.size _ rfl ?_; intro g c' w3 hown3 hgrow3 hat3 hlt3
          have X3 : Hid (w3.ownsRow w.heap.size 5 1 (.slice (some ⟨g, 0, none⟩) (l.length + p.size) c') (l.length + p.size) (u8Cells (l ++ p.data.toList)) ∧ Below w.heap.size w w3) := ⟨by rw [u8Cells_append]; exact hown3, HB.out.grown hgrow3 HB.out.size (fun k hk => (ownsRow_lt HO.out hk).1)⟩
          clear hown3 hgrow3 hat3 hlt3)
        go_roundw
        case rel =>
          have hL : (l ++ p.data.toList).length = l.length + p.size := by rw [List.length_append, Lib.size_eq]
          refine ⟨_, c', l ++ p.data.toList, by rw [hL], by rw [hL]; exact X3.out.1, X3.out.2, by omega⟩
        case measure => simp [lenOf]; omega
      · have hltI : ¬ (l.length : Int) < (m : Int) := by omega
        have hltN : ¬ l.length < m := hlt
        obtain ⟨_, hbs⟩ := BsIn.of_own hown
        have HTok := Lib.hid (Tryd.tokens_any q c (bs l) wr hbs (Tryd.Tabs_below HT.out hbw (Nat.le_refl _)))
        rw [bs_size] at HTok
        have HB := Lib.hid hbw
        clear hown hbw hbs
        by_cases hlong : l.length ≤ 65536
        · have hlongI : (l.length : Int) ≤ 65536 := by omega
          have Hc : Hid (∀ c a, lex l = .error (c, a) → c ≠ 101) := fun c a h => lex_code hlong h
          cases hR : lex l with
          | ok toks =>
            have hok : Hid (∀ e w', Tryd.TokOut wr (lex (bs l).data.toList) e w' → ∃ q' c', e = .returned (.tuple #[.slice q' toks.length c', .agg #[.int .i64 0, .int .i64 0]]) ∧ Below w.heap.size w w') := by
              intro e w' h
              rw [show lex (bs l).data.toList = .ok toks from hR] at h
              obtain ⟨⟨lv, h1, h2⟩, h3⟩ := h
              obtain ⟨q', c', rfl⟩ := slice_form h2
              exact ⟨q', c', h1, HB.out.trans (h3.mono HB.out.size)⟩
            clear hR Hc
            go_wp2_with fail
            refine HTok.out.mono ?_
            intro e W1 h1
            obtain ⟨q', c', rfl, b1⟩ := hok.out e W1 h1
            have HB1 := Lib.hid b1
            have hz := b1.size
            clear h1 b1
            go_wp2_with fail
            refine (Tryd.awake13_any _ (Tryd.Tabs_below HT.out (HB1.out.alloc hz _) (Nat.le_refl _))).mono ?_
            rintro e W2 ⟨rfl, b2⟩
            have HB2 := Lib.hid ((HB1.out.alloc hz _).trans (b2.mono (by simp; omega)))
            clear b2
            go_wp2_with fail
            go_ret
            exact ⟨rfl, HB2.out⟩
          | error ca =>
            obtain ⟨c1, a1⟩ := ca
            have hne := Hc.out c1 a1 hR
            have hneI : ((c1 : Int) != 101) = true := by rw [bne_iff_ne]; omega
            have hok : Hid (∀ e w', Tryd.TokOut wr (lex (bs l).data.toList) e w' → e = .returned (.tuple #[.slice none 0 0, .agg #[.int .i64 c1, .int .i64 a1]]) ∧ Below w.heap.size w w') := by
              intro e w' h
              rw [show lex (bs l).data.toList = .error (c1, a1) from hR] at h
              exact ⟨h.1, HB.out.trans (h.2.mono HB.out.size)⟩
            clear hR Hc hne
            go_wp2_with fail
            refine HTok.out.mono ?_
            intro e W1 h1
            obtain ⟨rfl, b1⟩ := hok.out e W1 h1
            have HB1 := Lib.hid b1
            have hz := b1.size
            clear h1 b1
            go_wp2_with fail
            refine (Tryd.awake13_any _ (Tryd.Tabs_below HT.out (HB1.out.alloc hz _) (Nat.le_refl _))).mono ?_
            rintro e W2 ⟨rfl, b2⟩
            have HB2 := Lib.hid ((HB1.out.alloc hz _).trans (b2.mono (by simp; omega)))
            clear b2
            go_wp2_with fail
            go_ret
            exact ⟨rfl, HB2.out⟩
        · have hlongI : ¬ (l.length : Int) ≤ 65536 := by omega
          have hlex := lex_long (src := l) (by omega)
          have hok : Hid (∀ e w', Tryd.TokOut wr (lex (bs l).data.toList) e w' → e = .returned (.tuple #[.slice none 0 0, .agg #[.int .i64 101, .int .i64 65536]]) ∧ Below w.heap.size w w') := by
            intro e w' h
            rw [show lex (bs l).data.toList = .error (101, 65536) from hlex] at h
            exact ⟨h.1, HB.out.trans (h.2.mono HB.out.size)⟩
          clear hlex
          go_wp2_with fail
          refine HTok.out.mono ?_
          intro e W1 h1
          obtain ⟨rfl, b1⟩ := hok.out e W1 h1
          have HB1 := Lib.hid b1
          have hz := b1.size
          clear h1 b1
          go_wp2_with fail
          refine (Tryd.awake13_any _ (Tryd.Tabs_below HT.out (HB1.out.alloc hz _) (Nat.le_refl _))).mono ?_
          rintro e W2 ⟨rfl, b2⟩
          have HB2 := Lib.hid ((HB1.out.alloc hz _).trans (b2.mono (by simp; omega)))
          clear b2
          go_wp2_with fail
          go_ret
          exact ⟨rfl, HB2.out⟩
end Go.Proofs
