/-
  Walks: the reference's token, whole. Plain: errors have codes.
  Walks: the reference's Tokens.
-/
import Derived.Test.YtdbkibnplilogaaDoorMzC
import Derived.Test.YtdbkibnplilogaaDoorMzD
import Derived.Test.YtdbkibnplilogaaDoorMzE
set_option linter.unusedVariables false
namespace Go.Lx
open Go.Lib Go.Lt
theorem indent_code1 {n : Nat} {st : St} {c a : Nat} (h : indent n st = .error (c, a)) : 0 < c := by
  unfold indent at h
  split at h
  · split at h
    · cases h; decide
    · cases h
  · simp only at h
    split at h
    · cases h
    · cases h; decide
theorem token_code1 {l : List UInt8} {st : St} {c a : Nat} (h : token l st = .error (c, a)) : 0 < c := by
  unfold token at h
  split at h
  · cases h
  · split at h
    · cases h
    split at h
    · split at h
      · cases h
      · cases h; decide
    split at h
    · split at h
      · cases h
      · cases h; decide
    · simp only at h
      split at h
      · cases h; decide
      split at h
      · split at h
        · cases h; decide
        · cases h
      split at h
      · cases h
      · cases h
end Go.Lx
namespace Go.Proofs
open Go.RowKit Go.Lx Go.Lt

theorem Tryd.rtoken_any (B b : Nat) (a : Option Addr) (cap : Nat) (s : ByteArray) (st : St) (w : World) (h : Tryd.RefAt B b (.slice a s.size cap) st 0 0 w) (hsrc : SrcIn B w a s) (hcap : s.size ≤ cap) (hs : s.size ≤ 100000) (hp : st.pos < s.size) (hl : st.toks.length ≤ 1000000) (ho : st.opn ≤ 60) :
    Calls Tryd.prog 21 #[.pointer (some ⟨b, 0, none⟩), .int .i64 st.pos] w (Tryd.RefRes B b (.slice a s.size cap) w (Lx.token (s.data.toList.drop st.pos) st)) := by
  obtain ⟨c, t, hct⟩ : ∃ c t, s.data.toList.drop st.pos = c :: t := ⟨_, _, drop_cons s st.pos hp⟩
  rw [hct]
  unfold Lx.token
  simp only
  by_cases hlet : isLet c = true
  · rw [if_pos hlet]
    cases hw : isWord (runOf (c :: t))
    · exact Tryd.rtoken_let_false B b a cap s st w h hsrc hcap hs hp hl ho c t hct hlet hw
    · exact Tryd.rtoken_let_true B b a cap s st w h hsrc hcap hs hp hl ho c t hct hlet hw
  rw [if_neg hlet]
  replace hlet : isLet c = false := by simpa using hlet
  by_cases hdig : isDig c = true
  · rw [if_pos hdig]
    exact Tryd.rtoken_dig B b a cap s st w h hsrc hcap hs hp hl ho c t hct hlet hdig
  rw [if_neg hdig]
  replace hdig : isDig c = false := by simpa using hdig
  by_cases hq : c.toNat = 39 ∨ c.toNat = 34
  · rw [if_pos hq]
    have hq' : (decide (c.toNat = 39) || decide (c.toNat = 34)) = true := by simpa using hq
    cases hu : unq (c :: t) with
    | none => exact Tryd.rtoken_quote_no B b a cap s st w h hsrc hcap hs hp hl ho c t hct hlet hdig _ _ rfl rfl hq' hu
    | some xn => obtain ⟨x, n⟩ := xn; exact Tryd.rtoken_quote_yes B b a cap s st w h hsrc hcap hs hp hl ho c t hct hlet hdig _ _ rfl rfl hq' x n hu
  rw [if_neg hq]
  have h39 : c.toNat ≠ 39 := fun e => hq (.inl e)
  have h34 : c.toNat ≠ 34 := fun e => hq (.inr e)
  obtain ⟨S, hS⟩ : ∃ S, signOf (c :: t) = S := ⟨_, rfl⟩
  rw [hS]
  by_cases g0 : S = []
  · rw [if_pos g0]; exact Tryd.rtoken_sign_none B b a cap s st w h hsrc hcap hs hp hl ho c t hct hlet hdig h39 h34 S hS g0
  rw [if_neg g0]
  by_cases g1 : S = [40] ∨ S = [91] ∨ S = [123]
  · rw [if_pos g1]
    by_cases g2 : st.opn = 60
    · rw [if_pos g2]
      rcases g1 with g1 | g1 | g1
      · exact Tryd.rtoken_sign_deep40 B b a cap s st w h hsrc hcap hs hp hl ho c t hct hlet hdig h39 h34 S hS g1 g2
      · exact Tryd.rtoken_sign_deep91 B b a cap s st w h hsrc hcap hs hp hl ho c t hct hlet hdig h39 h34 S hS g1 g2
      · exact Tryd.rtoken_sign_deep123 B b a cap s st w h hsrc hcap hs hp hl ho c t hct hlet hdig h39 h34 S hS g1 g2
    · rw [if_neg g2]
      have g3 : st.opn < 60 := by omega
      rcases g1 with g1 | g1 | g1
      · exact Tryd.rtoken_sign_open40 B b a cap s st w h hsrc hcap hs hp hl ho c t hct hlet hdig h39 h34 S hS g1 g3
      · exact Tryd.rtoken_sign_open91 B b a cap s st w h hsrc hcap hs hp hl ho c t hct hlet hdig h39 h34 S hS g1 g3
      · exact Tryd.rtoken_sign_open123 B b a cap s st w h hsrc hcap hs hp hl ho c t hct hlet hdig h39 h34 S hS g1 g3
  rw [if_neg g1]
  by_cases g4 : S = [41] ∨ S = [93] ∨ S = [125]
  · rw [if_pos g4]
    rcases Nat.eq_zero_or_pos st.opn with g5 | g5
    · rcases g4 with g4 | g4 | g4
      · exact Tryd.rtoken_sign_shut41 B b a cap s st w h hsrc hcap hs hp hl ho c t hct hlet hdig h39 h34 S hS g4 g5
      · exact Tryd.rtoken_sign_shut93 B b a cap s st w h hsrc hcap hs hp hl ho c t hct hlet hdig h39 h34 S hS g4 g5
      · exact Tryd.rtoken_sign_shut125 B b a cap s st w h hsrc hcap hs hp hl ho c t hct hlet hdig h39 h34 S hS g4 g5
    · rcases g4 with g4 | g4 | g4
      · exact Tryd.rtoken_sign_close41 B b a cap s st w h hsrc hcap hs hp hl ho c t hct hlet hdig h39 h34 S hS g4 g5
      · exact Tryd.rtoken_sign_close93 B b a cap s st w h hsrc hcap hs hp hl ho c t hct hlet hdig h39 h34 S hS g4 g5
      · exact Tryd.rtoken_sign_close125 B b a cap s st w h hsrc hcap hs hp hl ho c t hct hlet hdig h39 h34 S hS g4 g5
  rw [if_neg g4]
  exact Tryd.rtoken_sign_plain B b a cap s st w h hsrc hcap hs hp hl ho c t hct hlet hdig h39 h34 S hS g0 (fun h => g1 (.inl h)) (fun h => g1 (.inr (.inl h))) (fun h => g1 (.inr (.inr h))) (fun h => g4 (.inl h)) (fun h => g4 (.inr (.inl h))) (fun h => g4 (.inr (.inr h)))
end Go.Proofs

namespace Go.Proofs
open Go.RowKit Go.Lx Go.Lt

/-- The world in which the reference's loop begins. -/
def Tryd.refW (a : Option Addr) (n cap : Nat) (w : World) : World :=
  ((w.alloc (.cells #[.int .i64 0, .int .i64 0] 26 (0, 0))).alloc (.cells #[.int .i64 0] 3 (0, 0))).alloc
    (.cells #[.slice a n cap, .slice none 0 0, .slice (some ⟨w.heap.size + 1, 0, none⟩) 1 1, .int .i64 0, .int .i64 0, .int .i64 0] 53 (0, 0))
theorem Tryd.refW_ok (a : Option Addr) (n cap : Nat) (w : World) : Tryd.RefAt (w.heap.size + 1) (w.heap.size + 2) (.slice a n cap) ⟨0, [], 0, [0]⟩ 0 0 (Tryd.refW a n cap w) ∧ Below w.heap.size w (Tryd.refW a n cap w) ∧ (Tryd.refW a n cap w).heap.size = w.heap.size + 3 ∧
    (Tryd.refW a n cap w).heap[w.heap.size]? = some (.cells #[.int .i64 0, .int .i64 0] 26 (0, 0)) := by
  have hh : (Tryd.refW a n cap w).heap = ((w.heap.push (.cells #[.int .i64 0, .int .i64 0] 26 (0, 0))).push (.cells #[.int .i64 0] 3 (0, 0))).push
    (.cells #[.slice a n cap, .slice none 0 0, .slice (some ⟨w.heap.size + 1, 0, none⟩) 1 1, .int .i64 0, .int .i64 0, .int .i64 0] 53 (0, 0)) := rfl
  have h0 : (Tryd.refW a n cap w).heap[w.heap.size]? = some (.cells #[.int .i64 0, .int .i64 0] 26 (0, 0)) := by rw [hh, push_lt (by simp only [Array.size_push]; omega), push_lt (by simp only [Array.size_push]; omega), push_at rfl]
  have h1 : (Tryd.refW a n cap w).heap[w.heap.size + 1]? = some (.cells #[.int .i64 0] 3 (0, 0)) := by rw [hh, push_lt (by simp only [Array.size_push]; omega), push_at (by simp only [Array.size_push])]
  have h2 : (Tryd.refW a n cap w).heap[w.heap.size + 2]? = some (.cells #[.slice a n cap, .slice none 0 0, .slice (some ⟨w.heap.size + 1, 0, none⟩) 1 1, .int .i64 0, .int .i64 0, .int .i64 0] 53 (0, 0)) := by rw [hh, push_at (by simp only [Array.size_push])]
  refine ⟨⟨_, _, by omega, h2, ⟨rfl, .inl ⟨rfl, rfl⟩⟩, ⟨rfl, .inr ⟨w.heap.size + 1, 1, _, rfl, Nat.le_refl _, h1, Nat.le_refl _, by unfold maxLen; omega, rfl, rfl⟩⟩, ?_, ?_, ?_⟩, ?_, ?_, h0⟩
  · intro e; cases e
  · show some (w.heap.size + 1) ≠ some (w.heap.size + 2)
    intro e; have := Option.some.inj e; omega
  · intro g e; cases e
  · refine Below.alloc (Below.alloc (Below.alloc (Below.refl _ w) (Nat.le_refl _) _) ?_ _) ?_ _
    · show _ ≤ (w.heap.push _).size; rw [Array.size_push]; omega
    · show _ ≤ ((w.heap.push _).push _).size; rw [Array.size_push, Array.size_push]; omega
  · rw [hh]; simp

set_option maxHeartbeats 4000000 in
set_option maxRecDepth 100000 in
theorem Tryd.rtokens_long (a : Option Addr) (cap : Nat) (s : ByteArray) (w : World) (hs : 65536 < s.size) :
    Calls Tryd.prog 11 #[.slice a s.size cap] w (Tryd.TokOut w (.error (101, 65536))) := by
  have hsI : (65536 : Int) < (s.size : Int) := by omega
  go_enter Tryd.func11, Tryd.ntmps11
  go_wp2_with fail
  refine bodyPost_ret (v := .tuple #[.slice none 0 0, .agg #[.int .i64 101, .int .i64 65536]]) (by simp [results, Tryd.results11, go_sem]) rfl ?_
  exact ⟨rfl, (Below.refl _ w).alloc (Nat.le_refl _) _⟩

theorem finish_toks (N : Nat) (st : St) (TS : List Tok) (h : (st.toks = [] ∧ TS = st.toks) ∨ (∃ ts k, st.toks = ts ++ [k] ∧ ¬ (k.kind < 6 ∨ 8 < k.kind) ∧ TS = st.toks) ∨ (∃ ts k, st.toks = ts ++ [k] ∧ (k.kind < 6 ∨ 8 < k.kind) ∧ TS = st.toks ++ [⟨6, [], N⟩])) :
    finish N st = TS ++ List.replicate (st.deep.length - 1) ⟨8, [], N⟩ ++ [⟨9, [], N⟩] := by
  rcases h with ⟨h1, h2⟩ | ⟨ts, k, h1, h2, h3⟩ | ⟨ts, k, h1, h2, h3⟩
  · rw [finish_none _ _ h1, h2]
  · rw [finish_keep _ _ ts k h1 h2, h3]
  · rw [finish_put _ _ ts k h1 h2, h3]

set_option maxHeartbeats 32000000 in
set_option maxRecDepth 100000 in
theorem Tryd.rtokens_short (a : Option Addr) (cap : Nat) (s : ByteArray) (w : World) (hs : s.size ≤ 65536) (hb : BsIn w a s) (hcap : s.size ≤ cap) :
    Calls Tryd.prog 11 #[.slice a s.size cap] w (Tryd.TokOut w (goes s.data.toList ⟨0, [], 0, [0]⟩ true 0)) := by
  have hsI : ¬ (65536 : Int) < (s.size : Int) := by omega
  have hsN : ¬ 65536 < s.size := by omega
  obtain ⟨RES, hRES⟩ : ∃ r, goes s.data.toList ⟨0, [], 0, [0]⟩ true 0 = r := ⟨_, rfl⟩
  rw [hRES]
  have HRES := Lib.hid hRES
  obtain ⟨h1, h2, h3, h4⟩ := Tryd.refW_ok a s.size cap w
  have HR0 := Lib.hid h1
  have HRW : Hid (Below w.heap.size w (Tryd.refW a s.size cap w) ∧ (Tryd.refW a s.size cap w).heap.size = w.heap.size + 3 ∧ (Tryd.refW a s.size cap w).heap[w.heap.size]? = some (.cells #[.int .i64 0, .int .i64 0] 26 (0, 0))) := ⟨h2, h3, h4⟩
  have HSRC : Hid (SrcIn (w.heap.size + 1) (Tryd.refW a s.size cap w) a s) := fun w' h' => hb.below (h2.trans (h'.mono (by omega)))
  clear hRES h1 h2 h3 h4 hb
  go_enter Tryd.func11, Tryd.ntmps11
  go_wp2
  go_loopw [5, 6, 7] (fun i5 i6 i7 wr => ∃ (st : St) (head : Bool) (bl : Nat), i5 = .int .i64 st.pos ∧ i6 = .int .i64 bl ∧ i7 = .bool head ∧ Tryd.RefAt (w.heap.size + 1) (w.heap.size + 2) (.slice a s.size cap) st 0 0 wr ∧ Below (w.heap.size + 1) (Tryd.refW a s.size cap w) wr ∧ st.pos ≤ s.size ∧ Hid (st.opn ≤ 60 ∧ st.deep.getLast? = some 0 ∧ st.toks.length + st.deep.length ≤ 4 * st.pos + 1) ∧ bl ≤ st.pos ∧ Hid (goes s.data.toList st head bl = RES)) (fun i5 _ _ _ => s.size - (intOf i5).toNat)
  case atStart => exact ⟨⟨0, [], 0, [0]⟩, true, 0, rfl, rfl, rfl, HR0.out, Below.refl _ _, Nat.zero_le _, ⟨Nat.zero_le _, rfl, by simp⟩, Nat.zero_le _, HRES.out⟩
  case round =>
    clear HR0 HRES
    obtain ⟨st, head, bl, rfl, rfl, rfl, hA, hbw, hp, HO, hbl, hgo⟩ := hrel
    have HA := Lib.hid hA
    have HB := Lib.hid hbw
    obtain ⟨lv, bv, hV⟩ := hA
    have hcs := hV.cells
    have x1 : wr.cell? ⟨w.heap.size + 1 + 1, 1, none⟩ = some lv := hcs.2.1
    have x3 : wr.cell? ⟨w.heap.size + 1 + 1, 3, none⟩ = some (.int .i64 st.opn) := hcs.2.2.2.1
    have HV := Lib.hid hV
    clear hV hbw hcs
    by_cases hlt : st.pos < s.size
    · have hpI : (st.pos : Int) < (s.size : Int) := by omega
      have hsrc := HSRC.out.below HB.out
      obtain ⟨bb, o, rfl, hw0⟩ := bytes_window hsrc.now (by omega)
      have HS := Lib.hid hsrc
      obtain ⟨c, t, hct⟩ : ∃ c t, s.data.toList.drop st.pos = c :: t := ⟨_, _, drop_cons s st.pos hlt⟩
      obtain ⟨ccell, _⟩ := src_at hw0 hlt hct
      have HW0 := Lib.hid hw0
      have Hct := Lib.hid hct
      have Hstep := Lib.hid (goes_step s.data.toList st head bl c t hct)
      have f35 : ((c.toNat : Int) == 35) = (c == 35) := u8_beq c 35 (by omega)
      have f32 : ((c.toNat : Int) == 32) = (c == 32) := u8_beq c 32 (by omega)
      have f10 : ((c.toNat : Int) == 10) = (c == 10) := u8_beq c 10 (by omega)
      clear hw0 hsrc hct
      by_cases h35 : c = 35
      · have e35 : (c == 35) = true := by rw [beq_iff_eq]; exact h35
        rw [e35] at f35
        obtain ⟨E, hE⟩ : ∃ E, st.pos + remark (c :: t) = E := ⟨_, rfl⟩
        have hrl := remark_le (c :: t)
        have hcl : (c :: t).length = s.size - st.pos := by rw [← Hct.out, List.length_drop, ← Lib.size_eq]
        have hEs : E ≤ s.size := by omega
        have hEp : st.pos < E := by have := remark_pos t; rw [h35] at hE; omega
        have hgoE : Hid (goes s.data.toList { st with pos := E } head bl = RES) := by show _ = _; rw [← hgo.out, Hstep.out, if_pos h35, hE]
        have HE : Hid (st.pos + remark (s.data.toList.drop st.pos) = E) := by show _ = _; rw [Hct.out]; exact hE
        clear f32 f10 h35 e35 hE hrl hcl Hstep hgo
        go_wp2
        go_loopw [5] (fun i wi => ∃ (k : Nat), i = .int .i64 k ∧ st.pos ≤ k ∧ k ≤ s.size ∧ wi = wr ∧ Hid (k + remark (s.data.toList.drop k) = E)) (fun i _ => s.size + 1 - (intOf i).toNat)
        case atStart => exact ⟨st.pos, rfl, Nat.le_refl _, hp, rfl, HE.out⟩
        case round =>
          obtain ⟨k, rfl, hk1, hk2, hwi, hk⟩ := hrel
          obtain rfl := hwi.symm
          by_cases hkn : k < s.size
          · have hkI : (k : Int) < (s.size : Int) := by omega
            have kc := HW0.out k hkn
            have hdk := drop_cons s k hkn
            obtain ⟨ck, hck⟩ : ∃ ck, s[k] = ck := ⟨_, rfl⟩
            rw [hck] at kc hdk
            have q10 : ((ck.toNat : Int) == 10) = (ck == 10) := u8_beq ck 10 (by omega)
            by_cases h10 : ck = 10
            · have n10 : ((ck.toNat : Int) != 10) = false := by rw [bne, q10, beq_iff_eq.2 h10]; rfl
              have hkE : k = E := by rw [← hk.out, hdk, remark_cons, if_pos h10]; rfl
              subst hkE
              clear h10 q10 hdk hck hk
              go_wp2_with fail
              go_roundw
              case rel => exact ⟨{ st with pos := k }, head, bl, rfl, rfl, rfl, HA.out, HB.out, hk2, ⟨HO.out.1, HO.out.2.1, by have := HO.out.2.2; show st.toks.length + st.deep.length ≤ 4 * k + 1; omega⟩, by show bl ≤ k; omega, hgoE.out⟩
              case measure => simp [intOf]; omega
            · have n10 : ((ck.toNat : Int) != 10) = true := by rw [bne, q10, beq_eq_false_iff_ne.2 h10]; rfl
              have hk3 : Hid ((k + 1) + remark (s.data.toList.drop (k + 1)) = E) := by show _ = _; rw [← hk.out, hdk, remark_cons, if_neg h10]; omega
              clear h10 q10 hdk hck hk
              go_wp2_with fail
              go_roundw
              case rel => exact ⟨k + 1, by go_num, by omega, by omega, trivial, hk3⟩
              case measure => simp [intOf]; omega
          · have hkI : decide ((k : Int) < (s.size : Int)) = false := by simp; omega
            have hkE : k = E := by rw [← hk.out, List.drop_eq_nil_of_le (by rw [← Lib.size_eq]; omega)]; rfl
            subst hkE
            clear hk
            go_wp2_with fail
            go_roundw
            case rel => exact ⟨{ st with pos := k }, head, bl, rfl, rfl, rfl, HA.out, HB.out, hk2, ⟨HO.out.1, HO.out.2.1, by have := HO.out.2.2; show st.toks.length + st.deep.length ≤ 4 * k + 1; omega⟩, by show bl ≤ k; omega, hgoE.out⟩
            case measure => simp [intOf]; omega
      have e35 : (c == 35) = false := by rw [beq_eq_false_iff_ne]; exact h35
      rw [e35] at f35
      by_cases h32 : c = 32
      · have e32 : (c == 32) = true := by rw [beq_iff_eq]; exact h32
        rw [e32] at f32
        have hgoE : Hid (goes s.data.toList { st with pos := st.pos + 1 } head (bl + 1) = RES) := by show _ = _; rw [← hgo.out, Hstep.out, if_neg h35, if_pos h32]
        clear f10 h35 e35 h32 e32 Hstep hgo
        go_wp2_with fail
        go_roundw
        case rel => exact ⟨{ st with pos := st.pos + 1 }, head, bl + 1, by go_num, by go_num, rfl, HA.out, HB.out, hlt, ⟨HO.out.1, HO.out.2.1, by have := HO.out.2.2; show st.toks.length + st.deep.length ≤ 4 * (st.pos + 1) + 1; omega⟩, by show bl + 1 ≤ st.pos + 1; omega, hgoE.out⟩
        case measure => simp [intOf]; omega
      have e32 : (c == 32) = false := by rw [beq_eq_false_iff_ne]; exact h32
      rw [e32] at f32
      by_cases h10 : c = 10
      · have e10 : (c == 10) = true := by rw [beq_iff_eq]; exact h10
        rw [e10] at f10
        have hst := Hstep.out
        rw [if_neg h35, if_neg h32, if_pos h10, hgo.out] at hst
        have Hst := Lib.hid hst
        clear h35 e35 h32 e32 h10 e10 Hstep hgo hst
        by_cases hop : st.opn = 0
        · have hopI : ((st.opn : Int) == 0) = true := by rw [beq_iff_eq]; omega
          have Hop := Lib.hid hop
          clear hop
          cases head
          · have hgoE : Hid (goes s.data.toList { st with pos := st.pos + 1, toks := st.toks ++ [⟨6, [], st.pos⟩] } true 0 = RES) := by
              show _ = _
              rw [Hst.out, if_pos (And.intro Hop.out rfl), decide_eq_true Hop.out]
              rfl
            clear Hst
            go_wp2_with fail
            refine (Tryd.radd_any (w.heap.size + 1) (w.heap.size + 2) _ st 0 0 6 st.pos ⟨#[]⟩ _ HA.out (by have := HO.out.2.2; omega)).mono ?_
            rintro e W2 ⟨rfl, H2, b2⟩
            have HA2 := Lib.hid H2
            have HB2 := Lib.hid (HB.out.trans b2)
            obtain ⟨lv2, bv2, hV2⟩ := H2
            obtain ⟨_, _, _, y3, _⟩ := hV2.cells
            have y3 : W2.cell? ⟨w.heap.size + 1 + 1, 3, none⟩ = some (.int .i64 st.opn) := y3
            clear hV2 b2 x1 x3
            go_wp2_with fail
            go_roundw
            case rel => exact ⟨{ st with pos := st.pos + 1, toks := st.toks ++ [⟨6, [], st.pos⟩] }, true, 0, by go_num, rfl, rfl, HA2.out, HB2.out, hlt, ⟨HO.out.1, HO.out.2.1, by have := HO.out.2.2; show (st.toks ++ _).length + st.deep.length ≤ 4 * (st.pos + 1) + 1; rw [List.length_append]; simp only [List.length_cons, List.length_nil]; omega⟩, Nat.zero_le _, hgoE.out⟩
            case measure => simp [intOf]; omega
          · have hgoE : Hid (goes s.data.toList { st with pos := st.pos + 1 } true 0 = RES) := by
              show _ = _
              rw [Hst.out, if_neg (fun h => by cases h.2)]
              rfl
            clear Hst
            go_wp2_with fail
            go_roundw
            case rel => exact ⟨{ st with pos := st.pos + 1 }, true, 0, by go_num, rfl, rfl, HA.out, HB.out, hlt, ⟨HO.out.1, HO.out.2.1, by have := HO.out.2.2; show st.toks.length + st.deep.length ≤ 4 * (st.pos + 1) + 1; omega⟩, Nat.zero_le _, hgoE.out⟩
            case measure => simp [intOf]; omega
        · have hopI : ((st.opn : Int) == 0) = false := by rw [beq_eq_false_iff_ne]; omega
          have hgoE : Hid (goes s.data.toList { st with pos := st.pos + 1 } head 0 = RES) := by
            show _ = _
            rw [Hst.out, if_neg (fun h => hop h.1), decide_eq_false hop, Bool.or_false]
          clear Hst hop
          go_wp2_with fail
          go_roundw
          case rel => exact ⟨{ st with pos := st.pos + 1 }, head, 0, by go_num, rfl, rfl, HA.out, HB.out, hlt, ⟨HO.out.1, HO.out.2.1, by have := HO.out.2.2; show st.toks.length + st.deep.length ≤ 4 * (st.pos + 1) + 1; omega⟩, Nat.zero_le _, hgoE.out⟩
          case measure => simp [intOf]; omega
      have e10 : (c == 10) = false := by rw [beq_eq_false_iff_ne]; exact h10
      rw [e10] at f10
      have hst := Hstep.out
      rw [if_neg h35, if_neg h32, if_neg h10, hgo.out] at hst
      have Hst := Lib.hid hst
      clear h35 e35 h32 e32 h10 e10 Hstep hgo hst
      cases head
      · have Hst2 : Hid (RES = match Lx.token (c :: t) st with | .error e => .error e | .ok st2 => goes s.data.toList st2 false bl) := Hst.out
        have HT : Hid (st.opn ≤ 60 ∧ st.deep.getLast? = some 0 ∧ st.toks.length + st.deep.length ≤ 4 * st.pos + 3) := ⟨HO.out.1, HO.out.2.1, by have := HO.out.2.2; omega⟩
        have z4 : wr.cell? ⟨w.heap.size + 1 + 1, 4, none⟩ = some (.int .i64 0) := HV.out.cells.2.2.2.2.1
        clear Hst x1 x3
        cases htk : Lx.token (c :: t) st with
        | error ca =>
          obtain ⟨c1, a1⟩ := ca
          have hRE : RES = .error (c1, a1) := by rw [Hst2.out, htk]
          have hc1 := token_code1 htk
          have hneI : ((c1 : Int) == 0) = false := by rw [beq_eq_false_iff_ne]; omega
          have hneI2 : ((c1 : Int) != 0) = true := by rw [bne, hneI]; rfl
          have Hk := Lib.hid htk
          subst hRE
          clear Hst2 htk
          have hcall : Hid (Calls Tryd.prog 21 #[.pointer (some ⟨w.heap.size + 2, 0, none⟩), .int .i64 st.pos] wr (Tryd.RefRes (w.heap.size + 1) (w.heap.size + 2) (.slice (some ⟨bb, o, none⟩) s.size cap) wr (Lx.token (c :: t) st))) := by
            have h9 := Tryd.rtoken_any (w.heap.size + 1) (w.heap.size + 2) (some ⟨bb, o, none⟩) cap s st _ HA.out HS.out hcap (by omega) hlt (by have := HT.out.2.2; omega) HT.out.1
            rw [Hct.out] at h9
            exact h9
          go_wp2_with fail
          refine hcall.out.mono ?_
          rw [Hk.out]
          rintro e W3 ⟨⟨v, rfl⟩, ⟨st2, H2⟩, b2⟩
          have HB3 := Lib.hid (HB.out.trans b2)
          clear b2
          obtain ⟨lv9, bv9, hV9⟩ := H2
          obtain ⟨_, _, _, _, y4, y5, _⟩ := hV9.cells
          have y4 : W3.cell? ⟨w.heap.size + 1 + 1, 4, none⟩ = some (.int .i64 c1) := y4
          have y5 : W3.cell? ⟨w.heap.size + 1 + 1, 5, none⟩ = some (.int .i64 a1) := y5
          have hq : W3.heap[w.heap.size]? = some (.cells #[.int .i64 0, .int .i64 0] 26 (0, 0)) := (HB3.out.block _ (by omega)).trans HRW.out.2.2
          have kq0 : W3.cell? ⟨w.heap.size, 0, none⟩ = some (.int .i64 0) := (cell_of_heap hq 0).trans rfl
          have kq1 : W3.cell? ⟨w.heap.size, 1, none⟩ = some (.int .i64 0) := (cell_of_heap hq 1).trans rfl
          have fq0 : W3.frozen? ⟨w.heap.size, 0, none⟩ = false := free_of_heap hq 0
          have fq1 : W3.frozen? ⟨w.heap.size, 1, none⟩ = false := free_of_heap hq 1
          have HF := Lib.hid (HRW.out.1.trans (HB3.out.mono (by omega)))
          clear hV9 hq z4
          go_wp2_with fail
          go_region
          all_goals
            go_wp2_with fail
            refine bodyPost_ret (v := .tuple #[.slice none 0 0, .agg #[.int .i64 c1, .int .i64 a1]]) (by simp [results, Tryd.results11, go_sem, kq0, kq1]) rfl ?_
            exact ⟨rfl, ((HF.out.setCell (p := ⟨w.heap.size, 0, none⟩) (Nat.le_refl _) _).setCell (p := ⟨w.heap.size, 1, none⟩) (Nat.le_refl _) _).drew⟩
        | ok st2 =>
          have hgoE : Hid (goes s.data.toList st2 false bl = RES) := by show _ = _; rw [Hst2.out, htk]
          have Htp := Lib.hid (token_pos htk)
          have Hk := Lib.hid htk
          clear Hst2 htk
          have hcall : Hid (Calls Tryd.prog 21 #[.pointer (some ⟨w.heap.size + 2, 0, none⟩), .int .i64 st.pos] wr (Tryd.RefRes (w.heap.size + 1) (w.heap.size + 2) (.slice (some ⟨bb, o, none⟩) s.size cap) wr (Lx.token (c :: t) st))) := by
            have h9 := Tryd.rtoken_any (w.heap.size + 1) (w.heap.size + 2) (some ⟨bb, o, none⟩) cap s st _ HA.out HS.out hcap (by omega) hlt (by have := HT.out.2.2; omega) HT.out.1
            rw [Hct.out] at h9
            exact h9
          go_wp2_with fail
          refine hcall.out.mono ?_
          rw [Hk.out]
          rintro e W3 ⟨rfl, H3, b3⟩
          have HA3 := Lib.hid H3
          have HB3 := Lib.hid (HB.out.trans b3)
          have y4 : W3.cell? ⟨w.heap.size + 1 + 1, 4, none⟩ = some (.int .i64 0) := by obtain ⟨l9, b9, h9⟩ := H3; exact h9.cells.2.2.2.2.1
          have hcl : (c :: t).length = s.size - st.pos := by rw [← Hct.out, List.length_drop, ← Lib.size_eq]
          have hq1 := Htp.out.1
          have hq2 := Htp.out.2.1
          rw [hcl] at hq2
          clear H3 b3 hcl z4
          go_wp2_with fail
          go_roundw
          case rel => exact ⟨st2, false, bl, rfl, rfl, rfl, HA3.out, HB3.out, by omega, ⟨Htp.out.2.2.2.2 HT.out.1, by rw [Htp.out.2.2.1]; exact HT.out.2.1, by rw [Htp.out.2.2.2.1, Htp.out.2.2.1]; have := HT.out.2.2; omega⟩, by omega, hgoE.out⟩
          case measure => simp [intOf]; omega
      · cases hi : Lx.indent bl st with
        | error ca =>
          obtain ⟨c1, a1⟩ := ca
          have hRE : RES = .error (c1, a1) := by
            have := Hst.out
            simp only [if_true, hi] at this
            exact this
          have hc1 := indent_code1 hi
          have hneI : ((c1 : Int) == 0) = false := by rw [beq_eq_false_iff_ne]; omega
          have hneI2 : ((c1 : Int) != 0) = true := by rw [bne, hneI]; rfl
          have Hi := Lib.hid hi
          subst hRE
          clear Hst hi x1 x3
          go_wp2_with fail
          refine (Tryd.rbegin_any (w.heap.size + 1) (w.heap.size + 2) _ st bl st.pos _ HA.out HO.out.2.1 (by have := HO.out.2.2; omega)).mono ?_
          rintro e W2 ⟨rfl, H2⟩
          rw [show Lx.indent bl { st with pos := st.pos } = .error (c1, a1) from Hi.out] at H2
          obtain ⟨⟨st2, H2⟩, b2⟩ := H2
          have HB2 := Lib.hid (HB.out.trans b2)
          clear b2
          obtain ⟨lv9, bv9, hV9⟩ := H2
          obtain ⟨_, _, _, _, y4, y5, _⟩ := hV9.cells
          have y4 : W2.cell? ⟨w.heap.size + 1 + 1, 4, none⟩ = some (.int .i64 c1) := y4
          have y5 : W2.cell? ⟨w.heap.size + 1 + 1, 5, none⟩ = some (.int .i64 a1) := y5
          have hq : W2.heap[w.heap.size]? = some (.cells #[.int .i64 0, .int .i64 0] 26 (0, 0)) := (HB2.out.block _ (by omega)).trans HRW.out.2.2
          have kq0 : W2.cell? ⟨w.heap.size, 0, none⟩ = some (.int .i64 0) := (cell_of_heap hq 0).trans rfl
          have kq1 : W2.cell? ⟨w.heap.size, 1, none⟩ = some (.int .i64 0) := (cell_of_heap hq 1).trans rfl
          have fq0 : W2.frozen? ⟨w.heap.size, 0, none⟩ = false := free_of_heap hq 0
          have fq1 : W2.frozen? ⟨w.heap.size, 1, none⟩ = false := free_of_heap hq 1
          have HF := Lib.hid (HRW.out.1.trans (HB2.out.mono (by omega)))
          clear hV9 hq
          go_wp2_with fail
          go_region
          all_goals
            go_wp2_with fail
            refine bodyPost_ret (v := .tuple #[.slice none 0 0, .agg #[.int .i64 c1, .int .i64 a1]]) (by simp [results, Tryd.results11, go_sem, kq0, kq1]) rfl ?_
            exact ⟨rfl, ((HF.out.setCell (p := ⟨w.heap.size, 0, none⟩) (Nat.le_refl _) _).setCell (p := ⟨w.heap.size, 1, none⟩) (Nat.le_refl _) _).drew⟩
        | ok st1 =>
          have Hst2 : Hid (RES = match Lx.token (c :: t) st1 with | .error e => .error e | .ok st2 => goes s.data.toList st2 false bl) := by
            have := Hst.out
            simp only [if_true, hi] at this
            exact this
          have hpos := (indent_pos hi).1
          have HT : Hid (st1.opn ≤ 60 ∧ st1.deep.getLast? = some 0 ∧ st1.toks.length + st1.deep.length ≤ 4 * st1.pos + 3) := by
            have h1 := indent_ok hi HO.out.2.1
            exact ⟨by rw [(indent_pos hi).2]; exact HO.out.1, h1.1, by rw [hpos]; have := HO.out.2.2; omega⟩
          have Hi := Lib.hid hi
          clear Hst hi x1 x3
          go_wp2_with fail
          refine (Tryd.rbegin_any (w.heap.size + 1) (w.heap.size + 2) _ st bl st.pos _ HA.out HO.out.2.1 (by have := HO.out.2.2; omega)).mono ?_
          rintro e W2 ⟨rfl, H2⟩
          rw [show Lx.indent bl { st with pos := st.pos } = .ok st1 from Hi.out] at H2
          obtain ⟨H2, b2⟩ := H2
          have HA2 := Lib.hid H2
          have HB2 := Lib.hid (HB.out.trans b2)
          have HS2 := Lib.hid (HS.out.below b2)
          have z4 : W2.cell? ⟨w.heap.size + 1 + 1, 4, none⟩ = some (.int .i64 0) := by obtain ⟨l9, b9, h9⟩ := H2; exact h9.cells.2.2.2.2.1
          clear H2 b2
          cases htk : Lx.token (c :: t) st1 with
          | error ca =>
            obtain ⟨c1, a1⟩ := ca
            have hRE : RES = .error (c1, a1) := by rw [Hst2.out, htk]
            have hc1 := token_code1 htk
            have hneI : ((c1 : Int) == 0) = false := by rw [beq_eq_false_iff_ne]; omega
            have hneI2 : ((c1 : Int) != 0) = true := by rw [bne, hneI]; rfl
            have Hk := Lib.hid htk
            subst hRE
            clear Hst2 htk
            have hcall : Hid (Calls Tryd.prog 21 #[.pointer (some ⟨w.heap.size + 2, 0, none⟩), .int .i64 st.pos] W2 (Tryd.RefRes (w.heap.size + 1) (w.heap.size + 2) (.slice (some ⟨bb, o, none⟩) s.size cap) W2 (Lx.token (c :: t) st1))) := by
              have h9 := Tryd.rtoken_any (w.heap.size + 1) (w.heap.size + 2) (some ⟨bb, o, none⟩) cap s st1 _ HA2.out HS2.out hcap (by omega) (by omega) (by have := HT.out.2.2; omega) HT.out.1
              rw [hpos, Hct.out] at h9
              exact h9
            go_wp2_with fail
            refine hcall.out.mono ?_
            rw [Hk.out]
            rintro e W3 ⟨⟨v, rfl⟩, ⟨st2, H2⟩, b2⟩
            have HB3 := Lib.hid (HB2.out.trans b2)
            clear b2
            obtain ⟨lv9, bv9, hV9⟩ := H2
            obtain ⟨_, _, _, _, y4, y5, _⟩ := hV9.cells
            have y4 : W3.cell? ⟨w.heap.size + 1 + 1, 4, none⟩ = some (.int .i64 c1) := y4
            have y5 : W3.cell? ⟨w.heap.size + 1 + 1, 5, none⟩ = some (.int .i64 a1) := y5
            have hq : W3.heap[w.heap.size]? = some (.cells #[.int .i64 0, .int .i64 0] 26 (0, 0)) := (HB3.out.block _ (by omega)).trans HRW.out.2.2
            have kq0 : W3.cell? ⟨w.heap.size, 0, none⟩ = some (.int .i64 0) := (cell_of_heap hq 0).trans rfl
            have kq1 : W3.cell? ⟨w.heap.size, 1, none⟩ = some (.int .i64 0) := (cell_of_heap hq 1).trans rfl
            have fq0 : W3.frozen? ⟨w.heap.size, 0, none⟩ = false := free_of_heap hq 0
            have fq1 : W3.frozen? ⟨w.heap.size, 1, none⟩ = false := free_of_heap hq 1
            have HF := Lib.hid (HRW.out.1.trans (HB3.out.mono (by omega)))
            clear hV9 hq z4
            go_wp2_with fail
            go_region
            all_goals
              go_wp2_with fail
              refine bodyPost_ret (v := .tuple #[.slice none 0 0, .agg #[.int .i64 c1, .int .i64 a1]]) (by simp [results, Tryd.results11, go_sem, kq0, kq1]) rfl ?_
              exact ⟨rfl, ((HF.out.setCell (p := ⟨w.heap.size, 0, none⟩) (Nat.le_refl _) _).setCell (p := ⟨w.heap.size, 1, none⟩) (Nat.le_refl _) _).drew⟩
          | ok st2 =>
            have hgoE : Hid (goes s.data.toList st2 false bl = RES) := by show _ = _; rw [Hst2.out, htk]
            have Htp := Lib.hid (token_pos htk)
            have Hk := Lib.hid htk
            clear Hst2 htk
            have hcall : Hid (Calls Tryd.prog 21 #[.pointer (some ⟨w.heap.size + 2, 0, none⟩), .int .i64 st.pos] W2 (Tryd.RefRes (w.heap.size + 1) (w.heap.size + 2) (.slice (some ⟨bb, o, none⟩) s.size cap) W2 (Lx.token (c :: t) st1))) := by
              have h9 := Tryd.rtoken_any (w.heap.size + 1) (w.heap.size + 2) (some ⟨bb, o, none⟩) cap s st1 _ HA2.out HS2.out hcap (by omega) (by omega) (by have := HT.out.2.2; omega) HT.out.1
              rw [hpos, Hct.out] at h9
              exact h9
            go_wp2_with fail
            refine hcall.out.mono ?_
            rw [Hk.out]
            rintro e W3 ⟨rfl, H3, b3⟩
            have HA3 := Lib.hid H3
            have HB3 := Lib.hid (HB2.out.trans b3)
            have y4 : W3.cell? ⟨w.heap.size + 1 + 1, 4, none⟩ = some (.int .i64 0) := by obtain ⟨l9, b9, h9⟩ := H3; exact h9.cells.2.2.2.2.1
            have hcl : (c :: t).length = s.size - st.pos := by rw [← Hct.out, List.length_drop, ← Lib.size_eq]
            have hq1 := Htp.out.1
            have hq2 := Htp.out.2.1
            rw [hcl] at hq2
            clear H3 b3 hcl z4
            go_wp2_with fail
            go_roundw
            case rel => exact ⟨st2, false, bl, rfl, rfl, rfl, HA3.out, HB3.out, by omega, ⟨Htp.out.2.2.2.2 HT.out.1, by rw [Htp.out.2.2.1]; exact HT.out.2.1, by rw [Htp.out.2.2.2.1, Htp.out.2.2.1]; have := HT.out.2.2; omega⟩, by omega, hgoE.out⟩
            case measure => simp [intOf]; omega
    · obtain hpe : st.pos = s.size := by omega
      have hltN : ¬ st.pos < s.size := hlt
      have hpI : ¬ (st.pos : Int) < (s.size : Int) := by omega
      have hRE : RES = .ok (finish s.size st) := by rw [← hgo.out, goes_end _ _ _ _ (by rw [← Lib.size_eq]; omega), ← Lib.size_eq]
      obtain ⟨D, hD⟩ : ∃ D, st.deep.length = D := ⟨_, rfl⟩
      have HD := Lib.hid hD
      have hD1 : 1 ≤ D := by
        rw [← hD]
        cases hh : st.deep with
        | nil => have := HO.out.2.1; rw [hh] at this; cases this
        | cons y r => simp
      have hDL : D + st.toks.length ≤ 800000 := by have := HO.out.2.2; omega
      have HDL := Lib.hid hDL
      have Hpe := Lib.hid hpe
      have HRE := Lib.hid hRE
      clear hgo hRE hD hlt hDL hpe
      by_cases h0 : st.toks = []
      · obtain ⟨TS, hTS⟩ : ∃ TS, TS = st.toks := ⟨_, rfl⟩
        have hF := finish_toks s.size st TS (.inl ⟨h0, hTS⟩)
        rw [HD.out] at hF
        obtain ⟨LF, hLF⟩ : ∃ LF, TS ++ List.replicate (D - 1) (⟨8, [], s.size⟩ : Tok) ++ [⟨9, [], s.size⟩] = LF := ⟨_, rfl⟩
        have hRL : RES = .ok LF := by rw [HRE.out, hF, hLF]
        subst hRL
        have HLF := Lib.hid hLF
        have HTS : Hid (TS.length + D ≤ 900000) := by show _ ≤ _; rw [hTS]; have := HDL.out; omega
        have HT1 : Hid (Tryd.RefAt (w.heap.size + 1) (w.heap.size + 2) (.slice a s.size cap) { st with toks := TS } 0 0 wr) := by show Tryd.RefAt _ _ _ _ _ _ _; rw [hTS]; exact HA.out
        have HTB := HB
        obtain ⟨g1, c1, rfl⟩ := slice_form HV.out.2.2.1
        rw [h0, List.length_nil] at x1
        clear hF hLF hTS h0 HV
        go_wp2
        go_loopw [10] (fun i wl => ∃ (j : Nat), i = .int .i64 ((j : Int) + 1) ∧ j ≤ D - 1 ∧ Tryd.RefAt (w.heap.size + 1) (w.heap.size + 2) (.slice a s.size cap) { st with toks := TS ++ List.replicate j ⟨8, [], s.size⟩ } 0 0 wl ∧ Below (w.heap.size + 1) (Tryd.refW a s.size cap w) wl) (fun i _ => D + 1 - (intOf i).toNat)
        case atStart => exact ⟨0, by simp, by omega, by simpa using HT1.out, HTB.out⟩
        case round =>
          obtain ⟨j, rfl, hj, hA, hbl⟩ := hrel
          have hDb : D ≤ 900000 := by have := HTS.out; omega
          have HJ := Lib.hid hA
          have HJB := Lib.hid hbl
          obtain ⟨lvj, bvj, hVj⟩ := hA
          have hcj := hVj.cells
          have x2 : wr.cell? ⟨w.heap.size + 1 + 1, 2, none⟩ = some bvj := hcj.2.2.1
          clear hcj
          obtain ⟨gj, cj, rfl⟩ := slice_form hVj.2.2.2.1
          rw [show ({ st with toks := TS ++ List.replicate j ⟨8, [], s.size⟩ } : St).deep.length = D from HD.out] at x2
          have htl : (TS ++ List.replicate j (⟨8, [], s.size⟩ : Tok)).length ≤ 1000000 := by rw [List.length_append, List.length_replicate]; have := HTS.out; omega
          have Htl := Lib.hid htl
          clear hVj htl
          by_cases hlt : j < D - 1
          · have hjI : decide ((j : Int) + 1 < (D : Int)) = true := by simp; omega
            go_wp2_with fail
            refine (Tryd.radd_any (w.heap.size + 1) (w.heap.size + 2) _ _ 0 0 8 s.size ⟨#[]⟩ _ HJ.out Htl.out).mono ?_
            rintro e W5 ⟨rfl, H5, b5⟩
            have H6 : Hid (Tryd.RefAt (w.heap.size + 1) (w.heap.size + 2) (.slice a s.size cap) { st with toks := TS ++ List.replicate (j + 1) ⟨8, [], s.size⟩ } 0 0 W5) := by
              show Tryd.RefAt _ _ _ _ _ _ W5
              rw [rep_snoc, ← List.append_assoc]; exact H5
            have hb5 := HJB.out.trans b5
            clear H5 b5
            go_wp2_with fail
            go_roundw
            case rel => exact ⟨j + 1, by go_num, by omega, H6.out, hb5⟩
            case measure => simp [intOf]; omega
          · obtain rfl : j = D - 1 := by omega
            have hjI : decide (((D - 1 : Nat) : Int) + 1 < (D : Int)) = false := by simp; omega
            go_wp2_with fail
            refine (Tryd.radd_any (w.heap.size + 1) (w.heap.size + 2) _ _ 0 0 9 s.size ⟨#[]⟩ _ HJ.out Htl.out).mono ?_
            rintro e W5 ⟨rfl, H5, b5⟩
            have hb5 := HJB.out.trans b5
            obtain ⟨lv5, bv5, hV5⟩ := H5
            obtain ⟨_, y1, _⟩ := hV5.cells
            have y1 : W5.cell? ⟨w.heap.size + 1 + 1, 1, none⟩ = some lv5 := y1
            have hown := hV5.2.2.1
            have hown2 : W5.ownsRow (w.heap.size + 1) 35 3 lv5 LF.length (tokCells LF) := by rw [← HLF.out]; exact hown
            obtain ⟨g5, c5, rfl⟩ := slice_form hown2
            have hq : W5.heap[w.heap.size]? = some (.cells #[.int .i64 0, .int .i64 0] 26 (0, 0)) := (hb5.block _ (by omega)).trans HRW.out.2.2
            have kq0 : W5.cell? ⟨w.heap.size, 0, none⟩ = some (.int .i64 0) := (cell_of_heap hq 0).trans rfl
            have kq1 : W5.cell? ⟨w.heap.size, 1, none⟩ = some (.int .i64 0) := (cell_of_heap hq 1).trans rfl
            have fq0 : W5.frozen? ⟨w.heap.size, 0, none⟩ = false := free_of_heap hq 0
            have fq1 : W5.frozen? ⟨w.heap.size, 1, none⟩ = false := free_of_heap hq 1
            have HO5 := Lib.hid hown2
            have HB5 := Lib.hid (HRW.out.1.trans (hb5.mono (by omega)))
            clear hV5 hown hown2 b5 hq hb5
            go_wp2_with fail
            refine bodyPost_ret (v := .tuple #[.slice g5 LF.length c5, .agg #[.int .i64 0, .int .i64 0]]) (by simp [results, Tryd.results11, go_sem, kq0, kq1]) rfl ?_
            refine ⟨⟨_, rfl, ownsRow_base (ownsRow_setCell_below (a := ⟨w.heap.size, 1, none⟩) (ownsRow_setCell_below (a := ⟨w.heap.size, 0, none⟩) HO5.out ?_ _) ?_ _) (by omega)⟩, (HB5.out.setCell (p := ⟨w.heap.size, 0, none⟩) (Nat.le_refl _) _).setCell (p := ⟨w.heap.size, 1, none⟩) (Nat.le_refl _) _⟩
            · show w.heap.size < w.heap.size + 1; omega
            · show w.heap.size < w.heap.size + 1; omega
      · have hts : st.toks = st.toks.dropLast ++ [st.toks.getLast h0] := (List.dropLast_concat_getLast h0).symm
        obtain ⟨ts, hts2⟩ : ∃ ts, ts = st.toks.dropLast := ⟨_, rfl⟩
        obtain ⟨k, hk⟩ : ∃ k, k = st.toks.getLast h0 := ⟨_, rfl⟩
        rw [← hts2, ← hk] at hts
        clear hts2 hk h0
        have htl : st.toks.length = ts.length + 1 := by rw [hts, List.length_append]; rfl
        obtain ⟨g1, c1, e1⟩ := slice_form HV.out.2.2.1
        have hform : ∃ g, g1 = some ⟨g, 0, none⟩ ∧ wr.cell? ⟨g, ts.length * 3, none⟩ = some (.int .i64 k.kind) := by
          have h3 := HV.out.2.2.1
          rw [e1] at h3
          rcases h3.2 with ⟨e, h0⟩ | ⟨g, cap', cur, e, _⟩
          · exact absurd h0 (by omega)
          · have eg : g1 = some ⟨g, 0, none⟩ := by simpa using congrArg (fun v => match v with | Value.slice a _ _ => a | _ => none) e
            subst eg
            refine ⟨g, rfl, ?_⟩
            have h6 : wr.ownsRow (w.heap.size + 1) 35 3 (.slice (some ⟨g, 0, none⟩) (ts.length + 1) c1) (ts.length + 1) (tokCells st.toks) := by have h7 := h3; rw [htl] at h7; exact h7
            have h5 := World.ownsRow.cellAt (n := ts.length + 1) (size := 3) h6 (ts.length * 3) (by omega)
            rw [hts, tokCells_append, List.getElem?_append_right (by rw [tokCells_len]; exact Nat.le_refl _), tokCells_len, Nat.sub_self] at h5
            exact h5
        obtain ⟨g, rfl, kcell⟩ := hform
        subst e1
        rw [htl] at x1
        have hls : ts.length ≤ 800000 := by have := HDL.out; omega
        have hwr : IntKind.i64.wrap (ts.length : Int) = (ts.length : Int) := IntWalk.i64_in _ (by omega)
        have hi0 : (0 : Int) < ((ts.length + 1 : Nat) : Int) := by omega
        have hi1 : IntKind.i64.wrap (((ts.length + 1 : Nat) : Int) - 1) = (ts.length : Int) := by rw [IntWalk.i64_in _ (by omega)]; omega
        have hi2 : (ts.length : Int) < ((ts.length + 1 : Nat) : Int) := by omega
        have hi3 : (0 : Int) ≤ (ts.length : Int) := by omega
        obtain ⟨K, hK⟩ : ∃ K, k.kind = K := ⟨_, rfl⟩
        rw [hK] at kcell
        have Hts := Lib.hid hts
        have Htl := Lib.hid htl
        have HK := Lib.hid hK
        clear HV hts htl hK
        by_cases hkk : K < 6 ∨ 8 < K
        · obtain ⟨TS, hTS⟩ : ∃ TS, TS = st.toks ++ [⟨6, [], s.size⟩] := ⟨_, rfl⟩
          have hF := finish_toks s.size st TS (.inr (.inr ⟨ts, k, Hts.out, by rw [HK.out]; exact hkk, hTS⟩))
          rw [HD.out] at hF
          obtain ⟨LF, hLF⟩ : ∃ LF, TS ++ List.replicate (D - 1) (⟨8, [], s.size⟩ : Tok) ++ [⟨9, [], s.size⟩] = LF := ⟨_, rfl⟩
          have hRL : RES = .ok LF := by rw [HRE.out, hF, hLF]
          subst hRL
          have HLF := Lib.hid hLF
          have HTS : Hid (TS.length + D ≤ 900000) := by show _ ≤ _; rw [hTS, List.length_append]; simp only [List.length_cons, List.length_nil]; have := HDL.out; omega
          have q6 : ((K : Int) != 6) = true := by rw [bne_iff_ne]; omega
          have q7 : ((K : Int) != 7) = true := by rw [bne_iff_ne]; omega
          have q8 : ((K : Int) != 8) = true := by rw [bne_iff_ne]; omega
          have hTSH := Lib.hid hTS
          clear hF hLF hTS hkk
          go_wp2_with fail
          go_quiet (fail)
          have H1 := Lib.hid (HA.out.drewN nq)
          have hb1 : Below (w.heap.size + 1) (Tryd.refW a s.size cap w) (wr.drewN nq) := below_drewN HB.out nq
          obtain ⟨W1, hW1⟩ : ∃ W, W = wr.drewN nq := ⟨_, rfl⟩
          rw [← hW1] at H1 hb1 ⊢
          clear hW1 x1 x3 kcell
          go_wp2_with fail
          refine (Tryd.radd_any (w.heap.size + 1) (w.heap.size + 2) _ st 0 0 6 s.size ⟨#[]⟩ _ H1.out (by have := HDL.out; omega)).mono ?_
          rintro e W2 ⟨rfl, H2, b2⟩
          have HT1 : Hid (Tryd.RefAt (w.heap.size + 1) (w.heap.size + 2) (.slice a s.size cap) { st with toks := TS } 0 0 W2) := by show Tryd.RefAt _ _ _ _ _ _ _; rw [hTSH.out]; exact H2
          have HTB := Lib.hid (hb1.trans b2)
          clear H2 b2
          go_wp2
          go_loopw [10] (fun i wl => ∃ (j : Nat), i = .int .i64 ((j : Int) + 1) ∧ j ≤ D - 1 ∧ Tryd.RefAt (w.heap.size + 1) (w.heap.size + 2) (.slice a s.size cap) { st with toks := TS ++ List.replicate j ⟨8, [], s.size⟩ } 0 0 wl ∧ Below (w.heap.size + 1) (Tryd.refW a s.size cap w) wl) (fun i _ => D + 1 - (intOf i).toNat)
          case atStart => exact ⟨0, by simp, by omega, by simpa using HT1.out, HTB.out⟩
          case round =>
            obtain ⟨j, rfl, hj, hA, hbl⟩ := hrel
            have hDb : D ≤ 900000 := by have := HTS.out; omega
            have HJ := Lib.hid hA
            have HJB := Lib.hid hbl
            obtain ⟨lvj, bvj, hVj⟩ := hA
            have hcj := hVj.cells
            have x2 : wr.cell? ⟨w.heap.size + 1 + 1, 2, none⟩ = some bvj := hcj.2.2.1
            clear hcj
            obtain ⟨gj, cj, rfl⟩ := slice_form hVj.2.2.2.1
            rw [show ({ st with toks := TS ++ List.replicate j ⟨8, [], s.size⟩ } : St).deep.length = D from HD.out] at x2
            have htl : (TS ++ List.replicate j (⟨8, [], s.size⟩ : Tok)).length ≤ 1000000 := by rw [List.length_append, List.length_replicate]; have := HTS.out; omega
            have Htl := Lib.hid htl
            clear hVj htl
            by_cases hlt : j < D - 1
            · have hjI : decide ((j : Int) + 1 < (D : Int)) = true := by simp; omega
              go_wp2_with fail
              refine (Tryd.radd_any (w.heap.size + 1) (w.heap.size + 2) _ _ 0 0 8 s.size ⟨#[]⟩ _ HJ.out Htl.out).mono ?_
              rintro e W5 ⟨rfl, H5, b5⟩
              have H6 : Hid (Tryd.RefAt (w.heap.size + 1) (w.heap.size + 2) (.slice a s.size cap) { st with toks := TS ++ List.replicate (j + 1) ⟨8, [], s.size⟩ } 0 0 W5) := by
                show Tryd.RefAt _ _ _ _ _ _ W5
                rw [rep_snoc, ← List.append_assoc]; exact H5
              have hb5 := HJB.out.trans b5
              clear H5 b5
              go_wp2_with fail
              go_roundw
              case rel => exact ⟨j + 1, by go_num, by omega, H6.out, hb5⟩
              case measure => simp [intOf]; omega
            · obtain rfl : j = D - 1 := by omega
              have hjI : decide (((D - 1 : Nat) : Int) + 1 < (D : Int)) = false := by simp; omega
              go_wp2_with fail
              refine (Tryd.radd_any (w.heap.size + 1) (w.heap.size + 2) _ _ 0 0 9 s.size ⟨#[]⟩ _ HJ.out Htl.out).mono ?_
              rintro e W5 ⟨rfl, H5, b5⟩
              have hb5 := HJB.out.trans b5
              obtain ⟨lv5, bv5, hV5⟩ := H5
              obtain ⟨_, y1, _⟩ := hV5.cells
              have y1 : W5.cell? ⟨w.heap.size + 1 + 1, 1, none⟩ = some lv5 := y1
              have hown := hV5.2.2.1
              have hown2 : W5.ownsRow (w.heap.size + 1) 35 3 lv5 LF.length (tokCells LF) := by rw [← HLF.out]; exact hown
              obtain ⟨g5, c5, rfl⟩ := slice_form hown2
              have hq : W5.heap[w.heap.size]? = some (.cells #[.int .i64 0, .int .i64 0] 26 (0, 0)) := (hb5.block _ (by omega)).trans HRW.out.2.2
              have kq0 : W5.cell? ⟨w.heap.size, 0, none⟩ = some (.int .i64 0) := (cell_of_heap hq 0).trans rfl
              have kq1 : W5.cell? ⟨w.heap.size, 1, none⟩ = some (.int .i64 0) := (cell_of_heap hq 1).trans rfl
              have fq0 : W5.frozen? ⟨w.heap.size, 0, none⟩ = false := free_of_heap hq 0
              have fq1 : W5.frozen? ⟨w.heap.size, 1, none⟩ = false := free_of_heap hq 1
              have HO5 := Lib.hid hown2
              have HB5 := Lib.hid (HRW.out.1.trans (hb5.mono (by omega)))
              clear hV5 hown hown2 b5 hq hb5
              go_wp2_with fail
              refine bodyPost_ret (v := .tuple #[.slice g5 LF.length c5, .agg #[.int .i64 0, .int .i64 0]]) (by simp [results, Tryd.results11, go_sem, kq0, kq1]) rfl ?_
              refine ⟨⟨_, rfl, ownsRow_base (ownsRow_setCell_below (a := ⟨w.heap.size, 1, none⟩) (ownsRow_setCell_below (a := ⟨w.heap.size, 0, none⟩) HO5.out ?_ _) ?_ _) (by omega)⟩, (HB5.out.setCell (p := ⟨w.heap.size, 0, none⟩) (Nat.le_refl _) _).setCell (p := ⟨w.heap.size, 1, none⟩) (Nat.le_refl _) _⟩
              · show w.heap.size < w.heap.size + 1; omega
              · show w.heap.size < w.heap.size + 1; omega
        · obtain ⟨TS, hTS⟩ : ∃ TS, TS = st.toks := ⟨_, rfl⟩
          have hF := finish_toks s.size st TS (.inr (.inl ⟨ts, k, Hts.out, by rw [HK.out]; exact hkk, hTS⟩))
          rw [HD.out] at hF
          obtain ⟨LF, hLF⟩ : ∃ LF, TS ++ List.replicate (D - 1) (⟨8, [], s.size⟩ : Tok) ++ [⟨9, [], s.size⟩] = LF := ⟨_, rfl⟩
          have hRL : RES = .ok LF := by rw [HRE.out, hF, hLF]
          subst hRL
          have HLF := Lib.hid hLF
          have HTS : Hid (TS.length + D ≤ 900000) := by show _ ≤ _; rw [hTS]; have := HDL.out; omega
          have hTSH := Lib.hid hTS
          have hK3 : K = 6 ∨ K = 7 ∨ K = 8 := by omega
          clear hF hLF hTS hkk
          rcases hK3 with hK3 | hK3 | hK3
          all_goals
            rw [hK3] at kcell
            clear hK3
            go_wp2_with fail
            go_quiet (fail)
            have H1 := Lib.hid (HA.out.drewN nq)
            have hb1 : Below (w.heap.size + 1) (Tryd.refW a s.size cap w) (wr.drewN nq) := below_drewN HB.out nq
            obtain ⟨W1, hW1⟩ : ∃ W, W = wr.drewN nq := ⟨_, rfl⟩
            rw [← hW1] at H1 hb1 ⊢
            have HT1 : Hid (Tryd.RefAt (w.heap.size + 1) (w.heap.size + 2) (.slice a s.size cap) { st with toks := TS } 0 0 W1) := by show Tryd.RefAt _ _ _ _ _ _ _; rw [hTSH.out]; exact H1.out
            have HTB := Lib.hid hb1
            clear hW1 x1 x3 kcell
            go_wp2
            go_loopw [10] (fun i wl => ∃ (j : Nat), i = .int .i64 ((j : Int) + 1) ∧ j ≤ D - 1 ∧ Tryd.RefAt (w.heap.size + 1) (w.heap.size + 2) (.slice a s.size cap) { st with toks := TS ++ List.replicate j ⟨8, [], s.size⟩ } 0 0 wl ∧ Below (w.heap.size + 1) (Tryd.refW a s.size cap w) wl) (fun i _ => D + 1 - (intOf i).toNat)
            case atStart => exact ⟨0, by simp, by omega, by simpa using HT1.out, HTB.out⟩
            case round =>
              obtain ⟨j, rfl, hj, hA, hbl⟩ := hrel
              have hDb : D ≤ 900000 := by have := HTS.out; omega
              have HJ := Lib.hid hA
              have HJB := Lib.hid hbl
              obtain ⟨lvj, bvj, hVj⟩ := hA
              have hcj := hVj.cells
              have x2 : wr.cell? ⟨w.heap.size + 1 + 1, 2, none⟩ = some bvj := hcj.2.2.1
              clear hcj
              obtain ⟨gj, cj, rfl⟩ := slice_form hVj.2.2.2.1
              rw [show ({ st with toks := TS ++ List.replicate j ⟨8, [], s.size⟩ } : St).deep.length = D from HD.out] at x2
              have htl : (TS ++ List.replicate j (⟨8, [], s.size⟩ : Tok)).length ≤ 1000000 := by rw [List.length_append, List.length_replicate]; have := HTS.out; omega
              have Htl := Lib.hid htl
              clear hVj htl
              by_cases hlt : j < D - 1
              · have hjI : decide ((j : Int) + 1 < (D : Int)) = true := by simp; omega
                go_wp2_with fail
                refine (Tryd.radd_any (w.heap.size + 1) (w.heap.size + 2) _ _ 0 0 8 s.size ⟨#[]⟩ _ HJ.out Htl.out).mono ?_
                rintro e W5 ⟨rfl, H5, b5⟩
                have H6 : Hid (Tryd.RefAt (w.heap.size + 1) (w.heap.size + 2) (.slice a s.size cap) { st with toks := TS ++ List.replicate (j + 1) ⟨8, [], s.size⟩ } 0 0 W5) := by
                  show Tryd.RefAt _ _ _ _ _ _ W5
                  rw [rep_snoc, ← List.append_assoc]; exact H5
                have hb5 := HJB.out.trans b5
                clear H5 b5
                go_wp2_with fail
                go_roundw
                case rel => exact ⟨j + 1, by go_num, by omega, H6.out, hb5⟩
                case measure => simp [intOf]; omega
              · obtain rfl : j = D - 1 := by omega
                have hjI : decide (((D - 1 : Nat) : Int) + 1 < (D : Int)) = false := by simp; omega
                go_wp2_with fail
                refine (Tryd.radd_any (w.heap.size + 1) (w.heap.size + 2) _ _ 0 0 9 s.size ⟨#[]⟩ _ HJ.out Htl.out).mono ?_
                rintro e W5 ⟨rfl, H5, b5⟩
                have hb5 := HJB.out.trans b5
                obtain ⟨lv5, bv5, hV5⟩ := H5
                obtain ⟨_, y1, _⟩ := hV5.cells
                have y1 : W5.cell? ⟨w.heap.size + 1 + 1, 1, none⟩ = some lv5 := y1
                have hown := hV5.2.2.1
                have hown2 : W5.ownsRow (w.heap.size + 1) 35 3 lv5 LF.length (tokCells LF) := by rw [← HLF.out]; exact hown
                obtain ⟨g5, c5, rfl⟩ := slice_form hown2
                have hq : W5.heap[w.heap.size]? = some (.cells #[.int .i64 0, .int .i64 0] 26 (0, 0)) := (hb5.block _ (by omega)).trans HRW.out.2.2
                have kq0 : W5.cell? ⟨w.heap.size, 0, none⟩ = some (.int .i64 0) := (cell_of_heap hq 0).trans rfl
                have kq1 : W5.cell? ⟨w.heap.size, 1, none⟩ = some (.int .i64 0) := (cell_of_heap hq 1).trans rfl
                have fq0 : W5.frozen? ⟨w.heap.size, 0, none⟩ = false := free_of_heap hq 0
                have fq1 : W5.frozen? ⟨w.heap.size, 1, none⟩ = false := free_of_heap hq 1
                have HO5 := Lib.hid hown2
                have HB5 := Lib.hid (HRW.out.1.trans (hb5.mono (by omega)))
                clear hV5 hown hown2 b5 hq hb5
                go_wp2_with fail
                refine bodyPost_ret (v := .tuple #[.slice g5 LF.length c5, .agg #[.int .i64 0, .int .i64 0]]) (by simp [results, Tryd.results11, go_sem, kq0, kq1]) rfl ?_
                refine ⟨⟨_, rfl, ownsRow_base (ownsRow_setCell_below (a := ⟨w.heap.size, 1, none⟩) (ownsRow_setCell_below (a := ⟨w.heap.size, 0, none⟩) HO5.out ?_ _) ?_ _) (by omega)⟩, (HB5.out.setCell (p := ⟨w.heap.size, 0, none⟩) (Nat.le_refl _) _).setCell (p := ⟨w.heap.size, 1, none⟩) (Nat.le_refl _) _⟩
                · show w.heap.size < w.heap.size + 1; omega
                · show w.heap.size < w.heap.size + 1; omega

/-- The reference's Tokens, whole. -/
theorem Tryd.rtokens_any (a : Option Addr) (cap : Nat) (s : ByteArray) (w : World) (hb : BsIn w a s) (hcap : s.size ≤ cap) :
    Calls Tryd.prog 11 #[.slice a s.size cap] w (Tryd.TokOut w (lex s.data.toList)) := by
  unfold lex
  rw [← Lib.size_eq]
  by_cases h : 65536 < s.size
  · rw [if_pos h]; exact Tryd.rtokens_long a cap s w h
  · rw [if_neg h, Lib.size_eq]; exact Tryd.rtokens_short a cap s w (by omega) hb hcap
end Go.Proofs
