/-
  Walks: token, past.
-/
import Derived.Test.YtdbkibnplilogaaDoorLxJ
set_option linter.unusedVariables false
namespace Go.Lx
open Go.Lib Go.Lt
theorem unq_bound {l x : List UInt8} {n : Nat} (h : unq l = some (x, n)) : x.length ≤ 5 * n ∧ 2 ≤ n ∧ n ≤ l.length := by
  cases l with
  | nil => cases h
  | cons c t =>
    by_cases hq : c.toNat = 39 ∨ c.toNat = 34
    · rw [show unq (c :: t) = unqGo c t [] 1 from if_pos hq] at h
      have := unqF_len c _ _ _ _ _ _ h
      simp only [List.length_nil, List.length_cons] at this ⊢
      omega
    · rw [show unq (c :: t) = none from if_neg hq] at h
      cases h

def pastOf (l : List UInt8) : Nat := (l.takeWhile (· == 32)).length + (match l.drop (l.takeWhile (· == 32)).length with | [] => 0 | c :: t => if c = 35 then remark (c :: t) else 0)
theorem pastOf_nil : pastOf [] = 0 := rfl
theorem pastOf_blank (t : List UInt8) : pastOf (32 :: t) = 1 + pastOf t := by
  unfold pastOf
  rw [List.takeWhile_cons, if_pos (by rfl), List.length_cons, List.drop_succ_cons]
  omega
theorem pastOf_remark (t : List UInt8) : pastOf (35 :: t) = remark (35 :: t) := by
  unfold pastOf
  rw [List.takeWhile_cons, if_neg (by decide)]
  simp
theorem pastOf_other (c : UInt8) (t : List UInt8) (h1 : c ≠ 32) (h2 : c ≠ 35) : pastOf (c :: t) = 0 := by
  unfold pastOf
  rw [List.takeWhile_cons, if_neg (by simpa using h1)]
  simp [h2]

theorem remark_cons (c : UInt8) (t : List UInt8) : remark (c :: t) = if c = 10 then 0 else 1 + remark t := by
  unfold remark
  rw [List.takeWhile_cons]
  by_cases h : c = 10
  · simp [h]
  · simp [h]; omega
theorem remark_index (l : List UInt8) : (indexByte l 10 = -1 ∧ remark l = l.length) ∨ indexByte l 10 = remark l := by
  induction l with
  | nil => exact .inl ⟨rfl, rfl⟩
  | cons c t ih =>
    rw [remark_cons]
    unfold indexByte
    by_cases h : c = 10
    · right; subst h; rfl
    · rw [if_neg h, if_neg (by simpa using h)]
      rcases ih with ⟨h1, h2⟩ | h1
      · left; rw [h1, h2, List.length_cons]; exact ⟨rfl, by omega⟩
      · right; rw [h1, if_neg (by rw [beq_iff_eq]; omega)]; omega
theorem remark_le (l : List UInt8) : remark l ≤ l.length := List.Sublist.length_le (List.takeWhile_sublist _)
end Go.Lx
namespace Go.Proofs
open Go.RowKit Go.Lx Go.Lt

theorem u8_beq (c : UInt8) (n : Nat) (hn : n < 256) : ((c.toNat : Int) == (n : Int)) = (c == n.toUInt8) := by
  rw [Bool.eq_iff_iff, beq_iff_eq, beq_iff_eq, ← UInt8.toNat_inj, Lt.u8 n hn]
  omega

set_option maxHeartbeats 4000000 in
theorem Tryd.ltoken_any (B b : Nat) (s : ByteArray) (st : St) (w : World) (h : Tryd.LexAt B b s st w) (hT : Tryd.TabsIn B w) (hs : s.size ≤ 100000) (hp : st.pos < s.size) (hl : st.toks.length ≤ 1000000) (ho : st.opn ≤ 60) :
    Calls Tryd.prog 27 #[.pointer (some ⟨b, 0, none⟩)] w (Tryd.LexOut B b s w (token (s.data.toList.drop st.pos) st)) := by
  have hBw := h.base
  obtain ⟨lv, bv, hV⟩ := id h
  obtain ⟨c0, c1, _⟩ := hV.cells
  have H := Lib.hid h
  have HT := Lib.hid hT
  have hpI : (st.pos : Int) < (s.size : Int) := by omega
  have hdk := drop_cons s st.pos hp
  obtain ⟨c, hc⟩ : ∃ c, s[st.pos] = c := ⟨_, rfl⟩
  rw [hc] at hdk
  obtain ⟨t, ht⟩ : ∃ t, s.data.toList.drop (st.pos + 1) = t := ⟨_, rfl⟩
  rw [ht] at hdk
  have Hdk := Lib.hid hdk
  obtain ⟨RES, hRES⟩ : ∃ r, token (c :: t) st = r := ⟨_, rfl⟩
  have HR := Lib.hid hRES
  have HB : Hid (∀ nq r e w', Tryd.LexOut B b s (w.drewN nq) r e w' → r = RES → Tryd.LexOut B b s w RES e w') := by
    intro nq r e w' h hr
    subst hr
    have hd : Below B w (w.drewN nq) := below_drewN (Below.refl B w) nq
    cases r with
    | ok st2 => exact ⟨h.1, h.2.1, hd.trans h.2.2⟩
    | error ca => exact ⟨h.1, hd.trans h.2⟩
  have HL : Hid (∀ nq, Tryd.LexAt B b s st (w.drewN nq)) := fun nq => H.out.below (below_drewN (Below.refl _ w) nq)
  have HT2 : Hid (∀ nq, Tryd.TabsIn B (w.drewN nq)) := fun nq => HT.out.below (below_drewN (Below.refl B w) nq)
  rw [hdk, hRES]
  clear h hT hV hdk ht hRES
  by_cases hlet : isLet c = true
  · have hcall : Hid (∀ nq, Calls Tryd.prog 41 #[.pointer (some ⟨b, 0, none⟩)] (w.drewN nq) (fun e w' => Tryd.LexOut B b s w RES e w')) := by
      intro nq
      refine (Tryd.name_any B b s st _ (HL.out nq) (by omega) (by omega) hl).mono ?_
      intro e w' h3
      exact HB.out _ _ _ _ h3 (by rw [← HR.out, Hdk.out]; unfold token; simp only [hlet, if_true])
    go_enter Tryd.func27, Tryd.ntmps27
    go_wp2_with fail
    go_quiet (fail)
    go_wp2_with fail
    refine (Tryd.isLetter_any c _).mono ?_
    rw [hlet]
    rintro e W2 ⟨rfl, rfl⟩
    go_wp2_with fail
    refine (hcall.out _).mono ?_
    intro e W3 h4
    cases RES with
    | ok st2 =>
      obtain ⟨rfl, h5, h6⟩ := h4
      go_wp2_with fail
      refine bodyPost_end (results_none rfl _ _ _) rfl ?_
      exact ⟨rfl, h5, h6⟩
    | error ca =>
      obtain ⟨c', a'⟩ := ca
      obtain ⟨rfl, h6⟩ := h4
      go_wp2_with fail
      exact ⟨rfl, rfl, h6⟩
  replace hlet : isLet c = false := by simpa using hlet
  by_cases hdig : isDig c = true
  · have hcall : Hid (∀ nq, Calls Tryd.prog 43 #[.pointer (some ⟨b, 0, none⟩)] (w.drewN nq) (fun e w' => Tryd.LexOut B b s w RES e w')) := by
      intro nq
      refine (Tryd.lnumber_any B b s st _ (HL.out nq) (by omega) (by omega) hl (by rw [Hdk.out, runOf_yes _ _ (by unfold isRun; rw [hdig]; simp)]; simp)).mono ?_
      intro e w' h3
      exact HB.out _ _ _ _ h3 (by rw [← HR.out, Hdk.out]; unfold token; simp only [hlet, hdig, if_true]; rfl)
    go_enter Tryd.func27, Tryd.ntmps27
    go_wp2_with fail
    go_quiet (fail)
    go_wp2_with fail
    refine (Tryd.isLetter_any c _).mono ?_
    rw [hlet]
    rintro e W2 ⟨rfl, rfl⟩
    go_wp2_with fail
    refine (Tryd.isDigit_any c _).mono ?_
    rw [hdig]
    rintro e W2 ⟨rfl, rfl⟩
    go_wp2_with fail
    refine (hcall.out _).mono ?_
    intro e W3 h4
    cases RES with
    | ok st2 =>
      obtain ⟨rfl, h5, h6⟩ := h4
      go_wp2_with fail
      refine bodyPost_end (results_none rfl _ _ _) rfl ?_
      exact ⟨rfl, h5, h6⟩
    | error ca =>
      obtain ⟨c', a'⟩ := ca
      obtain ⟨rfl, h6⟩ := h4
      go_wp2_with fail
      exact ⟨rfl, rfl, h6⟩
  replace hdig : isDig c = false := by simpa using hdig
  have f39 : ((c.toNat : Int) == 39) = (c == 39) := u8_beq c 39 (by omega)
  have f34 : ((c.toNat : Int) == 34) = (c == 34) := u8_beq c 34 (by omega)
  by_cases hq : c.toNat = 39 ∨ c.toNat = 34
  · have hcall : Hid (∀ nq, Calls Tryd.prog 44 #[.pointer (some ⟨b, 0, none⟩)] (w.drewN nq) (fun e w' => Tryd.LexOut B b s w RES e w')) := by
      intro nq
      refine (Tryd.lquoted_any B b s st _ (HL.out nq) (HT2.out nq) (by omega) (by omega) hl (fun t n h => by
        have := unq_bound h
        rw [List.length_drop, ← Lib.size_eq] at this; omega)).mono ?_
      intro e w' h3
      exact HB.out _ _ _ _ h3 (by rw [← HR.out, Hdk.out]; unfold token; simp only [hlet, hdig, hq, if_true]; rfl)
    by_cases h39 : c.toNat = 39
    · have e39 : (c == 39) = true := by rw [beq_iff_eq, ← UInt8.toNat_inj]; exact h39
      rw [e39] at f39
      clear e39 f34 hq h39
      go_enter Tryd.func27, Tryd.ntmps27
      go_wp2_with fail
      go_quiet (fail)
      go_wp2_with fail
      refine (Tryd.isLetter_any c _).mono ?_
      rw [hlet]
      rintro e W2 ⟨rfl, rfl⟩
      go_wp2_with fail
      refine (Tryd.isDigit_any c _).mono ?_
      rw [hdig]
      rintro e W2 ⟨rfl, rfl⟩
      go_wp2_with fail
      refine (hcall.out _).mono ?_
      intro e W3 h4
      cases RES with
      | ok st2 =>
        obtain ⟨rfl, h5, h6⟩ := h4
        go_wp2_with fail
        refine bodyPost_end (results_none rfl _ _ _) rfl ?_
        exact ⟨rfl, h5, h6⟩
      | error ca =>
        obtain ⟨c', a'⟩ := ca
        obtain ⟨rfl, h6⟩ := h4
        go_wp2_with fail
        exact ⟨rfl, rfl, h6⟩
    · have e39 : (c == 39) = false := by rw [beq_eq_false_iff_ne]; intro e; rw [e] at h39; exact h39 rfl
      have e34 : (c == 34) = true := by rw [beq_iff_eq, ← UInt8.toNat_inj]; exact hq.resolve_left h39
      rw [e39] at f39
      rw [e34] at f34
      clear e39 e34 hq h39
      go_enter Tryd.func27, Tryd.ntmps27
      go_wp2_with fail
      go_quiet (fail)
      go_wp2_with fail
      refine (Tryd.isLetter_any c _).mono ?_
      rw [hlet]
      rintro e W2 ⟨rfl, rfl⟩
      go_wp2_with fail
      refine (Tryd.isDigit_any c _).mono ?_
      rw [hdig]
      rintro e W2 ⟨rfl, rfl⟩
      go_wp2_with fail
      refine (hcall.out _).mono ?_
      intro e W3 h4
      cases RES with
      | ok st2 =>
        obtain ⟨rfl, h5, h6⟩ := h4
        go_wp2_with fail
        refine bodyPost_end (results_none rfl _ _ _) rfl ?_
        exact ⟨rfl, h5, h6⟩
      | error ca =>
        obtain ⟨c', a'⟩ := ca
        obtain ⟨rfl, h6⟩ := h4
        go_wp2_with fail
        exact ⟨rfl, rfl, h6⟩
  have e39 : (c == 39) = false := by rw [beq_eq_false_iff_ne]; intro e; rw [e] at hq; exact hq (.inl rfl)
  have e34 : (c == 34) = false := by rw [beq_eq_false_iff_ne]; intro e; rw [e] at hq; exact hq (.inr rfl)
  rw [e39] at f39
  rw [e34] at f34
  have hcall : Hid (∀ nq, Calls Tryd.prog 45 #[.pointer (some ⟨b, 0, none⟩)] (w.drewN nq) (fun e w' => Tryd.LexOut B b s w RES e w')) := by
    intro nq
    obtain ⟨S, hS⟩ : ∃ S, signOf (s.data.toList.drop st.pos) = S := ⟨_, rfl⟩
    have hres : RES = (if S = [] then .error (102, st.pos)
      else if S = [40] ∨ S = [91] ∨ S = [123] then
        if st.opn = 60 then .error (107, st.pos) else .ok { st with pos := st.pos + S.length, toks := st.toks ++ [⟨5, S, st.pos⟩], opn := st.opn + 1 }
      else if S = [41] ∨ S = [93] ∨ S = [125] then .ok { st with pos := st.pos + S.length, toks := st.toks ++ [⟨5, S, st.pos⟩], opn := st.opn - 1 }
      else .ok { st with pos := st.pos + S.length, toks := st.toks ++ [⟨5, S, st.pos⟩] } : Res St) := by
      rw [← HR.out, ← hS, Hdk.out]; unfold token; simp only [hlet, hdig, hq, if_false]; rfl
    by_cases g0 : S = []
    · rw [if_pos g0] at hres
      exact (Tryd.lsign_none B b s _ S st _ (HL.out nq) (by omega) (by omega) hl ho hS rfl g0).mono fun e w' h3 => HB.out _ _ _ _ h3 hres.symm
    rw [if_neg g0] at hres
    by_cases g1 : S = [40] ∨ S = [91] ∨ S = [123]
    · rw [if_pos g1] at hres
      by_cases g2 : st.opn = 60
      · rw [if_pos g2] at hres
        rcases g1 with g1 | g1 | g1
        · exact (Tryd.lsign_deep40 B b s _ S st _ (HL.out nq) (by omega) (by omega) hl ho hS rfl g1 g2).mono fun e w' h3 => HB.out _ _ _ _ h3 hres.symm
        · exact (Tryd.lsign_deep91 B b s _ S st _ (HL.out nq) (by omega) (by omega) hl ho hS rfl g1 g2).mono fun e w' h3 => HB.out _ _ _ _ h3 hres.symm
        · exact (Tryd.lsign_deep123 B b s _ S st _ (HL.out nq) (by omega) (by omega) hl ho hS rfl g1 g2).mono fun e w' h3 => HB.out _ _ _ _ h3 hres.symm
      · rw [if_neg g2] at hres
        have g3 : st.opn < 60 := by omega
        rcases g1 with g1 | g1 | g1
        · exact (Tryd.lsign_open40 B b s _ S st _ (HL.out nq) (by omega) (by omega) hl ho hS rfl g1 g3).mono fun e w' h3 => HB.out _ _ _ _ h3 hres.symm
        · exact (Tryd.lsign_open91 B b s _ S st _ (HL.out nq) (by omega) (by omega) hl ho hS rfl g1 g3).mono fun e w' h3 => HB.out _ _ _ _ h3 hres.symm
        · exact (Tryd.lsign_open123 B b s _ S st _ (HL.out nq) (by omega) (by omega) hl ho hS rfl g1 g3).mono fun e w' h3 => HB.out _ _ _ _ h3 hres.symm
    rw [if_neg g1] at hres
    by_cases g4 : S = [41] ∨ S = [93] ∨ S = [125]
    · rw [if_pos g4] at hres
      rcases g4 with g4 | g4 | g4
      · exact (Tryd.lsign_close41 B b s _ S st _ (HL.out nq) (by omega) (by omega) hl ho hS rfl g4).mono fun e w' h3 => HB.out _ _ _ _ h3 hres.symm
      · exact (Tryd.lsign_close93 B b s _ S st _ (HL.out nq) (by omega) (by omega) hl ho hS rfl g4).mono fun e w' h3 => HB.out _ _ _ _ h3 hres.symm
      · exact (Tryd.lsign_close125 B b s _ S st _ (HL.out nq) (by omega) (by omega) hl ho hS rfl g4).mono fun e w' h3 => HB.out _ _ _ _ h3 hres.symm
    rw [if_neg g4] at hres
    exact (Tryd.lsign_plain B b s _ S st _ (HL.out nq) (by omega) (by omega) hl ho hS rfl g0 (fun h => g1 (.inl h)) (fun h => g1 (.inr (.inl h))) (fun h => g1 (.inr (.inr h))) (fun h => g4 (.inl h)) (fun h => g4 (.inr (.inl h))) (fun h => g4 (.inr (.inr h)))).mono fun e w' h3 => HB.out _ _ _ _ h3 hres.symm
  clear e39 e34 hq
  go_enter Tryd.func27, Tryd.ntmps27
  go_wp2_with fail
  go_quiet (fail)
  go_wp2_with fail
  refine (Tryd.isLetter_any c _).mono ?_
  rw [hlet]
  rintro e W2 ⟨rfl, rfl⟩
  go_wp2_with fail
  refine (Tryd.isDigit_any c _).mono ?_
  rw [hdig]
  rintro e W2 ⟨rfl, rfl⟩
  go_wp2_with fail
  refine (hcall.out _).mono ?_
  intro e W3 h4
  cases RES with
  | ok st2 =>
    obtain ⟨rfl, h5, h6⟩ := h4
    go_wp2_with fail
    refine bodyPost_end (results_none rfl _ _ _) rfl ?_
    exact ⟨rfl, h5, h6⟩
  | error ca =>
    obtain ⟨c', a'⟩ := ca
    obtain ⟨rfl, h6⟩ := h4
    go_wp2_with fail
    exact ⟨rfl, rfl, h6⟩
end Go.Proofs
