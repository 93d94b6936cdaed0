/-
  Walks of the reference for letters: width, Unquote.
-/
import Derived.Test.YtdbkibnplilogaaDoorLtR2
set_option linter.unusedVariables false
namespace Go.Proofs
open Go.RowKit Go.Lt

theorem width_no (l : List UInt8) (k : Nat) (hne : l ≠ []) (h : ∀ m, 1 ≤ m → m < k → ¬ isOne l m) (hk : 4 < k ∨ l.length < k) : width l = 0 := by
  unfold width
  by_cases hb : bad l
  · rw [if_pos (Or.inr hb)]
  · exfalso
    have h1 := width_isOne l hne hb
    have h4 := width_le4 l hne hb
    have h2 := Lib.decodeL_width l
    have h3 := Lib.decodeL_le l hne
    exact h _ h2 (by omega) h1
theorem width_yes (l : List UInt8) (k : Nat) (hk : k ≤ l.length) (h : isOne l k) : width l = k := by
  obtain ⟨h1, h2, h3⟩ := isOne_width l k hk h
  unfold width
  rw [if_neg (fun a => a.elim h1 h2), h3]

/-- The text of the runes in memory. -/
theorem Tryd.runes_text {w : World} {B : Nat} {v : Value} {rs : List Nat} (h : w.ownsRow B 21 1 v rs.length (runeVals rs)) :
    ∀ nq, (convert 65 9 v).run Tryd.prog (w.drewN nq) = .ok (.string ⟨(rs.flatMap enc).toArray⟩) (w.drewN nq) := by
  intro nq
  rcases h.2 with ⟨rfl, h0⟩ | ⟨g, cap, cur, rfl, hb, hg, rest⟩
  · have : rs = [] := List.eq_nil_of_length_eq_zero h0
    subst this
    rw [run_convert_runes_nil _ _ _ 21 _ _ Tryd.underlying65 Tryd.underlying21 Tryd.underlying9]
    rfl
  · rw [run_convert_runes (w.drewN nq) _ _ 21 ⟨g, 0, none⟩ rs.length cap (rs.map fun r : Nat => (r : Int)) (by simp) Tryd.underlying65 Tryd.underlying21 Tryd.underlying9]
    · rw [List.take_of_length_le (by simp), runesBytes_flat]
    · intro j hj
      rw [World.cell?_drewN]
      have hj' : j < rs.length := by simpa using hj
      have := h.cells rfl j (.int .i32 (rs[j] : Int)) (by unfold runeVals; rw [List.getElem?_map, List.getElem?_eq_getElem hj']; rfl)
      rw [this]
      congr 2
      simp [List.getD, hj']

set_option maxHeartbeats 4000000 in
set_option maxRecDepth 100000 in
theorem Tryd.width_any (s : ByteArray) (p : Nat) (w : World) (hs : s.size ≤ 35184372088832) (hp : p < s.size) :
    Calls Tryd.prog 48 #[.string s, .int .i64 p] w fun e w' => e = .returned (.int .i64 (width (s.data.toList.drop p))) ∧ Below w.heap.size w w' := by
  obtain ⟨l, hl⟩ : ∃ l, s.data.toList.drop p = l := ⟨_, rfl⟩
  have hll : l.length = s.size - p := by rw [← hl, List.length_drop, ← Lib.size_eq]
  have hne : l ≠ [] := by intro h; rw [h] at hll; simp only [List.length_nil] at hll; omega
  have Hl := Lib.hid hl
  have Hll := Lib.hid hll
  have Hne := Lib.hid hne
  rw [hl]
  clear hl hll hne
  go_enter Tryd.func48, Tryd.ntmps48
  go_wp2
  go_loopw [5] (fun n wr => ∃ k : Nat, n = .int .i64 k ∧ 1 ≤ k ∧ k ≤ 5 ∧ Hid (∀ m, 1 ≤ m → m < k → ¬ isOne l m) ∧ Below w.heap.size w wr) (fun n _ => 5 - (intOf n).toNat)
  case atStart => exact ⟨1, rfl, by omega, by omega, fun m h1 h2 => by omega, Below.refl _ _⟩
  case round =>
    obtain ⟨k, rfl, hk1, hk5, hno, hbw⟩ := hrel
    have hz := hbw.size
    by_cases hgo : k ≤ 4 ∧ p + k ≤ s.size
    · obtain ⟨hk4, hpk⟩ := hgo
      have f1 : decide ((k : Int) ≤ 4) = true := decide_eq_true (by omega)
      have f2 : decide ((p : Int) + (k : Int) ≤ (s.size : Int)) = true := decide_eq_true (by omega)
      have f3 : (p : Int) ≤ (p : Int) + (k : Int) := by omega
      have f4 : (p : Int) + (k : Int) ≤ (s.size : Int) := by omega
      have htk : (s.extract p (p + k)).data.toList = l.take k := by
        rw [Lib.extract_data, Hl.out]; congr 1; omega
      have hsz : (s.extract p (p + k)).size ≤ 35184372088832 := by rw [ByteArray.size_extract]; omega
      have Htk := Lib.hid htk
      clear htk
      go_wp2_with fail
      refine (Tryd.pieces_any _ _ hsz).mono ?_
      rintro e W1 ⟨v, rfl, hown, b1⟩
      rw [Htk.out] at hown
      have hcv := Tryd.runes_text hown
      have hbw1 := hbw.trans (b1.mono (by omega))
      obtain ⟨rs, hrs⟩ : ∃ rs, runes (l.take k) = rs := ⟨_, rfl⟩
      rw [hrs] at hown hcv
      have Hrs := Lib.hid hrs
      have Hown := Lib.hid hown
      clear hrs
      by_cases h1 : rs.length = 1
      · rw [h1] at hown
        rcases hown.2 with ⟨_, h0⟩ | ⟨g, cap, cur, rfl, _⟩
        · omega
        clear hown
        by_cases h2 : rs.flatMap enc = l.take k
        · have he : (rs.flatMap enc == (s.extract p (p + k)).toList) = true := by rw [Lib.toList_data, Htk.out, beq_iff_eq]; exact h2
          have hW : Hid (width l = k) := width_yes l k (by rw [Hll.out]; omega) ⟨by rw [Hrs.out]; exact h1, by unfold mend; rw [Hrs.out]; exact h2⟩
          clear h2
          go_wp2_with fail
          go_quiet (fail)
          go_wp2
          go_ret
          exact ⟨by rw [hW.out]; rfl, below_drewN hbw1 _⟩
        · have he : (rs.flatMap enc == (s.extract p (p + k)).toList) = false := by rw [Lib.toList_data, Htk.out, beq_eq_false_iff_ne]; exact h2
          have hno2 : Hid (∀ m, 1 ≤ m → m < k + 1 → ¬ isOne l m) := by
            intro m m1 m2
            by_cases hm : m = k
            · subst hm
              rintro ⟨_, x⟩
              unfold mend at x
              rw [Hrs.out] at x
              exact h2 x
            · exact hno.out m m1 (by omega)
          clear h2
          go_wp2_with fail
          go_quiet (fail)
          go_wp2
          exact ⟨⟨k + 1, by go_num, by omega, by omega, hno2, below_drewN hbw1 _⟩, by simp [intOf]; omega⟩
      · have hno2 : Hid (∀ m, 1 ≤ m → m < k + 1 → ¬ isOne l m) := by
          intro m m1 m2
          by_cases hm : m = k
          · subst hm
            rintro ⟨x, _⟩
            rw [Hrs.out] at x
            exact h1 x
          · exact hno.out m m1 (by omega)
        have h1I : ((rs.length : Int) == 1) = false := by rw [beq_eq_false_iff_ne]; omega
        have h1N : (rs.length == 1) = false := by rw [beq_eq_false_iff_ne]; omega
        clear h1
        rcases hown.2 with ⟨rfl, h0⟩ | ⟨g, cap, cur, rfl, _⟩
        · clear hown
          have hr0 : rs = [] := List.eq_nil_of_length_eq_zero h0
          subst hr0
          go_wp2_with fail
          go_quiet (fail)
          go_wp2
          exact ⟨⟨k + 1, by go_num, by omega, by omega, hno2, below_drewN hbw1 _⟩, by simp [intOf]; omega⟩
        · clear hown
          go_wp2_with fail
          go_quiet (fail)
          go_wp2
          exact ⟨⟨k + 1, by go_num, by omega, by omega, hno2, below_drewN hbw1 _⟩, by simp [intOf]; omega⟩
    · have hW : Hid (width l = 0) := width_no l k Hne.out hno.out (by rw [Hll.out]; omega)
      by_cases h4 : k ≤ 4
      · have f1 : decide ((k : Int) ≤ 4) = true := decide_eq_true (by omega)
        have f2 : decide ((p : Int) + (k : Int) ≤ (s.size : Int)) = false := decide_eq_false (by omega)
        clear hgo
        go_wp2
        go_ret
        exact ⟨by rw [hW.out]; rfl, hbw⟩
      · have f1 : decide ((k : Int) ≤ 4) = false := decide_eq_false (by omega)
        clear hgo
        go_wp2
        go_ret
        exact ⟨by rw [hW.out]; rfl, hbw⟩

theorem ownsRow_same {B : Nat} {e : TypeId} {sz : Nat} {v : Value} {n : Nat} {xs : List Value} {w w' : World} (h : w.ownsRow B e sz v n xs) (hb : ∀ k, k < w.heap.size → w'.heap[k]? = w.heap[k]?) : w'.ownsRow B e sz v n xs := by
  refine ⟨h.1, ?_⟩
  rcases h.2 with hn | ⟨g, cap, cur, hv, hbg, hg, rest⟩
  · exact .inl hn
  · exact .inr ⟨g, cap, cur, hv, hbg, (hb g (Array.getElem?_eq_some_iff.1 hg).1).trans hg, rest⟩

/-- The text of the bytes in memory. -/
theorem Tryd.bytes_text {w : World} {B : Nat} {v : Value} {l : List UInt8} (h : w.ownsRow B 5 1 v l.length (Lib.byteCells l)) :
    ∀ nq, (convert 22 9 v).run Tryd.prog (w.drewN nq) = .ok (.string ⟨l.toArray⟩) (w.drewN nq) := by
  intro nq
  rcases h.2 with ⟨rfl, h0⟩ | ⟨g, cap, cur, rfl, hb, hg, rest⟩
  · have : l = [] := List.eq_nil_of_length_eq_zero h0
    subst this
    rw [run_convert_bytes_nil _ _ 5 Tryd.underlying22 Tryd.underlying5 _ _ _ Tryd.underlying9]
    rfl
  · rw [run_convert_bytes_arg (w.drewN nq) _ 5 Tryd.underlying22 Tryd.underlying5 g 0 l.length cap (l.map fun b : UInt8 => (b.toNat : Int)) (by simp) ?_ _ Tryd.underlying9]
    · unfold strOfNums
      rw [List.map_map]
      have : (fun n : Int => UInt8.ofNat n.toNat) ∘ (fun b : UInt8 => (b.toNat : Int)) = id := by
        funext b; simp
      rw [this, List.map_id]
    · intro j hj
      rw [World.cell?_drewN]
      have := h.cells rfl j (.int .u8 (l[j].toNat : Int)) (by unfold Lib.byteCells; rw [List.getElem?_map, List.getElem?_eq_getElem hj]; rfl)
      have hadd : (⟨g, 0, none⟩ : Addr).add j = ⟨g, 0 + j, none⟩ := by unfold Addr.add; split <;> simp_all
      rw [hadd] at this
      rw [this]
      congr 2
      simp [List.getD, hj]
theorem Tryd.bytes_text0 {w : World} {B : Nat} {v : Value} {l : List UInt8} (h : w.ownsRow B 5 1 v l.length (Lib.byteCells l)) :
    (convert 22 9 v).run Tryd.prog w = .ok (.string ⟨l.toArray⟩) w := Tryd.bytes_text h 0

theorem Tryd.infoU8 : (Tryd.prog.info? 5).map (fun i => (i.zero, i.size, i.bytes)) = some (some (.int .u8 0), 1, 1) := by kernel_rfl

set_option maxHeartbeats 4000000 in
set_option maxRecDepth 100000 in
theorem Tryd.runq_go (s : ByteArray) (w : World) (hs : s.size ≤ 8796093022208) (hp : 0 < s.size) (hq : s[0].toNat = 39 ∨ s[0].toNat = 34) :
    Calls Tryd.prog 33 #[.string s] w fun e w' => e = .returned (ansV (unqGo s[0] (s.data.toList.drop 1) [] 1)) ∧ Below w.heap.size w w' := by
  obtain ⟨i0, hi, hz0, hz1, hz2⟩ := info_parts Tryd.infoU8
  obtain ⟨ANS, hANS⟩ : ∃ A, unqGo s[0] (s.data.toList.drop 1) [] 1 = A := ⟨_, rfl⟩
  rw [hANS]
  have HANS := Lib.hid hANS
  clear hANS
  have hemp := not_empty s hp
  have hqq : Hid (∀ c : UInt8, (c = s[0]) ↔ c.toNat = s[0].toNat) := fun c => ⟨fun h => by rw [h], fun h => UInt8.toNat_inj.1 h⟩
  have hs2 : s.size ≤ 35184372088832 := by omega
  rcases hq with hq | hq
  all_goals
    go_enter Tryd.func33, Tryd.ntmps33
    go_wp2
    go_loopw [5, 6] (fun b a wr => ∃ (p : Nat) (acc : List UInt8), a = .int .i64 p ∧ 1 ≤ p ∧ p ≤ s.size ∧ wr.ownsRow w.heap.size 5 1 b acc.length (Lib.byteCells acc) ∧ Below w.heap.size w wr ∧ Hid (unqGo s[0] (s.data.toList.drop p) acc p = ANS) ∧ acc.length ≤ 4 * p) (fun _ a _ => s.size - (intOf a).toNat)
    case atStart => exact ⟨1, [], rfl, by omega, by omega, World.ownsRow_nil _ _ _ _, Below.refl _ _, HANS, by simp⟩
    case round =>
      obtain ⟨p, acc, rfl, hp1, hps, hown, hbw, hg, hal⟩ := hrel
      clear HANS
      have hzw := hbw.size
      by_cases hlt : p < s.size
      · have hd := drop_cons s p hlt
        have hqc := hqq.out s[p]
        have hgp : unqGo s[0] (s[p] :: s.data.toList.drop (p + 1)) acc p = ANS := by rw [← hd]; exact hg.out
        have Hgp := Lib.hid hgp
        have Hd := Lib.hid hd
        have hsp := s[p].toNat_lt
        have hspI : (s[p].toNat : Int) ≤ 255 := by omega
        clear hg hgp hd hqq
        by_cases hc : s[p].toNat = s[0].toNat
        · have hA : ANS = some (acc, p + 1) := by rw [← Hgp.out, hqc.2 hc]; exact unqGo_end _ _ _ _
          subst hA
          have hcI : ((s[p].toNat : Int) == (s[0].toNat : Int)) = true := by rw [beq_iff_eq]; omega
          clear Hgp hqc
          have hbt := Tryd.bytes_text hown
          go_wp2_with fail
          go_quiet (fail)
          go_wp2
          go_ret3
          exact ⟨rfl, below_drewN hbw _⟩
        · have hcq : s[p] ≠ s[0] := fun h => hc (by rw [h])
          have hcI : ((s[p].toNat : Int) == (s[0].toNat : Int)) = false := by rw [beq_eq_false_iff_ne]; omega
          have Hcq := Lib.hid hcq
          clear hqc hcq hc
          by_cases h92 : s[p].toNat = 92
          · have Hc92 := Lib.hid h92
            have h92I : ((s[p].toNat : Int) == 92) = true := by rw [beq_iff_eq]; omega
            clear h92
            cases he : esc (s.data.toList.drop (p + 1)) with
            | none =>
              have hA : ANS = none := by rw [← Hgp.out]; exact unqGo_none _ _ _ _ _ Hcq.out Hc92.out he
              have hev := Lib.hid (rescV_none he)
              subst hA
              clear Hgp he
              go_wp2_with fail
              go_quiet (fail)
              go_wp2_with fail
              refine (Tryd.resc_any s (p + 1) _ hs2 (by omega)).mono ?_
              rw [hev.out]
              rintro e w' ⟨rfl, rfl⟩
              go_wp2
              go_ret3
              exact ⟨rfl, below_drewN hbw _⟩
            | some rn =>
              obtain ⟨r', n'⟩ := rn
              have hev := Lib.hid (rescV_some he)
              have hb := esc_bound _ _ _ he
              rw [List.length_drop, ← Lib.size_eq] at hb
              obtain ⟨k1, k2, k3, k4⟩ := hb
              have Hg2 := Lib.hid (unqGo_esc _ _ _ acc p r' n' Hcq.out Hc92.out he)
              have hn0 : ((n' : Int) == 0) = false := by rw [beq_eq_false_iff_ne]; omega
              have h4 := enc_pos r'
              obtain ⟨X, hX⟩ : ∃ X : ByteArray, X = ⟨(enc r').toArray⟩ := ⟨_, rfl⟩
              have hXs : X.size = (enc r').length := by rw [hX]; simp [ByteArray.size]
              have hXs4 : X.size ≤ 4 := by omega
              have hXc : Lib.strCells X = Lib.byteCells (enc r') := by rw [hX]; rfl
              rw [← hX] at hev
              have HXs := Lib.hid hXs
              have HXc := Lib.hid hXc
              clear he k4 hX hXs hXc
              go_wp2_with fail
              go_quiet (fail)
              go_wp2_with fail
              refine (Tryd.resc_any s (p + 1) _ hs2 (by omega)).mono ?_
              rw [hev.out]
              rintro e w' ⟨rfl, rfl⟩
              have hown1 := ownsRow_same (w' := wr.drewN nq) hown (fun _ _ => rfl)
              go_wp2_with (
                at_builtin; go_loud (refine Lib.wpList_append_own_string _ rfl _ _ 22 9 rfl w.heap.size 5 i0 Tryd.underlying22 Tryd.underlying9 hi hz0 hz1 hz2 _ _ _ rfl hown1 _ rfl (by unfold maxLen; omega) (by omega) (by simp; omega) ?_); intro v' w3 hown' hgrow3 hnil3
                have hbw3 : Below w.heap.size w w3 := Below.grown (below_drewN hbw _) hgrow3 (by simp; omega) (fun j hj => by have := (hown1.lt _ hj).1; omega)
                have X3 : Aside (w3.ownsRow w.heap.size 5 1 v' (acc.length + X.size) (Lib.byteCells acc ++ Lib.strCells X) ∧ Below w.heap.size w w3) := ⟨hown', hbw3⟩
                clear hown' hgrow3 hnil3 hbw3)
              go_roundw
              case rel =>
                refine ⟨p + (n' + 1), acc ++ enc r', by go_num, by omega, by omega, ?_, X3.out.2, ?_, by rw [List.length_append]; omega⟩
                · have := X3.out.1
                  rw [HXs.out, HXc.out] at this
                  rw [List.length_append, Lib.byteCells_append]; exact this
                · have h5 := Hgp.out
                  rw [Hg2.out] at h5
                  rw [← h5, ← Hd.out, List.drop_drop]; rfl
              case measure => simp [intOf]; omega
          · have h92I : ((s[p].toNat : Int) == 92) = false := by rw [beq_eq_false_iff_ne]; omega
            obtain ⟨r, n, hrn⟩ : ∃ r n, Lib.decodeL (s[p] :: s.data.toList.drop (p + 1)) = (r, n) := ⟨_, _, rfl⟩
            have hn1 : 1 ≤ n := by have := Lib.decodeL_width (s[p] :: s.data.toList.drop (p + 1)); rw [hrn] at this; exact this
            have hn2 : p + n ≤ s.size := by
              have := Lib.decodeL_le (s[p] :: s.data.toList.drop (p + 1)) (by simp)
              rw [hrn, List.length_cons, List.length_drop, ← Lib.size_eq] at this
              simp only at this
              omega
            have hr32 : r < 32 ↔ s[p].toNat < 32 := by have := rune_lt_ascii s[p] (s.data.toList.drop (p + 1)) 32 (by omega); rw [hrn] at this; exact this
            have hr127 : r = 127 ↔ s[p].toNat = 127 := by have := rune_eq_ascii s[p] (s.data.toList.drop (p + 1)) 127 (by omega); rw [hrn] at this; exact this
            have hr92 : r ≠ 92 := by have := rune_eq_ascii s[p] (s.data.toList.drop (p + 1)) 92 (by omega); rw [hrn] at this; simp only at this; omega
            have Hrn := Lib.hid hrn
            clear hrn
            by_cases hb2 : s[p].toNat < 32
            · have hA : ANS = none := by rw [← Hgp.out]; exact unqGo_bad _ _ _ _ _ Hcq.out (Or.inr (Or.inl (by rw [Hrn.out]; exact hr32.2 hb2)))
              subst hA
              have hb2I : decide ((s[p].toNat : Int) < 32) = true := decide_eq_true (by omega)
              clear Hgp hr32 hr127 hr92 hb2 h92
              go_wp2_with fail
              go_quiet (fail)
              go_wp2_with fail
              refine (Tryd.width_any s p _ hs2 hlt).mono ?_
              rintro e W1 ⟨rfl, b1⟩
              go_wp2
              go_ret3
              exact ⟨rfl, (below_drewN hbw _).trans (b1.mono (by simp; omega))⟩
            have hb2I : decide ((s[p].toNat : Int) < 32) = false := decide_eq_false (by omega)
            by_cases hb3 : s[p].toNat = 127
            · have hA : ANS = none := by rw [← Hgp.out]; exact unqGo_bad _ _ _ _ _ Hcq.out (Or.inr (Or.inr (by rw [Hrn.out]; exact hr127.2 hb3)))
              subst hA
              have hb3I : ((s[p].toNat : Int) == 127) = true := by rw [beq_iff_eq]; omega
              clear Hgp hr32 hr127 hr92 hb2 h92 hb3
              go_wp2_with fail
              go_quiet (fail)
              go_wp2_with fail
              refine (Tryd.width_any s p _ hs2 hlt).mono ?_
              rintro e W1 ⟨rfl, b1⟩
              go_wp2
              go_ret3
              exact ⟨rfl, (below_drewN hbw _).trans (b1.mono (by simp; omega))⟩
            have hb3I : ((s[p].toNat : Int) == 127) = false := by rw [beq_eq_false_iff_ne]; omega
            by_cases hbad : bad (s[p] :: s.data.toList.drop (p + 1))
            · have hA : ANS = none := by rw [← Hgp.out]; exact unqGo_bad _ _ _ _ _ Hcq.out (Or.inl hbad)
              subst hA
              have hW : Hid (width (s.data.toList.drop p) = 0) := by show _ = _; rw [Hd.out]; unfold width; rw [if_pos (Or.inr hbad)]
              clear Hgp hr32 hr127 hr92 hb2 h92 hb3 hbad
              go_wp2_with fail
              go_quiet (fail)
              go_wp2_with fail
              refine (Tryd.width_any s p _ hs2 hlt).mono ?_
              rw [hW.out]
              rintro e W1 ⟨rfl, b1⟩
              go_wp2
              go_ret3
              exact ⟨rfl, (below_drewN hbw _).trans (b1.mono (by simp; omega))⟩
            · have hok : ¬ (bad (s[p] :: s.data.toList.drop (p + 1)) ∨ (Lib.decodeL (s[p] :: s.data.toList.drop (p + 1))).1 < 32 ∨ (Lib.decodeL (s[p] :: s.data.toList.drop (p + 1))).1 = 127) := by
                rw [Hrn.out]; rintro (h | h | h)
                · exact hbad h
                · exact hb2 (hr32.1 h)
                · exact hb3 (hr127.1 h)
              have Hg2 := Lib.hid (unqGo_rune _ _ _ acc p Hcq.out hok (by rw [Hrn.out]; exact hr92))
              have hW : Hid (width (s.data.toList.drop p) = n) := by show _ = _; rw [Hd.out]; unfold width; rw [if_neg (fun h => h.elim (by simp) hbad), Hrn.out]
              have henc : enc r = (s.data.toList.drop p).take n := by
                have := Lib.encode_decode (s[p] :: s.data.toList.drop (p + 1)) (by simp) hbad
                rw [Hrn.out] at this
                rw [Hd.out]; exact this
              have Henc := Lib.hid henc
              have hn0 : ((n : Int) == 0) = false := by rw [beq_eq_false_iff_ne]; omega
              have hX1 : (s.extract p (p + n)).size = (enc r).length := by
                rw [henc, ByteArray.size_extract, List.length_take, List.length_drop, ← Lib.size_eq]; omega
              have hX2 : Lib.strCells (s.extract p (p + n)) = Lib.byteCells (enc r) := by
                unfold Lib.strCells Lib.byteCells
                rw [Lib.extract_data, henc, show p + n - p = n by omega]
              have h4 := enc_pos r
              have hX4 : (s.extract p (p + n)).size ≤ 4 := by omega
              have HX1 := Lib.hid hX1
              have HX2 := Lib.hid hX2
              have f3 : (p : Int) ≤ (p : Int) + (n : Int) := by omega
              have f4 : (p : Int) + (n : Int) ≤ (s.size : Int) := by omega
              clear hr32 hr127 hr92 hb2 h92 hb3 hbad hok henc hX1 hX2
              go_wp2_with fail
              go_quiet (fail)
              go_wp2_with fail
              refine (Tryd.width_any s p _ hs2 hlt).mono ?_
              rw [hW.out]
              rintro e W1 ⟨rfl, b1⟩
              have hbw1 := (below_drewN hbw nq).trans (b1.mono (by simp; omega))
              have hown1 := ownsRow_same (w' := W1) hown (fun k hk => by rw [b1.block k (by simpa using hk)]; rfl)
              have hzW := hbw1.size
              go_wp2_with (
                at_builtin; refine Lib.wpList_append_own_string _ rfl _ _ 22 9 rfl w.heap.size 5 i0 Tryd.underlying22 Tryd.underlying9 hi hz0 hz1 hz2 _ _ _ rfl hown1 _ rfl (by unfold maxLen; omega) (by omega) (by omega) ?_; intro v' w3 hown' hgrow3 hnil3
                have hbw3 : Below w.heap.size w w3 := Below.grown hbw1 hgrow3 (by omega) (fun j hj => by have := (hown1.lt _ hj).1; omega)
                have X3 : Aside (w3.ownsRow w.heap.size 5 1 v' (acc.length + (s.extract p (p + n)).size) (Lib.byteCells acc ++ Lib.strCells (s.extract p (p + n))) ∧ Below w.heap.size w w3) := ⟨hown', hbw3⟩
                clear hown' hgrow3 hnil3 hbw3)
              go_roundw
              case rel =>
                refine ⟨p + n, acc ++ enc r, by go_num, by omega, by omega, ?_, X3.out.2, ?_, by rw [List.length_append]; omega⟩
                · have := X3.out.1
                  rw [HX1.out, HX2.out] at this
                  rw [List.length_append, Lib.byteCells_append]; exact this
                · have h5 := Hgp.out
                  rw [Hg2.out, Hrn.out] at h5
                  rw [← h5, ← Hd.out, List.drop_drop]; rfl
              case measure => simp [intOf]; omega
      · have hA : ANS = none := by
          rw [← hg.out, List.drop_eq_nil_of_le (by rw [← Lib.size_eq]; omega)]
          rfl
        subst hA
        clear hg
        go_wp2
        go_ret3
        exact ⟨rfl, hbw⟩
end Go.Proofs
