/-
  Walks of the reference for letters: digits, escape.
-/
import Derived.Test.YtdbkibnplilogaaDoorLtR1
set_option linter.unusedVariables false
namespace Go.Proofs
open Go.RowKit Go.Lt

theorem numZ_drop_none {l : List UInt8} {p d k : Nat} (hk : k < d) (hl : p + d ≤ l.length) (h : digs 0 ((l.drop p).take (k + 1)) = none) : numZ (l.drop p) d = -1 := by
  have h3 : digs 0 ((l.drop p).take d) = none := by
    have e : (l.drop p).take d = (l.drop p).take (k + 1) ++ ((l.drop p).take d).drop (k + 1) := by
      rw [show (l.drop p).take (k + 1) = ((l.drop p).take d).take (k + 1) by rw [List.take_take]; congr 1; omega, List.take_append_drop]
    rw [e]
    exact digs_none _ _ _ h
  unfold numZ numv
  rw [if_neg (by rw [List.length_drop]; omega), h3]

set_option maxHeartbeats 2000000 in
theorem Tryd.digits_any (s : ByteArray) (p d : Nat) (w : World) (hs : s.size ≤ 35184372088832) (hp : p ≤ s.size) (hd : d ≤ 4) :
    Calls Tryd.prog 54 #[.string s, .int .i64 p, .int .i64 d] w fun e w' => e = .returned (.int .i64 (numZ (s.data.toList.drop p) d)) ∧ w = w' := by
  have hsl := Lib.size_eq s
  by_cases hl : s.size < p + d
  · have e : numZ (s.data.toList.drop p) d = -1 := by
      unfold numZ numv; rw [if_pos (by rw [List.length_drop]; omega)]
    rw [e]; clear e hsl
    have hlI : (s.size : Int) < (p : Int) + (d : Int) := by omega
    go_enter Tryd.func54, Tryd.ntmps54
    go_wp2
    go_ret
    exact ⟨rfl, rfl⟩
  · have Hsl := Lib.hid hsl
    clear hsl
    go_enter Tryd.func54, Tryd.ntmps54
    go_wp2
    go_loop [7, 8] (fun n i => ∃ k : Nat, ∃ v : Nat, k ≤ d ∧ i = .int .i64 (↑(p + k : Nat)) ∧ n = .int .i64 v ∧ Hid (digs 0 ((s.data.toList.drop p).take k) = some v)) (fun _ i => p + d - (intOf i).toNat)
    case atStart => exact ⟨0, 0, by omega, rfl, rfl, rfl⟩
    case round =>
      obtain ⟨k, v, hk, rfl, rfl, hv⟩ := hrel
      have hlen : ((s.data.toList.drop p).take k).length ≤ k := List.length_take_le _ _
      have hvb : v < 65536 := by
        have := digs_lt _ _ _ hv.out
        have h2 : 16 ^ ((s.data.toList.drop p).take k).length ≤ 16 ^ 4 := Nat.pow_le_pow_right (by omega) (by omega)
        omega
      by_cases hlt : k < d
      · have hks : p + k < s.size := by omega
        have hvb4 : v < 4096 := by
          have := digs_lt _ _ _ hv.out
          have h2 : 16 ^ ((s.data.toList.drop p).take k).length ≤ 16 ^ 3 := Nat.pow_le_pow_right (by omega) (by omega)
          omega
        have hsn : Hid (digs 0 ((s.data.toList.drop p).take (k + 1)) = match hexv s[p + k] with | some d => some (16 * v + d) | none => none) := by
          have e : (s.data.toList.drop p).take (k + 1) = (s.data.toList.drop p).take k ++ [s[p + k]] := by
            rw [List.take_succ_eq_append_getElem (by rw [List.length_drop, ← Hsl.out]; omega), List.getElem_drop]; rfl
          rw [e, digs_snoc, hv.out]; rfl
        have hb1 := s[p + k].toNat_lt
        obtain ⟨c, hc⟩ : ∃ c, s[p + k].toNat = c := ⟨_, rfl⟩
        have hx : Hid (hexv s[p + k] = if 48 ≤ c ∧ c ≤ 57 then some (c - 48) else if 97 ≤ c ∧ c ≤ 102 then some (c - 87) else if 65 ≤ c ∧ c ≤ 70 then some (c - 55) else none) := by
          rw [← hc]; rfl
        have hb2 : (c : Int) ≤ 255 := by omega
        clear hv hlen hb1
        by_cases d1 : 48 ≤ c ∧ c ≤ 57
        · obtain ⟨d1a, d1b⟩ := d1
          have hn : Hid (digs 0 ((s.data.toList.drop p).take (k + 1)) = some (16 * v + (c - 48))) := by show _ = _; rw [hsn.out, hx.out, if_pos ⟨d1a, d1b⟩]
          clear hsn hx
          have d2a : (48 : Int) ≤ (c : Int) := by omega
          have d2b : (c : Int) ≤ 57 := by omega
          go_wp2
          refine ⟨⟨k + 1, _, by omega, by go_num, ?_, hn⟩, by simp [intOf]; omega⟩
          congr 1; omega
        by_cases d2 : 97 ≤ c ∧ c ≤ 102
        · obtain ⟨d1a, d1b⟩ := d2
          have hn : Hid (digs 0 ((s.data.toList.drop p).take (k + 1)) = some (16 * v + (c - 87))) := by show _ = _; rw [hsn.out, hx.out, if_neg d1, if_pos ⟨d1a, d1b⟩]
          clear hsn hx d1
          have d2a : (97 : Int) ≤ (c : Int) := by omega
          have d2b : (c : Int) ≤ 102 := by omega
          go_wp2
          refine ⟨⟨k + 1, _, by omega, by go_num, ?_, hn⟩, by simp [intOf]; omega⟩
          congr 1; omega
        by_cases d3 : 65 ≤ c ∧ c ≤ 70
        · obtain ⟨d1a, d1b⟩ := d3
          have hn : Hid (digs 0 ((s.data.toList.drop p).take (k + 1)) = some (16 * v + (c - 55))) := by show _ = _; rw [hsn.out, hx.out, if_neg d1, if_neg d2, if_pos ⟨d1a, d1b⟩]
          clear hsn hx d1 d2
          have d2a : (65 : Int) ≤ (c : Int) := by omega
          have d2b : (c : Int) ≤ 70 := by omega
          go_wp2
          refine ⟨⟨k + 1, _, by omega, by go_num, ?_, hn⟩, by simp [intOf]; omega⟩
          congr 1; omega
        · have hfin : Hid (numZ (s.data.toList.drop p) d = -1) := numZ_drop_none hlt (by rw [← Hsl.out]; omega) (by rw [hsn.out, hx.out, if_neg d1, if_neg d2, if_neg d3])
          clear hsn hx
          by_cases e1 : c < 48
          · clear d1 d2 d3
            have e1I : (c : Int) < 48 := by omega
            go_wp2
            go_ret
            rw [hfin.out]
            exact ⟨rfl, rfl⟩
          by_cases e2 : c < 65
          · have f1 : (57 : Int) < (c : Int) := by omega
            have f2 : (c : Int) < 65 := by omega
            have f3 : (48 : Int) ≤ (c : Int) := by omega
            clear d1 d2 d3 e1
            go_wp2
            go_ret
            rw [hfin.out]
            exact ⟨rfl, rfl⟩
          by_cases e3 : c < 97
          · have f1 : (70 : Int) < (c : Int) := by omega
            have f2 : (c : Int) < 97 := by omega
            clear d1 d2 d3 e1 e2
            go_wp2
            go_ret
            rw [hfin.out]
            exact ⟨rfl, rfl⟩
          · have f1 : (102 : Int) < (c : Int) := by omega
            clear d1 d2 d3 e1 e2 e3
            go_wp2
            go_ret
            rw [hfin.out]
            exact ⟨rfl, rfl⟩
      · obtain rfl : k = d := by omega
        have hfin : Hid (numZ (s.data.toList.drop p) k = (v : Int)) := by
          show numZ _ _ = _
          unfold numZ numv; rw [if_neg (by rw [List.length_drop, ← Hsl.out]; omega), hv.out]
        clear hv hlen
        go_wp2
        go_ret
        rw [hfin.out]
        exact ⟨rfl, rfl⟩

def rescV (l : List UInt8) : Value := match esc l with
  | some (r, n) => .tuple #[.string ⟨(enc r).toArray⟩, .int .i64 n]
  | none => .tuple #[.string ⟨#[]⟩, .int .i64 0]
theorem rescV_some {l : List UInt8} {r n : Nat} (h : esc l = some (r, n)) : rescV l = .tuple #[.string ⟨(enc r).toArray⟩, .int .i64 n] := by unfold rescV; rw [h]
theorem rescV_none {l : List UInt8} (h : esc l = none) : rescV l = .tuple #[.string ⟨#[]⟩, .int .i64 0] := by unfold rescV; rw [h]
theorem one_byte (s : ByteArray) (p : Nat) (h : p < s.size) (hc : s[p].toNat < 128) : s.extract p (p + 1) = ⟨(enc s[p].toNat).toArray⟩ := by
  rw [Lib.extract_eq, drop_cons s p h, enc_one hc, show p + 1 - p = 1 by omega]
  simp

set_option maxHeartbeats 4000000 in
set_option maxRecDepth 100000 in
theorem Tryd.resc_any (s : ByteArray) (p : Nat) (w : World) (hs : s.size ≤ 35184372088832) (hp : p ≤ s.size) :
    Calls Tryd.prog 47 #[.string s, .int .i64 p] w fun e w' => e = .returned (rescV (s.data.toList.drop p)) ∧ w = w' := by
  by_cases hlt : p < s.size
  · have hd := drop_cons s p hlt
    rw [hd]
    have h1 := one_byte s p hlt
    have hb1 := s[p].toNat_lt
    obtain ⟨c, hc⟩ : ∃ c, s[p].toNat = c := ⟨_, rfl⟩
    have hesc : esc (s[p] :: s.data.toList.drop (p + 1)) = if c = 110 then some (10, 1)
      else if c = 116 then some (9, 1)
      else if c = 120 then (match numv (s.data.toList.drop (p + 1)) 2 with | some v => if v < 128 then some (v, 3) else none | none => none)
      else if c = 117 then (match numv (s.data.toList.drop (p + 1)) 4 with | some v => if VR v then some (v, 5) else none | none => none)
      else if c = 92 ∨ c = 39 ∨ c = 34 then some (c, 1)
      else none := by rw [← hc]; rfl
    obtain ⟨E, hE⟩ : ∃ E, E = s[p] :: s.data.toList.drop (p + 1) := ⟨_, rfl⟩
    rw [← hE] at hesc ⊢
    rw [hc] at h1
    have Hesc := Lib.hid hesc
    have H1 := Lib.hid h1
    have hb2 : (c : Int) ≤ 255 := by omega
    have hp1 : (p : Int) ≤ (p : Int) + 1 := by omega
    have hp2 : (p : Int) + 1 ≤ (s.size : Int) := by omega
    have hnl : ¬ s.size ≤ p := by omega
    clear hesc h1 hE hd hb1
    by_cases c110 : c = 110
    · have e : rescV E = .tuple #[.string ⟨(enc 10).toArray⟩, .int .i64 1] := rescV_some (by rw [Hesc.out, c110]; rfl)
      rw [e]; clear e
      have H2 := H1.out
      rw [c110] at H2
      have H3 := Lib.hid (H2 (by omega))
      subst c110
      clear H2 H1 Hesc
      go_enter Tryd.func47, Tryd.ntmps47
      go_wp2
      go_ret2
      exact ⟨rfl, rfl⟩
    by_cases c116 : c = 116
    · have e : rescV E = .tuple #[.string ⟨(enc 9).toArray⟩, .int .i64 1] := rescV_some (by rw [Hesc.out, c116]; rfl)
      rw [e]; clear e
      have H2 := H1.out
      rw [c116] at H2
      have H3 := Lib.hid (H2 (by omega))
      subst c116
      clear H2 H1 Hesc
      go_enter Tryd.func47, Tryd.ntmps47
      go_wp2
      go_ret2
      exact ⟨rfl, rfl⟩
    by_cases c120 : c = 120
    · have hE2 : Hid (esc E = (match numv (s.data.toList.drop (p + 1)) 2 with | some v => if v < 128 then some (v, 3) else none | none => none)) := by show _ = _; rw [Hesc.out, c120]; rfl
      subst c120
      clear H1 Hesc
      cases hv : numv (s.data.toList.drop (p + 1)) 2 with
      | none =>
        have e : rescV E = .tuple #[.string ⟨#[]⟩, .int .i64 0] := rescV_none (by rw [hE2.out, hv])
        have hz := Lib.hid (numZ_none hv)
        clear hv hE2
        rw [e]; clear e
        go_enter Tryd.func47, Tryd.ntmps47
        go_wp2_with fail
        refine (Tryd.digits_any s (p + 1) 2 w hs (by omega) (by omega)).mono ?_
        rw [hz.out]
        rintro e w' ⟨rfl, rfl⟩
        go_wp2
        go_ret2
        exact ⟨rfl, rfl⟩
      | some v =>
        have hz := Lib.hid (numZ_some hv)
        have hvb : v < 65536 := by have := numv_lt _ _ _ hv; omega
        have hvbI : (v : Int) < 65536 := by omega
        by_cases hlt2 : v < 128
        · have f1 : (v : Int) < 128 := by omega
          have e : rescV E = .tuple #[.string ⟨(enc v).toArray⟩, .int .i64 3] := rescV_some (by rw [hE2.out, hv]; simp only; rw [if_pos hlt2])
          clear hv hE2 hlt2 hvb
          rw [e]; clear e
          go_enter Tryd.func47, Tryd.ntmps47
          go_wp2_with fail
          refine (Tryd.digits_any s (p + 1) 2 w hs (by omega) (by omega)).mono ?_
          rw [hz.out]
          rintro e w' ⟨rfl, rfl⟩
          go_wp2
          go_ret2
          exact ⟨by rw [encode_enc]; rfl, rfl⟩
        · have f1 : decide ((v : Int) < 128) = false := decide_eq_false (by omega)
          have e : rescV E = .tuple #[.string ⟨#[]⟩, .int .i64 0] := rescV_none (by rw [hE2.out, hv]; simp only; rw [if_neg hlt2])
          clear hv hE2 hlt2 hvb
          rw [e]; clear e
          go_enter Tryd.func47, Tryd.ntmps47
          go_wp2_with fail
          refine (Tryd.digits_any s (p + 1) 2 w hs (by omega) (by omega)).mono ?_
          rw [hz.out]
          rintro e w' ⟨rfl, rfl⟩
          go_wp2
          go_ret2
          exact ⟨rfl, rfl⟩
    by_cases c117 : c = 117
    · have hE2 : Hid (esc E = (match numv (s.data.toList.drop (p + 1)) 4 with | some v => if VR v then some (v, 5) else none | none => none)) := by show _ = _; rw [Hesc.out, c117]; rfl
      subst c117
      clear H1 Hesc
      cases hv : numv (s.data.toList.drop (p + 1)) 4 with
      | none =>
        have e : rescV E = .tuple #[.string ⟨#[]⟩, .int .i64 0] := rescV_none (by rw [hE2.out, hv])
        have hz := Lib.hid (numZ_none hv)
        clear hv hE2
        rw [e]; clear e
        go_enter Tryd.func47, Tryd.ntmps47
        go_wp2_with fail
        refine (Tryd.digits_any s (p + 1) 4 w hs (by omega) (by omega)).mono ?_
        rw [hz.out]
        rintro e w' ⟨rfl, rfl⟩
        go_wp2
        go_ret2
        exact ⟨rfl, rfl⟩
      | some v =>
        have hz := Lib.hid (numZ_some hv)
        have hvb : v < 65536 := by have := numv_lt _ _ _ hv; omega
        have hvbI : (v : Int) < 65536 := by omega
        by_cases hlt2 : v < 55296
        · have f1 : (v : Int) < 55296 := by omega
          have e : rescV E = .tuple #[.string ⟨(enc v).toArray⟩, .int .i64 5] := rescV_some (by rw [hE2.out, hv]; simp only; rw [if_pos (show VR v from Or.inl hlt2)])
          clear hv hE2 hlt2 hvb
          rw [e]; clear e
          go_enter Tryd.func47, Tryd.ntmps47
          go_wp2_with fail
          refine (Tryd.digits_any s (p + 1) 4 w hs (by omega) (by omega)).mono ?_
          rw [hz.out]
          rintro e w' ⟨rfl, rfl⟩
          go_wp2
          go_ret2
          exact ⟨by rw [encode_enc]; rfl, rfl⟩
        · have f1 : decide ((v : Int) < 55296) = false := decide_eq_false (by omega)
          by_cases hgt : 57343 < v
          · have f2 : (57343 : Int) < (v : Int) := by omega
            have e : rescV E = .tuple #[.string ⟨(enc v).toArray⟩, .int .i64 5] := rescV_some (by rw [hE2.out, hv]; simp only; rw [if_pos (show VR v from Or.inr ⟨hgt, by omega⟩)])
            clear hv hE2 hlt2 hgt hvb
            rw [e]; clear e
            go_enter Tryd.func47, Tryd.ntmps47
            go_wp2_with fail
            refine (Tryd.digits_any s (p + 1) 4 w hs (by omega) (by omega)).mono ?_
            rw [hz.out]
            rintro e w' ⟨rfl, rfl⟩
            go_wp2
            go_ret2
            exact ⟨by rw [encode_enc]; rfl, rfl⟩
          · have f2 : decide ((57343 : Int) < (v : Int)) = false := decide_eq_false (by omega)
            have e : rescV E = .tuple #[.string ⟨#[]⟩, .int .i64 0] := rescV_none (by rw [hE2.out, hv]; simp only; rw [if_neg (by unfold VR; omega)])
            clear hv hE2 hlt2 hgt hvb
            rw [e]; clear e
            go_enter Tryd.func47, Tryd.ntmps47
            go_wp2_with fail
            refine (Tryd.digits_any s (p + 1) 4 w hs (by omega) (by omega)).mono ?_
            rw [hz.out]
            rintro e w' ⟨rfl, rfl⟩
            go_wp2
            go_ret2
            exact ⟨rfl, rfl⟩
    by_cases c92 : c = 92
    · have e : rescV E = .tuple #[.string ⟨(enc 92).toArray⟩, .int .i64 1] := rescV_some (by rw [Hesc.out, c92]; rfl)
      rw [e]; clear e
      have H2 := H1.out
      rw [c92] at H2
      have H3 := Lib.hid (H2 (by omega))
      subst c92
      clear H2 H1 Hesc
      go_enter Tryd.func47, Tryd.ntmps47
      go_wp2
      go_ret2
      exact ⟨by rw [H3.out]; rfl, rfl⟩
    by_cases c39 : c = 39
    · have e : rescV E = .tuple #[.string ⟨(enc 39).toArray⟩, .int .i64 1] := rescV_some (by rw [Hesc.out, c39]; rfl)
      rw [e]; clear e
      have H2 := H1.out
      rw [c39] at H2
      have H3 := Lib.hid (H2 (by omega))
      subst c39
      clear H2 H1 Hesc
      go_enter Tryd.func47, Tryd.ntmps47
      go_wp2
      go_ret2
      exact ⟨by rw [H3.out]; rfl, rfl⟩
    by_cases c34 : c = 34
    · have e : rescV E = .tuple #[.string ⟨(enc 34).toArray⟩, .int .i64 1] := rescV_some (by rw [Hesc.out, c34]; rfl)
      rw [e]; clear e
      have H2 := H1.out
      rw [c34] at H2
      have H3 := Lib.hid (H2 (by omega))
      subst c34
      clear H2 H1 Hesc
      go_enter Tryd.func47, Tryd.ntmps47
      go_wp2
      go_ret2
      exact ⟨by rw [H3.out]; rfl, rfl⟩
    · have e : rescV E = .tuple #[.string ⟨#[]⟩, .int .i64 0] := rescV_none (by rw [Hesc.out]; simp only [if_neg c110, if_neg c116, if_neg c120, if_neg c117]; rw [if_neg (by omega)])
      rw [e]; clear e H1 Hesc
      go_enter Tryd.func47, Tryd.ntmps47
      go_wp2
      go_ret2
      exact ⟨rfl, rfl⟩
  · have e : rescV (s.data.toList.drop p) = .tuple #[.string ⟨#[]⟩, .int .i64 0] := rescV_none (by rw [List.drop_eq_nil_of_le (by rw [← Lib.size_eq]; omega)]; rfl)
    rw [e]; clear e
    go_enter Tryd.func47, Tryd.ntmps47
    go_wp2
    go_ret2
    exact ⟨rfl, rfl⟩
end Go.Proofs
