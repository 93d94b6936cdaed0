/-
  Walks: end.
-/
import Derived.Test.YtdbkibnplilogaaDoorLxO
set_option linter.unusedVariables false
namespace Go.Proofs
open Go.RowKit Go.Lx Go.Lt

theorem Tryd.LexAt.cells {B b : Nat} {s : ByteArray} {st : St} {w : World} (h : Tryd.LexAt B b s st w) : w.cell? ⟨b, 0, none⟩ = some (.string s) ∧ ∃ lv bv, w.cell? ⟨b, 2, none⟩ = some lv ∧ w.cell? ⟨b, 4, none⟩ = some bv ∧ (∃ g cap, bv = .slice g st.deep.length cap ∧ st.deep.length ≤ cap) ∧
    (∃ g cap, lv = .slice g st.toks.length cap ∧ ∀ ts k, st.toks = ts ++ [k] → ∃ g', g = some ⟨g', 0, none⟩ ∧ w.cell? ⟨g', ts.length * 3, none⟩ = some (.int .i64 k.kind)) := by
  obtain ⟨lv, bv, h⟩ := h
  obtain ⟨c0, _, c2, _, c4, _⟩ := h.cells
  refine ⟨c0, lv, bv, c2, c4, ?_, ?_⟩
  · rcases h.2.2.2.1.2 with ⟨e, h0⟩ | ⟨g, cap, cur, e, _, _, hc, _⟩
    · exact ⟨none, 0, by rw [h0]; exact e, by omega⟩
    · exact ⟨_, cap, e, hc⟩
  · have h3 := h.2.2.1
    rcases h3.2 with ⟨e, h0⟩ | ⟨g, cap, cur, e, _, _, hc, _⟩
    · refine ⟨none, 0, by rw [h0]; exact e, fun ts k hk => ?_⟩
      rw [hk, List.length_append] at h0; simp at h0
    · refine ⟨_, cap, e, fun ts k hk => ⟨g, rfl, ?_⟩⟩
      subst e
      have := h3.cellAt (ts.length * 3) (by rw [hk, List.length_append]; simp)
      rw [hk, tokCells_append, List.getElem?_append_right (by rw [tokCells_len]; exact Nat.le_refl _), tokCells_len, Nat.sub_self] at this
      exact this

-- ends here: the rest is printed
set_option maxRecDepth 100000 in
theorem Tryd.slice_tail (g : Option Addr) (n cap : Nat) (h1 : 1 ≤ n) (h2 : n ≤ cap) : ∃ A' c', ∀ W : World, (Instr.slice 37 (.slice g n cap) (some (.int .i64 1)) none none).run Tryd.prog W = .ok (.slice A' (n - 1) c') W := by
  refine ⟨if cap = 1 then g else g.map (·.add 1), cap - 1, fun W => ?_⟩
  rw [run_slice_l W 37 g n cap (ht := by rw [Tryd.underlying37]; rfl) .i64 1 (by omega) (by omega)]
  simp [go_sem, sliced]

theorem rep_snoc {α : Type} (k : Nat) (a : α) : List.replicate (k + 1) a = List.replicate k a ++ [a] := List.replicate_succ'

set_option maxHeartbeats 8000000 in
theorem Tryd.end_none (B b : Nat) (s : ByteArray) (st : St) (w : World) (h : Tryd.LexAt B b s st w) (hs : s.size ≤ 100000) (hdl : 1 ≤ st.deep.length) (hl : st.toks.length + st.deep.length ≤ 900000) (hts : st.toks = []) :
    Calls Tryd.prog 29 #[.pointer (some ⟨b, 0, none⟩)] w fun e w' => e = .returned (.tuple #[]) ∧ Tryd.LexAt B b s { st with toks := st.toks ++ List.replicate (st.deep.length - 1) ⟨8, [], s.size⟩ ++ [⟨9, [], s.size⟩] } w' ∧ Below B w w' := by
  obtain ⟨c0, lv, bv, c2, c4, ⟨g4, cap4, rfl, hcap4⟩, ⟨g2, cap2, rfl, hlast⟩⟩ := h.cells
  have H := Lib.hid h
  obtain ⟨D, hD⟩ : ∃ D, st.deep.length = D := ⟨_, rfl⟩
  have HD := Lib.hid hD
  rw [hD] at c4 hcap4 hdl hl ⊢
  have htl : st.toks.length = 0 := by rw [hts]; rfl
  rw [htl] at c2 hl
  obtain ⟨A', c', hsl⟩ := Tryd.slice_tail g4 D cap4 hdl hcap4
  clear h hlast hD
  go_enter Tryd.func29, Tryd.ntmps29
  go_wp2
  have b1 : Below B w w := Below.refl _ _
  have H1 : Hid (Tryd.LexAt B b s st w) := H
  go_loopw [47] (fun i wr => ∃ (k : Nat), i = .int .i64 k ∧ k ≤ D - 1 ∧ Tryd.LexAt B b s { st with toks := st.toks ++ List.replicate k ⟨8, [], s.size⟩ } wr ∧ Below B w wr) (fun i _ => D - (intOf i).toNat)
  case atStart => exact ⟨0, rfl, by omega, by simpa using H1.out, b1⟩
  case round =>
    obtain ⟨k, rfl, hk, hA, hbw⟩ := hrel
    have HA := Lib.hid hA
    obtain ⟨e0, _⟩ := hA.cells
    have htl : ((st.toks : List Tok) ++ List.replicate k (⟨8, [], s.size⟩ : Tok)).length ≤ 1000000 := by simp [htl]; omega
    have Htl := Lib.hid htl
    clear hA htl
    by_cases hlt : k < D - 1
    · have hkI : decide ((k : Int) < ((D - 1 : Nat) : Int)) = true := by simp; omega
      go_wp2_with fail
      refine (Tryd.put_any B b s _ 8 s.size ⟨#[]⟩ _ HA.out (by decide) Htl.out).mono ?_
      rintro e W5 ⟨rfl, H5, b5⟩
      have H6 : Hid (Tryd.LexAt B b s { st with toks := st.toks ++ List.replicate (k + 1) ⟨8, [], s.size⟩ } W5) := by
        show Tryd.LexAt B b s _ W5
        rw [rep_snoc, ← List.append_assoc]; exact H5
      have hb5 := hbw.trans b5
      clear H5 b5
      go_wp2_with fail
      go_roundw
      case rel => exact ⟨k + 1, by go_num, by omega, H6.out, hb5⟩
      case measure => simp [intOf]; omega
    · obtain rfl : k = D - 1 := by omega
      have hkI : decide (((D - 1 : Nat) : Int) < ((D - 1 : Nat) : Int)) = false := by simp
      go_wp2_with fail
      refine (Tryd.put_any B b s _ 9 s.size ⟨#[]⟩ _ HA.out (by decide) Htl.out).mono ?_
      rintro e W5 ⟨rfl, H5, b5⟩
      have H6 := Lib.hid H5
      have hb5 := hbw.trans b5
      clear H5 b5
      go_wp2_with fail
      refine bodyPost_end (results_none rfl _ _ _) rfl ?_
      exact ⟨rfl, H6.out, hb5⟩

set_option maxHeartbeats 8000000 in
theorem Tryd.end_keep (B b : Nat) (s : ByteArray) (st : St) (w : World) (h : Tryd.LexAt B b s st w) (hs : s.size ≤ 100000) (hdl : 1 ≤ st.deep.length) (hl : st.toks.length + st.deep.length ≤ 900000) (ts : List Tok) (k : Tok) (hts : st.toks = ts ++ [k]) (hk : 6 ≤ k.kind ∧ k.kind ≤ 8) :
    Calls Tryd.prog 29 #[.pointer (some ⟨b, 0, none⟩)] w fun e w' => e = .returned (.tuple #[]) ∧ Tryd.LexAt B b s { st with toks := st.toks ++ List.replicate (st.deep.length - 1) ⟨8, [], s.size⟩ ++ [⟨9, [], s.size⟩] } w' ∧ Below B w w' := by
  obtain ⟨c0, lv, bv, c2, c4, ⟨g4, cap4, rfl, hcap4⟩, ⟨g2, cap2, rfl, hlast⟩⟩ := h.cells
  have H := Lib.hid h
  obtain ⟨D, hD⟩ : ∃ D, st.deep.length = D := ⟨_, rfl⟩
  have HD := Lib.hid hD
  rw [hD] at c4 hcap4 hdl hl ⊢
  obtain ⟨g', rfl, ck⟩ := hlast ts k hts
  have htl : st.toks.length = ts.length + 1 := by rw [hts, List.length_append]; rfl
  rw [htl] at c2 hl
  have hwr : IntKind.i64.wrap (ts.length : Int) = (ts.length : Int) := IntWalk.i64_in _ (by omega)
  have hi0 : (0 : Int) < ((ts.length + 1 : Nat) : Int) := by omega
  obtain ⟨K, hK⟩ : ∃ K, k.kind = K := ⟨_, rfl⟩
  rw [hK] at ck hk
  have q1 : decide ((K : Int) < 6) = false := by simp; omega
  have q2 : decide ((8 : Int) < (K : Int)) = false := by simp; omega
  obtain ⟨A', c', hsl⟩ := Tryd.slice_tail g4 D cap4 hdl hcap4
  clear h hlast hD
  go_enter Tryd.func29, Tryd.ntmps29
  go_wp2
  have b1 : Below B w w := Below.refl _ _
  have H1 : Hid (Tryd.LexAt B b s st w) := H
  go_loopw [47] (fun i wr => ∃ (k : Nat), i = .int .i64 k ∧ k ≤ D - 1 ∧ Tryd.LexAt B b s { st with toks := st.toks ++ List.replicate k ⟨8, [], s.size⟩ } wr ∧ Below B w wr) (fun i _ => D - (intOf i).toNat)
  case atStart => exact ⟨0, rfl, by omega, by simpa using H1.out, b1⟩
  case round =>
    obtain ⟨k, rfl, hk, hA, hbw⟩ := hrel
    have HA := Lib.hid hA
    obtain ⟨e0, _⟩ := hA.cells
    have htl : ((st.toks : List Tok) ++ List.replicate k (⟨8, [], s.size⟩ : Tok)).length ≤ 1000000 := by simp; omega
    have Htl := Lib.hid htl
    clear hA htl
    by_cases hlt : k < D - 1
    · have hkI : decide ((k : Int) < ((D - 1 : Nat) : Int)) = true := by simp; omega
      go_wp2_with fail
      refine (Tryd.put_any B b s _ 8 s.size ⟨#[]⟩ _ HA.out (by decide) Htl.out).mono ?_
      rintro e W5 ⟨rfl, H5, b5⟩
      have H6 : Hid (Tryd.LexAt B b s { st with toks := st.toks ++ List.replicate (k + 1) ⟨8, [], s.size⟩ } W5) := by
        show Tryd.LexAt B b s _ W5
        rw [rep_snoc, ← List.append_assoc]; exact H5
      have hb5 := hbw.trans b5
      clear H5 b5
      go_wp2_with fail
      go_roundw
      case rel => exact ⟨k + 1, by go_num, by omega, H6.out, hb5⟩
      case measure => simp [intOf]; omega
    · obtain rfl : k = D - 1 := by omega
      have hkI : decide (((D - 1 : Nat) : Int) < ((D - 1 : Nat) : Int)) = false := by simp
      go_wp2_with fail
      refine (Tryd.put_any B b s _ 9 s.size ⟨#[]⟩ _ HA.out (by decide) Htl.out).mono ?_
      rintro e W5 ⟨rfl, H5, b5⟩
      have H6 := Lib.hid H5
      have hb5 := hbw.trans b5
      clear H5 b5
      go_wp2_with fail
      refine bodyPost_end (results_none rfl _ _ _) rfl ?_
      exact ⟨rfl, H6.out, hb5⟩

set_option maxHeartbeats 8000000 in
theorem Tryd.end_low (B b : Nat) (s : ByteArray) (st : St) (w : World) (h : Tryd.LexAt B b s st w) (hs : s.size ≤ 100000) (hdl : 1 ≤ st.deep.length) (hl : st.toks.length + st.deep.length ≤ 900000) (ts : List Tok) (k : Tok) (hts : st.toks = ts ++ [k]) (hk : k.kind < 6) :
    Calls Tryd.prog 29 #[.pointer (some ⟨b, 0, none⟩)] w fun e w' => e = .returned (.tuple #[]) ∧ Tryd.LexAt B b s { st with toks := st.toks ++ [⟨6, [], s.size⟩] ++ List.replicate (st.deep.length - 1) ⟨8, [], s.size⟩ ++ [⟨9, [], s.size⟩] } w' ∧ Below B w w' := by
  obtain ⟨c0, lv, bv, c2, c4, ⟨g4, cap4, rfl, hcap4⟩, ⟨g2, cap2, rfl, hlast⟩⟩ := h.cells
  have H := Lib.hid h
  obtain ⟨D, hD⟩ : ∃ D, st.deep.length = D := ⟨_, rfl⟩
  have HD := Lib.hid hD
  rw [hD] at c4 hcap4 hdl hl ⊢
  obtain ⟨g', rfl, ck⟩ := hlast ts k hts
  have htl : st.toks.length = ts.length + 1 := by rw [hts, List.length_append]; rfl
  rw [htl] at c2 hl
  have hwr : IntKind.i64.wrap (ts.length : Int) = (ts.length : Int) := IntWalk.i64_in _ (by omega)
  have hi0 : (0 : Int) < ((ts.length + 1 : Nat) : Int) := by omega
  obtain ⟨K, hK⟩ : ∃ K, k.kind = K := ⟨_, rfl⟩
  rw [hK] at ck hk
  have q1 : decide ((K : Int) < 6) = true := by simp; omega
  clear h hlast hD
  go_enter Tryd.func29, Tryd.ntmps29
  go_wp2_with fail
  refine (Tryd.put_any B b s st 6 s.size ⟨#[]⟩ _ H.out (by decide) (by omega)).mono ?_
  rintro e W1 ⟨rfl, H1, b1⟩
  replace H1 := Lib.hid H1
  obtain ⟨d0, lv1, bv1, d2, d4, ⟨g4, cap4, rfl, hcap4⟩, _⟩ := H1.out.cells
  rw [show ({ st with toks := st.toks ++ ([⟨6, (⟨#[]⟩ : ByteArray).data.toList, s.size⟩] : List Tok) } : St).deep.length = D from HD.out] at d4 hcap4
  clear c0 c2 c4
  obtain ⟨A', c', hsl⟩ := Tryd.slice_tail g4 D cap4 hdl hcap4
  go_wp2
  go_loopw [47] (fun i wr => ∃ (k : Nat), i = .int .i64 k ∧ k ≤ D - 1 ∧ Tryd.LexAt B b s { st with toks := st.toks ++ ([⟨6, [], s.size⟩] : List Tok) ++ List.replicate k ⟨8, [], s.size⟩ } wr ∧ Below B w wr) (fun i _ => D - (intOf i).toNat)
  case atStart => exact ⟨0, rfl, by omega, by simpa using H1.out, b1⟩
  case round =>
    obtain ⟨k, rfl, hk, hA, hbw⟩ := hrel
    have HA := Lib.hid hA
    obtain ⟨e0, _⟩ := hA.cells
    have htl : ((st.toks ++ ([⟨6, [], s.size⟩] : List Tok) : List Tok) ++ List.replicate k (⟨8, [], s.size⟩ : Tok)).length ≤ 1000000 := by simp; omega
    have Htl := Lib.hid htl
    clear hA htl
    by_cases hlt : k < D - 1
    · have hkI : decide ((k : Int) < ((D - 1 : Nat) : Int)) = true := by simp; omega
      go_wp2_with fail
      refine (Tryd.put_any B b s _ 8 s.size ⟨#[]⟩ _ HA.out (by decide) Htl.out).mono ?_
      rintro e W5 ⟨rfl, H5, b5⟩
      have H6 : Hid (Tryd.LexAt B b s { st with toks := st.toks ++ ([⟨6, [], s.size⟩] : List Tok) ++ List.replicate (k + 1) ⟨8, [], s.size⟩ } W5) := by
        show Tryd.LexAt B b s _ W5
        rw [rep_snoc, ← List.append_assoc]; exact H5
      have hb5 := hbw.trans b5
      clear H5 b5
      go_wp2_with fail
      go_roundw
      case rel => exact ⟨k + 1, by go_num, by omega, H6.out, hb5⟩
      case measure => simp [intOf]; omega
    · obtain rfl : k = D - 1 := by omega
      have hkI : decide (((D - 1 : Nat) : Int) < ((D - 1 : Nat) : Int)) = false := by simp
      go_wp2_with fail
      refine (Tryd.put_any B b s _ 9 s.size ⟨#[]⟩ _ HA.out (by decide) Htl.out).mono ?_
      rintro e W5 ⟨rfl, H5, b5⟩
      have H6 := Lib.hid H5
      have hb5 := hbw.trans b5
      clear H5 b5
      go_wp2_with fail
      refine bodyPost_end (results_none rfl _ _ _) rfl ?_
      exact ⟨rfl, H6.out, hb5⟩

set_option maxHeartbeats 8000000 in
theorem Tryd.end_high (B b : Nat) (s : ByteArray) (st : St) (w : World) (h : Tryd.LexAt B b s st w) (hs : s.size ≤ 100000) (hdl : 1 ≤ st.deep.length) (hl : st.toks.length + st.deep.length ≤ 900000) (ts : List Tok) (k : Tok) (hts : st.toks = ts ++ [k]) (hk : 8 < k.kind) :
    Calls Tryd.prog 29 #[.pointer (some ⟨b, 0, none⟩)] w fun e w' => e = .returned (.tuple #[]) ∧ Tryd.LexAt B b s { st with toks := st.toks ++ [⟨6, [], s.size⟩] ++ List.replicate (st.deep.length - 1) ⟨8, [], s.size⟩ ++ [⟨9, [], s.size⟩] } w' ∧ Below B w w' := by
  obtain ⟨c0, lv, bv, c2, c4, ⟨g4, cap4, rfl, hcap4⟩, ⟨g2, cap2, rfl, hlast⟩⟩ := h.cells
  have H := Lib.hid h
  obtain ⟨D, hD⟩ : ∃ D, st.deep.length = D := ⟨_, rfl⟩
  have HD := Lib.hid hD
  rw [hD] at c4 hcap4 hdl hl ⊢
  obtain ⟨g', rfl, ck⟩ := hlast ts k hts
  have htl : st.toks.length = ts.length + 1 := by rw [hts, List.length_append]; rfl
  rw [htl] at c2 hl
  have hwr : IntKind.i64.wrap (ts.length : Int) = (ts.length : Int) := IntWalk.i64_in _ (by omega)
  have hi0 : (0 : Int) < ((ts.length + 1 : Nat) : Int) := by omega
  obtain ⟨K, hK⟩ : ∃ K, k.kind = K := ⟨_, rfl⟩
  rw [hK] at ck hk
  have q1 : decide ((K : Int) < 6) = false := by simp; omega
  have q2 : decide ((8 : Int) < (K : Int)) = true := by simp; omega
  clear h hlast hD
  go_enter Tryd.func29, Tryd.ntmps29
  go_wp2_with fail
  refine (Tryd.put_any B b s st 6 s.size ⟨#[]⟩ _ H.out (by decide) (by omega)).mono ?_
  rintro e W1 ⟨rfl, H1, b1⟩
  replace H1 := Lib.hid H1
  obtain ⟨d0, lv1, bv1, d2, d4, ⟨g4, cap4, rfl, hcap4⟩, _⟩ := H1.out.cells
  rw [show ({ st with toks := st.toks ++ ([⟨6, (⟨#[]⟩ : ByteArray).data.toList, s.size⟩] : List Tok) } : St).deep.length = D from HD.out] at d4 hcap4
  clear c0 c2 c4
  obtain ⟨A', c', hsl⟩ := Tryd.slice_tail g4 D cap4 hdl hcap4
  go_wp2
  go_loopw [47] (fun i wr => ∃ (k : Nat), i = .int .i64 k ∧ k ≤ D - 1 ∧ Tryd.LexAt B b s { st with toks := st.toks ++ ([⟨6, [], s.size⟩] : List Tok) ++ List.replicate k ⟨8, [], s.size⟩ } wr ∧ Below B w wr) (fun i _ => D - (intOf i).toNat)
  case atStart => exact ⟨0, rfl, by omega, by simpa using H1.out, b1⟩
  case round =>
    obtain ⟨k, rfl, hk, hA, hbw⟩ := hrel
    have HA := Lib.hid hA
    obtain ⟨e0, _⟩ := hA.cells
    have htl : ((st.toks ++ ([⟨6, [], s.size⟩] : List Tok) : List Tok) ++ List.replicate k (⟨8, [], s.size⟩ : Tok)).length ≤ 1000000 := by simp; omega
    have Htl := Lib.hid htl
    clear hA htl
    by_cases hlt : k < D - 1
    · have hkI : decide ((k : Int) < ((D - 1 : Nat) : Int)) = true := by simp; omega
      go_wp2_with fail
      refine (Tryd.put_any B b s _ 8 s.size ⟨#[]⟩ _ HA.out (by decide) Htl.out).mono ?_
      rintro e W5 ⟨rfl, H5, b5⟩
      have H6 : Hid (Tryd.LexAt B b s { st with toks := st.toks ++ ([⟨6, [], s.size⟩] : List Tok) ++ List.replicate (k + 1) ⟨8, [], s.size⟩ } W5) := by
        show Tryd.LexAt B b s _ W5
        rw [rep_snoc, ← List.append_assoc]; exact H5
      have hb5 := hbw.trans b5
      clear H5 b5
      go_wp2_with fail
      go_roundw
      case rel => exact ⟨k + 1, by go_num, by omega, H6.out, hb5⟩
      case measure => simp [intOf]; omega
    · obtain rfl : k = D - 1 := by omega
      have hkI : decide (((D - 1 : Nat) : Int) < ((D - 1 : Nat) : Int)) = false := by simp
      go_wp2_with fail
      refine (Tryd.put_any B b s _ 9 s.size ⟨#[]⟩ _ HA.out (by decide) Htl.out).mono ?_
      rintro e W5 ⟨rfl, H5, b5⟩
      have H6 := Lib.hid H5
      have hb5 := hbw.trans b5
      clear H5 b5
      go_wp2_with fail
      refine bodyPost_end (results_none rfl _ _ _) rfl ?_
      exact ⟨rfl, H6.out, hb5⟩
end Go.Proofs
