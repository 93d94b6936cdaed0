/-
  Walks: quoted, sign.
-/
import Derived.Test.YtdbkibnplilogaaDoorLxH
set_option linter.unusedVariables false
namespace Go.Proofs
open Go.RowKit Go.Lx Go.Lt

set_option maxHeartbeats 4000000 in
set_option maxRecDepth 100000 in
theorem Tryd.lquoted_any (B b : Nat) (s : ByteArray) (st : St) (w : World) (h : Tryd.LexAt B b s st w) (hT : Tryd.TabsIn B w) (hs : s.size ≤ 1000000) (hp : st.pos ≤ s.size) (hl : st.toks.length ≤ 1000000) (hun : ∀ t n, unq (s.data.toList.drop st.pos) = some (t, n) → t.length ≤ 1000000 ∧ n ≤ 1000000) :
    Calls Tryd.prog 44 #[.pointer (some ⟨b, 0, none⟩)] w
      (Tryd.LexOut B b s w (match unq (s.data.toList.drop st.pos) with
        | some (t, n) => .ok { st with pos := st.pos + n, toks := st.toks ++ [⟨4, t, st.pos⟩] }
        | none => .error (104, st.pos))) := by
  have hBw := h.base
  obtain ⟨lv, bv, hV⟩ := id h
  obtain ⟨c0, c1, _⟩ := hV.cells
  have hlt := lt_of_block hV.2.1
  have H := Lib.hid h
  have HT := Lib.hid hT
  have hpI : (st.pos : Int) ≤ (s.size : Int) := by omega
  have hxs : (s.extract st.pos s.size).size ≤ 35184372088832 := by rw [ByteArray.size_extract]; omega
  have Hxs := Lib.hid hxs
  have hsx : Hid (unq (s.extract st.pos s.size).data.toList = unq (s.data.toList.drop st.pos)) := by show _ = _; rw [suffix_list]
  obtain ⟨U, hU⟩ : ∃ U, unq (s.data.toList.drop st.pos) = U := ⟨_, rfl⟩
  rw [hU] at hun hsx ⊢
  clear h hV hT hU hxs
  cases U with
  | none =>
    have hav : Hid (ansV (unq (s.extract st.pos s.size).data.toList) = .tuple #[.string ⟨#[]⟩, .int .i64 0, .int .i64 4]) := by show _ = _; rw [hsx.out]; rfl
    go_enter Tryd.func44, Tryd.ntmps44
    go_wp2_with fail
    go_region_held3 (fun w' => w'.cell? ⟨b, 0, none⟩ = some (.string s) ∧ w'.cell? ⟨b, 1, none⟩ = some (.int .i64 st.pos))
      (first | go_keep | exact ⟨(bq.cell (p := ⟨b, 0, none⟩) hlt).trans c0, (bq.cell (p := ⟨b, 1, none⟩) hlt).trans c1⟩)
      (first | (go_at_call 51; refine (Tryd.unquote_any _ _ Hxs.out (HT.out _ (Below.refl _ _).drew)).mono ?_; rw [hav.out]; rintro e w' ⟨rfl, bq⟩))
    have H1 := Lib.hid (H.out.below (w' := w') ((Below.refl _ w).drew.trans bq))
    have hb1 : Below B w w' := (Below.refl B w).drew.trans (bq.mono hBw)
    obtain ⟨lv1, bv1, hV1⟩ := H1.out
    obtain ⟨d0, d1, _⟩ := hV1.cells
    clear hV1 c0 c1
    go_wp2_with fail
    refine (Tryd.fail_any _ 104 st.pos _).mono ?_
    rintro e W3 ⟨rfl, rfl⟩
    go_wp2_with fail
    exact ⟨rfl, rfl, hb1⟩
  | some tn =>
    obtain ⟨t, n⟩ := tn
    obtain ⟨ht, hn⟩ := hun t n rfl
    have hav : Hid (ansV (unq (s.extract st.pos s.size).data.toList) = .tuple #[.string ⟨t.toArray⟩, .int .i64 n, .int .i64 0]) := by show _ = _; rw [hsx.out]; rfl
    have hts : Hid ((⟨t.toArray⟩ : ByteArray).size ≤ 1000000) := by show _ ≤ _; rw [Lib.size_eq]; exact ht
    go_enter Tryd.func44, Tryd.ntmps44
    go_wp2_with fail
    go_region_held3 (fun w' => w'.cell? ⟨b, 0, none⟩ = some (.string s) ∧ w'.cell? ⟨b, 1, none⟩ = some (.int .i64 st.pos))
      (first | go_keep | exact ⟨(bq.cell (p := ⟨b, 0, none⟩) hlt).trans c0, (bq.cell (p := ⟨b, 1, none⟩) hlt).trans c1⟩)
      (first | (go_at_call 51; refine (Tryd.unquote_any _ _ Hxs.out (HT.out _ (Below.refl _ _).drew)).mono ?_; rw [hav.out]; rintro e w' ⟨rfl, bq⟩))
    have H1 := Lib.hid (H.out.below (w' := w') ((Below.refl _ w).drew.trans bq))
    have hb1 : Below B w w' := (Below.refl B w).drew.trans (bq.mono hBw)
    obtain ⟨lv1, bv1, hV1⟩ := H1.out
    obtain ⟨d0, d1, _⟩ := hV1.cells
    clear hV1 c0 c1
    go_wp2_with fail
    refine (Tryd.put_any B b s st 4 st.pos ⟨t.toArray⟩ _ H1.out hts.out hl).mono ?_
    rw [show (⟨t.toArray⟩ : ByteArray).data.toList = t from rfl]
    rintro e W3 ⟨rfl, H3, b3⟩
    obtain ⟨lv3, bv3, hV3⟩ := H3
    obtain ⟨e0, e1, _, _, _, e2, _⟩ := hV3.cells
    have hX4 := Lib.hid (hV3.setPos (st.pos + n))
    have hb3 := hb1.trans b3
    clear hV3 d0 d1
    go_wp2_with fail
    refine bodyPost_end (results_none rfl _ _ _) rfl ?_
    exact ⟨rfl, ⟨_, _, hX4.out.1⟩, hb3.trans hX4.out.2⟩
end Go.Proofs
