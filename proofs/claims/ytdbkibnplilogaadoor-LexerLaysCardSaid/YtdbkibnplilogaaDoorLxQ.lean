/-
  Walks: end whole.
-/
import Derived.Test.YtdbkibnplilogaaDoorLxP
set_option linter.unusedVariables false
namespace Go.Proofs
open Go.RowKit Go.Lx Go.Lt

theorem finish_none (N : Nat) (st : St) (h : st.toks = []) : finish N st = st.toks ++ List.replicate (st.deep.length - 1) ⟨8, [], N⟩ ++ [⟨9, [], N⟩] := by
  unfold finish; rw [h]; rfl
theorem finish_keep (N : Nat) (st : St) (ts : List Tok) (k : Tok) (h : st.toks = ts ++ [k]) (hk : ¬ (k.kind < 6 ∨ 8 < k.kind)) : finish N st = st.toks ++ List.replicate (st.deep.length - 1) ⟨8, [], N⟩ ++ [⟨9, [], N⟩] := by
  have e : st.toks.getLast? = some k := by rw [h]; simp
  unfold finish; rw [e]; simp only [if_neg hk]
theorem finish_put (N : Nat) (st : St) (ts : List Tok) (k : Tok) (h : st.toks = ts ++ [k]) (hk : k.kind < 6 ∨ 8 < k.kind) : finish N st = st.toks ++ [⟨6, [], N⟩] ++ List.replicate (st.deep.length - 1) ⟨8, [], N⟩ ++ [⟨9, [], N⟩] := by
  have e : st.toks.getLast? = some k := by rw [h]; simp
  unfold finish; rw [e]; simp only [if_pos hk]

theorem Tryd.end_any (B b : Nat) (s : ByteArray) (st : St) (w : World) (h : Tryd.LexAt B b s st w) (hs : s.size ≤ 100000) (hdl : 1 ≤ st.deep.length) (hl : st.toks.length + st.deep.length ≤ 900000) :
    Calls Tryd.prog 29 #[.pointer (some ⟨b, 0, none⟩)] w fun e w' => e = .returned (.tuple #[]) ∧ Tryd.LexAt B b s { st with toks := finish s.size st } w' ∧ Below B w w' := by
  by_cases h0 : st.toks = []
  · rw [finish_none _ _ h0]; exact Tryd.end_none B b s st w h hs hdl hl h0
  · have hts : st.toks = st.toks.dropLast ++ [st.toks.getLast h0] := (List.dropLast_concat_getLast h0).symm
    obtain ⟨ts, hts2⟩ : ∃ ts, ts = st.toks.dropLast := ⟨_, rfl⟩
    obtain ⟨k, hk⟩ : ∃ k, k = st.toks.getLast h0 := ⟨_, rfl⟩
    rw [← hts2, ← hk] at hts
    by_cases h1 : k.kind < 6
    · rw [finish_put _ _ ts k hts (.inl h1)]; exact Tryd.end_low B b s st w h hs hdl hl ts k hts h1
    · by_cases h2 : 8 < k.kind
      · rw [finish_put _ _ ts k hts (.inr h2)]; exact Tryd.end_high B b s st w h hs hdl hl ts k hts h2
      · rw [finish_keep _ _ ts k hts (by omega)]; exact Tryd.end_keep B b s st w h hs hdl hl ts k hts (by omega)
end Go.Proofs
