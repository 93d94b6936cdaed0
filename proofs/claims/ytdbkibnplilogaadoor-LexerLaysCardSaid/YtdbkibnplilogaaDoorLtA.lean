/-
  Plain facts on UTF-8 over lists of bytes: the runes of a text, and that encoding and decoding fit. No program in sight.
-/
import Derived.Lib.MapLaws
import Derived.Lib.ValidLaws
import Derived.Lib.QuoteLoop
import Derived.Lib.TrimAscii
set_option linter.unusedVariables false
namespace Go.Lt
open Go.Lib

abbrev enc (r : Nat) : List UInt8 := encodeRune (r : Int)

def runesF : Nat → List UInt8 → List Nat
  | 0, _ => []
  | n + 1, l => if l = [] then [] else (decodeL l).1 :: runesF n (l.drop (decodeL l).2)
/-- The runes of a text; a byte that is no UTF-8 counts as U+FFFD. -/
def runes (l : List UInt8) : List Nat := runesF l.length l

theorem runesF_nil : ∀ n, runesF n [] = []
  | 0 => rfl
  | n + 1 => by simp [runesF]
theorem runesF_fuel : ∀ (n m : Nat) (l : List UInt8), l.length ≤ n → l.length ≤ m → runesF n l = runesF m l
  | 0, m, l, hn, _ => by
    have : l = [] := List.eq_nil_of_length_eq_zero (by omega)
    subst this; rw [runesF_nil, runesF_nil]
  | n + 1, 0, l, _, hm => by
    have : l = [] := List.eq_nil_of_length_eq_zero (by omega)
    subst this; rw [runesF_nil, runesF_nil]
  | n + 1, m + 1, l, hn, hm => by
    by_cases hne : l = []
    · subst hne; rw [runesF_nil, runesF_nil]
    · have hw := decodeL_width l
      have hl : 0 < l.length := List.length_pos_iff.2 hne
      simp only [runesF, if_neg hne]
      rw [runesF_fuel n m _ (by rw [List.length_drop]; omega) (by rw [List.length_drop]; omega)]
theorem runes_nil : runes [] = [] := rfl
theorem runes_step (l : List UInt8) (hne : l ≠ []) : runes l = (decodeL l).1 :: runes (l.drop (decodeL l).2) := by
  have hw := decodeL_width l
  have hl : 0 < l.length := List.length_pos_iff.2 hne
  unfold runes
  obtain ⟨n, hn⟩ : ∃ n, l.length = n + 1 := ⟨l.length - 1, by omega⟩
  rw [hn]
  simp only [runesF, if_neg hne]
  rw [runesF_fuel n _ _ (by rw [List.length_drop]; omega) (Nat.le_refl _)]

/-- Induction over a text, a rune at a time. -/
theorem rune_induct {P : List UInt8 → Prop} (h0 : P []) (h1 : ∀ l, l ≠ [] → P (l.drop (decodeL l).2) → P l) (l : List UInt8) : P l := by
  have key : ∀ n (l : List UInt8), l.length ≤ n → P l := by
    intro n
    induction n with
    | zero => intro l hl; have : l = [] := List.eq_nil_of_length_eq_zero (by omega); subst this; exact h0
    | succ n ih =>
      intro l hl
      by_cases hne : l = []
      · subst hne; exact h0
      · have hw := decodeL_width l
        have hp : 0 < l.length := List.length_pos_iff.2 hne
        exact h1 l hne (ih _ (by rw [List.length_drop]; omega))
  exact key _ l (Nat.le_refl _)

/-- What a rune may be. -/
def VR (r : Nat) : Prop := r < 55296 ∨ (57343 < r ∧ r ≤ 1114111)
instance (r : Nat) : Decidable (VR r) := by unfold VR; infer_instance
def bad (l : List UInt8) : Prop := (decodeL l).1 = 65533 ∧ (decodeL l).2 = 1
instance (l : List UInt8) : Decidable (bad l) := by unfold bad; infer_instance

theorem decodeL_VR (l : List UInt8) : VR (decodeL l).1 := by
  rw [decodeL_N]
  exact decodeN_valid _ _ _ _ _ ((l.getD 0 0).toNat_lt)

theorem runes_VR (l : List UInt8) : ∀ r ∈ runes l, VR r := by
  induction l using rune_induct with
  | h0 => intro r h; simp [runes_nil] at h
  | h1 l hne ih =>
    intro r h
    rw [runes_step l hne] at h
    rcases List.mem_cons.1 h with rfl | h
    · exact decodeL_VR l
    · exact ih r h

theorem enc_pos (r : Nat) : 1 ≤ (enc r).length ∧ (enc r).length ≤ 4 := by
  have := encodeRuneZ_length (r : Int)
  simpa [enc, encodeRune] using this
theorem enc_ne (r : Nat) : enc r ≠ [] := fun h => by have := (enc_pos r).1; rw [h] at this; simp at this

theorem byte_nat (x : Int) (h0 : 0 ≤ x) (h1 : x < 256) : (x.toNat.toUInt8).toNat = x.toNat := by
  rw [Nat.toUInt8_eq, UInt8.toNat_ofNat']
  omega

theorem enc_one {r : Nat} (h : r < 128) : enc r = [r.toUInt8] := by
  unfold enc encodeRune
  rw [encodeRuneZ_one (by omega) (by omega)]
  simp
theorem enc_two {r : Nat} (h0 : 128 ≤ r) (h1 : r < 2048) : enc r = [(192 + r / 64).toUInt8, (128 + r % 64).toUInt8] := by
  unfold enc encodeRune
  rw [encodeRuneZ_two (by omega) (by omega)]
  simp only [List.map_cons, List.map_nil]
  congr 2
theorem enc_three {r : Nat} (h : (2048 ≤ r ∧ r < 55296) ∨ (57343 < r ∧ r < 65536)) : enc r = [(224 + r / 4096).toUInt8, (128 + r / 64 % 64).toUInt8, (128 + r % 64).toUInt8] := by
  unfold enc encodeRune
  rw [encodeRuneZ_three (by omega)]
  simp only [List.map_cons, List.map_nil]
  congr 2
theorem enc_four {r : Nat} (h0 : 65536 ≤ r) (h1 : r ≤ 1114111) : enc r = [(240 + r / 262144).toUInt8, (128 + r / 4096 % 64).toUInt8, (128 + r / 64 % 64).toUInt8, (128 + r % 64).toUInt8] := by
  unfold enc encodeRune
  rw [encodeRuneZ_four (by omega) (by omega)]
  simp only [List.map_cons, List.map_nil]
  congr 2

theorem u8 (n : Nat) (h : n < 256) : n.toUInt8.toNat = n := by
  rw [Nat.toUInt8_eq, UInt8.toNat_ofNat']
  omega

/-- WHAT WAS ENCODED IS DECODED AS IT WAS, whatever stands behind it. -/
theorem decode_enc (r : Nat) (t : List UInt8) (hr : VR r) : decodeL (enc r ++ t) = (r, (enc r).length) := by
  rw [decodeL_N]
  by_cases h1 : r < 128
  · rw [enc_one h1]
    simp only [List.cons_append, List.nil_append, List.length_cons, List.length_nil, List.getD_cons_zero]
    rw [u8 r (by omega)]
    unfold decodeN
    rw [if_pos h1]
  by_cases h2 : r < 2048
  · rw [enc_two (by omega) h2]
    simp only [List.cons_append, List.nil_append, List.length_cons, List.length_nil, List.getD_cons_zero, List.getD_cons_succ]
    rw [u8 (192 + r / 64) (by omega), u8 (128 + r % 64) (by omega)]
    unfold decodeN
    rw [if_neg (by omega), if_pos ⟨by omega, by omega, by omega⟩, if_pos (by omega)]
    apply Prod.ext <;> simp only <;> omega
  by_cases h3 : r < 65536
  · rw [enc_three (by unfold VR at hr; omega)]
    simp only [List.cons_append, List.nil_append, List.length_cons, List.length_nil, List.getD_cons_zero, List.getD_cons_succ]
    rw [u8 (224 + r / 4096) (by omega), u8 (128 + r / 64 % 64) (by omega), u8 (128 + r % 64) (by omega)]
    unfold decodeN
    unfold VR at hr
    rw [if_neg (by omega), if_neg (by omega), if_pos ⟨by omega, ⟨by omega, by omega⟩, by omega, by omega⟩, if_pos ⟨by omega, by omega⟩]
    apply Prod.ext <;> simp only <;> omega
  · unfold VR at hr
    rw [enc_four (by omega) (by omega)]
    simp only [List.cons_append, List.nil_append, List.length_cons, List.length_nil, List.getD_cons_zero, List.getD_cons_succ]
    rw [u8 (240 + r / 262144) (by omega), u8 (128 + r / 4096 % 64) (by omega), u8 (128 + r / 64 % 64) (by omega), u8 (128 + r % 64) (by omega)]
    unfold decodeN
    rw [if_neg (by omega), if_neg (by omega), if_neg (by omega), if_pos ⟨by omega, ⟨by omega, by omega⟩, ⟨by omega, by omega⟩, by omega, by omega⟩, if_pos ⟨by omega, by omega⟩]
    apply Prod.ext <;> simp only <;> omega

theorem not_bad_enc (r : Nat) (t : List UInt8) (hr : VR r) : ¬ bad (enc r ++ t) := by
  unfold bad
  rw [decode_enc r t hr]
  rintro ⟨rfl, h⟩
  revert h
  decide

theorem runes_enc (r : Nat) (t : List UInt8) (hr : VR r) : runes (enc r ++ t) = r :: runes t := by
  rw [runes_step _ (by simp [enc_ne]), decode_enc r t hr]
  simp

theorem runes_flat : ∀ rs : List Nat, (∀ r ∈ rs, VR r) → runes (rs.flatMap enc) = rs
  | [], _ => rfl
  | r :: rs, h => by
    rw [List.flatMap_cons, runes_enc r _ (h r (by simp)), runes_flat rs (fun x hx => h x (by simp [hx]))]

theorem valid_flat : ∀ rs : List Nat, (∀ r ∈ rs, VR r) → validD (rs.flatMap enc) = true
  | [], _ => rfl
  | r :: rs, h => by
    have hr := h r (by simp)
    have hb := not_bad_enc r (rs.flatMap enc) hr
    unfold bad at hb
    rw [List.flatMap_cons, validD_step _ (by simp [enc_ne]), if_neg hb, decode_enc r _ hr]
    simp only [List.drop_left]
    exact valid_flat rs (fun x hx => h x (by simp [hx]))

/-- The text of a text's runes: the text mended. -/
def mend (l : List UInt8) : List UInt8 := (runes l).flatMap enc

theorem mend_valid (l : List UInt8) : validD (mend l) = true := valid_flat _ (runes_VR l)

theorem valid_iff (l : List UInt8) : validD l = true ↔ mend l = l := by
  constructor
  · induction l using rune_induct with
    | h0 => intro _; rfl
    | h1 l hne ih =>
      intro h
      rw [validD_step l hne] at h
      split at h
      · simp at h
      · rename_i hb
        have := ih h
        unfold mend at *
        rw [runes_step l hne, List.flatMap_cons, this]
        show enc _ ++ _ = _
        unfold enc
        rw [encode_decode l hne hb, List.take_append_drop]
  · intro h
    rw [← h]
    exact mend_valid l

theorem valid_mend (l : List UInt8) : validD l = decide (mend l = l) := by
  by_cases h : mend l = l
  · rw [(valid_iff l).2 h]; simp [h]
  · have : validD l ≠ true := fun hv => h ((valid_iff l).1 hv)
    simp [h]; simpa using this

/-- A rune cut short is bad. -/
theorem cut_bad (r k : Nat) (hr : VR r) (h0 : 0 < k) (h1 : k < (enc r).length) : bad ((enc r).take k) := by
  unfold bad
  rw [decodeL_N]
  have hr' := hr
  unfold VR at hr'
  by_cases a1 : r < 128
  · rw [enc_one a1] at h1; simp at h1; omega
  by_cases a2 : r < 2048
  · rw [enc_two (by omega) a2] at h1 ⊢
    simp only [List.length_cons, List.length_nil] at h1
    obtain rfl : k = 1 := by omega
    simp only [List.take_succ_cons, List.take_zero, List.length_cons, List.length_nil, List.getD_cons_zero, List.getD_cons_succ, List.getD_nil]
    rw [u8 (192 + r / 64) (by omega)]
    unfold decodeN
    rw [if_neg (by omega), if_neg (by omega), if_neg (by omega), if_neg (by omega)]
    exact ⟨rfl, rfl⟩
  by_cases a3 : r < 65536
  · rw [enc_three (by omega)] at h1 ⊢
    simp only [List.length_cons, List.length_nil] at h1
    have : k = 1 ∨ k = 2 := by omega
    rcases this with rfl | rfl
    · simp only [List.take_succ_cons, List.take_zero, List.length_cons, List.length_nil, List.getD_cons_zero, List.getD_cons_succ, List.getD_nil]
      rw [u8 (224 + r / 4096) (by omega)]
      unfold decodeN
      rw [if_neg (by omega), if_neg (by omega), if_neg (by omega), if_neg (by omega)]
      exact ⟨rfl, rfl⟩
    · simp only [List.take_succ_cons, List.take_zero, List.length_cons, List.length_nil, List.getD_cons_zero, List.getD_cons_succ, List.getD_nil]
      rw [u8 (224 + r / 4096) (by omega), u8 (128 + r / 64 % 64) (by omega)]
      unfold decodeN
      rw [if_neg (by omega), if_neg (by omega), if_neg (by omega), if_neg (by omega)]
      exact ⟨rfl, rfl⟩
  · rw [enc_four (by omega) (by omega)] at h1 ⊢
    simp only [List.length_cons, List.length_nil] at h1
    have : k = 1 ∨ k = 2 ∨ k = 3 := by omega
    rcases this with rfl | rfl | rfl
    all_goals
      simp only [List.take_succ_cons, List.take_zero, List.length_cons, List.length_nil, List.getD_cons_zero, List.getD_cons_succ, List.getD_nil]
      rw [u8 (240 + r / 262144) (by omega)]
      try rw [u8 (128 + r / 4096 % 64) (by omega)]
      try rw [u8 (128 + r / 64 % 64) (by omega)]
      unfold decodeN
      rw [if_neg (by omega), if_neg (by omega), if_neg (by omega), if_neg (by omega)]
      exact ⟨rfl, rfl⟩

/-- How wide the rune at the head of a text is; 0: none stands there. -/
def width (l : List UInt8) : Nat := if l = [] ∨ bad l then 0 else (decodeL l).2
/-- n bytes at the head are one rune, whole. -/
def isOne (l : List UInt8) (n : Nat) : Prop := (runes (l.take n)).length = 1 ∧ mend (l.take n) = l.take n

theorem isOne_width (l : List UInt8) (n : Nat) (hn : n ≤ l.length) (h : isOne l n) : l ≠ [] ∧ ¬ bad l ∧ (decodeL l).2 = n := by
  obtain ⟨h1, h2⟩ := h
  obtain ⟨r, hr⟩ := List.length_eq_one_iff.1 h1
  have hv : VR r := runes_VR _ r (by rw [hr]; simp)
  have e : enc r = l.take n := by rw [← h2]; unfold mend; rw [hr]; simp
  have e2 : l = enc r ++ l.drop n := by rw [e, List.take_append_drop]
  have e3 : (enc r).length = n := by rw [e, List.length_take]; omega
  refine ⟨?_, ?_, ?_⟩
  · intro hl; rw [hl] at e2; exact enc_ne r (by simpa using e2.symm)
  · rw [e2]; exact not_bad_enc r _ hv
  · rw [e2, decode_enc r _ hv]; exact e3

theorem width_isOne (l : List UInt8) (hne : l ≠ []) (hb : ¬ bad l) : isOne l (decodeL l).2 := by
  have e := encode_decode l hne hb
  have hv := decodeL_VR l
  unfold isOne mend
  rw [← e]
  have := runes_enc (decodeL l).1 [] hv
  rw [List.append_nil] at this
  show (runes (enc _)).length = 1 ∧ (runes (enc _)).flatMap enc = enc _
  rw [this]
  simp [runes_nil]

theorem width_le4 (l : List UInt8) (hne : l ≠ []) (hb : ¬ bad l) : (decodeL l).2 ≤ 4 := by
  have e := encode_decode l hne hb
  have h1 := (enc_pos (decodeL l).1).2
  have h2 := decodeL_le l hne
  unfold enc at h1
  rw [e, List.length_take] at h1
  omega

theorem ascii_rune (c : UInt8) (t : List UInt8) : (decodeL (c :: t)).1 < 128 ↔ c.toNat < 128 := by
  constructor
  · intro h
    by_cases hc : c.toNat < 128
    · exact hc
    · exfalso
      rw [decodeL_N] at h
      simp only [List.getD_cons_zero] at h
      unfold decodeN at h
      rw [if_neg hc] at h
      repeat' split at h
      all_goals (simp only at h; omega)
  · intro h
    rw [decodeL_ascii c t h]
    exact h

theorem rune_eq_ascii (c : UInt8) (t : List UInt8) (n : Nat) (hn : n < 128) : (decodeL (c :: t)).1 = n ↔ c.toNat = n := by
  constructor
  · intro h
    have hc := (ascii_rune c t).1 (by omega)
    rw [decodeL_ascii c t hc] at h
    exact h
  · intro h
    rw [decodeL_ascii c t (by omega)]
    exact h

theorem rune_lt_ascii (c : UInt8) (t : List UInt8) (n : Nat) (hn : n ≤ 128) : (decodeL (c :: t)).1 < n ↔ c.toNat < n := by
  constructor
  · intro h
    have hc := (ascii_rune c t).1 (by omega)
    rw [decodeL_ascii c t hc] at h
    exact h
  · intro h
    rw [decodeL_ascii c t (by omega)]
    exact h
end Go.Lt
