/-
  Plain laws of quoting and unquoting over lists of bytes. No program in sight.
-/
import Derived.Test.YtdbkibnplilogaaDoorLtA
set_option linter.unusedVariables false
namespace Go.Lt
open Go.Lib

/-! ### digits -/
/-- The value of a hexadecimal digit. -/
def hexv (c : UInt8) : Option Nat :=
  if 48 ≤ c.toNat ∧ c.toNat ≤ 57 then some (c.toNat - 48)
  else if 97 ≤ c.toNat ∧ c.toNat ≤ 102 then some (c.toNat - 87)
  else if 65 ≤ c.toNat ∧ c.toNat ≤ 70 then some (c.toNat - 55)
  else none
/-- A digit of a number below 16. -/
def hexd (n : Nat) : UInt8 := if n < 10 then (48 + n).toUInt8 else (87 + n).toUInt8
theorem hexv_hexd : ∀ n, n < 16 → hexv (hexd n) = some n := by decide
theorem hexv_lt (c : UInt8) (v : Nat) (h : hexv c = some v) : v < 16 := by
  unfold hexv at h
  repeat' split at h
  all_goals (first | (simp at h; omega) | simp at h)

/-- Digits onto a number. -/
def digs : Nat → List UInt8 → Option Nat
  | v, [] => some v
  | v, c :: t => match hexv c with
    | some d => digs (16 * v + d) t
    | none => none
/-- The number of the first k bytes, as digits. -/
def numv (l : List UInt8) (k : Nat) : Option Nat := if l.length < k then none else digs 0 (l.take k)

theorem digs_snoc : ∀ (l : List UInt8) (v : Nat) (c : UInt8), digs v (l ++ [c]) = match digs v l with | some x => (match hexv c with | some d => some (16 * x + d) | none => none) | none => none
  | [], v, c => by simp only [List.nil_append, digs]
  | b :: t, v, c => by
    simp only [List.cons_append, digs]
    cases h : hexv b with
    | none => rfl
    | some d => exact digs_snoc t _ c
theorem digs_none : ∀ (l : List UInt8) (v : Nat) (t : List UInt8), digs v l = none → digs v (l ++ t) = none
  | [], v, t, h => by simp [digs] at h
  | b :: u, v, t, h => by
    simp only [List.cons_append, digs] at h ⊢
    cases hb : hexv b with
    | none => rfl
    | some d => rw [hb] at h; exact digs_none u _ t h
theorem digs_lt : ∀ (l : List UInt8) (v x : Nat), digs v l = some x → x < (v + 1) * 16 ^ l.length
  | [], v, x, h => by simp [digs] at h; simp [h]
  | b :: u, v, x, h => by
    simp only [digs] at h
    cases hb : hexv b with
    | none => rw [hb] at h; simp at h
    | some d =>
      rw [hb] at h
      have := digs_lt u _ x h
      have hd := hexv_lt b d hb
      have e : (16 * v + d + 1) * 16 ^ u.length ≤ ((v + 1) * 16) * 16 ^ u.length := Nat.mul_le_mul_right _ (by omega)
      rw [List.length_cons, Nat.pow_succ, Nat.mul_comm (16 ^ u.length) 16, ← Nat.mul_assoc]
      exact Nat.lt_of_lt_of_le this e
theorem numv_lt (l : List UInt8) (k v : Nat) (h : numv l k = some v) : v < 16 ^ k := by
  unfold numv at h
  split at h
  · simp at h
  · have := digs_lt _ _ _ h
    rw [List.length_take, Nat.min_eq_left (by omega)] at this
    simpa using this

/-- n as k digits. -/
def hexn : Nat → Nat → List UInt8
  | _, 0 => []
  | n, k + 1 => hexn (n / 16) k ++ [hexd (n % 16)]
theorem hexn_length : ∀ k n, (hexn n k).length = k
  | 0, _ => rfl
  | k + 1, n => by simp [hexn, hexn_length k]
theorem digs_hexn : ∀ k n v, digs v (hexn n k) = some (v * 16 ^ k + n % 16 ^ k)
  | 0, n, v => by simp [hexn, digs, Nat.mod_one]
  | k + 1, n, v => by
    rw [hexn, digs_snoc, digs_hexn k (n / 16) v, hexv_hexd _ (by omega)]
    simp only [Option.some.injEq]
    have e : n % 16 ^ (k + 1) = 16 * (n / 16 % 16 ^ k) + n % 16 := by
      rw [Nat.pow_succ, Nat.mul_comm (16 ^ k) 16, Nat.mod_mul]
      omega
    rw [e, Nat.pow_succ, Nat.mul_add, ← Nat.add_assoc]
    congr 2
    rw [← Nat.mul_assoc, Nat.mul_comm 16 v, Nat.mul_comm (16 ^ k) 16, ← Nat.mul_assoc]
theorem numv_hexn (k n : Nat) (t : List UInt8) (h : n < 16 ^ k) : numv (hexn n k ++ t) k = some n := by
  unfold numv
  have hl := hexn_length k n
  rw [if_neg (by simp [hl]), List.take_left' hl, digs_hexn, Nat.mod_eq_of_lt h]
  simp

/-! ### unquoting -/
/-- What stands behind a backslash says, and how many bytes it has. -/
def esc : List UInt8 → Option (Nat × Nat)
  | [] => none
  | c :: t =>
    if c.toNat = 110 then some (10, 1)
    else if c.toNat = 116 then some (9, 1)
    else if c.toNat = 120 then (match numv t 2 with | some v => if v < 128 then some (v, 3) else none | none => none)
    else if c.toNat = 117 then (match numv t 4 with | some v => if VR v then some (v, 5) else none | none => none)
    else if c.toNat = 92 ∨ c.toNat = 39 ∨ c.toNat = 34 then some (c.toNat, 1)
    else none

theorem esc_bound (l : List UInt8) (r n : Nat) (h : esc l = some (r, n)) : 1 ≤ n ∧ n ≤ l.length ∧ n ≤ 5 ∧ VR r := by
  cases l with
  | nil => simp [esc] at h
  | cons c t =>
    simp only [esc] at h
    have hc := c.toNat_lt
    split at h
    · simp at h; obtain ⟨rfl, rfl⟩ := h; exact ⟨by omega, by simp, by omega, by decide⟩
    split at h
    · simp at h; obtain ⟨rfl, rfl⟩ := h; exact ⟨by omega, by simp, by omega, by decide⟩
    split at h
    · split at h
      · rename_i v hv
        have hl : ¬ t.length < 2 := by intro hl; simp [numv, hl] at hv
        split at h
        · simp at h; obtain ⟨rfl, rfl⟩ := h; exact ⟨by omega, by simp; omega, by omega, by unfold VR; omega⟩
        · simp at h
      · simp at h
    split at h
    · split at h
      · rename_i v hv
        have hl : ¬ t.length < 4 := by intro hl; simp [numv, hl] at hv
        split at h
        · simp at h; obtain ⟨rfl, rfl⟩ := h; exact ⟨by omega, by simp; omega, by omega, by assumption⟩
        · simp at h
      · simp at h
    split at h
    · simp at h; obtain ⟨rfl, rfl⟩ := h; exact ⟨by omega, by simp, by omega, by unfold VR; omega⟩
    · simp at h

def unqF (q : UInt8) : Nat → List UInt8 → List UInt8 → Nat → Option (List UInt8 × Nat)
  | 0, _, _, _ => none
  | f + 1, l, acc, at_ => match l with
    | [] => none
    | c :: t => if c = q then some (acc, at_ + 1)
      else if bad l ∨ (decodeL l).1 < 32 ∨ (decodeL l).1 = 127 then none
      else if (decodeL l).1 = 92 then (match esc t with
        | some (r, n) => unqF q f (l.drop (n + 1)) (acc ++ enc r) (at_ + (n + 1))
        | none => none)
      else unqF q f (l.drop (decodeL l).2) (acc ++ enc (decodeL l).1) (at_ + (decodeL l).2)
/-- What stands between quotes q, from the byte behind the first one on: (what it says, the place behind the last quote). -/
def unqGo (q : UInt8) (l acc : List UInt8) (at_ : Nat) : Option (List UInt8 × Nat) := unqF q (l.length + 1) l acc at_

theorem unqF_fuel (q : UInt8) : ∀ (f g : Nat) (l acc : List UInt8) (a : Nat), l.length < f → l.length < g → unqF q f l acc a = unqF q g l acc a
  | 0, _, _, _, _, h, _ => by omega
  | _ + 1, 0, _, _, _, _, h => by omega
  | f + 1, g + 1, l, acc, a, hf, hg => by
    cases l with
    | nil => rfl
    | cons c t =>
      have hl1 : (c :: t).length = t.length + 1 := rfl
      simp only [unqF]
      split
      · rfl
      split
      · rfl
      split
      · cases he : esc t with
        | none => rfl
        | some p =>
          obtain ⟨r, n⟩ := p
          simp only
          exact unqF_fuel q f g _ _ _ (by rw [List.length_drop]; omega) (by rw [List.length_drop]; omega)
      · have := decodeL_width (c :: t)
        exact unqF_fuel q f g _ _ _ (by rw [List.length_drop]; omega) (by rw [List.length_drop]; omega)

theorem unqGo_nil (q : UInt8) (acc : List UInt8) (a : Nat) : unqGo q [] acc a = none := rfl
theorem unqGo_end (q : UInt8) (t acc : List UInt8) (a : Nat) : unqGo q (q :: t) acc a = some (acc, a + 1) := by
  simp [unqGo, unqF]
theorem unqGo_bad (q c : UInt8) (t acc : List UInt8) (a : Nat) (hq : c ≠ q) (h : bad (c :: t) ∨ (decodeL (c :: t)).1 < 32 ∨ (decodeL (c :: t)).1 = 127) : unqGo q (c :: t) acc a = none := by
  simp only [unqGo, unqF, if_neg hq, if_pos h]
theorem unqGo_none (q c : UInt8) (t acc : List UInt8) (a : Nat) (hq : c ≠ q) (hc : c.toNat = 92) (h : esc t = none) : unqGo q (c :: t) acc a = none := by
  have e := decodeL_ascii c t (by omega)
  simp only [unqGo, unqF, if_neg hq]
  split
  · rfl
  · rw [e, if_pos hc, h]
theorem unqGo_esc (q c : UInt8) (t acc : List UInt8) (a r n : Nat) (hq : c ≠ q) (hc : c.toNat = 92) (h : esc t = some (r, n)) : unqGo q (c :: t) acc a = unqGo q ((c :: t).drop (n + 1)) (acc ++ enc r) (a + (n + 1)) := by
  have e := decodeL_ascii c t (by omega)
  have hb : ¬ (bad (c :: t) ∨ (decodeL (c :: t)).1 < 32 ∨ (decodeL (c :: t)).1 = 127) := by
    unfold bad; rw [e]; simp only; omega
  simp only [unqGo]
  rw [List.length_cons, unqF]
  simp only [if_neg hq, if_neg hb]
  rw [if_pos (by rw [e]; exact hc), h]
  simp only
  exact unqF_fuel q _ _ _ _ _ (by rw [List.length_drop]; simp; omega) (by omega)
theorem unqGo_rune (q c : UInt8) (t acc : List UInt8) (a : Nat) (hq : c ≠ q) (h : ¬ (bad (c :: t) ∨ (decodeL (c :: t)).1 < 32 ∨ (decodeL (c :: t)).1 = 127)) (hc : (decodeL (c :: t)).1 ≠ 92) :
    unqGo q (c :: t) acc a = unqGo q ((c :: t).drop (decodeL (c :: t)).2) (acc ++ enc (decodeL (c :: t)).1) (a + (decodeL (c :: t)).2) := by
  have hw := decodeL_width (c :: t)
  simp only [unqGo]
  rw [List.length_cons, unqF]
  simp only [if_neg hq, if_neg h, if_neg hc]
  exact unqF_fuel q _ _ _ _ _ (by rw [List.length_drop]; simp; omega) (by omega)

/-- What a text in quotes says, and how many bytes it has; none: it is none. -/
def unq : List UInt8 → Option (List UInt8 × Nat)
  | [] => none
  | c :: t => if c.toNat = 39 ∨ c.toNat = 34 then unqGo c t [] 1 else none

/-- What it says is no longer than what was read, four bytes at most for one. -/
theorem unqF_len (q : UInt8) : ∀ (f : Nat) (l acc : List UInt8) (a : Nat) (x : List UInt8) (n : Nat), unqF q f l acc a = some (x, n) → x.length + a ≤ acc.length + n + 4 * (n - a) ∧ a + 1 ≤ n ∧ n ≤ a + l.length
  | 0, _, _, _, _, _, h => by simp [unqF] at h
  | f + 1, l, acc, a, x, n, h => by
    cases l with
    | nil => simp [unqF] at h
    | cons c t =>
      simp only [unqF] at h
      split at h
      · simp at h; obtain ⟨rfl, rfl⟩ := h; simp; omega
      split at h
      · simp at h
      split at h
      · cases he : esc t with
        | none => rw [he] at h; simp at h
        | some p =>
          obtain ⟨r, m⟩ := p
          rw [he] at h
          simp only at h
          have hb := esc_bound t r m he
          have := unqF_len q f _ _ _ x n h
          have he4 := (enc_pos r).2
          rw [List.length_append, List.length_drop, List.length_cons] at this
          rw [List.length_cons]
          omega
      · have hw := decodeL_width (c :: t)
        have hl := decodeL_le (c :: t) (by simp)
        have := unqF_len q f _ _ _ x n h
        have he4 := (enc_pos (decodeL (c :: t)).1).2
        rw [List.length_append, List.length_drop] at this
        omega

/-! ### quoting -/
/-- How a rune stands in quotes. -/
def qrune (r : Nat) : List UInt8 :=
  if r = 39 ∨ r = 92 then 92 :: enc r
  else if r = 10 then [92, 110]
  else if r = 9 then [92, 116]
  else if r < 32 ∨ r = 127 then [92, 120] ++ hexn r 2
  else if (128 ≤ r ∧ r ≤ 159) ∨ r = 8232 ∨ r = 8233 ∨ r = 65279 then [92, 117] ++ hexn r 4
  else enc r
def quote (l : List UInt8) : List UInt8 := [39] ++ (runes l).flatMap qrune ++ [39]

theorem qrune_len (r : Nat) : 1 ≤ (qrune r).length ∧ (qrune r).length ≤ 6 := by
  have := enc_pos r
  unfold qrune
  repeat' split
  all_goals (try simp only [List.length_cons, List.length_append, List.length_nil, hexn_length])
  all_goals omega

theorem unq_step (r : Nat) (hr : VR r) (t acc : List UInt8) (a : Nat) : unqGo 39 (qrune r ++ t) acc a = unqGo 39 t (acc ++ enc r) (a + (qrune r).length) := by
  have b92 : (92 : UInt8) ≠ 39 := by decide
  unfold qrune
  split
  · rename_i h
    have e1 : enc r = [r.toUInt8] := enc_one (by omega)
    rw [e1, List.cons_append, List.cons_append, List.nil_append]
    have e2 : esc (r.toUInt8 :: t) = some (r, 1) := by
      rcases h with rfl | rfl <;> rfl
    rw [unqGo_esc 39 92 _ acc a r 1 b92 rfl e2]
    simp [e1]
  split
  · rename_i h; subst h
    rw [List.cons_append, List.cons_append, List.nil_append, unqGo_esc 39 92 _ acc a 10 1 b92 rfl (by rfl)]
    simp
  split
  · rename_i h; subst h
    rw [List.cons_append, List.cons_append, List.nil_append, unqGo_esc 39 92 _ acc a 9 1 b92 rfl (by rfl)]
    simp
  split
  · rename_i h
    have e2 : esc (120 :: (hexn r 2 ++ t)) = some (r, 3) := by
      have := numv_hexn 2 r t (by omega)
      unfold esc
      show (if _ then _ else _) = _
      rw [if_neg (by decide), if_neg (by decide), if_pos (by decide), this]
      simp only
      rw [if_pos (by omega)]
    have e0 : [92, 120] ++ hexn r 2 ++ t = 92 :: 120 :: (hexn r 2 ++ t) := by simp
    rw [e0, unqGo_esc 39 92 _ acc a r 3 b92 rfl e2]
    have e3 : List.drop (3 + 1) (92 :: 120 :: (hexn r 2 ++ t)) = t := by
      simp only [List.drop_succ_cons]
      exact List.drop_left' (hexn_length 2 r)
    rw [e3]
    simp [hexn_length]
  split
  · rename_i h
    have e2 : esc (117 :: (hexn r 4 ++ t)) = some (r, 5) := by
      have := numv_hexn 4 r t (by omega)
      unfold esc
      show (if _ then _ else _) = _
      rw [if_neg (by decide), if_neg (by decide), if_neg (by decide), if_pos (by decide), this]
      simp only
      rw [if_pos hr]
    have e0 : [92, 117] ++ hexn r 4 ++ t = 92 :: 117 :: (hexn r 4 ++ t) := by simp
    rw [e0, unqGo_esc 39 92 _ acc a r 5 b92 rfl e2]
    have e3 : List.drop (5 + 1) (92 :: 117 :: (hexn r 4 ++ t)) = t := by
      simp only [List.drop_succ_cons]
      exact List.drop_left' (hexn_length 4 r)
    rw [e3]
    simp [hexn_length]
  · rename_i h1 h2 h3 h4 h5
    have hd := decode_enc r t hr
    have hb := not_bad_enc r t hr
    cases he : enc r with
    | nil => exact absurd he (enc_ne r)
    | cons c u =>
      rw [he] at hd hb
      rw [List.cons_append] at hd hb ⊢
      have hq : c ≠ 39 := by
        intro hc
        have := (rune_eq_ascii c (u ++ t) 39 (by omega)).2 (by rw [hc]; rfl)
        rw [hd] at this; simp only at this; omega
      rw [unqGo_rune 39 c (u ++ t) acc a hq (by rw [hd]; simp only; rintro (h | h | h) <;> first | exact hb h | omega) (by rw [hd]; simp only; omega)]
      rw [hd]
      simp only
      rw [← List.cons_append, ← he, List.drop_left]

theorem unq_flat : ∀ (rs : List Nat), (∀ r ∈ rs, VR r) → ∀ (t acc : List UInt8) (a : Nat), unqGo 39 (rs.flatMap qrune ++ t) acc a = unqGo 39 t (acc ++ rs.flatMap enc) (a + (rs.flatMap qrune).length)
  | [], _, t, acc, a => by simp
  | r :: rs, h, t, acc, a => by
    rw [List.flatMap_cons, List.append_assoc, unq_step r (h r (by simp)), unq_flat rs (fun x hx => h x (by simp [hx]))]
    simp [List.append_assoc, Nat.add_assoc]

/-- WHAT IS QUOTED IS READ BACK, whatever stands behind it. -/
theorem unq_quote (l t : List UInt8) : unq (quote l ++ t) = some (mend l, (quote l).length) := by
  have e : quote l ++ t = 39 :: ((runes l).flatMap qrune ++ (39 :: t)) := by simp [quote]
  rw [e, unq, if_pos (show UInt8.toNat 39 = 39 ∨ UInt8.toNat 39 = 34 from Or.inl rfl), unq_flat _ (runes_VR l), unqGo_end]
  simp [mend, quote]
  omega

theorem quote_inj (s t : List UInt8) (hs : validD s = true) (ht : validD t = true) : quote s = quote t ↔ s = t := by
  constructor
  · intro h
    have h1 := unq_quote s []
    have h2 := unq_quote t []
    rw [h, h2] at h1
    simp only [Option.some.injEq, Prod.mk.injEq] at h1
    rw [(valid_iff s).1 hs, (valid_iff t).1 ht] at h1
    exact h1.1.symm
  · intro h; rw [h]

/-- A rune's quote that is cut short says nothing. -/
theorem unq_cut (r : Nat) (hr : VR r) (k : Nat) (hk : k < (qrune r).length) (acc : List UInt8) (a : Nat) : unqGo 39 ((qrune r).take k) acc a = none := by
  have b92 : (92 : UInt8) ≠ 39 := by decide
  cases k with
  | zero => rfl
  | succ k =>
  revert hk
  unfold qrune
  split
  · rename_i h
    have e1 : enc r = [r.toUInt8] := enc_one (by omega)
    rw [e1]; intro hk; simp at hk; obtain rfl : k = 0 := (by omega)
    exact unqGo_none 39 92 [] acc a b92 rfl rfl
  split
  · intro hk; simp at hk; obtain rfl : k = 0 := (by omega); exact unqGo_none 39 92 [] acc a b92 rfl rfl
  split
  · intro hk; simp at hk; obtain rfl : k = 0 := (by omega); exact unqGo_none 39 92 [] acc a b92 rfl rfl
  split
  · intro hk
    have hl := hexn_length 2 r
    cases k with
    | zero => exact unqGo_none 39 92 [] acc a b92 rfl rfl
    | succ k =>
      simp [hl] at hk
      simp only [List.cons_append, List.nil_append, List.take_succ_cons]
      refine unqGo_none 39 92 _ acc a b92 rfl ?_
      have : numv (List.take k (hexn r 2)) 2 = none := by unfold numv; rw [if_pos (by rw [List.length_take]; omega)]
      unfold esc
      show (if _ then _ else _) = _
      rw [if_neg (by decide), if_neg (by decide), if_pos (by decide), this]
  split
  · intro hk
    have hl := hexn_length 4 r
    cases k with
    | zero => exact unqGo_none 39 92 [] acc a b92 rfl rfl
    | succ k =>
      simp [hl] at hk
      simp only [List.cons_append, List.nil_append, List.take_succ_cons]
      refine unqGo_none 39 92 _ acc a b92 rfl ?_
      have : numv (List.take k (hexn r 4)) 4 = none := by unfold numv; rw [if_pos (by rw [List.length_take]; omega)]
      unfold esc
      show (if _ then _ else _) = _
      rw [if_neg (by decide), if_neg (by decide), if_neg (by decide), if_pos (by decide), this]
  · rename_i h1 h2 h3 h4 h5
    intro hk
    have hcb := cut_bad r (k + 1) hr (by omega) hk
    have hd := decode_enc r [] hr
    rw [List.append_nil] at hd
    cases he : enc r with
    | nil => exact absurd he (enc_ne r)
    | cons c u =>
      rw [he] at hcb hd
      rw [List.take_succ_cons] at hcb ⊢
      have hq : c ≠ 39 := by
        intro hc
        have := (rune_eq_ascii c u 39 (by omega)).2 (by rw [hc]; rfl)
        rw [hd] at this; simp only at this; omega
      exact unqGo_bad 39 c _ acc a hq (Or.inl hcb)

theorem unq_flat_cut : ∀ (rs : List Nat), (∀ r ∈ rs, VR r) → ∀ (k : Nat) (acc : List UInt8) (a : Nat), k ≤ (rs.flatMap qrune).length → unqGo 39 ((rs.flatMap qrune).take k) acc a = none
  | [], _, k, acc, a, h => by simp [unqGo_nil]
  | r :: rs, h, k, acc, a, hk => by
    rw [List.flatMap_cons] at hk ⊢
    rw [List.length_append] at hk
    by_cases hlt : k < (qrune r).length
    · rw [List.take_append_of_le_length (by omega)]
      exact unq_cut r (h r (by simp)) k hlt acc a
    · obtain ⟨j, rfl⟩ : ∃ j, k = (qrune r).length + j := ⟨k - (qrune r).length, by omega⟩
      rw [List.take_length_add_append, unq_step r (h r (by simp))]
      exact unq_flat_cut rs (fun x hx => h x (by simp [hx])) j _ _ (by omega)

/-- A QUOTED TEXT THAT IS CUT IS NONE. -/
theorem unq_quote_cut (l : List UInt8) (k : Nat) (hk : k < (quote l).length) : unq ((quote l).take k) = none := by
  cases k with
  | zero => rfl
  | succ k =>
    simp only [quote, List.length_append, List.length_cons, List.length_nil] at hk
    have e : quote l = 39 :: ((runes l).flatMap qrune ++ [39]) := by simp [quote]
    rw [e, List.take_succ_cons, unq, if_pos (show UInt8.toNat 39 = 39 ∨ UInt8.toNat 39 = 34 from Or.inl rfl), List.take_append_of_le_length (by omega)]
    exact unq_flat_cut _ (runes_VR l) k _ _ (by omega)
end Go.Lt
