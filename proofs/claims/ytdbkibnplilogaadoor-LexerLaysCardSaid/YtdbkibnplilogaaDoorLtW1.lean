/-
  Walks of letters: lower, number, escape.
-/
import Derived.Test.YtdbkibnplilogaaDoorShelf
import Derived.Test.YtdbkibnplilogaaDoorLtB
import Derived.Test.YtdbkibnplilogaaDoorKit
set_option linter.unusedVariables false
namespace Go.Proofs
open Go.RowKit Go.Lt

def lowZ (x : Int) : Int := if 65 ≤ x ∧ x ≤ 70 then x + 32 else x

theorem Tryd.lower_any (x : Int) (w : World) (h0 : 0 ≤ x) (h1 : x ≤ 255) :
    Calls Tryd.prog 65 #[.int .u8 x] w fun e w' => e = .returned (.int .u8 (lowZ x)) ∧ w = w' := by
  by_cases a : 65 ≤ x
  · by_cases b : x ≤ 70
    · have hl : lowZ x = x + 32 := by unfold lowZ; rw [if_pos ⟨a, b⟩]
      rw [hl]; clear hl
      go_enter Tryd.func65, Tryd.ntmps65
      go_wp2
      go_ret
      exact ⟨ret_int (by omega), rfl⟩
    · have hl : lowZ x = x := by unfold lowZ; rw [if_neg (by omega)]
      rw [hl]; clear hl
      go_enter Tryd.func65, Tryd.ntmps65
      go_wp2
      go_ret
      exact ⟨rfl, rfl⟩
  · have hl : lowZ x = x := by unfold lowZ; rw [if_neg (by omega)]
    rw [hl]; clear hl
    go_enter Tryd.func65, Tryd.ntmps65
    go_wp2
    go_ret
    exact ⟨rfl, rfl⟩

def hexZ (c : UInt8) : Int := match hexv c with | some d => (d : Int) | none => -1
theorem hexZ_all : ∀ c : Fin 256, Lib.indexByte [48, 49, 50, 51, 52, 53, 54, 55, 56, 57, 97, 98, 99, 100, 101, 102] (lowZ (c.val : Int)).toNat.toUInt8 = hexZ (UInt8.ofNat c.val) := by decide +kernel
theorem hexZ_eq (c : UInt8) : Lib.indexByte [48, 49, 50, 51, 52, 53, 54, 55, 56, 57, 97, 98, 99, 100, 101, 102] (lowZ (c.toNat : Int)).toNat.toUInt8 = hexZ c := by
  have := hexZ_all ⟨c.toNat, c.toNat_lt⟩
  simpa using this

theorem Tryd.hex_index (c : UInt8) (w : World) :
    Calls Tryd.prog 37 #[.string ⟨#[48, 49, 50, 51, 52, 53, 54, 55, 56, 57, 97, 98, 99, 100, 101, 102]⟩, .int .u8 (lowZ (c.toNat : Int))] w fun e w' => e = .returned (.int .i64 (hexZ c)) ∧ w = w' := by
  refine (Tryd.strings_IndexByte _ (lowZ (c.toNat : Int)) w).mono ?_
  rintro e w' ⟨rfl, rfl⟩
  refine ⟨?_, rfl⟩
  rw [← hexZ_eq c]

theorem or4 (x y : Int) (h0 : 0 ≤ x) (h : x % 16 = 0) (h1 : x < 2147483648) (h2 : 0 ≤ y) (h3 : y < 16) : bits .or .i32 x y = x + y :=
  bits_join .i32 31 (by decide) wraps_i32 4 x y h0 h h1 h2 h3 (by omega)
def numZ (l : List UInt8) (k : Nat) : Int := match numv l k with | some v => (v : Int) | none => -1

set_option maxHeartbeats 400000 in
theorem Tryd.number_any (s : ByteArray) (d : Nat) (w : World) (hs : s.size ≤ 9223372036854775807) (hd : d ≤ 4) :
    Calls Tryd.prog 61 #[.string s, .int .i64 d] w fun e w' => e = .returned (.int .i32 (numZ s.data.toList d)) ∧ w = w' := by
  by_cases hl : s.size < d
  · have e : numZ s.data.toList d = -1 := by
      have h2 := Lib.size_eq s
      unfold numZ numv; rw [if_pos (by omega)]
    rw [e]; clear e
    go_enter Tryd.func61, Tryd.ntmps61
    go_wp2
    go_ret
    exact ⟨rfl, rfl⟩
  · go_enter Tryd.func61, Tryd.ntmps61
    go_wp2
    go_loop [5, 13] (fun n i => ∃ k : Nat, ∃ v : Nat, k ≤ d ∧ i = .int .i64 k ∧ n = .int .i32 v ∧ Hid (digs 0 (s.data.toList.take k) = some v)) (fun _ i => d - (intOf i).toNat)
    case atStart => exact ⟨0, 0, by omega, rfl, rfl, rfl⟩
    case round =>
      obtain ⟨k, v, hk, rfl, rfl, hv⟩ := hrel
      have hlen : (s.data.toList.take k).length ≤ k := List.length_take_le _ _
      have hvb : v < 65536 := by
        have := digs_lt _ _ _ hv.out
        have h2 : 16 ^ (s.data.toList.take k).length ≤ 16 ^ 4 := Nat.pow_le_pow_right (by omega) (by omega)
        omega
      by_cases hlt : k < d
      · have hks : k < s.size := by omega
        have hvb4 : v < 4096 := by
          have := digs_lt _ _ _ hv.out
          have h2 : 16 ^ (s.data.toList.take k).length ≤ 16 ^ 3 := Nat.pow_le_pow_right (by omega) (by omega)
          omega
        have hsn : Hid (digs 0 (s.data.toList.take (k + 1)) = match hexv s[k] with | some d => some (16 * v + d) | none => none) := by
          have e : s.data.toList.take (k + 1) = s.data.toList.take k ++ [s[k]] := by
            rw [List.take_succ_eq_append_getElem (by simpa using hks)]; rfl
          rw [e, digs_snoc, hv.out]; rfl
        have hb0 : (0 : Int) ≤ (s[k].toNat : Int) := by omega
        have hb1 : (s[k].toNat : Int) ≤ 255 := by have := s[k].toNat_lt; omega
        clear hv hlen
        cases hx : hexv s[k] with
        | none =>
          have hfin : Hid (numZ s.data.toList d = -1) := by
            have hs2 := Lib.size_eq s
            have h3 : digs 0 (s.data.toList.take d) = none := by
              have e : s.data.toList.take d = s.data.toList.take (k + 1) ++ (s.data.toList.take d).drop (k + 1) := by
                rw [show s.data.toList.take (k + 1) = (s.data.toList.take d).take (k + 1) by rw [List.take_take]; congr 1; omega, List.take_append_drop]
              rw [e]
              exact digs_none _ _ _ (by rw [hsn.out, hx])
            show numZ _ _ = _
            unfold numZ numv; rw [if_neg (by omega), h3]
          have hz : Hid (hexZ s[k] = -1) := by show hexZ _ = _; unfold hexZ; rw [hx]
          clear hsn hx
          go_wp2_with fail
          refine (Tryd.lower_any _ _ hb0 hb1).mono ?_
          rintro e w' ⟨rfl, rfl⟩
          go_wp2_with fail
          refine (Tryd.hex_index _ _).mono ?_
          rw [hz.out]
          rintro e w' ⟨rfl, rfl⟩
          go_wp2
          go_ret
          rw [hfin.out]
          exact ⟨rfl, rfl⟩
        | some q =>
          have hq := hexv_lt _ _ hx
          have hz : Hid (hexZ s[k] = (q : Int)) := by show hexZ _ = _; unfold hexZ; rw [hx]
          have hn : Hid (digs 0 (s.data.toList.take (k + 1)) = some (16 * v + q)) := by show _ = _; rw [hsn.out, hx]
          clear hsn hx
          go_wp2_with fail
          refine (Tryd.lower_any _ _ hb0 hb1).mono ?_
          rintro e w' ⟨rfl, rfl⟩
          go_wp2_with fail
          refine (Tryd.hex_index _ _).mono ?_
          rw [hz.out]
          rintro e w' ⟨rfl, rfl⟩
          go_wp2
          refine ⟨⟨k + 1, 16 * v + q, by omega, rfl, ?_, hn⟩, by simp [intOf]; omega⟩
          rw [or4 _ _ (by omega) (by omega) (by omega) (by omega) (by omega)]
          congr 1
          omega
      · obtain rfl : k = d := by omega
        have hfin : Hid (numZ s.data.toList k = (v : Int)) := by
          have hs2 := Lib.size_eq s
          show numZ _ _ = _
          unfold numZ numv; rw [if_neg (by omega), hv.out]
        clear hv hlen
        go_wp2
        go_ret
        rw [hfin.out]
        exact ⟨rfl, rfl⟩

theorem numZ_none {l : List UInt8} {k : Nat} (h : numv l k = none) : numZ l k = -1 := by unfold numZ; rw [h]
theorem numZ_some {l : List UInt8} {k v : Nat} (h : numv l k = some v) : numZ l k = (v : Int) := by unfold numZ; rw [h]
theorem vr_iff (v : Nat) : Lib.validRune (v : Int) = decide (VR v) := by
  unfold Lib.validRune
  rw [Bool.eq_iff_iff, decide_eq_true_eq, decide_eq_true_eq]
  unfold VR
  constructor <;> intro h <;> omega

def escV (l : List UInt8) : Value := match esc l with
  | some (r, n) => .tuple #[.int .i32 r, .int .i64 n]
  | none => .tuple #[.int .i32 0, .int .i64 0]
theorem escV_some {l : List UInt8} {r n : Nat} (h : esc l = some (r, n)) : escV l = .tuple #[.int .i32 r, .int .i64 n] := by unfold escV; rw [h]
theorem escV_none {l : List UInt8} (h : esc l = none) : escV l = .tuple #[.int .i32 0, .int .i64 0] := by unfold escV; rw [h]

theorem list_head (s : ByteArray) (h : 0 < s.size) : s.data.toList = s[0] :: (s.extract 1 s.size).data.toList := by
  have hs := Lib.size_eq s
  have e : s.data.toList = s.data.toList.drop 0 := rfl
  rw [Lib.extract_data, List.take_of_length_le (by rw [List.length_drop]; omega)]
  conv => lhs; rw [e, List.drop_eq_getElem_cons (by omega)]
  rfl

set_option maxHeartbeats 400000 in
theorem Tryd.escape_any (s : ByteArray) (w : World) (hs : s.size ≤ 9223372036854775807) :
    Calls Tryd.prog 58 #[.string s] w fun e w' => e = .returned (escV s.data.toList) ∧ w = w' := by
  by_cases h0 : s.size = 0
  · have e : s = ByteArray.empty := by simpa using h0
    subst e
    go_enter Tryd.func58, Tryd.ntmps58
    go_wp2
    go_ret2
    exact ⟨rfl, rfl⟩
  · have hp : 0 < s.size := by omega
    have hne : Hid (s.data.toList ≠ []) := by
      have := Lib.size_eq s
      intro h; rw [h] at this; simp only [List.length_nil] at this; omega
    have hd := list_head s hp
    obtain ⟨t, ht⟩ : ∃ t, s.extract 1 s.size = t := ⟨_, rfl⟩
    have hts : t.size ≤ 9223372036854775807 := by have := congrArg ByteArray.size ht; rw [ByteArray.size_extract] at this; omega
    rw [ht] at hd
    have hes : ∀ c : UInt8, s[0] = c → escV s.data.toList = escV (c :: t.data.toList) := by intro c hc; rw [hd, hc]
    have Hes := Lib.hid hes
    clear hes hd
    have hc1 := s[0].toNat_lt
    obtain ⟨c, hc⟩ : ∃ c, s[0] = c := ⟨_, rfl⟩
    have hcn : s[0].toNat = c.toNat := by rw [hc]
    rw [Hes.out c hc]
    clear Hes
    have hemp : s.toList.isEmpty = false := by
      have := hne.out
      rw [Lib.toList_data]
      cases h : s.data.toList with
      | nil => exact absurd h this
      | cons a b => rfl
    clear hne
    by_cases c110 : c.toNat = 110
    · have e : escV (c :: t.data.toList) = .tuple #[.int .i32 10, .int .i64 1] := escV_some (by simp [esc, c110])
      rw [e]; clear e
      go_enter Tryd.func58, Tryd.ntmps58
      go_wp2
      go_ret2
      exact ⟨rfl, rfl⟩
    by_cases c116 : c.toNat = 116
    · have e : escV (c :: t.data.toList) = .tuple #[.int .i32 9, .int .i64 1] := escV_some (by simp [esc, c116])
      rw [e]; clear e
      go_enter Tryd.func58, Tryd.ntmps58
      go_wp2
      go_ret2
      exact ⟨rfl, rfl⟩
    by_cases c120 : c.toNat = 120
    · cases hv : numv t.data.toList 2 with
      | none =>
        have e : escV (c :: t.data.toList) = .tuple #[.int .i32 0, .int .i64 0] := escV_none (by simp [esc, c120, hv])
        have hz := Lib.hid (numZ_none hv)
        clear hv
        rw [e]; clear e
        go_enter Tryd.func58, Tryd.ntmps58
        go_wp2_with fail
        refine (Tryd.number_any t 2 w hts (by omega)).mono ?_
        rw [hz.out]
        rintro e w' ⟨rfl, rfl⟩
        go_wp2
        go_ret2
        exact ⟨rfl, rfl⟩
      | some v =>
        have hz := Lib.hid (numZ_some hv)
        by_cases hlt : v < 128
        · have e : escV (c :: t.data.toList) = .tuple #[.int .i32 v, .int .i64 3] := escV_some (by simp [esc, c120, hv, hlt])
          have hlz : (v : Int) < 128 := (by omega)
          clear hv hlt
          rw [e]; clear e
          go_enter Tryd.func58, Tryd.ntmps58
          go_wp2_with fail
          refine (Tryd.number_any t 2 w hts (by omega)).mono ?_
          rw [hz.out]
          rintro e w' ⟨rfl, rfl⟩
          go_wp2
          go_ret2
          exact ⟨rfl, rfl⟩
        · have e : escV (c :: t.data.toList) = .tuple #[.int .i32 0, .int .i64 0] := escV_none (by simp [esc, c120, hv, hlt])
          have hlz : decide ((v : Int) < 128) = false := decide_eq_false (by omega)
          clear hv hlt
          rw [e]; clear e
          go_enter Tryd.func58, Tryd.ntmps58
          go_wp2_with fail
          refine (Tryd.number_any t 2 w hts (by omega)).mono ?_
          rw [hz.out]
          rintro e w' ⟨rfl, rfl⟩
          go_wp2
          go_ret2
          exact ⟨rfl, rfl⟩
    by_cases c117 : c.toNat = 117
    · cases hv : numv t.data.toList 4 with
      | none =>
        have e : escV (c :: t.data.toList) = .tuple #[.int .i32 0, .int .i64 0] := escV_none (by simp [esc, c117, hv])
        have hz := Lib.hid (numZ_none hv)
        clear hv
        rw [e]; clear e
        go_enter Tryd.func58, Tryd.ntmps58
        go_wp2_with fail
        refine (Tryd.number_any t 4 w hts (by omega)).mono ?_
        rw [hz.out]
        rintro e w' ⟨rfl, rfl⟩
        go_wp2
        go_ret2
        exact ⟨rfl, rfl⟩
      | some v =>
        have hz := Lib.hid (numZ_some hv)
        have hvr := vr_iff v
        by_cases hlt : VR v
        · have e : escV (c :: t.data.toList) = .tuple #[.int .i32 v, .int .i64 5] := escV_some (by simp [esc, c117, hv, hlt])
          have hvr' := Lib.hid (show Lib.validRune (v : Int) = true by rw [hvr]; simp [hlt])
          clear hv hvr hlt
          rw [e]; clear e
          go_enter Tryd.func58, Tryd.ntmps58
          go_wp2_with fail
          refine (Tryd.number_any t 4 w hts (by omega)).mono ?_
          rw [hz.out]
          rintro e w' ⟨rfl, rfl⟩
          go_wp2_with fail
          refine (Tryd.utf8_ValidRune v w).mono ?_
          rw [hvr'.out]
          rintro e w' ⟨rfl, rfl⟩
          go_wp2
          go_ret2
          exact ⟨rfl, rfl⟩
        · have e : escV (c :: t.data.toList) = .tuple #[.int .i32 0, .int .i64 0] := escV_none (by simp [esc, c117, hv, hlt])
          have hvr' := Lib.hid (show Lib.validRune (v : Int) = false by rw [hvr]; simp [hlt])
          clear hv hvr hlt
          rw [e]; clear e
          go_enter Tryd.func58, Tryd.ntmps58
          go_wp2_with fail
          refine (Tryd.number_any t 4 w hts (by omega)).mono ?_
          rw [hz.out]
          rintro e w' ⟨rfl, rfl⟩
          go_wp2_with fail
          refine (Tryd.utf8_ValidRune v w).mono ?_
          rw [hvr'.out]
          rintro e w' ⟨rfl, rfl⟩
          go_wp2
          go_ret2
          exact ⟨rfl, rfl⟩
    by_cases c92 : c.toNat = 92
    · have e : escV (c :: t.data.toList) = .tuple #[.int .i32 92, .int .i64 1] := escV_some (by simp [esc, c92])
      rw [e]; clear e
      go_enter Tryd.func58, Tryd.ntmps58
      go_wp2
      go_ret2
      exact ⟨rfl, rfl⟩
    by_cases c39 : c.toNat = 39
    · have e : escV (c :: t.data.toList) = .tuple #[.int .i32 39, .int .i64 1] := escV_some (by simp [esc, c39])
      rw [e]; clear e
      go_enter Tryd.func58, Tryd.ntmps58
      go_wp2
      go_ret2
      exact ⟨rfl, rfl⟩
    by_cases c34 : c.toNat = 34
    · have e : escV (c :: t.data.toList) = .tuple #[.int .i32 34, .int .i64 1] := escV_some (by simp [esc, c34])
      rw [e]; clear e
      go_enter Tryd.func58, Tryd.ntmps58
      go_wp2
      go_ret2
      exact ⟨rfl, rfl⟩
    · have e : escV (c :: t.data.toList) = .tuple #[.int .i32 0, .int .i64 0] := escV_none (by simp [esc, c110, c116, c120, c117, c92, c39, c34])
      rw [e]; clear e
      go_enter Tryd.func58, Tryd.ntmps58
      go_wp2
      go_ret2
      exact ⟨rfl, rfl⟩
end Go.Proofs
