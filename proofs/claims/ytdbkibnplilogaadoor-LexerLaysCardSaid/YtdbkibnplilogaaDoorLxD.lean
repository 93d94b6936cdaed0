/-
  Walks: the lexer's sign (printed by gen_lxd.py).
-/
import Derived.Test.YtdbkibnplilogaaDoorLxC
set_option linter.unusedVariables false
namespace Go.Lx
open Go.Lib Go.Lt

theorem signs_pw : signs.Pairwise (fun a b => a.isPrefixOf b = false) := by decide
theorem signs_len : ∀ x ∈ signs, 1 ≤ x.length ∧ x.length ≤ 3 := by decide

theorem prefix_take {x l : List UInt8} (h : x.isPrefixOf l = true) : x = l.take x.length ∧ x.length ≤ l.length := by
  rw [List.isPrefixOf_iff_prefix] at h
  exact ⟨List.prefix_iff_eq_take.1 h, h.length_le⟩

theorem sign_first (l : List UInt8) (n : Nat) (hn : n ≤ l.length) (hm : l.take n ∈ signs) (hno : ∀ m, n < m → m ≤ 3 → m ≤ l.length → l.take m ∉ signs) : signOf l = l.take n := by
  unfold signOf
  have hpre : (l.take n).isPrefixOf l = true := by rw [List.isPrefixOf_iff_prefix]; exact List.take_prefix n l
  cases hf : signs.find? (·.isPrefixOf l) with
  | none =>
    rw [List.find?_eq_none] at hf
    exact absurd hpre (hf _ hm)
  | some y =>
    show y = _
    obtain ⟨hy, xs, bs', hsp, has⟩ := List.find?_eq_some_iff_append.1 hf
    obtain ⟨hy1, hy2⟩ := prefix_take hy
    have hyl : y.length ≤ n := by
      rcases Nat.lt_or_ge n y.length with h | h
      · have hys : y ∈ signs := by rw [hsp]; simp
        have := signs_len y hys
        exact absurd (by rw [← hy1]; exact hys) (hno y.length h this.2 hy2)
      · exact h
    have hpw := signs_pw
    rw [hsp] at hm hpw
    rcases List.mem_append.1 hm with h | h
    · have := has _ h
      rw [hpre] at this; simp at this
    · rcases List.mem_cons.1 h with h | h
      · exact h.symm
      · have h3 := (List.pairwise_cons.1 (List.pairwise_append.1 hpw).2.1).1 _ h
        have h4 : y.isPrefixOf (l.take n) = true := by
          rw [List.isPrefixOf_iff_prefix, hy1]
          exact List.take_prefix_take_left hyl
        rw [h4] at h3; simp at h3

theorem sign_none (l : List UInt8) (hno : ∀ m, 0 < m → m ≤ 3 → m ≤ l.length → l.take m ∉ signs) : signOf l = [] := by
  unfold signOf
  cases hf : signs.find? (·.isPrefixOf l) with
  | none => rfl
  | some y =>
    have hy := List.find?_some hf
    have hys := List.mem_of_find?_eq_some hf
    obtain ⟨hy1, hy2⟩ := prefix_take hy
    have := signs_len y hys
    exact absurd (by rw [← hy1]; exact hys) (hno y.length (by omega) this.2 hy2)

/-- The longest beginning of at most n bytes that is a sign. -/
def NoSign (l : List UInt8) (n : Nat) : Prop := ∀ m, n < m → m ≤ 3 → m ≤ l.length → l.take m ∉ signs
end Go.Lx
namespace Go.Proofs
open Go.RowKit Go.Lx

theorem sign_at (s X : ByteArray) (n : Nat) (c : List UInt8) (hX : s.extract 0 n = X) (hn : n ≤ s.size) (h : (X.toList == c) = true) (hc : c ∈ signs) (hno : NoSign s.data.toList n) : X = bs (signOf s.data.toList) := by
  rw [beq_iff_eq, Lib.toList_data] at h
  have h2 : X.data.toList = s.data.toList.take n := by rw [← hX, Lib.extract_data]; simp
  rw [sign_first s.data.toList n (by rw [← Lib.size_eq]; exact hn) (by rw [← h2, h]; exact hc) hno, ← h2]
  cases X with | mk a => cases a; rfl
theorem sign_not (s X : ByteArray) (n : Nat) (hX : s.extract 0 (n + 1) = X) (hnot : X.data.toList ∉ signs) (hno : NoSign s.data.toList (n + 1)) : NoSign s.data.toList n := by
  intro m h1 h2 h3
  rcases Nat.lt_or_ge (n + 1) m with h | h
  · exact hno m h h2 h3
  · obtain rfl : m = n + 1 := by omega
    rw [← hX, Lib.extract_data] at hnot
    simpa using hnot

set_option maxHeartbeats 16000000 in
set_option maxRecDepth 100000 in
theorem Tryd.sign_any (s : ByteArray) (w : World) (hs : s.size ≤ 9223372036854775807) : Calls Tryd.prog 52 #[.string s] w fun e w' => e = .returned (.string (bs (signOf s.data.toList))) ∧ w' = w := by
  obtain ⟨M, hM⟩ : ∃ M : Nat, min (3 : Int) (s.size : Int) = M := ⟨min 3 s.size, by omega⟩
  have hM3 : M ≤ 3 := by omega
  have hMs : M ≤ s.size := by omega
  have hno0 : Hid (NoSign s.data.toList M) := by
    intro m h1 h2 h3
    rw [← Lib.size_eq] at h3
    omega
  go_enter Tryd.func52, Tryd.ntmps52
  go_wp2
  clear hM
  go_loopw [3] (fun i wr => ∃ (k : Nat), i = .int .i64 k ∧ k ≤ 3 ∧ k ≤ s.size ∧ Hid (NoSign s.data.toList k) ∧ wr = w) (fun i _ => (intOf i).toNat)
  case atStart => exact ⟨M, rfl, hM3, hMs, hno0, rfl⟩
  case round =>
    clear hno0 hM3 hMs
    obtain ⟨k, rfl, hk3, hks, hno, rfl⟩ := hrel
    cases k with
    | zero =>
      have hr : Hid (signOf s.data.toList = []) := sign_none _ (fun m h1 h2 h3 => hno.out m h1 h2 h3)
      go_wp2_with fail
      go_ret
      exact ⟨by rw [hr.out]; rfl, rfl⟩
    | succ k =>
      obtain ⟨X, hX⟩ : ∃ X, s.extract 0 (k + 1) = X := ⟨_, rfl⟩
      have HX := Lib.hid hX
      have i1 : ((k + 1 : Nat) : Int) ≤ (s.size : Int) := by omega
      have i2 : (0 : Int) < ((k + 1 : Nat) : Int) := by omega
      by_cases h0 : (X.toList == [40]) = true
      · have hr := Lib.hid (sign_at s X (k + 1) _ HX.out hks h0 (by decide) hno.out)
        go_wp2_with fail
        go_ret
        exact ⟨by rw [← hr.out]; rfl, rfl⟩
      replace h0 : (X.toList == [40]) = false := by simpa using h0
      by_cases h1 : (X.toList == [41]) = true
      · have hr := Lib.hid (sign_at s X (k + 1) _ HX.out hks h1 (by decide) hno.out)
        go_wp2_with fail
        go_ret
        exact ⟨by rw [← hr.out]; rfl, rfl⟩
      replace h1 : (X.toList == [41]) = false := by simpa using h1
      by_cases h2 : (X.toList == [91]) = true
      · have hr := Lib.hid (sign_at s X (k + 1) _ HX.out hks h2 (by decide) hno.out)
        go_wp2_with fail
        go_ret
        exact ⟨by rw [← hr.out]; rfl, rfl⟩
      replace h2 : (X.toList == [91]) = false := by simpa using h2
      by_cases h3 : (X.toList == [93]) = true
      · have hr := Lib.hid (sign_at s X (k + 1) _ HX.out hks h3 (by decide) hno.out)
        go_wp2_with fail
        go_ret
        exact ⟨by rw [← hr.out]; rfl, rfl⟩
      replace h3 : (X.toList == [93]) = false := by simpa using h3
      by_cases h4 : (X.toList == [123]) = true
      · have hr := Lib.hid (sign_at s X (k + 1) _ HX.out hks h4 (by decide) hno.out)
        go_wp2_with fail
        go_ret
        exact ⟨by rw [← hr.out]; rfl, rfl⟩
      replace h4 : (X.toList == [123]) = false := by simpa using h4
      by_cases h5 : (X.toList == [125]) = true
      · have hr := Lib.hid (sign_at s X (k + 1) _ HX.out hks h5 (by decide) hno.out)
        go_wp2_with fail
        go_ret
        exact ⟨by rw [← hr.out]; rfl, rfl⟩
      replace h5 : (X.toList == [125]) = false := by simpa using h5
      by_cases h6 : (X.toList == [44]) = true
      · have hr := Lib.hid (sign_at s X (k + 1) _ HX.out hks h6 (by decide) hno.out)
        go_wp2_with fail
        go_ret
        exact ⟨by rw [← hr.out]; rfl, rfl⟩
      replace h6 : (X.toList == [44]) = false := by simpa using h6
      by_cases h7 : (X.toList == [58]) = true
      · have hr := Lib.hid (sign_at s X (k + 1) _ HX.out hks h7 (by decide) hno.out)
        go_wp2_with fail
        go_ret
        exact ⟨by rw [← hr.out]; rfl, rfl⟩
      replace h7 : (X.toList == [58]) = false := by simpa using h7
      by_cases h8 : (X.toList == [46]) = true
      · have hr := Lib.hid (sign_at s X (k + 1) _ HX.out hks h8 (by decide) hno.out)
        go_wp2_with fail
        go_ret
        exact ⟨by rw [← hr.out]; rfl, rfl⟩
      replace h8 : (X.toList == [46]) = false := by simpa using h8
      by_cases h9 : (X.toList == [61]) = true
      · have hr := Lib.hid (sign_at s X (k + 1) _ HX.out hks h9 (by decide) hno.out)
        go_wp2_with fail
        go_ret
        exact ⟨by rw [← hr.out]; rfl, rfl⟩
      replace h9 : (X.toList == [61]) = false := by simpa using h9
      by_cases h10 : (X.toList == [61, 61]) = true
      · have hr := Lib.hid (sign_at s X (k + 1) _ HX.out hks h10 (by decide) hno.out)
        go_wp2_with fail
        go_ret
        exact ⟨by rw [← hr.out]; rfl, rfl⟩
      replace h10 : (X.toList == [61, 61]) = false := by simpa using h10
      by_cases h11 : (X.toList == [33, 61]) = true
      · have hr := Lib.hid (sign_at s X (k + 1) _ HX.out hks h11 (by decide) hno.out)
        go_wp2_with fail
        go_ret
        exact ⟨by rw [← hr.out]; rfl, rfl⟩
      replace h11 : (X.toList == [33, 61]) = false := by simpa using h11
      by_cases h12 : (X.toList == [60]) = true
      · have hr := Lib.hid (sign_at s X (k + 1) _ HX.out hks h12 (by decide) hno.out)
        go_wp2_with fail
        go_ret
        exact ⟨by rw [← hr.out]; rfl, rfl⟩
      replace h12 : (X.toList == [60]) = false := by simpa using h12
      by_cases h13 : (X.toList == [60, 61]) = true
      · have hr := Lib.hid (sign_at s X (k + 1) _ HX.out hks h13 (by decide) hno.out)
        go_wp2_with fail
        go_ret
        exact ⟨by rw [← hr.out]; rfl, rfl⟩
      replace h13 : (X.toList == [60, 61]) = false := by simpa using h13
      by_cases h14 : (X.toList == [62]) = true
      · have hr := Lib.hid (sign_at s X (k + 1) _ HX.out hks h14 (by decide) hno.out)
        go_wp2_with fail
        go_ret
        exact ⟨by rw [← hr.out]; rfl, rfl⟩
      replace h14 : (X.toList == [62]) = false := by simpa using h14
      by_cases h15 : (X.toList == [62, 61]) = true
      · have hr := Lib.hid (sign_at s X (k + 1) _ HX.out hks h15 (by decide) hno.out)
        go_wp2_with fail
        go_ret
        exact ⟨by rw [← hr.out]; rfl, rfl⟩
      replace h15 : (X.toList == [62, 61]) = false := by simpa using h15
      by_cases h16 : (X.toList == [43]) = true
      · have hr := Lib.hid (sign_at s X (k + 1) _ HX.out hks h16 (by decide) hno.out)
        go_wp2_with fail
        go_ret
        exact ⟨by rw [← hr.out]; rfl, rfl⟩
      replace h16 : (X.toList == [43]) = false := by simpa using h16
      by_cases h17 : (X.toList == [43, 61]) = true
      · have hr := Lib.hid (sign_at s X (k + 1) _ HX.out hks h17 (by decide) hno.out)
        go_wp2_with fail
        go_ret
        exact ⟨by rw [← hr.out]; rfl, rfl⟩
      replace h17 : (X.toList == [43, 61]) = false := by simpa using h17
      by_cases h18 : (X.toList == [45]) = true
      · have hr := Lib.hid (sign_at s X (k + 1) _ HX.out hks h18 (by decide) hno.out)
        go_wp2_with fail
        go_ret
        exact ⟨by rw [← hr.out]; rfl, rfl⟩
      replace h18 : (X.toList == [45]) = false := by simpa using h18
      by_cases h19 : (X.toList == [45, 61]) = true
      · have hr := Lib.hid (sign_at s X (k + 1) _ HX.out hks h19 (by decide) hno.out)
        go_wp2_with fail
        go_ret
        exact ⟨by rw [← hr.out]; rfl, rfl⟩
      replace h19 : (X.toList == [45, 61]) = false := by simpa using h19
      by_cases h20 : (X.toList == [42]) = true
      · have hr := Lib.hid (sign_at s X (k + 1) _ HX.out hks h20 (by decide) hno.out)
        go_wp2_with fail
        go_ret
        exact ⟨by rw [← hr.out]; rfl, rfl⟩
      replace h20 : (X.toList == [42]) = false := by simpa using h20
      by_cases h21 : (X.toList == [42, 61]) = true
      · have hr := Lib.hid (sign_at s X (k + 1) _ HX.out hks h21 (by decide) hno.out)
        go_wp2_with fail
        go_ret
        exact ⟨by rw [← hr.out]; rfl, rfl⟩
      replace h21 : (X.toList == [42, 61]) = false := by simpa using h21
      by_cases h22 : (X.toList == [42, 42]) = true
      · have hr := Lib.hid (sign_at s X (k + 1) _ HX.out hks h22 (by decide) hno.out)
        go_wp2_with fail
        go_ret
        exact ⟨by rw [← hr.out]; rfl, rfl⟩
      replace h22 : (X.toList == [42, 42]) = false := by simpa using h22
      by_cases h23 : (X.toList == [47, 47]) = true
      · have hr := Lib.hid (sign_at s X (k + 1) _ HX.out hks h23 (by decide) hno.out)
        go_wp2_with fail
        go_ret
        exact ⟨by rw [← hr.out]; rfl, rfl⟩
      replace h23 : (X.toList == [47, 47]) = false := by simpa using h23
      by_cases h24 : (X.toList == [47, 47, 61]) = true
      · have hr := Lib.hid (sign_at s X (k + 1) _ HX.out hks h24 (by decide) hno.out)
        go_wp2_with fail
        go_ret
        exact ⟨by rw [← hr.out]; rfl, rfl⟩
      replace h24 : (X.toList == [47, 47, 61]) = false := by simpa using h24
      by_cases h25 : (X.toList == [37]) = true
      · have hr := Lib.hid (sign_at s X (k + 1) _ HX.out hks h25 (by decide) hno.out)
        go_wp2_with fail
        go_ret
        exact ⟨by rw [← hr.out]; rfl, rfl⟩
      replace h25 : (X.toList == [37]) = false := by simpa using h25
      by_cases h26 : (X.toList == [37, 61]) = true
      · have hr := Lib.hid (sign_at s X (k + 1) _ HX.out hks h26 (by decide) hno.out)
        go_wp2_with fail
        go_ret
        exact ⟨by rw [← hr.out]; rfl, rfl⟩
      replace h26 : (X.toList == [37, 61]) = false := by simpa using h26
      by_cases h27 : (X.toList == [38]) = true
      · have hr := Lib.hid (sign_at s X (k + 1) _ HX.out hks h27 (by decide) hno.out)
        go_wp2_with fail
        go_ret
        exact ⟨by rw [← hr.out]; rfl, rfl⟩
      replace h27 : (X.toList == [38]) = false := by simpa using h27
      by_cases h28 : (X.toList == [38, 61]) = true
      · have hr := Lib.hid (sign_at s X (k + 1) _ HX.out hks h28 (by decide) hno.out)
        go_wp2_with fail
        go_ret
        exact ⟨by rw [← hr.out]; rfl, rfl⟩
      replace h28 : (X.toList == [38, 61]) = false := by simpa using h28
      by_cases h29 : (X.toList == [124]) = true
      · have hr := Lib.hid (sign_at s X (k + 1) _ HX.out hks h29 (by decide) hno.out)
        go_wp2_with fail
        go_ret
        exact ⟨by rw [← hr.out]; rfl, rfl⟩
      replace h29 : (X.toList == [124]) = false := by simpa using h29
      by_cases h30 : (X.toList == [124, 61]) = true
      · have hr := Lib.hid (sign_at s X (k + 1) _ HX.out hks h30 (by decide) hno.out)
        go_wp2_with fail
        go_ret
        exact ⟨by rw [← hr.out]; rfl, rfl⟩
      replace h30 : (X.toList == [124, 61]) = false := by simpa using h30
      by_cases h31 : (X.toList == [94]) = true
      · have hr := Lib.hid (sign_at s X (k + 1) _ HX.out hks h31 (by decide) hno.out)
        go_wp2_with fail
        go_ret
        exact ⟨by rw [← hr.out]; rfl, rfl⟩
      replace h31 : (X.toList == [94]) = false := by simpa using h31
      by_cases h32 : (X.toList == [94, 61]) = true
      · have hr := Lib.hid (sign_at s X (k + 1) _ HX.out hks h32 (by decide) hno.out)
        go_wp2_with fail
        go_ret
        exact ⟨by rw [← hr.out]; rfl, rfl⟩
      replace h32 : (X.toList == [94, 61]) = false := by simpa using h32
      have hn : Hid (NoSign s.data.toList k) := by
        refine sign_not s X k HX.out ?_ hno.out
        intro hm
        have hcc : signs.contains X.data.toList = true := List.contains_iff_mem.2 hm
        unfold signs at hcc
        simp only [List.contains_cons, List.contains_nil, ← Lib.toList_data, h0, h1, h2, h3, h4, h5, h6, h7, h8, h9, h10, h11, h12, h13, h14, h15, h16, h17, h18, h19, h20, h21, h22, h23, h24, h25, h26, h27, h28, h29, h30, h31, h32, Bool.or_false] at hcc
        cases hcc
      go_wp2_with fail
      go_roundw
      case rel => exact ⟨k, (by first | rfl | go_num), (by omega), (by omega), hn, trivial⟩
      case measure => simp [intOf]
end Go.Proofs