/-
  Unquote at every text, the code's and the reference's, walked.
-/
import Derived.Test.YtdbkibnplilogaaDoorLtR3
set_option linter.unusedVariables false
namespace Go.Proofs
open Go.RowKit Go.Lt

theorem unq_head (s : ByteArray) (h : 0 < s.size) : unq s.data.toList = if s[0].toNat = 39 ∨ s[0].toNat = 34 then unqGo s[0] (s.data.toList.drop 1) [] 1 else none := by
  have hd := drop_cons s 0 h
  rw [List.drop_zero] at hd
  rw [hd]
  rfl

set_option maxHeartbeats 1000000 in
theorem Tryd.unquote_any (s : ByteArray) (w : World) (hs : s.size ≤ 35184372088832) (hT : Tryd.Tabs w) :
    Calls Tryd.prog 51 #[.string s] w fun e w' => e = .returned (ansV (unq s.data.toList)) ∧ Below w.heap.size w w' := by
  by_cases h0 : 0 < s.size
  · rw [unq_head s h0]
    by_cases hq : s[0].toNat = 39 ∨ s[0].toNat = 34
    · rw [if_pos hq]
      exact Tryd.unquote_go s w hs hT h0 hq
    · rw [if_neg hq]
      have hemp := not_empty s h0
      have f1 : ((s[0].toNat : Int) != 39) = true := by rw [bne_iff_ne]; omega
      have f2 : ((s[0].toNat : Int) != 34) = true := by rw [bne_iff_ne]; omega
      clear hq
      go_enter Tryd.func51, Tryd.ntmps51
      go_wp2
      go_ret3
      exact ⟨rfl, Below.refl _ _⟩
  · have e : s = ByteArray.empty := by
      have : s.size = 0 := by omega
      simpa using this
    subst e
    go_enter Tryd.func51, Tryd.ntmps51
    go_wp2
    go_ret3
    exact ⟨rfl, Below.refl _ _⟩

set_option maxHeartbeats 1000000 in
theorem Tryd.runq_any (s : ByteArray) (w : World) (hs : s.size ≤ 8796093022208) :
    Calls Tryd.prog 33 #[.string s] w fun e w' => e = .returned (ansV (unq s.data.toList)) ∧ Below w.heap.size w w' := by
  by_cases h0 : 0 < s.size
  · rw [unq_head s h0]
    by_cases hq : s[0].toNat = 39 ∨ s[0].toNat = 34
    · rw [if_pos hq]
      exact Tryd.runq_go s w hs h0 hq
    · rw [if_neg hq]
      have hemp := not_empty s h0
      have f1 : ((s[0].toNat : Int) != 39) = true := by rw [bne_iff_ne]; omega
      have f2 : ((s[0].toNat : Int) != 34) = true := by rw [bne_iff_ne]; omega
      clear hq
      go_enter Tryd.func33, Tryd.ntmps33
      go_wp2
      go_ret3
      exact ⟨rfl, Below.refl _ _⟩
  · have e : s = ByteArray.empty := by
      have : s.size = 0 := by omega
      simpa using this
    subst e
    go_enter Tryd.func33, Tryd.ntmps33
    go_wp2
    go_ret3
    exact ⟨rfl, Below.refl _ _⟩
end Go.Proofs
