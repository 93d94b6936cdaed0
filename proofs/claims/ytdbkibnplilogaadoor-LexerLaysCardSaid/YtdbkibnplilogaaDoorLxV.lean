/-
  A scope with four labels, one invariant for each, a measure over all; a frame's values taken apart (printed by gen_lxv.py).
-/
import Derived.Test.YtdbkibnplilogaaDoorLxT
import Derived.Test.YtdbkibnplilogaaDoorLxU
set_option linter.unusedVariables false
namespace Go.Proofs
open Go.RowKit

/-- As Q; by a goto: what holds at its label, below a measure. -/
def exitUnder (F : Act → Prop) (J : Nat → World → Prop) (m : Nat → World → Nat) (Q : Exit → Act → World → Prop) (n : Nat) : Exit → Act → World → Prop :=
  exitLabels (fun l a w => F a ∧ J l w ∧ m l w < n) Q

theorem skip_seq {P : Program} {a : Act} {w : World} {Q : Exit → Act → World → Prop} {c : Code} (h : c.wp P Q a w) : (Code.seq .skip c).wp P Q a w := wp_seq (wp_skip h)

theorem wp_scope_four {P : Program} {a : Act} {w : World} {Q : Exit → Act → World → Prop} {c R0 R1 R2 R3 : Code} (F : Act → Prop) (J : Nat → World → Prop) (m : Nat → World → Nat)
    (hf0 : findLabel c 0 = some (.seq .skip R0)) (hf1 : findLabel c 1 = some (.seq .skip R1)) (hf2 : findLabel c 2 = some (.seq .skip R2)) (hf3 : findLabel c 3 = some (.seq .skip R3)) (hJ : ∀ l w, J l w → l < 4)
    (e3 : ∀ n a w, F a → J 3 w → m 3 w ≤ n → R3.wp P (exitUnder F J m Q n) a w)
    (e1 : Hid (∀ n a w, F a → J 3 w → m 3 w ≤ n → R3.wp P (exitUnder F J m Q n) a w) → ∀ n a w, F a → J 1 w → m 1 w ≤ n → R1.wp P (exitUnder F J m Q n) a w)
    (e2 : Hid (∀ n a w, F a → J 1 w → m 1 w ≤ n → R1.wp P (exitUnder F J m Q n) a w) → ∀ n a w, F a → J 2 w → m 2 w ≤ n → R2.wp P (exitUnder F J m Q n) a w)
    (e0 : Hid (∀ n a w, F a → J 2 w → m 2 w ≤ n → R2.wp P (exitUnder F J m Q n) a w) → ∀ n a w, F a → J 0 w → m 0 w ≤ n → R0.wp P (exitUnder F J m Q n) a w)
    (first : Hid (∀ n a w, F a → J 0 w → m 0 w ≤ n → R0.wp P (exitUnder F J m Q n) a w) → ∃ n, c.wp P (exitUnder F J m Q n) a w) : (Code.scope c).wp P Q a w := by
  have h1 := e1 (Lib.hid e3)
  have h2 := e2 (Lib.hid h1)
  have h0 := e0 (Lib.hid h2)
  obtain ⟨n, hn⟩ := first (Lib.hid h0)
  refine wp_scope_labels (fun l => .seq .skip (match l with | 0 => R0 | 1 => R1 | 2 => R2 | _ => R3)) (fun l a w => F a ∧ J l w) (fun l _ w => m l w) ?_ ?_ ?_
  · rintro l a w ⟨-, hl⟩
    have := hJ _ _ hl
    match l, this with
    | 0, _ => exact hf0
    | 1, _ => exact hf1
    | 2, _ => exact hf2
    | 3, _ => exact hf3
  · refine wp_mono hn ?_
    intro e a w h
    cases e with
    | goto l => exact ⟨h.1, h.2.1⟩
    | normal => exact h
    | exit id => exact h
    | ret => exact h
    | panic ch => exact h
    | outgrown => exact h
  · rintro l a w ⟨hF, hl⟩
    have := hJ _ _ hl
    refine wp_mono (Q := exitUnder F J m Q (m l w)) ?_ ?_
    · match l, this with
      | 0, _ => exact skip_seq (h0 _ a w hF hl (Nat.le_refl _))
      | 1, _ => exact skip_seq (h1 _ a w hF hl (Nat.le_refl _))
      | 2, _ => exact skip_seq (h2 _ a w hF hl (Nat.le_refl _))
      | 3, _ => exact skip_seq (e3 _ a w hF hl (Nat.le_refl _))
    · intro e a' w' h
      cases e with
      | goto l => exact ⟨⟨h.1, h.2.1⟩, h.2.2⟩
      | normal => exact h
      | exit id => exact h
      | ret => exact h
      | panic ch => exact h
      | outgrown => exact h

theorem list_step {l : List Value} {n : Nat} (h : l.length = n + 1) : ∃ x t, l = x :: t ∧ t.length = n := by
  cases l with
  | nil => cases h
  | cons x t => exact ⟨x, t, rfl, by simpa using h⟩
theorem list_open102 (l : List Value) (h : l.length = 102) : ∃ x1 x2 x3 x4 x5 x6 x7 x8 x9 x10 x11 x12 x13 x14 x15 x16 x17 x18 x19 x20 x21 x22 x23 x24 x25 x26 x27 x28 x29 x30 x31 x32 x33 x34 x35 x36 x37 x38 x39 x40 x41 x42 x43 x44 x45 x46 x47 x48 x49 x50 x51 x52 x53 x54 x55 x56 x57 x58 x59 x60 x61 x62 x63 x64 x65 x66 x67 x68 x69 x70 x71 x72 x73 x74 x75 x76 x77 x78 x79 x80 x81 x82 x83 x84 x85 x86 x87 x88 x89 x90 x91 x92 x93 x94 x95 x96 x97 x98 x99 x100 x101 x102, l = [x1, x2, x3, x4, x5, x6, x7, x8, x9, x10, x11, x12, x13, x14, x15, x16, x17, x18, x19, x20, x21, x22, x23, x24, x25, x26, x27, x28, x29, x30, x31, x32, x33, x34, x35, x36, x37, x38, x39, x40, x41, x42, x43, x44, x45, x46, x47, x48, x49, x50, x51, x52, x53, x54, x55, x56, x57, x58, x59, x60, x61, x62, x63, x64, x65, x66, x67, x68, x69, x70, x71, x72, x73, x74, x75, x76, x77, x78, x79, x80, x81, x82, x83, x84, x85, x86, x87, x88, x89, x90, x91, x92, x93, x94, x95, x96, x97, x98, x99, x100, x101, x102] := by
  obtain ⟨x1, l1, rfl, h1⟩ := list_step h
  obtain ⟨x2, l2, rfl, h2⟩ := list_step h1
  obtain ⟨x3, l3, rfl, h3⟩ := list_step h2
  obtain ⟨x4, l4, rfl, h4⟩ := list_step h3
  obtain ⟨x5, l5, rfl, h5⟩ := list_step h4
  obtain ⟨x6, l6, rfl, h6⟩ := list_step h5
  obtain ⟨x7, l7, rfl, h7⟩ := list_step h6
  obtain ⟨x8, l8, rfl, h8⟩ := list_step h7
  obtain ⟨x9, l9, rfl, h9⟩ := list_step h8
  obtain ⟨x10, l10, rfl, h10⟩ := list_step h9
  obtain ⟨x11, l11, rfl, h11⟩ := list_step h10
  obtain ⟨x12, l12, rfl, h12⟩ := list_step h11
  obtain ⟨x13, l13, rfl, h13⟩ := list_step h12
  obtain ⟨x14, l14, rfl, h14⟩ := list_step h13
  obtain ⟨x15, l15, rfl, h15⟩ := list_step h14
  obtain ⟨x16, l16, rfl, h16⟩ := list_step h15
  obtain ⟨x17, l17, rfl, h17⟩ := list_step h16
  obtain ⟨x18, l18, rfl, h18⟩ := list_step h17
  obtain ⟨x19, l19, rfl, h19⟩ := list_step h18
  obtain ⟨x20, l20, rfl, h20⟩ := list_step h19
  obtain ⟨x21, l21, rfl, h21⟩ := list_step h20
  obtain ⟨x22, l22, rfl, h22⟩ := list_step h21
  obtain ⟨x23, l23, rfl, h23⟩ := list_step h22
  obtain ⟨x24, l24, rfl, h24⟩ := list_step h23
  obtain ⟨x25, l25, rfl, h25⟩ := list_step h24
  obtain ⟨x26, l26, rfl, h26⟩ := list_step h25
  obtain ⟨x27, l27, rfl, h27⟩ := list_step h26
  obtain ⟨x28, l28, rfl, h28⟩ := list_step h27
  obtain ⟨x29, l29, rfl, h29⟩ := list_step h28
  obtain ⟨x30, l30, rfl, h30⟩ := list_step h29
  obtain ⟨x31, l31, rfl, h31⟩ := list_step h30
  obtain ⟨x32, l32, rfl, h32⟩ := list_step h31
  obtain ⟨x33, l33, rfl, h33⟩ := list_step h32
  obtain ⟨x34, l34, rfl, h34⟩ := list_step h33
  obtain ⟨x35, l35, rfl, h35⟩ := list_step h34
  obtain ⟨x36, l36, rfl, h36⟩ := list_step h35
  obtain ⟨x37, l37, rfl, h37⟩ := list_step h36
  obtain ⟨x38, l38, rfl, h38⟩ := list_step h37
  obtain ⟨x39, l39, rfl, h39⟩ := list_step h38
  obtain ⟨x40, l40, rfl, h40⟩ := list_step h39
  obtain ⟨x41, l41, rfl, h41⟩ := list_step h40
  obtain ⟨x42, l42, rfl, h42⟩ := list_step h41
  obtain ⟨x43, l43, rfl, h43⟩ := list_step h42
  obtain ⟨x44, l44, rfl, h44⟩ := list_step h43
  obtain ⟨x45, l45, rfl, h45⟩ := list_step h44
  obtain ⟨x46, l46, rfl, h46⟩ := list_step h45
  obtain ⟨x47, l47, rfl, h47⟩ := list_step h46
  obtain ⟨x48, l48, rfl, h48⟩ := list_step h47
  obtain ⟨x49, l49, rfl, h49⟩ := list_step h48
  obtain ⟨x50, l50, rfl, h50⟩ := list_step h49
  obtain ⟨x51, l51, rfl, h51⟩ := list_step h50
  obtain ⟨x52, l52, rfl, h52⟩ := list_step h51
  obtain ⟨x53, l53, rfl, h53⟩ := list_step h52
  obtain ⟨x54, l54, rfl, h54⟩ := list_step h53
  obtain ⟨x55, l55, rfl, h55⟩ := list_step h54
  obtain ⟨x56, l56, rfl, h56⟩ := list_step h55
  obtain ⟨x57, l57, rfl, h57⟩ := list_step h56
  obtain ⟨x58, l58, rfl, h58⟩ := list_step h57
  obtain ⟨x59, l59, rfl, h59⟩ := list_step h58
  obtain ⟨x60, l60, rfl, h60⟩ := list_step h59
  obtain ⟨x61, l61, rfl, h61⟩ := list_step h60
  obtain ⟨x62, l62, rfl, h62⟩ := list_step h61
  obtain ⟨x63, l63, rfl, h63⟩ := list_step h62
  obtain ⟨x64, l64, rfl, h64⟩ := list_step h63
  obtain ⟨x65, l65, rfl, h65⟩ := list_step h64
  obtain ⟨x66, l66, rfl, h66⟩ := list_step h65
  obtain ⟨x67, l67, rfl, h67⟩ := list_step h66
  obtain ⟨x68, l68, rfl, h68⟩ := list_step h67
  obtain ⟨x69, l69, rfl, h69⟩ := list_step h68
  obtain ⟨x70, l70, rfl, h70⟩ := list_step h69
  obtain ⟨x71, l71, rfl, h71⟩ := list_step h70
  obtain ⟨x72, l72, rfl, h72⟩ := list_step h71
  obtain ⟨x73, l73, rfl, h73⟩ := list_step h72
  obtain ⟨x74, l74, rfl, h74⟩ := list_step h73
  obtain ⟨x75, l75, rfl, h75⟩ := list_step h74
  obtain ⟨x76, l76, rfl, h76⟩ := list_step h75
  obtain ⟨x77, l77, rfl, h77⟩ := list_step h76
  obtain ⟨x78, l78, rfl, h78⟩ := list_step h77
  obtain ⟨x79, l79, rfl, h79⟩ := list_step h78
  obtain ⟨x80, l80, rfl, h80⟩ := list_step h79
  obtain ⟨x81, l81, rfl, h81⟩ := list_step h80
  obtain ⟨x82, l82, rfl, h82⟩ := list_step h81
  obtain ⟨x83, l83, rfl, h83⟩ := list_step h82
  obtain ⟨x84, l84, rfl, h84⟩ := list_step h83
  obtain ⟨x85, l85, rfl, h85⟩ := list_step h84
  obtain ⟨x86, l86, rfl, h86⟩ := list_step h85
  obtain ⟨x87, l87, rfl, h87⟩ := list_step h86
  obtain ⟨x88, l88, rfl, h88⟩ := list_step h87
  obtain ⟨x89, l89, rfl, h89⟩ := list_step h88
  obtain ⟨x90, l90, rfl, h90⟩ := list_step h89
  obtain ⟨x91, l91, rfl, h91⟩ := list_step h90
  obtain ⟨x92, l92, rfl, h92⟩ := list_step h91
  obtain ⟨x93, l93, rfl, h93⟩ := list_step h92
  obtain ⟨x94, l94, rfl, h94⟩ := list_step h93
  obtain ⟨x95, l95, rfl, h95⟩ := list_step h94
  obtain ⟨x96, l96, rfl, h96⟩ := list_step h95
  obtain ⟨x97, l97, rfl, h97⟩ := list_step h96
  obtain ⟨x98, l98, rfl, h98⟩ := list_step h97
  obtain ⟨x99, l99, rfl, h99⟩ := list_step h98
  obtain ⟨x100, l100, rfl, h100⟩ := list_step h99
  obtain ⟨x101, l101, rfl, h101⟩ := list_step h100
  obtain ⟨x102, l102, rfl, h102⟩ := list_step h101
  obtain rfl := List.eq_nil_of_length_eq_zero h102
  exact ⟨x1, x2, x3, x4, x5, x6, x7, x8, x9, x10, x11, x12, x13, x14, x15, x16, x17, x18, x19, x20, x21, x22, x23, x24, x25, x26, x27, x28, x29, x30, x31, x32, x33, x34, x35, x36, x37, x38, x39, x40, x41, x42, x43, x44, x45, x46, x47, x48, x49, x50, x51, x52, x53, x54, x55, x56, x57, x58, x59, x60, x61, x62, x63, x64, x65, x66, x67, x68, x69, x70, x71, x72, x73, x74, x75, x76, x77, x78, x79, x80, x81, x82, x83, x84, x85, x86, x87, x88, x89, x90, x91, x92, x93, x94, x95, x96, x97, x98, x99, x100, x101, x102, rfl⟩
end Go.Proofs
