/-
  Walks: all: what holds at its labels.
-/
import Derived.Test.YtdbkibnplilogaaDoorLxV
set_option linter.unusedVariables false
namespace Go.Lx
open Go.Lib Go.Lt

/-- What holds at the labels of all: 0 line, 1 over, 2 next, 3 end. -/
def AllC (src : List UInt8) (RES : Res (List Tok)) (st : St) : Nat → Prop
  | 0 => st.opn = 0 ∧ st.toks.length + st.deep.length ≤ 4 * st.pos + 1 ∧ goes src st true 0 = RES
  | 1 => st.opn = 0 ∧ st.toks.length + st.deep.length ≤ 4 * st.pos + 4 ∧ (∀ t, src.drop st.pos = 10 :: t → goes src { st with pos := st.pos + 1 } true 0 = RES) ∧ (src.drop st.pos = [] → RES = .ok (finish src.length st)) ∧ endsOf (src.drop st.pos) = true
  | 2 => st.toks.length + st.deep.length ≤ 4 * st.pos + 3 ∧ goes src st false 0 = RES
  | 3 => st.toks.length + st.deep.length ≤ 4 * st.pos + 4 ∧ RES = .ok (finish src.length st)
  | _ => False
def rank : Nat → Nat
  | 0 => 3
  | 2 => 2
  | 1 => 1
  | _ => 0
theorem ends_cases {l : List UInt8} (h : endsOf l = true) : l = [] ∨ ∃ t, l = 10 :: t := by
  cases l with
  | nil => exact .inl rfl
  | cons c t => exact .inr ⟨t, by simp [endsOf] at h; rw [h]⟩
end Go.Lx
namespace Go.Proofs
open Go.RowKit Go.Lx Go.Lt

/-- What all leaves. -/
def Tryd.AllOut (B b : Nat) (s : ByteArray) (w0 : World) : Res (List Tok) → Ending → World → Prop
  | .ok l, e, w => e = .returned (.tuple #[]) ∧ (∃ st : St, st.toks = l ∧ Tryd.LexAt B b s st w) ∧ Below B w0 w
  | .error (c, a), e, w => e = .panicked [{ v := Tryd.stopV c a, recovered := false }] ∧ Below B w0 w

def Tryd.AllF (b : Nat) (a : Act) : Prop := ∃ l : List Value, l.length = 102 ∧ a = { tmps := (.pointer (some ⟨b, 0, none⟩) :: l).toArray, defers := [] }
def Tryd.AllJ (B b : Nat) (s : ByteArray) (w0 : World) (RES : Res (List Tok)) (l : Nat) (w : World) : Prop :=
  ∃ st : St, Tryd.LexAt B b s st w ∧ Below B w0 w ∧ st.pos ≤ s.size ∧ st.opn ≤ 60 ∧ st.deep.getLast? = some 0 ∧ AllC s.data.toList RES st l
def Tryd.allM (b : Nat) (s : ByteArray) (l : Nat) (w : World) : Nat := 4 * (s.size - Tryd.mpos b w) + rank l
noncomputable def Tryd.allBody : Code := match Tryd.f18.body with | some (.scope c) => c | _ => .skip
/-- From a label on. -/
def Tryd.AllWp (B b : Nat) (s : ByteArray) (w : World) (RES : Res (List Tok)) (l : Nat) (R : Code) : Prop :=
  ∀ (n : Nat) (a : Act) (wr : World), Tryd.AllF b a → Tryd.AllJ B b s w RES l wr → Tryd.allM b s l wr ≤ n → R.wp Tryd.prog (exitUnder (Tryd.AllF b) (Tryd.AllJ B b s w RES) (Tryd.allM b s) (bodyPost Tryd.prog Tryd.f18 (Tryd.AllOut B b s w RES)) n) a wr
end Go.Proofs
