/-
  The drawn regions of LexerShape: each is looked over once.
-/
import Derived.Test.YtdbkibnplilogaaDoorLyS
set_option linter.unusedVariables false
namespace Go.Proofs

/-- The operations of a region, by its number. -/
def findReg (id : Nat) : Code → List Oper
  | .region i ops _ => if i = id then ops.toList else []
  | .seq x y => match findReg id x with | [] => findReg id y | l => l
  | .cond _ x y => match findReg id x with | [] => findReg id y | l => l
  | .block _ x => findReg id x
  | .loop x => findReg id x
  | _ => []
noncomputable def Tryd.shapeReg (id : Nat) : List Oper := match Tryd.f6.body with | some c => findReg id c | none => []
theorem Tryd.mixed : Tryd.prog.follows .mixedOrders = true := by kernel_rfl
set_option maxRecDepth 1000000 in
theorem Tryd.shape14 : Region.lexB .any (Tryd.shapeReg 14).toArray = true := by kernel_rfl
set_option maxRecDepth 1000000 in
theorem Tryd.shape25 : Region.lexB .any (Tryd.shapeReg 25).toArray = true := by kernel_rfl
set_option maxRecDepth 1000000 in
theorem Tryd.shape27 : Region.lexB .any (Tryd.shapeReg 27).toArray = true := by kernel_rfl
end Go.Proofs
