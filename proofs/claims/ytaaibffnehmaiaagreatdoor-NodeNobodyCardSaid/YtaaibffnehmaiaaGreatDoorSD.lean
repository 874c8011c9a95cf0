import Derived.Test.YtaaibffnehmaiaaGreatDoorXk
import Derived.Test.YtaaibffnehmaiaaGreatDoorProg
/-! The functions that are summed up, at this program: for the kernel. -/
namespace Go.Fx
open Go.Proofs
noncomputable def extK (f : Nat) : Option (List AV → Hp → Option (Prod AV Hp)) :=
  cond (Nat.beq f 211) (some xRepeat) (cond (Nat.beq f 277) (some (xCopyCheck 273)) (cond (Nat.beq f 219) (some (xString 5)) (cond (Nat.beq f 366) (some xCmp)
  (cond (Nat.beq f 131) (some (xSorted [190, 293])) (cond (Nat.beq f 102) (some xSync) none)))))
noncomputable def extM (f : Nat) : Option (List AV → Hp → Option (Prod AV Hp)) := cond (Nat.beq f 270) (some xSum) (extK f)
/-- a run that answers a bool -/
noncomputable def chk (f : Nat) (args : List AV) : Bool := match callF Tryz.prog extM 100 f args (.mk 0 .E) with
  | some (.bool b, _) => b
  | _ => false
end Go.Fx
