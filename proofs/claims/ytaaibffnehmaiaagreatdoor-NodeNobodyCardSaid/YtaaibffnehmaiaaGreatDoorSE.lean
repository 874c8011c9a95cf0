import Derived.Test.YtaaibffnehmaiaaGreatDoorSD
/-! The functions that are summed up, those that defer a call among them: for the kernel. -/
namespace Go.Fx
open Go.Proofs
noncomputable def isD (f : Nat) : Bool := or (Nat.beq f 5) (or (Nat.beq f 12) (Nat.beq f 18))
noncomputable def extD (f : Nat) : Option (List AV → Hp → Option (Prod AV Hp)) := cond (isD f) (some (runD Tryz.prog (callF Tryz.prog extM 100) f)) (extM f)
/-- a run that answers a bool -/
noncomputable def chkD (f : Nat) (args : List AV) : Bool := match callF Tryz.prog extD 100 f args (.mk 0 .E) with
  | some (.bool b, _) => b
  | _ => false
end Go.Fx
