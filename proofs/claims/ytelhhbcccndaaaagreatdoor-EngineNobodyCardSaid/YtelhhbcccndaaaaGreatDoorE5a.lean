import Derived.Test.YtelhhbcccndaaaaGreatDoorCards
import Derived.KernelRfl
/-! One of the card's closed facts. -/
namespace Go.Proofs.YtelhhbcccndaaaaGreatDoor
open Go
theorem lookd : true = Tryz.prog.looks [] := by kernel_rfl
end Go.Proofs.YtelhhbcccndaaaaGreatDoor
