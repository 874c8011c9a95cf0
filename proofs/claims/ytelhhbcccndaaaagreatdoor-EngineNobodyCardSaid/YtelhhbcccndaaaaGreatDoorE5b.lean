import Derived.Test.YtelhhbcccndaaaaGreatDoorCards
import Derived.KernelRfl
/-! One of the card's closed facts. -/
namespace Go.Proofs.YtelhhbcccndaaaaGreatDoor
open Go
theorem goesNot : false = Rows.engineNobodyRow.goesBy Tryz.pinned.checked.prog := by kernel_rfl
end Go.Proofs.YtelhhbcccndaaaaGreatDoor
