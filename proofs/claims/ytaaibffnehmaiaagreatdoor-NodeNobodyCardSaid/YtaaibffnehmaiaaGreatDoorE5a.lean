import Derived.Test.YtaaibffnehmaiaaGreatDoorCards
import Derived.KernelRfl
/-! One of the card's closed facts. -/
namespace Go.Proofs.YtaaibffnehmaiaaGreatDoor
open Go
theorem lookd : true = Tryz.prog.looks [] := by kernel_rfl
end Go.Proofs.YtaaibffnehmaiaaGreatDoor
