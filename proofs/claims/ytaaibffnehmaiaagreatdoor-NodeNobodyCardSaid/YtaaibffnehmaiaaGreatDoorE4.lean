import Derived.Test.YtaaibffnehmaiaaGreatDoorE2
import Derived.Test.YtaaibffnehmaiaaGreatDoorE3b
import Derived.Test.YtaaibffnehmaiaaGreatDoorCards
import Derived.Test.YtaaibffnehmaiaaGreatDoorTie
import Derived.SevenTiedAt
/-! NodeNobody: the card. -/
namespace Go.Proofs.YtaaibffnehmaiaaGreatDoor
open Go
theorem hfn : Tryz.pinned.checked.prog.funcNamed Rows.nodeNobodyRow.func = some 3 := by kernel_rfl
theorem hinst : Tryz.f3.isInstance Tryz.pinned.checked.prog Rows.nodeNobodyRow.origin Rows.nodeNobodyRow.targs := of_decide_eq_true (by kernel_rfl)
theorem hwrap : Tryz.f3.isWrapper Tryz.pinned.checked.prog Rows.nodeNobodyRow.wrapper Rows.nodeNobodyRow.mainSum := by
  unfold Func.isWrapper
  first
    | (rw [if_pos (by decide +kernel)]; kernel_rfl)
    | (rw [if_neg (by decide +kernel)]; exact ⟨rfl, rfl⟩)
theorem nodeNobody_holds : Rows.NodeNobodySaid :=
  OpenClaim.holds_of_wide 3 Tryz.f3 rfl rfl rfl rfl rfl rfl rfl ⟨rfl, rfl, rfl, rfl, rfl⟩ rfl rfl rfl rfl rfl hfn Tryz.func3 closed hinst hwrap
    (fun os started H enc _ => lifted os started H enc)
end Go.Proofs.YtaaibffnehmaiaaGreatDoor
