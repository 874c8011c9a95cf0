import Derived.Test.YtelhhbcccndaaaaGreatDoorE2
import Derived.Test.YtelhhbcccndaaaaGreatDoorE3b
import Derived.Test.YtelhhbcccndaaaaGreatDoorCards
import Derived.Test.YtelhhbcccndaaaaGreatDoorTie
import Derived.SevenTiedAt
/-! EngineNobody: the card. -/
namespace Go.Proofs.YtelhhbcccndaaaaGreatDoor
open Go
theorem hfn : Tryz.pinned.checked.prog.funcNamed Rows.engineNobodyRow.func = some 3 := by kernel_rfl
theorem hinst : Tryz.f3.isInstance Tryz.pinned.checked.prog Rows.engineNobodyRow.origin Rows.engineNobodyRow.targs := of_decide_eq_true (by kernel_rfl)
theorem hwrap : Tryz.f3.isWrapper Tryz.pinned.checked.prog Rows.engineNobodyRow.wrapper Rows.engineNobodyRow.mainSum := by
  unfold Func.isWrapper
  first
    | (rw [if_pos (by decide +kernel)]; kernel_rfl)
    | (rw [if_neg (by decide +kernel)]; exact ⟨rfl, rfl⟩)
theorem engineNobody_holds : Rows.EngineNobodySaid :=
  OpenClaim.holds_of_wide 3 Tryz.f3 rfl rfl rfl rfl rfl rfl rfl ⟨rfl, rfl, rfl, rfl, rfl⟩ rfl rfl rfl rfl rfl hfn Tryz.func3 closed hinst hwrap
    (fun os started H enc _ => lifted os started H enc)
end Go.Proofs.YtelhhbcccndaaaaGreatDoor
