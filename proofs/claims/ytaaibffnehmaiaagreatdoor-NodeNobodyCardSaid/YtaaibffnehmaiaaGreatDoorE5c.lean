/- NodeNobody's card is proved: for every message and every time the law returns true, and its inputs read behind the call as they read before. Its conditions are the card's own: the listed variable starts as the program's text lays it. -/
import Derived.Test.YtaaibffnehmaiaaGreatDoorE4
import Derived.Test.YtaaibffnehmaiaaGreatDoorE5a
import Derived.Test.YtaaibffnehmaiaaGreatDoorE5b
namespace Go.Proofs.YtaaibffnehmaiaaGreatDoor
open Go
theorem wfText : Rows.nodeNobodyRow.wfByText (OpenSpec.ofChange Rows.nodeNobodySpec) = true := by kernel_rfl
theorem mainIs : Tryz.pinned.checked.prog.mainIs = some (Rows.nodeNobodyCard.stood.harness.1, Rows.nodeNobodyCard.stood.harness.2.toList) := by kernel_rfl
theorem stands : ([23, 3].all fun u => !Tryz.prog.wantsStandIn u) = true := by kernel_rfl
theorem card_holds : Rows.NodeNobodyCardSaid :=
  Claim7.holds_tied_plain_at .later [] [.handle] true Rows.nodeNobodyCard.stood.harness true
    nodeNobody_holds (fun _ h => by cases h) wfText (fun _ h => by cases h) nodeNobody_row_tie rfl ⟨rfl, rfl⟩ mainIs rfl
    (fun f fn hf hfn' => by
      obtain rfl : f = 3 := Option.some.inj (hfn.symm.trans hf) |>.symm
      obtain rfl : fn = Tryz.f3 := (Option.some.inj (Tryz.func3.symm.trans hfn')).symm
      exact ⟨lookd, fun j t ht => by
        rw [Tryz.params3] at ht
        have hm : t ∈ [23, 3] := by simpa using Array.mem_of_getElem? ht
        exact (show Tryz.prog.wantsStandIn t = false by simpa using List.all_eq_true.1 stands t hm)⟩)
    goesNot
end Go.Proofs.YtaaibffnehmaiaaGreatDoor
