import Derived.Test.YtaaibffnehmaiaaGreatDoorRows
import Derived.JoinedOf
import Derived.KernelRfl
/-! The row's closed facts, one by one. -/
namespace Go.Proofs.YtaaibffnehmaiaaGreatDoor
theorem fact1 : Rows.nodeNobodyRow.wf (OpenSpec.ofChange Rows.nodeNobodySpec) = true := by kernel_rfl
theorem fact2 : laidOutB Tryz.prog = true := by kernel_rfl
theorem fact3 : mapsRowed Tryz.prog = true := by kernel_rfl
theorem fact4 : Tryz.f3.params.all (Tryz.prog.readableRec ·) = true := by kernel_rfl
theorem fact5 : namedTie Tryz.prog Rows.nodeNobodyRow.named Rows.nodeNobodySpec.vars = true := by kernel_rfl
theorem fact6 : (Rows.nodeNobodyRow.stops == []) = true := by kernel_rfl
theorem fact7 : (Tryz.prog.stops == []) = true := by kernel_rfl
theorem fact8 : (Rows.nodeNobodyRow.knobs == []) = true := by kernel_rfl
theorem fact9 : (Tryz.prog.stopKnobs == []) = true := by kernel_rfl
theorem fact10 : (Rows.nodeNobodyRow.inPlace == Tryz.prog.inPlace 3) = true := by kernel_rfl
theorem fact11 : (Rows.nodeNobodyRow.unfollowed == Tryz.prog.unfollowed 3) = true := by kernel_rfl
theorem fact12 : (Rows.nodeNobodyRow.recurses == Tryz.prog.recurses 3) = true := by kernel_rfl
theorem fact13 : (Rows.nodeNobodyRow.named == Tryz.prog.varsNamed 3) = true := by kernel_rfl
theorem fact14 : (Rows.nodeNobodyRow.maps == (Tryz.f3.params.toList ++ Rows.nodeNobodySpec.plain.varTypes Tryz.prog).any (Tryz.prog.mapsRec ·)) = true := by kernel_rfl
theorem fact15 : (Rows.nodeNobodyRow.ifaces == (Tryz.f3.params.toList ++ Rows.nodeNobodySpec.plain.varTypes Tryz.prog).any (Tryz.prog.ifacesRec ·)) = true := by kernel_rfl
theorem fact16 : (Rows.nodeNobodyRow.mapsOut == Tryz.prog.mapsAmong Tryz.f3.resultTypes.toList) = true := by kernel_rfl
theorem fact17 : (Rows.nodeNobodyRow.loops == (Tryz.f3.params.toList ++ Rows.nodeNobodySpec.plain.varTypes Tryz.prog).any (Tryz.prog.loopsFrom ·)) = true := by kernel_rfl
theorem fact18 : (Rows.nodeNobodyRow.wideKeys == (Tryz.f3.params.toList ++ Rows.nodeNobodySpec.plain.varTypes Tryz.prog ++ Tryz.f3.resultTypes.toList).any (Tryz.prog.wideKeysFrom ·)) = true := by kernel_rfl
theorem fact19 : Rows.nodeNobodySpec.vars.all (Tryz.prog.varReadable ·) = true := by kernel_rfl
theorem fact20 : Tryz.f3.resultTypes.all (fun t => Tryz.prog.readableRec t && decide (t < Tryz.prog.types.size)) = true := by kernel_rfl
theorem fact21 : (Rows.nodeNobodyRow.ifacesOut == Tryz.f3.resultTypes.toList.any (Tryz.prog.ifacesRec ·)) = true := by kernel_rfl
theorem fact22 : (Rows.nodeNobodyRow.loopsOut == Tryz.f3.resultTypes.toList.any (Tryz.prog.loopsFrom ·)) = true := by kernel_rfl
theorem fact23 : (Rows.nodeNobodyRow.plainKeys == Tryz.prog.plainKeys) = true := by kernel_rfl
theorem fact24 : Rows.nodeNobodyRow.shortTexts.isNone = true := by kernel_rfl
theorem fact25 : Tryz.prog.stopsHeard = true := by kernel_rfl
theorem fact26 : Tryz.prog.mayEnter = true := by kernel_rfl
theorem fact27 : (Rows.nodeNobodyRow.lifted == Tryz.prog.liftsFinal) = true := by kernel_rfl
theorem fact28 : (Tryz.prog.make == some Rows.nodeNobodyRow.make) = true := by kernel_rfl

theorem fact30 : (Rows.nodeNobodyRow.pinned == Rows.nodeNobodyRow.pinnedBy) = true := by kernel_rfl
theorem fact31 : (Rows.nodeNobodyRow.veiled == (Tryz.f3.params.toList ++ Rows.nodeNobodySpec.plain.varTypes Tryz.prog ++ Tryz.f3.resultTypes.toList).any (Tryz.prog.veiledRec ·)) = true := by kernel_rfl
theorem fact32 : Rows.nodeNobodyRow.veiledFits Tryz.prog Tryz.f3.params.toList (Tryz.f3.params.toList ++ Rows.nodeNobodySpec.plain.varTypes Tryz.prog ++ Tryz.f3.resultTypes.toList) = true := by kernel_rfl
end Go.Proofs.YtaaibffnehmaiaaGreatDoor
