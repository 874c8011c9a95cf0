import Derived.Test.YtelhhbcccndaaaaGreatDoorRows
import Derived.JoinedOf
import Derived.KernelRfl
/-! The row's closed facts, one by one. -/
namespace Go.Proofs.YtelhhbcccndaaaaGreatDoor
theorem fact1 : Rows.engineNobodyRow.wf (OpenSpec.ofChange Rows.engineNobodySpec) = true := by kernel_rfl
theorem fact2 : laidOutB Tryz.prog = true := by kernel_rfl
theorem fact3 : mapsRowed Tryz.prog = true := by kernel_rfl
theorem fact4 : Tryz.f3.params.all (Tryz.prog.readableRec ·) = true := by kernel_rfl
theorem fact5 : namedTie Tryz.prog Rows.engineNobodyRow.named Rows.engineNobodySpec.vars = true := by kernel_rfl
theorem fact6 : (Rows.engineNobodyRow.stops == []) = true := by kernel_rfl
theorem fact7 : (Tryz.prog.stops == []) = true := by kernel_rfl
theorem fact8 : (Rows.engineNobodyRow.knobs == []) = true := by kernel_rfl
theorem fact9 : (Tryz.prog.stopKnobs == []) = true := by kernel_rfl
theorem fact10 : (Rows.engineNobodyRow.inPlace == Tryz.prog.inPlace 3) = true := by kernel_rfl
theorem fact11 : (Rows.engineNobodyRow.unfollowed == Tryz.prog.unfollowed 3) = true := by kernel_rfl
theorem fact12 : (Rows.engineNobodyRow.recurses == Tryz.prog.recurses 3) = true := by kernel_rfl
theorem fact13 : (Rows.engineNobodyRow.named == Tryz.prog.varsNamed 3) = true := by kernel_rfl
theorem fact14 : (Rows.engineNobodyRow.maps == (Tryz.f3.params.toList ++ Rows.engineNobodySpec.plain.varTypes Tryz.prog).any (Tryz.prog.mapsRec ·)) = true := by kernel_rfl
theorem fact15 : (Rows.engineNobodyRow.ifaces == (Tryz.f3.params.toList ++ Rows.engineNobodySpec.plain.varTypes Tryz.prog).any (Tryz.prog.ifacesRec ·)) = true := by kernel_rfl
theorem fact16 : (Rows.engineNobodyRow.mapsOut == Tryz.prog.mapsAmong Tryz.f3.resultTypes.toList) = true := by kernel_rfl
theorem fact17 : (Rows.engineNobodyRow.loops == (Tryz.f3.params.toList ++ Rows.engineNobodySpec.plain.varTypes Tryz.prog).any (Tryz.prog.loopsFrom ·)) = true := by kernel_rfl
theorem fact18 : (Rows.engineNobodyRow.wideKeys == (Tryz.f3.params.toList ++ Rows.engineNobodySpec.plain.varTypes Tryz.prog ++ Tryz.f3.resultTypes.toList).any (Tryz.prog.wideKeysFrom ·)) = true := by kernel_rfl
theorem fact19 : Rows.engineNobodySpec.vars.all (Tryz.prog.varReadable ·) = true := by kernel_rfl
theorem fact20 : Tryz.f3.resultTypes.all (fun t => Tryz.prog.readableRec t && decide (t < Tryz.prog.types.size)) = true := by kernel_rfl
theorem fact21 : (Rows.engineNobodyRow.ifacesOut == Tryz.f3.resultTypes.toList.any (Tryz.prog.ifacesRec ·)) = true := by kernel_rfl
theorem fact22 : (Rows.engineNobodyRow.loopsOut == Tryz.f3.resultTypes.toList.any (Tryz.prog.loopsFrom ·)) = true := by kernel_rfl
theorem fact23 : (Rows.engineNobodyRow.plainKeys == Tryz.prog.plainKeys) = true := by kernel_rfl
theorem fact24 : Rows.engineNobodyRow.shortTexts.isNone = true := by kernel_rfl
theorem fact25 : Tryz.prog.stopsHeard = true := by kernel_rfl
theorem fact26 : Tryz.prog.mayEnter = true := by kernel_rfl
theorem fact27 : (Rows.engineNobodyRow.lifted == Tryz.prog.liftsFinal) = true := by kernel_rfl
theorem fact28 : (Tryz.prog.make == some Rows.engineNobodyRow.make) = true := by kernel_rfl

theorem fact30 : (Rows.engineNobodyRow.pinned == Rows.engineNobodyRow.pinnedBy) = true := by kernel_rfl
theorem fact31 : (Rows.engineNobodyRow.veiled == (Tryz.f3.params.toList ++ Rows.engineNobodySpec.plain.varTypes Tryz.prog ++ Tryz.f3.resultTypes.toList).any (Tryz.prog.veiledRec ·)) = true := by kernel_rfl
theorem fact32 : Rows.engineNobodyRow.veiledFits Tryz.prog Tryz.f3.params.toList (Tryz.f3.params.toList ++ Rows.engineNobodySpec.plain.varTypes Tryz.prog ++ Tryz.f3.resultTypes.toList) = true := by kernel_rfl
end Go.Proofs.YtelhhbcccndaaaaGreatDoor
