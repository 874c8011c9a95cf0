import Derived.Test.YtaaibffnehmaiaaGreatDoorE3a
/-! The row's closed facts, joined. -/
namespace Go.Proofs.YtaaibffnehmaiaaGreatDoor
theorem both {a b : Bool} (h : a = true) (g : b = true) : (a && b) = true := by rw [h, g]; rfl
set_option maxRecDepth 100000 in
theorem closed : joinedFacts Tryz.prog 3 Tryz.f3 Rows.nodeNobodySpec Rows.nodeNobodyRow = true := by
  unfold joinedFacts
  exact both (both (both (both (both (both (both (both (both (both (both (both (both (both (both (both (both (both (both (both (both (both (both (both (both (both (both (both (both (both (both (fact1) fact2) fact3) fact4) fact5) fact6) fact7) fact8) fact9) fact10) fact11) fact12) fact13) fact14) fact15) fact16) fact17) fact18) fact19) fact20) fact21) fact22) fact23) fact24) fact25) fact26) fact27) fact28) (by kernel_rfl)) fact30) fact31) fact32
end Go.Proofs.YtaaibffnehmaiaaGreatDoor
