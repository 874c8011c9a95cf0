import Derived.Test.YtaaibffnehmaiaaGreatDoorYf
import Derived.Test.YtaaibffnehmaiaaGreatDoorS0
import Derived.Shelf.SortM.Plain
import Derived.Shelf.SortM.SortNone
import Derived.OwnWalkIn
import Derived.Test.YtaaibffnehmaiaaGreatDoorProg
/-! slices.Sorted of the keys of an empty map, at this program. -/
namespace Go.Proofs
open Go.RowKit Go.Maps Go.Sort Go.Shelf

theorem Tryz.sortsA (m : Nat) : AnyZI.SortsIn Tryz.prog Tryz.sortedA_ren Fence.wide m :=
  ⟨fun blk off cap ss W hH hblk hsz => callsIn_wide.2 (AnyM.slices_Sort_int Tryz.sortA blk off cap ss W hH hblk hsz),
   fun p cap W => callsIn_wide.2 (AnyM.slices_Sort_int_none Tryz.sortA p cap W)⟩

theorem Tryz.sortedSays : Go.Fx.SortedSays Tryz.prog 131 [190, 293] := by
  intro g hg b mb w hc he
  rcases List.mem_cons.1 hg with rfl | hg
  · exact Go.Fx.sorted_empty (ρS := Tryz.sortedA_ren) Tryz.sortedA (Tryz.sortsA 4) Tryz.keysA (by kernel_rfl) (by kernel_rfl) (enters_of Tryz.func182 (by kernel_rfl) rfl) (enters_of Tryz.func190 (by kernel_rfl) rfl) b mb w hc he
  · obtain rfl : g = 293 := by simpa using hg
    exact Go.Fx.sorted_empty (ρS := Tryz.sortedA_ren) Tryz.sortedA (Tryz.sortsA 4) Tryz.keysB (by kernel_rfl) (by kernel_rfl) (enters_of Tryz.func182 (by kernel_rfl) rfl) (enters_of Tryz.func293 (by kernel_rfl) rfl) b mb w hc he
end Go.Proofs
