import Derived.Test.YtaaibffnehmaiaaGreatDoorCards
import Derived.KernelRfl
/-! One of the card's closed facts: nobody goes. -/
namespace Go.Proofs.YtaaibffnehmaiaaGreatDoor
open Go
theorem noneGoes : Tryz.prog.funcs.toList.any Func.goes = false := by kernel_rfl
theorem noGoes (f : FuncId) : Tryz.prog.goes f = false := by
  have h : ∀ fn ∈ Tryz.prog.funcs.toList, fn.goes = false := fun fn hfn => by
    have := List.any_eq_false.1 noneGoes fn hfn
    simpa using this
  have h1 : ∀ g : Nat, (Tryz.prog.funcs[g]?).any Func.goes = false := by
    intro (g : Nat)
    cases hg : Tryz.prog.funcs[g]? with
    | none => rfl
    | some fn => exact h fn (Array.mem_toList_iff.2 (Array.mem_of_getElem? hg))
  have h2 : Tryz.prog.funcs.any Func.goes = false := by rw [← Array.any_toList]; exact noneGoes
  unfold Program.goes
  rw [h2, Bool.and_false, Bool.or_false, List.any_eq_false]
  intro g _
  rw [h1 g]; simp
theorem goesNot : false = Rows.nodeNobodyRow.goesBy Tryz.pinned.checked.prog := by
  have h : Tryz.prog.goes = fun _ => false := funext noGoes
  show false = Tryz.prog.goesAt _ _
  unfold Program.goesAt Program.goesFrom
  rw [h]
  have h1 : (Tryz.prog.inits.toList.any fun _ => false) = false := by simp
  rw [h1]
  cases Tryz.prog.funcNamed _ <;> (simp; try (split <;> rfl))
end Go.Proofs.YtaaibffnehmaiaaGreatDoor
