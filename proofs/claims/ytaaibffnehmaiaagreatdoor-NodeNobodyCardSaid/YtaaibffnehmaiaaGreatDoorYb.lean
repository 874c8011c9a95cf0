import Derived.Test.YtaaibffnehmaiaaGreatDoorYa
import Derived.Below
/-! Functions that are summed up: those that make memory and turn nothing that was there. -/
namespace Go.Fx
open Go.RowKit
set_option linter.unusedVariables false
set_option linter.unusedSimpArgs false

section
variable {P : Program} {φ : Nat → Option (Blk × Nat)} {H : Hp} {w w' : World}

theorem HR.below (h : HR φ H w) (hb : Below w.heap.size w w') : HR φ H w' ∧ Ext φ H w φ H w' := by
  have hlt : ∀ b co, w.heap[b]? = some co → b < w.heap.size := fun b co e => (Array.getElem?_eq_some_iff.1 e).1
  refine ⟨⟨h.dom, fun i o b q hi hp => ?_, h.lt, h.inj⟩, ?_⟩
  · obtain ⟨co, h1, h2⟩ := h.obj i o b q hi hp
    exact ⟨co, (hb.block b.b (hlt _ _ h1)).trans h1, h2⟩
  · exact ⟨fun _ _ e => e, fun _ _ e => .inl e, Nat.le_refl _, hb.size, fun b h1 _ => hb.block b h1, fun i o b q hi hp => .inr ⟨i, o, b, q, hi, hp, rfl⟩, fun _ _ _ _ h => h, hb.os, hb.tape, hb.output⟩

theorem enters {f : FuncId} {fn : Func} {vs : List Value} (hf : P.funcs[f]? = some fn) (hname : (fn.name == "runtime.NumGoroutine") = false) (hb : fn.body.isSome = true) :
    (callFunc f vs.toArray).run P w = .ok (.enter f vs.toArray) w := by
  obtain ⟨c, hc⟩ := Option.isSome_iff_exists.1 hb
  have : fn.name ≠ "runtime.NumGoroutine" := by intro e; rw [e] at hname; simp at hname
  simp [callFunc, hf, this, hc]

theorem came_calls {f : FuncId} {fn : Func} {vs : List Value} {v : AV} {H' : Hp} (hf : P.funcs[f]? = some fn) (hname : (fn.name == "runtime.NumGoroutine") = false) (hb : fn.body.isSome = true)
    (hc : Calls P f vs.toArray w (Ret φ H w v H')) : Came P φ H w f vs v H' := .inr ⟨enters hf hname hb, hc⟩

theorem came_below {f : FuncId} {fn : Func} {vs : List Value} {v : AV} (h : HR φ H w) (hf : P.funcs[f]? = some fn) (hname : (fn.name == "runtime.NumGoroutine") = false) (hb : fn.body.isSome = true)
    (hc : Calls P f vs.toArray w fun e w' => (∃ cv, e = .returned cv ∧ Rel φ v cv) ∧ Below w.heap.size w w') : Came P φ H w f vs v H := by
  refine came_calls hf hname hb (hc.mono fun e w' he => ?_)
  obtain ⟨⟨cv, rfl, r⟩, hbw⟩ := he
  obtain ⟨h1, h2⟩ := h.below hbw
  exact ⟨cv, φ, rfl, r, h1, h2⟩
end
end Go.Fx
