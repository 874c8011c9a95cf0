import Derived.Test.YtaaibffnehmaiaaGreatDoorS3
import Derived.Test.YtaaibffnehmaiaaGreatDoorS4
/-! The functions that are summed up, Sum among them. -/
namespace Go.Fx
open Go.Proofs
set_option linter.unusedVariables false
theorem extOkM : ExtOk Tryz.prog extM := by
  intro f g h
  unfold extM at h
  cases h1 : Nat.beq f 270 with
  | true =>
    rw [h1] at h; obtain rfl := Option.some.inj h; obtain rfl := (beq_iff _ _).1 h1
    exact sum_came sum_any (known Tryz.func270 (by kernel_rfl) (by kernel_rfl))
  | false => rw [h1] at h; exact extOk f g h
theorem soundM (n : Nat) : Sound Tryz.prog (callF Tryz.prog extM n) := callF_sound extOkM (fun N mask hN => drawOk mixed hN) names n
open Go.RowKit in
/-- what a run that answers true says of the model -/
theorem calls_of_chk {f : FuncId} {args : List AV} {vs : List Value} {w : World} (h : chk f args = true) (hr : RelL (fun _ => none) args vs) (K : Known Tryz.prog f) :
    Calls Tryz.prog f vs.toArray w fun e w' => e = .returned (.bool true) ∧ Below w.heap.size w w' := by
  obtain ⟨fn, k1, k2, k3⟩ := K.there
  unfold chk at h
  split at h
  · rename_i b H' hc
    subst h
    have hH : HR (fun _ => none) (.mk 0 .E) w := ⟨fun i b e => by (cases e), fun i o b q e => by (cases e), fun i o e => by (cases e), fun i j oi oj b c q q' e => by (cases e)⟩
    rcases soundM 100 f args _ _ _ hc (fun _ => none) w vs hH hr with ⟨cv, w', ψ, h1, _⟩ | ⟨_, h1⟩
    · rw [enters (P := Tryz.prog) (w := w) (vs := vs) k1 k2 k3] at h1; cases h1
    · refine h1.mono fun e w' he => ?_
      obtain ⟨cv, ψ, rfl, r, _, hx⟩ := he
      cases r
      exact ⟨rfl, ⟨hx.os, hx.tape, hx.output, hx.size, fun b hb => hx.frame b hb fun i o c q hi => by (cases hi)⟩⟩
  · cases h
end Go.Fx
