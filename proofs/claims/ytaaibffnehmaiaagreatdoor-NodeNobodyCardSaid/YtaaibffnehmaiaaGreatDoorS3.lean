import Derived.Test.YtaaibffnehmaiaaGreatDoorYe
import Derived.Test.YtaaibffnehmaiaaGreatDoorSD
import Derived.Test.YtaaibffnehmaiaaGreatDoorYf
import Derived.Test.YtaaibffnehmaiaaGreatDoorS1
import Derived.Test.YtaaibffnehmaiaaGreatDoorS2
import Derived.Test.YtaaibffnehmaiaaGreatDoorS0
import Derived.KernelRfl
/-! The functions that are summed up, at this program. -/
namespace Go.Fx
open Go.Shelf Go.RowKit Go.Proofs
set_option linter.unusedVariables false
theorem Tryz.laysCopy : Lays.n240 Tryz.prog Tryz.laysRepeat_ren := { Tryz.laysRepeat with }
theorem Tryz.laysString : Lays.n169 Tryz.prog Tryz.laysRepeat_ren := { Tryz.laysRepeat with }

theorem Tryz.extraR : Builder.Extra Tryz.prog Tryz.laysRepeat_ren where
  sizeBuilder := by kernel_rfl
  liesBuilder := by kernel_rfl
  t5 := Tryz.laysRepeat.t5
  a5 := Tryz.laysRepeat.a5
  z5 := Tryz.laysRepeat.z5
  v5 := Tryz.laysRepeat.v5
  infoByte := by kernel_rfl
  cellsByte := by kernel_rfl
  sizeByte := by kernel_rfl
  neB5 := by decide
theorem known {f : FuncId} {fn : Func} (hf : Tryz.prog.funcs[f]? = some fn) (h1 : (fn.name == "runtime.NumGoroutine") = false) (h2 : fn.body.isSome = true) : Known Tryz.prog f := ⟨fn, hf, h1, h2⟩

theorem extOk : ExtOk Tryz.prog extK := by
  intro f g h
  unfold extK at h
  cases h1 : Nat.beq f 211 with
  | true =>
    rw [h1] at h; obtain rfl := Option.some.inj h; obtain rfl := (beq_iff _ _).1 h1
    exact repeat_came Tryz.laysRepeat Tryz.extraR (by kernel_rfl) (known Tryz.func211 (by kernel_rfl) (by kernel_rfl))
  | false =>
  rw [h1] at h
  simp only [cond_false] at h
  cases h2 : Nat.beq f 277 with
  | true =>
    rw [h2] at h; obtain rfl := Option.some.inj h; obtain rfl := (beq_iff _ _).1 h2
    exact copyCheck_came Tryz.laysCopy Tryz.extraR.toX72 (by kernel_rfl) (by kernel_rfl) (by kernel_rfl) (known Tryz.func277 (by kernel_rfl) (by kernel_rfl))
  | false =>
  rw [h2] at h
  simp only [cond_false] at h
  cases h3 : Nat.beq f 219 with
  | true =>
    rw [h3] at h; obtain rfl := Option.some.inj h; obtain rfl := (beq_iff _ _).1 h3
    exact string_came Tryz.laysString Tryz.extraR (by kernel_rfl) (by kernel_rfl) (known Tryz.func219 (by kernel_rfl) (by kernel_rfl))
  | false =>
  rw [h3] at h
  simp only [cond_false] at h
  cases h4 : Nat.beq f 366 with
  | true =>
    rw [h4] at h; obtain rfl := Option.some.inj h; obtain rfl := (beq_iff _ _).1 h4
    exact cmp_came Tryz.func366 (by kernel_rfl) (by kernel_rfl) (by kernel_rfl) (by kernel_rfl)
  | false =>
  rw [h4] at h
  simp only [cond_false] at h
  cases h5 : Nat.beq f 131 with
  | true =>
    rw [h5] at h; obtain rfl := Option.some.inj h; obtain rfl := (beq_iff _ _).1 h5
    exact sorted_came Tryz.sortedSays (known Tryz.func131 (by kernel_rfl) (by kernel_rfl))
  | false =>
  rw [h5] at h
  simp only [cond_false] at h
  cases h6 : Nat.beq f 102 with
  | true =>
    rw [h6] at h; obtain rfl := Option.some.inj h; obtain rfl := (beq_iff _ _).1 h6
    exact sync_came sync_any (known Tryz.func102 (by kernel_rfl) (by kernel_rfl))
  | false => rw [h6] at h; cases h

/-- no function of this name -/
noncomputable def noName (fs : List Func) : Bool := List.rec (motive := fun _ => Bool) true (fun f _ ih => cond (f.name == "runtime.NumGoroutine") false ih) fs
theorem noName_ok : ∀ {fs : List Func}, noName fs = true → ∀ f ∈ fs, f.name ≠ "runtime.NumGoroutine"
  | [], _, f, hf => by cases hf
  | a :: l, h, f, hf => by
    have h : cond (a.name == "runtime.NumGoroutine") false (noName l) = true := h
    cases ha : (a.name == "runtime.NumGoroutine") with
    | true => rw [ha] at h; cases h
    | false =>
      rw [ha] at h
      rcases List.mem_cons.1 hf with rfl | hf
      · intro e; rw [e] at ha; simp at ha
      · exact noName_ok h f hf
theorem noName_prog : noName Tryz.prog.funcs.toList = true := by kernel_rfl
theorem names (f : FuncId) (fn : Func) (h : Tryz.prog.funcs[f]? = some fn) : fn.name ≠ "runtime.NumGoroutine" :=
  noName_ok noName_prog fn (by simpa using Array.mem_of_getElem? h)
theorem mixed : Tryz.prog.follows .mixedOrders = true := by kernel_rfl
theorem sound (n : Nat) : Sound Tryz.prog (callF Tryz.prog extK n) := callF_sound extOk (fun N mask hN => drawOk mixed hN) names n
end Go.Fx
