import Derived.Test.YtaaibffnehmaiaaGreatDoorXg
import Derived.Lib.Bytealg
import Derived.Laws.Externs
/-! Functions that are summed up: comparison of texts. -/
namespace Go.Fx
set_option linter.unusedVariables false
set_option linter.unusedSimpArgs false

section
variable {P : Program} {φ : Nat → Option (Blk × Nat)} {H : Hp} {w : World}

/-- a value at once, the heap as it was -/
theorem came_value {f : FuncId} {vs : List Value} {v : AV} {cv : Value} (h : HR φ H w) (hc : (callFunc f vs.toArray).run P w = .ok (.value cv) w) (r : Rel φ v cv) : Came P φ H w f vs v H := .inl ⟨cv, w, φ, hc, r, h, Ext.refl _ _ _⟩

theorem cmp_less : ∀ (a b : List UInt8), Lib.compareBytes a b = cond (Op.bytesLess a b) (-1) (cond (Op.bytesLess b a) 1 0)
  | [], [] => rfl
  | [], _ :: _ => rfl
  | _ :: _, [] => rfl
  | a :: x, b :: y => by
    unfold Lib.compareBytes Op.bytesLess
    rw [cmp_less x y]
    by_cases h1 : a < b
    · simp [h1]
    · by_cases h2 : b < a
      · have h3 : (b == a) = false := by
          simp; rintro rfl; exact absurd h2 (by simp)
        have h4 : (a == b) = false := by
          simp; rintro rfl; exact absurd h2 (by simp)
        simp [h1, h2, h3, h4]
      · have h3 : a = b := by
          apply UInt8.toNat_inj.1
          rw [UInt8.lt_iff_toNat_lt] at h1 h2
          omega
        subst h3
        simp
theorem cmp_came {f : FuncId} {fn : Func} (hf : P.funcs[f]? = some fn) (hname : (fn.name == "runtime.NumGoroutine") = false) (hb : fn.body.isNone = true) (hn : Extern.findNext fn = none) (he : Extern.find fn = some Extern.BytealgCompare.compare) :
    ∀ args H v H', xCmp args H = some (v, H') → ∀ φ w vs, HR φ H w → RelL φ args vs → Came P φ H w f vs v H' := by
  intro args H v H' h φ w vs hH hr
  unfold xCmp at h
  split at h
  · rename_i a b
    obtain ⟨rfl, rfl⟩ := Prod.mk.inj (Option.some.inj h)
    cases hr with | cons r1 hr => cases hr with | cons r2 hr => cases hr with | nil =>
    cases r1; rename_i sa ha
    cases r2; rename_i sb hb'
    refine came_value hH (cv := .int .i64 (Lib.compareBytes sa.data.toList sb.data.toList)) ?_ ?_
    · rw [run_callFunc_extern hf hname hb hn he]
      rw [show ([Value.string sa, Value.string sb].toArray) = #[.string sa, .string sb] from rfl, Lib.run_compareString]; rfl
    · rw [cmp_less, ← ha, ← hb', bytesLess_map, bytesLess_map]; exact .int _ _
  · cases h
end
end Go.Fx
