import Derived.Test.YtaaibffnehmaiaaGreatDoorYe
import Derived.Laws.BitsAllLaws
import Derived.Laws.BitsLemmas
/-! The sums' plain side: a sum of four bits at a time. -/
namespace Go.Fx
open Go.RowKit
set_option linter.unusedVariables false


theorem tabN_lt (k : Nat) : tabN k < 4294967296 := by
  have h : tabN k ≤ 4294967295 := Nat.and_le_right
  omega
theorem rndN_lt {x : Nat} (h : x < 4294967296) : rndN x < 4294967296 := by
  have h1 : x / 16 < 2 ^ 32 := by omega
  have h2 : tabN (Nat.land x 15) < 2 ^ 32 := tabN_lt _
  exact Nat.xor_lt_two_pow h1 h2
theorem xor_lt {x y : Nat} (h : x < 4294967296) (g : y < 256) : Nat.xor x y < 4294967296 :=
  Nat.xor_lt_two_pow (n := 32) h (show y < 2 ^ 32 by omega)
theorem stepN_lt {c b : Nat} (h : c < 4294967296) (g : b < 256) : stepN c b < 4294967296 := rndN_lt (rndN_lt (xor_lt h g))
theorem sumL_append (c : Nat) : ∀ (l m : List Nat), sumL c (l ++ m) = sumL (sumL c l) m
  | [], m => rfl
  | b :: l, m => sumL_append (stepN c b) l m
theorem sumL_lt : ∀ {l : List Nat} {c : Nat}, c < 4294967296 → (∀ b ∈ l, b < 256) → sumL c l < 4294967296
  | [], c, h, _ => h
  | b :: l, c, h, g => by
    show sumL (stepN c b) l < _
    exact sumL_lt (l := l) (stepN_lt h (g b List.mem_cons_self)) fun b hb => g b (List.mem_cons_of_mem _ hb)

theorem forceN_eq (n : Nat) (k : Nat → Nat) : forceN n k = k n := by cases n <;> rfl
theorem crcR_eq : ∀ (l : List Nat) (c : Nat), crcR l c = sumL c l
  | [], c => rfl
  | b :: l, c => by
    show forceN (stepN c b) (crcR l) = _
    rw [forceN_eq, crcR_eq l]; rfl

/-- what is shown of Sum by a walk -/
def SumSays (P : Program) (f : FuncId) : Prop := ∀ (s : ByteArray) (w : World), s.size ≤ 1000000 →
  Calls P f #[.string s] w fun e w' => e = .returned (.int .i64 ((Nat.xor (sumL 4294967295 (s.data.toList.map (·.toNat))) 4294967295 : Nat) : Int)) ∧ Below w.heap.size w w'
theorem sum_came {P : Program} {f : FuncId} (hs : SumSays P f) (K : Known P f) : ∀ args H v H', xSum args H = some (v, H') → ∀ φ w vs, HR φ H w → RelL φ args vs → Came P φ H w f vs v H' := by
  intro args H v H' h φ w vs hH hr
  obtain ⟨fn, k1, k2, k3⟩ := K.there
  unfold xSum at h
  split at h
  case h_2 => cases h
  rename_i s
  cases hc : Nat.ble (lenL s) 1000000 with
  | false => rw [hc] at h; cases h
  | true =>
    rw [hc] at h
    rw [ble_iff, lenL_eq] at hc
    obtain ⟨rfl, rfl⟩ := Prod.mk.inj (Option.some.inj h)
    cases hr with | cons r1 hr => cases hr with | nil =>
    cases r1; rename_i sa ha
    refine came_below hH k1 k2 k3 ((hs sa w (by rw [← ha] at hc; simpa using hc)).mono fun e w' he => ⟨⟨_, he.1, ?_⟩, he.2⟩)
    rw [crcR_eq, ha]
    exact .int _ _
end Go.Fx
