import Derived.Test.YtaaibffnehmaiaaGreatDoorYe
import Derived.Shelf.SlIterI.Nil
/-! Functions that are summed up: slices.Sorted of the keys of a map without an entry. -/
namespace Go.Fx
open Go.RowKit Go.Maps Go.Sort Go.Shelf Go.Proofs
set_option linter.unusedVariables false

section
variable {P : Program} {φ : Nat → Option (Blk × Nat)} {H : Hp} {w : World}

theorem owns_empty {k : TypeId} {b clock : Nat} (hb : w.heap[b]? = some (.map #[] clock)) : w.ownsMap (H := Unit) P k (fun _ => none) b 0 (.map []) :=
  ⟨#[], clock, hb, ⟨by simp, (MapKept.stamped_iff _ _).2 ⟨by simp, by simp, by simp⟩, by simp⟩, Nat.le_refl _, rfl⟩

theorem sorted_empty {ρS ρK : Ren} (LS : SlLaysZI.n6 P ρS) (hsort : AnyZI.SortsIn P ρS Fence.wide 4) (LK : SlLaysZI.n7 P ρK) {f g : FuncId} (hf : ρS.f 6 = f) (hg : ρK.f 10 = g)
    (e9 : ∀ (args : Array Value) (w : World), (callFunc (ρS.f 9) args).run P w = .ok (.enter (ρS.f 9) args) w) (eg : ∀ (args : Array Value) (w : World), (callFunc g args).run P w = .ok (.enter g args) w)
    (b : Nat) (mb : Option Nat) (w : World) (hc : w.cell? ⟨b, 0, none⟩ = some (.map mb)) (he : ∀ r, mb = some r → ∃ clock, w.heap[r]? = some (.map #[] clock)) :
    Calls P f #[.func (.func g) #[] #[.pointer (some ⟨b, 0, none⟩)]] w fun e w' => e = .returned (.slice none 0 0) ∧ Below w.heap.size w w' := by
  refine (callsIn_wide (n := 5)).1 ?_
  have hb : b < w.heap.size := by
    cases hb : w.heap[b]? with
    | none => simp [World.cell?, hb] at hc
    | some _ => exact (Array.getElem?_eq_some_iff.1 hb).1
  cases mb with
  | none =>
    have hseq := AnyZI.keys_gives_nil (P := P) (ρ := ρK) { LK with } Fence.wide 2 trivial rfl b w hb hc
    rw [hg] at hseq
    have cS := AnyZI.sorted_in LS Fence.wide 5 trivial trivial trivial trivial rfl (by omega) hsort e9 g _ trivial eg _ 0 (Nat.zero_le _) (by omega) w hseq
    rw [hf] at cS
    refine cS.mono ?_
    rintro e w' ⟨v, ss, rfl, rfl, hrow, hnil, hbw⟩
    exact ⟨by rw [hnil.2 rfl], hbw⟩
  | some r =>
    obtain ⟨clock, hr⟩ := he r rfl
    have hseq := AnyZI.keys_gives (P := P) (ρ := ρK) { LK with } Fence.wide 2 trivial rfl (by omega) b r 0 (.map [] : DataW Unit) w hb hc (owns_empty hr)
    rw [hg] at hseq
    have cS := AnyZI.sorted_in LS Fence.wide 5 trivial trivial trivial trivial rfl (by omega) hsort e9 g _ trivial eg _ _ (Nat.zero_le _) (by simp) w hseq
    rw [hf] at cS
    refine cS.mono ?_
    rintro e w' ⟨v, ss, rfl, hS, hrow, hnil, hbw⟩
    obtain rfl : ss = [] := List.perm_nil.1 hS
    exact ⟨by rw [hnil.2 rfl], hbw⟩

/-- what is shown of slices.Sorted -/
def SortedSays (P : Program) (f : FuncId) (gs : List Nat) : Prop := ∀ g ∈ gs, ∀ (b : Nat) (mb : Option Nat) (w : World), w.cell? ⟨b, 0, none⟩ = some (.map mb) → (∀ r, mb = some r → ∃ clock, w.heap[r]? = some (.map #[] clock)) →
  Calls P f #[.func (.func g) #[] #[.pointer (some ⟨b, 0, none⟩)]] w fun e w' => e = .returned (.slice none 0 0) ∧ Below w.heap.size w w'

theorem sorted_came {f : FuncId} {gs : List Nat} (hs : SortedSays P f gs) (K : Known P f) : ∀ args H v H', xSorted gs args H = some (v, H') → ∀ φ w vs, HR φ H w → RelL φ args vs → Came P φ H w f vs v H' := by
  intro args H v H' h φ w vs hH hr
  obtain ⟨fn, k1, k2, k3⟩ := K.there
  unfold xSorted at h
  split at h
  case h_2 => cases h
  rename_i g i
  cases hr with | cons r1 hr => cases hr with | nil =>
  cases r1; rename_i xs ys rx ry
  cases rx
  cases ry; rename_i cv cvs rp rn
  cases rn
  cases rp; rename_i q b hp
  cases hc : anyEq g gs with
  | false => rw [hc] at h; cases h
  | true =>
  rw [hc] at h
  rw [anyEq_eq] at hc
  have hg : g ∈ gs := by simpa using hc
  simp only [cond_true] at h
  split at h
  case h_2 => cases h
  rename_i m e sz hgi
  obtain ⟨b, bs⟩ := b
  obtain rfl : bs = 0 := hH.base hgi hp rfl
  have hcell : ∀ o v, getN m o = some v → ∃ cv, w.cell? ⟨b, o, none⟩ = some cv ∧ Rel φ v cv := fun o v ho => by
    have := cell_of hH hp (show cellAt H i o = some v by unfold cellAt; rw [hgi]; exact ho)
    simpa only [Blk.at, Nat.zero_add] using this
  split at h
  · rename_i g0
    obtain ⟨rfl, rfl⟩ := Prod.mk.inj (Option.some.inj h)
    obtain ⟨c0, c1, c2⟩ := hcell _ _ g0
    cases c2
    exact came_below hH k1 k2 k3 ((hs g hg b none w c1 (fun r e => by cases e)).mono fun e w' he => ⟨⟨_, he.1, .nulSlice⟩, he.2⟩)
  · rename_i r g0
    obtain ⟨c0, c1, c2⟩ := hcell _ _ g0
    cases c2; rename_i qr br hpr
    split at h
    case h_2 => cases h
    rename_i clock hgr
    obtain ⟨rfl, rfl⟩ := Prod.mk.inj (Option.some.inj h)
    obtain ⟨es', m1, m2⟩ := map_obj hH hpr hgr
    have he' : es' = #[] := by
      have := m2.length
      simp at this
      exact Array.eq_empty_of_size_eq_zero this.symm
    subst he'
    exact came_below hH k1 k2 k3 ((hs g hg b (some br.b) w c1 (fun r e => by cases e; exact ⟨clock, m1⟩)).mono fun e w' he => ⟨⟨_, he.1, .nulSlice⟩, he.2⟩)
  · cases h
end
end Go.Fx
