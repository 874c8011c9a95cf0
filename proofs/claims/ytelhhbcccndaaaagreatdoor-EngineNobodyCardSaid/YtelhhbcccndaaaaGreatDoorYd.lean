import Derived.Test.YtelhhbcccndaaaaGreatDoorYc
import Derived.Shelf.Strings.Builder1
/-! Functions that are summed up: (*strings.Builder).copyCheck and String. -/
namespace Go.Fx
open Go.RowKit Go.Shelf Go.Proofs
set_option linter.unusedVariables false
set_option linter.unusedSimpArgs false

section
variable {P : Program} {φ : Nat → Option (Nat × Nat)} {H : Hp} {w : World}

theorem setCell_heap {b off : Nat} {v : Value} {c : Array Value} {e : Nat} {fr : Nat × Nat} (h : w.heap[b]? = some (.cells c e fr)) : (w.setCell ⟨b, off, none⟩ v).heap[b]? = some (.cells (c.setIfInBounds off v) e fr) := by
  simp [World.setCell, Array.getElem?_modify, h]
theorem setCell_other {a : Addr} {v : Value} {k : Nat} (h : k ≠ a.block) : (w.setCell a v).heap[k]? = w.heap[k]? := Below.heap_setCell w a v k h

/-- a store of one cell -/
theorem store1_world {i b q off : Nat} {x : AV} {v : Value} {H' : Hp} (h : HR φ H w) (hp : φ i = some (b, q)) (hs : Fx.storeAt H i off [x] = some H') (r : Rel φ x v) :
    (∃ old, w.cell? ⟨b, off, none⟩ = some old) ∧ w.frozen? ⟨b, off, none⟩ = false ∧ HR φ H' (w.setCell ⟨b, off, none⟩ v) ∧ Ext φ H w φ H' (w.setCell ⟨b, off, none⟩ v) := by
  unfold Fx.storeAt at hs
  split at hs
  · rename_i m e fz sz hg
    cases hc : fzOk fz off && allIn m (lenL [x]) off && allVal [x] with
    | false => rw [hc] at hs; cases hs
    | true =>
      rw [hc] at hs
      simp only [Bool.and_eq_true] at hc
      obtain ⟨⟨hf, ha⟩, hv⟩ := hc
      obtain rfl := Option.some.inj hs
      obtain ⟨co, h1, h2⟩ := h.obj i _ b q hg hp
      cases co <;> simp only [RelO] at h2
      rename_i c e' fr
      obtain ⟨rfl, hcell, hfz, hsz⟩ := h2
      have hfr : fr.2 ≤ off := by
        unfold fzOk at hf
        split at hf
        · rename_i k; exact Nat.le_trans (hfz k rfl) (Nat.le_of_ble_eq_true hf)
        · cases hf
      rw [lenL_eq] at ha
      obtain ⟨u, hu⟩ := allIn_get ha 0 (by simp)
      rw [Nat.add_zero] at hu
      obtain ⟨cu, h3, _⟩ := hcell _ _ hu
      have hlt := (Array.getElem?_eq_some_iff.1 h3).1
      refine ⟨⟨cu, by simp [World.cell?, h1, h3]⟩, by simp [World.frozen?, h1]; omega, ?_⟩
      refine h.turn hg hp (by simp [World.setCell]) (setCell_heap h1) (fun k hk => setCell_other hk) ⟨rfl, rfl, rfl⟩ ⟨rfl, fun o v' ho => ?_, hfz, by simpa using hsz⟩
      rcases getN_storeL _ _ _ _ _ ho with ⟨g1, g2, g3⟩ | ⟨g1, g2⟩
      · simp only [List.length_cons, List.length_nil] at g2
        obtain rfl : o = off := by omega
        simp at g3; subst g3
        exact ⟨v, by simp [Array.getElem?_setIfInBounds, hlt], r⟩
      · obtain ⟨cv, h6, h7⟩ := hcell o v' g2
        simp only [List.length_cons, List.length_nil] at g1
        refine ⟨cv, ?_, h7⟩
        rw [Array.getElem?_setIfInBounds_ne (by omega)]; exact h6
  · cases hs

/-- a variable lies at the head of a row of its own type -/
theorem liesAt_head {e : TypeId} (hc : P.cellsOf e ≠ 0) {count : Nat} (hn : 1 ≤ count) : liesAt P P.depth e count 0 e 1 = true := by
  have hd : P.depth = (2 * (P.types.size + Made.depth) + 1) + 1 := rfl
  rw [hd]
  simp only [liesAt, Bool.or_eq_true]
  left
  rw [hd]
  simp [rowAt, hc, hn, sameLayout]

noncomputable def xCopyCheck (T : Nat) (l : List AV) (H : Hp) : Option (Prod AV Hp) := match l with
  | [.ptr i o] => cond (Nat.beq o 0) (match H.get i with
    | some (.cells m e _ _) => match getN m 0, getN m 1 with
      | some (.nul .ptr), some _ => cond (Nat.beq e T) ((Fx.storeAt H i 0 [.ptr i 0]).map fun H' => (undefA, H')) none
      | some (.ptr j p), _ => cond (Nat.beq i j && Nat.beq p 0) (some (undefA, H)) none
      | _, _ => none
    | _ => none) none
  | _ => none

set_option maxHeartbeats 1000000 in
set_option maxRecDepth 100000 in
/-- copyCheck at a fresh builder, of whose row no more is known than that it holds a builder. -/
theorem copyCheck_fresh {ρ : Ren} (L : Lays.n240 P ρ) (X : Builder.X72 P ρ) (b n : Nat) (w : World) (h0 : w.cell? ⟨b, 0, none⟩ = some (.pointer none)) (hsh : w.shape? b = some ((ρ.t 72), n)) (hn : 2 ≤ n) (hc : P.cellsOf (ρ.t 72) = 2) (hfz : w.frozen? ⟨b, 0, none⟩ = false) :
    Calls P (ρ.f 240) #[.pointer (some ⟨b, 0, none⟩)] w fun e w' => e = .returned (.tuple #[]) ∧ w' = w.setCell ⟨b, 0, none⟩ (.pointer (some ⟨b, 0, none⟩)) := by
  obtain ⟨j, hj, hjs⟩ := Option.map_eq_some_iff.1 X.sizeBuilder
  have hlies : liesAt P P.depth (ρ.t 72) (n / P.cellsOf (ρ.t 72)) 0 (ρ.t 72) 1 = true := liesAt_head (by rw [hc]; decide) (by rw [hc]; omega)
  have hn0 : 0 < n := by omega
  clear hn
  have mixed := L.mixed
  have t72 := L.t72; have a72 := L.a72; have z72 := L.z72; have v72 := L.v72; have u72 := run_underlying L.t72
  have t70 := L.t70; have a70 := L.a70; have z70 := L.z70; have v70 := L.v70; have u70 := run_underlying L.t70
  have t9 := L.t9; have a9 := L.a9; have z9 := L.z9; have v9 := L.v9; have u9 := run_underlying L.t9
  have t4 := L.t4; have a4 := L.a4; have z4 := L.z4; have v4 := L.v4; have u4 := run_underlying L.t4
  have t164 := L.t164; have a164 := L.a164; have z164 := L.z164; have v164 := L.v164; have u164 := run_underlying L.t164
  go_enter L.f240, Body.n240_ntmps ρ
  go_wp2
  rw [Lib.run_to_unsafe w ⟨b, 0, none⟩ L.t70 L.t164 hj (by rw [hjs]; decide) hsh hn0]
  simp only [Result.andThen]
  rw [Oper.upon_value]
  go_wp2
  rw [run_callFunc_extern L.f276 (by kernel_rfl) (by kernel_rfl) (by kernel_rfl) (e := Extern.AbiNoEscape.same) (by kernel_rfl)]
  rw [Lib.run_noEscape]
  simp only [Result.andThen]
  rw [Oper.upon_value]
  go_wp2
  rw [Lib.run_from_unsafe w ⟨b, 0, none⟩ L.t164 L.t70 hj hsh hlies]
  simp only [Result.andThen]
  rw [Oper.upon_value]
  go_wp2
  go_end0
  exact ⟨rfl, rfl⟩

theorem copyCheck_came {ρ : Ren} (L : Lays.n240 P ρ) (X : Builder.X72 P ρ) (hcell : P.cellsOf (ρ.t 72) = 2) {f T : Nat} (hf : ρ.f 240 = f) (hT : ρ.t 72 = T) (K : Known P f) :
    ∀ args H v H', xCopyCheck T args H = some (v, H') → ∀ φ w vs, HR φ H w → RelL φ args vs → Came P φ H w f vs v H' := by
  intro args H v H' h φ w vs hH hr
  obtain ⟨fn, k1, k2, k3⟩ := K.there
  unfold xCopyCheck at h
  split at h
  · rename_i i o
    cases ho : Nat.beq o 0 with
    | false => rw [ho] at h; cases h
    | true =>
      rw [ho] at h
      obtain rfl := (beq_iff _ _).1 ho
      cases hr with | cons r1 hr => cases hr with | nil =>
      have r0 := r1
      cases r1; rename_i b q hp
      simp only [cond_true] at h
      split at h
      · rename_i m e fz sz hg
        obtain ⟨co, h1, h2⟩ := hH.obj i _ b q hg hp
        cases co <;> simp only [RelO] at h2
        rename_i c e' fr
        obtain ⟨rfl, hcells, hfz, hsz⟩ := h2
        split at h
        · rename_i u g0 g1
          cases hb : Nat.beq e' T with
          | false => rw [hb] at h; cases h
          | true =>
            rw [hb] at h
            obtain rfl := (beq_iff _ _).1 hb
            obtain ⟨H1, h3, h4⟩ := map_some h
            obtain ⟨rfl, rfl⟩ := Prod.mk.inj h4
            obtain ⟨c0, h5, h6⟩ := hcells _ _ g0
            cases h6
            obtain ⟨c1, h7, _⟩ := hcells _ _ g1
            have hlt := (Array.getElem?_eq_some_iff.1 h7).1
            obtain ⟨_, s2, s3, s4⟩ := store1_world hH hp h3 r0
            refine came_calls k1 k2 k3 ?_
            have hw := copyCheck_fresh (P := P) (ρ := ρ) L X b c.size w (by simp [World.cell?, h1, h5]) (by simp [World.shape?, h1, hT]) (by omega) hcell s2
            rw [hf] at hw
            refine hw.mono fun e w' he => ?_
            obtain ⟨rfl, rfl⟩ := he
            exact ⟨_, φ, rfl, .tuple .nil, s3, s4⟩
        · rename_i j p g0
          cases hb : Nat.beq i j && Nat.beq p 0 with
          | false => rw [hb] at h; cases h
          | true =>
            rw [hb] at h
            rw [Bool.and_eq_true, beq_iff, beq_iff] at hb
            obtain ⟨rfl, rfl⟩ := hb
            obtain ⟨rfl, rfl⟩ := Prod.mk.inj (Option.some.inj h)
            obtain ⟨c0, h5, h6⟩ := hcells _ _ g0
            cases h6; rename_i b' q' hp'
            rw [hp] at hp'
            obtain ⟨rfl, rfl⟩ := Prod.mk.inj (Option.some.inj hp')
            refine came_calls k1 k2 k3 ?_
            have hw := Any.Builder_copyCheck_used (P := P) (ρ := ρ) L X b w (by simp [World.cell?, h1, h5])
            rw [hf] at hw
            refine hw.mono fun e w' he => ?_
            obtain ⟨rfl, rfl⟩ := he
            exact ⟨_, φ, rfl, .tuple .nil, hH, Ext.refl _ _ _⟩
        · cases h
      · cases h
  · cases h
end
end Go.Fx
