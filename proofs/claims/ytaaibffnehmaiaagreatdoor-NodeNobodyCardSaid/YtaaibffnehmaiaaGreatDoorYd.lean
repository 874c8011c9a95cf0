import Derived.Test.YtaaibffnehmaiaaGreatDoorYc
import Derived.Shelf.Strings.Builder1
/-! Functions that are summed up: (*strings.Builder).copyCheck and String. -/
namespace Go.Fx
open Go.RowKit Go.Shelf Go.Proofs
set_option linter.unusedVariables false
set_option linter.unusedSimpArgs false

section
variable {P : Program} {φ : Nat → Option (Blk × Nat)} {H : Hp} {w : World}

theorem setCell_heap {b off : Nat} {v : Value} {c : Array Value} {e : Nat} {fr : Nat × Nat} (h : w.heap[b]? = some (.cells c e fr)) : (w.setCell ⟨b, off, none⟩ v).heap[b]? = some (.cells (c.setIfInBounds off v) e fr) := by
  simp [World.setCell, Array.getElem?_modify, h]
theorem setCell_other {a : Addr} {v : Value} {k : Nat} (h : k ≠ a.block) : (w.setCell a v).heap[k]? = w.heap[k]? := Below.heap_setCell w a v k h

/-- a store of one cell -/
theorem store1_world {i b q off : Nat} {x : AV} {v : Value} {H' : Hp} (h : HR φ H w) (hp : φ i = some (⟨b, 0⟩, q)) (hs : Fx.storeAt H i off [x] = some H') (r : Rel φ x v) :
    (∃ old, w.cell? ⟨b, off, none⟩ = some old) ∧ w.frozen? ⟨b, off, none⟩ = false ∧ HR φ H' (w.setCell ⟨b, off, none⟩ v) ∧ Ext φ H w φ H' (w.setCell ⟨b, off, none⟩ v) := by
  unfold Fx.storeAt at hs
  split at hs
  · rename_i m e fz sz hg
    cases hc : fzOk fz off && allIn m (lenL [x]) off && allVal [x] with
    | false => rw [hc] at hs; cases hs
    | true =>
      rw [hc] at hs
      simp only [Bool.and_eq_true] at hc
      obtain ⟨⟨hf, ha⟩, hv⟩ := hc
      obtain rfl := Option.some.inj hs
      obtain ⟨co, h1, h2⟩ := h.obj i _ ⟨b, 0⟩ q hg hp
      cases co <;> simp only [RelO] at h2
      rename_i c e' fr
      simp only [Nat.zero_add] at h2
      obtain ⟨rfl, hcell, hfz, hsz⟩ := h2
      have hfr : fr.2 ≤ off := by
        unfold fzOk at hf
        split at hf
        · rename_i k; exact Nat.le_trans (hfz k rfl).1 (Nat.le_of_ble_eq_true hf)
        · cases hf
      rw [lenL_eq] at ha
      obtain ⟨u, hu⟩ := allIn_get ha 0 (by simp)
      rw [Nat.add_zero] at hu
      obtain ⟨cu, h3, _⟩ := hcell _ _ hu
      have hlt := (Array.getElem?_eq_some_iff.1 h3).1
      refine ⟨⟨cu, by simp [World.cell?, h1, h3]⟩, by simp [World.frozen?, h1]; omega, ?_⟩
      refine h.turn hg hp (by simp [World.setCell]) (setCell_heap h1) (fun k hk => setCell_other hk) ⟨rfl, rfl, rfl⟩ ⟨rfl, fun o v' ho => ?_, fun k hk => ⟨(hfz k hk).1, fun _ => rfl⟩, by simpa using hsz⟩
      simp only [Nat.zero_add]
      rcases getN_storeL _ _ _ _ _ ho with ⟨g1, g2, g3⟩ | ⟨g1, g2⟩
      · simp only [List.length_cons, List.length_nil] at g2
        obtain rfl : o = off := by omega
        simp at g3; subst g3
        exact ⟨v, by simp [Array.getElem?_setIfInBounds, hlt], r⟩
      · obtain ⟨cv, h6, h7⟩ := hcell o v' g2
        simp only [List.length_cons, List.length_nil] at g1
        refine ⟨cv, ?_, h7⟩
        rw [Array.getElem?_setIfInBounds_ne (by omega)]; exact h6
  · cases hs

/-- a variable lies at the head of a row of its own type -/
theorem liesAt_head {e : TypeId} (hc : P.cellsOf e ≠ 0) {count : Nat} (hn : 1 ≤ count) : liesAt P P.depth e count 0 e 1 = true := by
  have hd : P.depth = (2 * (P.types.size + Made.depth) + 1) + 1 := rfl
  rw [hd]
  simp only [liesAt, Bool.or_eq_true]
  left
  rw [hd]
  simp [rowAt, hc, hn, sameLayout]

theorem base0 {fz : Option Nat} {a s : Nat} (hz : isZ fz = true) (h : ∀ k, fz = some k → a ≤ k ∧ (k = 0 → s = 0)) : s = 0 := by
  cases fz with
  | none => cases hz
  | some k => exact (h k rfl).2 ((beq_iff _ _).1 hz)
theorem HR.base (h : HR φ H w) {i q : Nat} {b : Blk} {m : VT} {e : Nat} {fz : Option Nat} {sz : Nat} (hg : H.get i = some (.cells m e fz sz)) (hp : φ i = some (b, q)) (hz : isZ fz = true) : b.base = 0 := by
  obtain ⟨co, h1, h2⟩ := h.obj i _ b q hg hp
  cases co <;> simp only [RelO] at h2
  exact base0 hz h2.2.2.1

set_option maxHeartbeats 1000000 in
set_option maxRecDepth 100000 in
/-- copyCheck at a fresh builder, of whose row no more is known than that it holds a builder. -/
theorem copyCheck_fresh {ρ : Ren} (L : Lays.n240 P ρ) (X : Builder.X72 P ρ) (b n : Nat) (w : World) (h0 : w.cell? ⟨b, 0, none⟩ = some (.pointer none)) (hsh : w.shape? b = some ((ρ.t 72), n)) (hn : 2 ≤ n) (hc : P.cellsOf (ρ.t 72) = 2) (hfz : w.frozen? ⟨b, 0, none⟩ = false) :
    Calls P (ρ.f 240) #[.pointer (some ⟨b, 0, none⟩)] w fun e w' => e = .returned (.tuple #[]) ∧ w' = w.setCell ⟨b, 0, none⟩ (.pointer (some ⟨b, 0, none⟩)) := by
  obtain ⟨j, hj, hjs⟩ := Option.map_eq_some_iff.1 X.sizeBuilder
  have hlies : liesAt P P.depth (ρ.t 72) (n / P.cellsOf (ρ.t 72)) 0 (ρ.t 72) 1 = true := liesAt_head (by rw [hc]; decide) (by rw [hc]; omega)
  have hn0 : 0 < n := by omega
  clear hn
  have mixed := L.mixed
  have t72 := L.t72; have a72 := L.a72; have z72 := L.z72; have v72 := L.v72; have u72 := run_underlying L.t72
  have t70 := L.t70; have a70 := L.a70; have z70 := L.z70; have v70 := L.v70; have u70 := run_underlying L.t70
  have t9 := L.t9; have a9 := L.a9; have z9 := L.z9; have v9 := L.v9; have u9 := run_underlying L.t9
  have t4 := L.t4; have a4 := L.a4; have z4 := L.z4; have v4 := L.v4; have u4 := run_underlying L.t4
  have t164 := L.t164; have a164 := L.a164; have z164 := L.z164; have v164 := L.v164; have u164 := run_underlying L.t164
  go_enter L.f240, Body.n240_ntmps ρ
  go_wp2
  rw [Lib.run_to_unsafe w ⟨b, 0, none⟩ L.t70 L.t164 hj (by rw [hjs]; decide) hsh hn0]
  simp only [Result.andThen]
  rw [Oper.upon_value]
  go_wp2
  rw [run_callFunc_extern L.f276 (by kernel_rfl) (by kernel_rfl) (by kernel_rfl) (e := Extern.AbiNoEscape.same) (by kernel_rfl)]
  rw [Lib.run_noEscape]
  simp only [Result.andThen]
  rw [Oper.upon_value]
  go_wp2
  rw [Lib.run_from_unsafe w ⟨b, 0, none⟩ L.t164 L.t70 hj hsh hlies]
  simp only [Result.andThen]
  rw [Oper.upon_value]
  go_wp2
  go_end0
  exact ⟨rfl, rfl⟩

theorem copyCheck_came {ρ : Ren} (L : Lays.n240 P ρ) (X : Builder.X72 P ρ) (hcell : P.cellsOf (ρ.t 72) = 2) {f T : Nat} (hf : ρ.f 240 = f) (hT : ρ.t 72 = T) (K : Known P f) :
    ∀ args H v H', xCopyCheck T args H = some (v, H') → ∀ φ w vs, HR φ H w → RelL φ args vs → Came P φ H w f vs v H' := by
  intro args H v H' h φ w vs hH hr
  obtain ⟨fn, k1, k2, k3⟩ := K.there
  unfold xCopyCheck at h
  split at h
  · rename_i i o
    cases ho : Nat.beq o 0 with
    | false => rw [ho] at h; cases h
    | true =>
      rw [ho] at h
      obtain rfl := (beq_iff _ _).1 ho
      cases hr with | cons r1 hr => cases hr with | nil =>
      have r0 := r1
      cases r1; rename_i q b hp
      simp only [cond_true] at h
      split at h
      · rename_i m e fz sz hg
        obtain ⟨co, h1, h2⟩ := hH.obj i _ b q hg hp
        cases co <;> simp only [RelO] at h2
        rename_i c e' fr
        obtain ⟨rfl, hcells, hfz, hsz⟩ := h2
        split at h
        · rename_i u g0 g1
          cases hb : Nat.beq e' T && isZ fz with
          | false => rw [hb] at h; cases h
          | true =>
            rw [hb] at h
            rw [Bool.and_eq_true, beq_iff] at hb
            obtain ⟨rfl, hz⟩ := hb
            obtain ⟨b, bs⟩ := b
            obtain rfl : bs = 0 := base0 hz hfz
            simp only [Nat.zero_add] at hcells
            obtain ⟨H1, h3, h4⟩ := map_some h
            obtain ⟨rfl, rfl⟩ := Prod.mk.inj h4
            obtain ⟨c0, h5, h6⟩ := hcells _ _ g0
            cases h6
            obtain ⟨c1, h7, _⟩ := hcells _ _ g1
            have hlt := (Array.getElem?_eq_some_iff.1 h7).1
            obtain ⟨_, s2, s3, s4⟩ := store1_world hH hp h3 r0
            refine came_calls k1 k2 k3 ?_
            have hw := copyCheck_fresh (P := P) (ρ := ρ) L X b c.size w (by simp [World.cell?, h1, h5]) (by simp [World.shape?, h1, hT]) (by omega) hcell s2
            rw [hf] at hw
            refine hw.mono fun e w' he => ?_
            obtain ⟨rfl, rfl⟩ := he
            exact ⟨_, φ, rfl, .tuple .nil, s3, s4⟩
        · rename_i j p g0
          cases hb : Nat.beq i j && Nat.beq p 0 && isZ fz with
          | false => rw [hb] at h; cases h
          | true =>
            rw [hb] at h
            rw [Bool.and_eq_true, Bool.and_eq_true, beq_iff, beq_iff] at hb
            obtain ⟨⟨rfl, rfl⟩, hz⟩ := hb
            obtain ⟨b, bs⟩ := b
            obtain rfl : bs = 0 := base0 hz hfz
            simp only [Nat.zero_add] at hcells
            obtain ⟨rfl, rfl⟩ := Prod.mk.inj (Option.some.inj h)
            obtain ⟨c0, h5, h6⟩ := hcells _ _ g0
            cases h6; rename_i q' b' hp'
            rw [hp] at hp'
            obtain ⟨rfl, rfl⟩ := Prod.mk.inj (Option.some.inj hp')
            refine came_calls k1 k2 k3 ?_
            have hw := Any.Builder_copyCheck_used (P := P) (ρ := ρ) L X b w (by simp [World.cell?, h1, h5])
            rw [hf] at hw
            refine hw.mono fun e w' he => ?_
            obtain ⟨rfl, rfl⟩ := he
            exact ⟨_, φ, rfl, .tuple .nil, hH, Ext.refl _ _ _⟩
        · cases h
      · cases h
  · cases h
end
end Go.Fx

/-! Functions that are summed up: (*strings.Builder).String. -/
namespace Go.Fx
open Go.RowKit Go.Shelf Go.Proofs
set_option linter.unusedVariables false
set_option linter.unusedSimpArgs false

section
variable {P : Program} {φ : Nat → Option (Blk × Nat)} {H : Hp} {w : World}


set_option maxHeartbeats 2000000 in
set_option maxRecDepth 100000 in
theorem string_nil {ρ : Ren} (L : Lays.n169 P ρ) (X : Builder.Extra P ρ) (b : Nat) (w : World) (c0 : w.cell? ⟨b, 1, none⟩ = some (.slice none 0 0)) :
    Calls P (ρ.f 169) #[.pointer (some ⟨b, 0, none⟩)] w fun e w' => e = .returned (.string ⟨#[]⟩) ∧ Below w.heap.size w w' := by
  have hUS := Any.unsafeString_none L X
  have c1 : w.drew.cell? ⟨b, 1, none⟩ = some (.slice none 0 0) := c0
  have hSD : (Builtin.unsafeSliceData_ #[(ρ.t 37)] (ρ.t 127) #[.slice none 0 0]).run P w.drew = .ok (.pointer none) w.drew := rfl
  have mixed := L.mixed
  have t72 := L.t72; have a72 := L.a72; have z72 := L.z72; have v72 := L.v72; have u72 := run_underlying L.t72
  have t70 := L.t70; have a70 := L.a70; have z70 := L.z70; have v70 := L.v70; have u70 := run_underlying L.t70
  have t37 := L.t37; have a37 := L.a37; have z37 := L.z37; have v37 := L.v37; have u37 := run_underlying L.t37
  have t127 := L.t127; have a127 := L.a127; have z127 := L.z127; have v127 := L.v127; have u127 := run_underlying L.t127
  have t3 := L.t3; have a3 := L.a3; have z3 := L.z3; have v3 := L.v3; have u3 := run_underlying L.t3
  have t9 := L.t9; have a9 := L.a9; have z9 := L.z9; have v9 := L.v9; have u9 := run_underlying L.t9
  have t5 := X.t5; have a5 := X.a5; have z5 := X.z5; have v5 := X.v5; have u5 := run_underlying X.t5
  go_enter L.f169, Body.n169_ntmps ρ
  go_wp2
  go_region_o
  all_goals (go_wp2; go_ret; exact ⟨rfl, Below.drew (Below.refl _ w)⟩)

/-- the heap is as behind a freeze -/
def Froze (w : World) (g n : Nat) (w' : World) : Prop := w'.heap = (w.freeze ⟨g, 0, none⟩ n).heap ∧ w'.os = w.os ∧ w'.tape = w.tape ∧ w'.output = w.output

theorem froze_drew (w : World) (g n : Nat) : Froze w g n (w.drew.freeze ⟨g, 0, none⟩ n) := by
  unfold Froze World.freeze
  split <;> exact ⟨rfl, rfl, rfl, rfl⟩
theorem froze_heap {w w' : World} {g n : Nat} {c : Array Value} {e : Nat} {fr : Nat × Nat} (h : Froze w g (n + 1) w') (hg : w.heap[g]? = some (.cells c e fr)) :
    w'.heap.size = w.heap.size ∧ (∀ k, k ≠ g → w'.heap[k]? = w.heap[k]?) ∧ ∃ fr', w'.heap[g]? = some (.cells c e fr') ∧ fr'.2 ≤ max fr.2 (n + 1) := by
  rw [h.1]
  unfold World.freeze
  rw [if_neg (by omega)]
  refine ⟨by simp, fun k hk => ?_, ?_⟩
  · simp only [Array.getElem?_modify]; rw [if_neg (fun e => hk e.symm)]
  · refine ⟨_, by simp [Array.getElem?_modify, hg]; rfl, ?_⟩
    obtain ⟨lo, hi⟩ := fr
    simp only
    split <;> (simp; try omega)

set_option maxHeartbeats 2000000 in
set_option maxRecDepth 100000 in
theorem string_row {ρ : Ren} (L : Lays.n169 P ρ) (X : Builder.Extra P ρ) (b g cap cells : Nat) (l : List UInt8) (h0 : l ≠ []) (w : World) (c0 : w.cell? ⟨b, 1, none⟩ = some (.slice (some ⟨g, 0, none⟩) l.length cap)) (hcap : cap ≠ 0)
    (hsh : w.shape? g = some (ρ.t 5, cells)) (hn : l.length ≤ cells) (h63 : l.length ≤ 9223372036854775807) (hcell : ∀ j x, l[j]? = some x → w.cell? ((⟨g, 0, none⟩ : Addr).add j) = some (.int .u8 x.toNat)) :
    Calls P (ρ.f 169) #[.pointer (some ⟨b, 0, none⟩)] w fun e w' => e = .returned (.string ⟨l.toArray⟩) ∧ Froze w g l.length w' := by
  have c1 : w.drew.cell? ⟨b, 1, none⟩ = some (.slice (some ⟨g, 0, none⟩) l.length cap) := c0
  have hSD : (Builtin.unsafeSliceData_ #[(ρ.t 37)] (ρ.t 127) #[.slice (some ⟨g, 0, none⟩) l.length cap]).run P w.drew = .ok (.pointer (some ⟨g, 0, none⟩)) w.drew :=
    Lib.run_unsafeSliceData_row _ _ _ _ _ _ hcap
  have hUS : (Builtin.unsafeString_ #[(ρ.t 127), (ρ.t 3)] (ρ.t 9) #[.pointer (some ⟨g, 0, none⟩), .int .i64 l.length]).run P w.drew = .ok (.string ⟨l.toArray⟩) (w.drew.freeze ⟨g, 0, none⟩ l.length) :=
    Lib.run_unsafeString_row w.drew (ρ.t 127) (ρ.t 3) (ρ.t 9) (ρ.t 5) L.t127 X.cellsByte g cells hsh l h0 hn h63 hcell
  clear hcap hn h63 hcell h0 hsh
  have mixed := L.mixed
  have t72 := L.t72; have a72 := L.a72; have z72 := L.z72; have v72 := L.v72; have u72 := run_underlying L.t72
  have t70 := L.t70; have a70 := L.a70; have z70 := L.z70; have v70 := L.v70; have u70 := run_underlying L.t70
  have t37 := L.t37; have a37 := L.a37; have z37 := L.z37; have v37 := L.v37; have u37 := run_underlying L.t37
  have t127 := L.t127; have a127 := L.a127; have z127 := L.z127; have v127 := L.v127; have u127 := run_underlying L.t127
  have t3 := L.t3; have a3 := L.a3; have z3 := L.z3; have v3 := L.v3; have u3 := run_underlying L.t3
  have t9 := L.t9; have a9 := L.a9; have z9 := L.z9; have v9 := L.v9; have u9 := run_underlying L.t9
  have t5 := X.t5; have a5 := X.a5; have z5 := X.z5; have v5 := X.v5; have u5 := run_underlying X.t5
  go_enter L.f169, Body.n169_ntmps ρ
  go_wp2
  go_region_o
  all_goals (go_wp2; go_ret; exact ⟨rfl, froze_drew w g _⟩)

theorem string_came {ρ : Ren} (L : Lays.n169 P ρ) (X : Builder.Extra P ρ) {f T : Nat} (hf : ρ.f 169 = f) (hT : ρ.t 5 = T) (K : Known P f) :
    ∀ args H v H', xString T args H = some (v, H') → ∀ φ w vs, HR φ H w → RelL φ args vs → Came P φ H w f vs v H' := by
  intro args H v H' h φ w vs hH hr
  obtain ⟨fn, k1, k2, k3⟩ := K.there
  unfold xString at h
  split at h
  case h_2 => cases h
  rename_i i
  cases hr with | cons r1 hr => cases hr with | nil =>
  cases r1; rename_i q b hp
  split at h
  case h_2 => cases h
  rename_i m e fz sz hg
  have hh := cond_some h
  clear h
  obtain ⟨hz1, h⟩ := hh
  obtain ⟨b, bs⟩ := b
  obtain rfl : bs = 0 := hH.base hg hp hz1
  split at h
  · rename_i g1
    obtain ⟨rfl, rfl⟩ := Prod.mk.inj (Option.some.inj h)
    obtain ⟨cv, c1, c2⟩ := cell_of hH hp (show cellAt H i 1 = some _ by unfold cellAt; rw [hg]; exact g1)
    cases c2
    refine came_below hH k1 k2 k3 ?_
    have hw := string_nil L X b w c1
    rw [hf] at hw
    exact hw.mono fun e w' he => ⟨⟨_, he.1, .str rfl⟩, he.2⟩
  · rename_i j n cap g1
    obtain ⟨cv, c1, c2⟩ := cell_of hH hp (show cellAt H i 1 = some _ by unfold cellAt; rw [hg]; exact g1)
    cases c2; rename_i q' g c o' hj hle _ haddr
    split at h
    case h_2 => cases h
    rename_i m' e' fz' sz' hg'
    cases hb : Nat.beq e' T && Nat.ble n 9223372036854775806 && isZ fz' with
    | false => rw [hb] at h; cases h
    | true =>
      rw [hb] at h
      rw [Bool.and_eq_true, Bool.and_eq_true, beq_iff, ble_iff] at hb
      obtain ⟨⟨rfl, hb2⟩, hz2⟩ := hb
      obtain ⟨g, gs⟩ := g
      obtain rfl : gs = 0 := hH.base hg' hj hz2
      obtain rfl : o' = 0 := by
        rcases haddr with e | ⟨e, _⟩
        · exact e
        · omega
      obtain ⟨l, h1, h⟩ := bind_some h
      obtain ⟨s, h2, h3⟩ := map_some h
      obtain ⟨rfl, rfl⟩ := Prod.mk.inj h3
      obtain ⟨vs, g3, g4, g5⟩ := loadL_rel hH hj hg' _ _ _ h1
      obtain ⟨bs, rfl, rfl⟩ := ofCells_rel h2 g4
      have hlen : bs.length = n + 1 := by simpa using g3
      obtain ⟨co, o1, o2⟩ := hH.obj j _ ⟨g, 0⟩ q' hg' hj
      cases co <;> simp only [RelO] at o2
      rename_i cs e'' fr
      obtain ⟨rfl, hcs, hfz, hsz⟩ := o2
      have hcell : ∀ j x, bs[j]? = some x → w.cell? ((⟨g, 0, none⟩ : Addr).add j) = some (.int .u8 x.toNat) := by
        intro j x hx
        have := g5 j (.int .u8 x.toNat) (by simp [hx])
        simpa [Addr.add_lit, Blk.at] using this
      have hroom : bs.length ≤ cs.size := by
        have := hcell n _ (List.getElem?_eq_getElem (by omega))
        rw [Addr.add_lit] at this
        simp only [World.cell?, o1, Option.isSome_none, Bool.false_eq_true, if_false] at this
        have := (Array.getElem?_eq_some_iff.1 this).1
        omega
      have hw := string_row L X b g c cs.size bs (by rintro rfl; simp at hlen) w (by rw [hlen]; exact c1) (by omega) (by simp [World.shape?, o1, hT]) hroom (by omega) hcell
      rw [hf] at hw
      refine came_calls k1 k2 k3 (hw.mono fun e w' he => ?_)
      obtain ⟨rfl, hfro⟩ := he
      rw [hlen] at hfro
      obtain ⟨f1, f2, fr', f3, f4⟩ := froze_heap hfro o1
      have key : ∀ h, freezeTo fz' (n + 1) = some h → fr'.2 ≤ h ∧ (h = 0 → (0 : Nat) = 0) := by
        clear h h1 hg'
        intro h hh
        refine ⟨?_, fun _ => rfl⟩
        unfold freezeTo at hh
        split at hh
        · rename_i a
          have := (hfz a rfl).1
          obtain rfl := Option.some.inj hh
          cases hab : Nat.ble a (n + 1) with
          | true => simp only [cond_true]; rw [ble_iff] at hab; omega
          | false =>
            simp only [cond_false]
            have : ¬ a ≤ n + 1 := by intro hh; rw [← ble_iff] at hh; rw [hab] at hh; cases hh
            omega
        · cases hh
      obtain ⟨t1, t2⟩ := hH.turn (w' := w') hg' hj f1 f3 f2 ⟨hfro.2.1, hfro.2.2.1, hfro.2.2.2⟩ (o' := .cells m' e'' (freezeTo fz' (n + 1)) sz') ⟨rfl, hcs, key, hsz⟩
      exact ⟨_, φ, rfl, .str rfl, t1, t2⟩
  · cases h
end
end Go.Fx
