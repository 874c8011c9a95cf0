import Derived.Test.YtelhhbcccndaaaaGreatDoorXd
/-! append. -/
namespace Go.Fx
set_option linter.unusedVariables false
set_option linter.unusedSimpArgs false

/-- a value is made, and perhaps the heap turned -/
def VOk (P : Program) (φ : Nat → Option (Nat × Nat)) (H : Hp) (w : World) (s : Sem Value) (r : R) : Prop :=
  ∃ v H' cv w' ψ, r = .val v H' ∧ s.run P w = .ok cv w' ∧ Rel ψ v cv ∧ HR ψ H' w' ∧ Ext φ H w ψ H' w'

section
variable {P : Program} {φ : Nat → Option (Nat × Nat)} {H : Hp} {w : World}

theorem VOk.same {s : Sem Value} {v : AV} {cv : Value} (h : HR φ H w) (e : s.run P w = .ok cv w) (r : Rel φ v cv) : VOk P φ H w s (.val v H) := ⟨v, H, cv, w, φ, rfl, e, r, h, Ext.refl _ _ _⟩
theorem VOk.of {s : Sem Value} {v : AV} {cv : Value} {H' : Hp} {w' : World} {ψ : Nat → Option (Nat × Nat)} (e : s.run P w = .ok cv w') (r : Rel ψ v cv) (h : HR ψ H' w' ∧ Ext φ H w ψ H' w') : VOk P φ H w s (.val v H') := ⟨v, H', cv, w', ψ, rfl, e, r, h.1, h.2⟩

theorem stored_rel {ψ : Nat → Option (Nat × Nat)} {m : VT} {c : Array Value} {off : Nat} {l : List AV} {vs : List Value} (hcell : ∀ o v, getN m o = some v → ∃ cv, c[o]? = some cv ∧ Rel ψ v cv) (r : RelL ψ l vs) (hroom : off + vs.length ≤ c.size) :
    ∀ o v, getN (storeL m off l) o = some v → ∃ cv, (c.toList.take off ++ vs ++ c.toList.drop (off + vs.length)).toArray[o]? = some cv ∧ Rel ψ v cv := by
  intro o v ho
  have hlen : l.length = vs.length := r.length
  rcases getN_storeL _ _ _ _ _ ho with ⟨h3, h4, h5⟩ | ⟨h3, h4⟩
  · obtain ⟨cv, h6, h7⟩ := r.get h5
    refine ⟨cv, ?_, h7⟩
    have ht : (c.toList.take off).length = off := by simp; omega
    rw [List.getElem?_toArray, List.append_assoc, List.getElem?_append_right (by omega), ht, List.getElem?_append_left (by omega)]
    exact h6
  · obtain ⟨cv, h6, h7⟩ := hcell o v h4
    refine ⟨cv, ?_, h7⟩
    have ht : (c.toList.take off).length = off := by simp; omega
    have hsz := (Array.getElem?_eq_some_iff.1 h6).1
    rw [List.getElem?_toArray]
    rcases h3 with h3 | h3
    · rw [List.append_assoc, List.getElem?_append_left (by omega), List.getElem?_take_of_lt h3]; simpa using h6
    · rw [List.getElem?_append_right (by simp [ht]; omega), List.length_append, ht, List.getElem?_drop]
      rw [show off + vs.length + (o - (off + vs.length)) = o by omega]; simpa using h6

theorem info_run {t : TypeId} {i : TypeInfo} (h : P.info? t = some i) : sizeT P t = some i.size ∨ True := .inr trivial

theorem fz_le {fz : Option Nat} {off a : Nat} (hf : fzOk fz off = true) (h : ∀ k, fz = some k → a ≤ k) : a ≤ off := by
  unfold fzOk at hf
  split at hf
  · rename_i k; exact Nat.le_trans (h k rfl) (Nat.le_of_ble_eq_true hf)
  · cases hf
theorem row_size {olds vs : List Value} {z : Array Value} {k size len n newCap : Nat} (h1 : olds.length = len * size) (h2 : vs.length = n * size) (hz : z.size = size) (hc : len + n ≤ newCap) :
    (olds.toArray ++ vs.toArray ++ Builtin.zeroCells z (newCap - (len + n))).size = newCap * size := by
  simp only [Array.size_append, List.size_toArray, zeroCells_size, h1, h2, hz]
  rw [← Nat.add_mul, ← Nat.add_mul]; congr 1; omega

theorem z_size {zv : Value} {za : AV} {n : Nat} (h : ofConst zv = some za) (hl : za.cells.length = n) : zv.cells.size = n := by
  have := (ofConst_rel (φ := fun _ => none) h).2.1.length
  rw [hl] at this; simpa using this.symm

/-- a row is made of old cells and of new ones -/
theorem grown {e n len k : Nat} {ol nl : List AV} {olds vs : List Value} {zv : Value} {newCap : Nat} (h : HR φ H w) (r1 : RelL φ ol olds) (r2 : RelL φ nl vs)
    (h1 : olds.length = len * n) (h2 : vs.length = k * n) (hz : zv.cells.size = n) (hc : len + k ≤ newCap) :
    (HR (upd φ H.next w.heap.size newCap) (newCells H (storeL .E 0 (ol ++ nl)) e (some 0) n) (w.drew.alloc (.cells (olds.toArray ++ vs.toArray ++ Builtin.zeroCells zv.cells (newCap - (len + k))) e)) ∧
      Ext φ H w (upd φ H.next w.heap.size newCap) (newCells H (storeL .E 0 (ol ++ nl)) e (some 0) n) (w.drew.alloc (.cells (olds.toArray ++ vs.toArray ++ Builtin.zeroCells zv.cells (newCap - (len + k))) e))) := by
  refine h.alloc newCap rfl ⟨rfl, rfl, rfl⟩ ?_
  have hr := (r1.append r2).mono (upd_sub h w.heap.size newCap)
  have := row_rel (zs := (Builtin.zeroCells zv.cells (newCap - (len + k))).toList) (e := e) (size := n) (q := newCap) hr (fun _ => by
    have := row_size (k := 0) h1 h2 hz hc
    rw [← this]; simp)
  simpa using this

theorem appendF_inv {e n : Nat} {s x : AV} {r : R} (h : appendF e n s x H = some r) : ∃ k l, appended n x H = some (k, l) ∧ ((s = .nul .slice ∧ appendNil e n (k, l) H = some r) ∨
    (∃ i o len c, s = .slice i o len (some c) ∧ appendCap e n i o len c (k, l) H = some r) ∨ ∃ i o len, s = .slice i o len none ∧ appendOwn e n i o len (k, l) H = some r) := by
  unfold appendF at h
  obtain ⟨⟨k, l⟩, h1, h⟩ := bind_some h
  refine ⟨k, l, h1, ?_⟩
  clear h1
  split at h
  · exact .inl ⟨rfl, h⟩
  · exact .inr (.inl ⟨_, _, _, _, rfl, h⟩)
  · exact .inr (.inr ⟨_, _, _, rfl, h⟩)
  · cases h

theorem append_ok {t u e n b : Nat} {z : List AV} {ty : TypeId} {s x : AV} {cs cx : Value} {r : R} (ht : P.underlying t = some (.slice e)) (hu : ∃ d, P.underlying u = some d ∧ ∀ k, d ≠ .int k)
    (he : elemT P e = some (n, b, z)) (h : HR φ H w) (ha : appendF e n s x H = some r) (rs : Rel φ s cs) (rx : Rel φ x cx) : VOk P φ H w (Builtin.append_ #[t, u] ty #[cs, cx]) r := by
  obtain ⟨inf, zv, hi, rfl, rfl, hz0, hpos, hzl, hb, za, hza, rfl⟩ := elemT_some he
  have hzs := z_size hza hzl
  obtain ⟨k, l, h1, ha'⟩ := appendF_inv ha
  clear ha
  obtain ⟨hl, vs, r2, hlen, hf⟩ := appended_ok h hpos h1 rx
  have hf0 := hf w rfl
  rcases ha' with ⟨rfl, ha⟩ | ⟨i, o, len, c, rfl, ha⟩ | ⟨i, o, len, rfl, ha⟩
  · -- nil
    cases rs
    unfold appendNil at ha
    cases hk : Nat.beq k 0 with
    | true =>
      simp only [hk, cond_true] at ha
      obtain rfl := Option.some.inj ha
      rw [beq_iff] at hk; subst hk
      have := append_room (ty := ty) (base := none) (len := 0) (cap := 0) ht hu hi hl hf0 (Nat.le_refl _)
      exact VOk.same h this .nulSlice
    | false =>
      simp only [hk, cond_false] at ha
      obtain ⟨hle, ha⟩ := cond_some ha
      rw [ble_iff] at hle
      obtain rfl := Option.some.inj ha
      have hk0 : k ≠ 0 := fun e => by subst e; simp at hk
      obtain ⟨newCap, h2, h3⟩ := append_grow (ty := ty) (w := w) (base := none) (len := 0) (cap := 0) (olds := []) ht hu hi hz0 hb (by omega) hl hf (fun w' _ => rfl) (by omega)
      have hg := grown (e := e) h (.nil : RelL φ [] []) r2 (len := 0) (n := inf.size) (by simp) hlen hzs h2
      rw [Nat.zero_add] at h3 hg h2
      refine VOk.of h3 ?_ (by simpa using hg)
      exact .slice (upd_same _ _ _ _) h2 (fun _ e => by cases e) (fun _ _ => rfl)
  · -- a capacity that is known
    cases rs
    rename_i b q c' hb' hl' hc' ho'
    obtain rfl := hc' _ rfl
    unfold appendCap at ha
    cases hk : Nat.ble (len + k) c' with
    | true =>
      simp only [hk, cond_true] at ha
      rw [ble_iff] at hk
      obtain ⟨H', h2, rfl⟩ := map_some ha
      obtain ⟨w', h3, h4, h5⟩ := store_ok (P := P) h hb' h2 r2
      have := append_room (ty := ty) (base := some ⟨b, o, none⟩) (len := len) (cap := c') ht hu hi hl hf0 hk
      simp only [Addr.add_lit] at this
      rw [h3] at this
      exact VOk.of this (.slice (h5.sub _ _ hb') hk (fun _ e => Option.some.inj e) (fun e => by cases e)) ⟨h4, h5⟩
    | false =>
      simp only [hk, cond_false] at ha
      obtain ⟨hle, ha⟩ := cond_some ha
      rw [ble_iff] at hle
      have hk' : ¬ len + k ≤ c' := fun e => by rw [← ble_iff, hk] at e; cases e
      obtain ⟨old, h2, rfl⟩ := map_some ha
      obtain ⟨olds, h3, h4, h5⟩ := cells_of h hb' h2
      obtain ⟨newCap, h6, h7⟩ := append_grow (ty := ty) (w := w) (base := some ⟨b, o, none⟩) (len := len) (cap := c') (olds := olds) ht hu hi hz0 hb hle hl hf
        (fun w' hw => run_cells h3 fun j v hv => by have := h5 j v hv; simpa [World.cell?, hw] using this) (by omega)
      have hg := grown (e := e) h (RelL.of_chain h4) r2 h3 hlen hzs h6
      exact VOk.of h7 (.slice (upd_same _ _ _ _) h6 (fun _ e => by cases e) (fun _ _ => rfl)) hg
  · -- one that is not
    cases rs
    rename_i b q c' hb' hl' hc' ho'
    unfold appendOwn at ha
    split at ha
    case h_2 => cases ha
    rename_i m e' fz sz hg
    obtain ⟨hc, ha⟩ := cond_some ha
    obtain rfl := Option.some.inj ha
    simp only [Bool.and_eq_true, beq_iff, ble_iff] at hc
    obtain ⟨⟨⟨⟨⟨⟨rfl, rfl⟩, rfl⟩, hle⟩, hfz⟩, hin⟩, hal⟩ := hc
    have hq := ho' rfl rfl; subst hq
    obtain ⟨co, h2, h3⟩ := h.obj i _ b c' hg hb'
    cases co <;> simp only [RelO] at h3
    rename_i c e2 fr
    obtain ⟨rfl, hcell, hfr, hsz⟩ := h3
    have hsz := hsz (by omega)
    have hfr' : fr.2 ≤ len * inf.size := fz_le hfz hfr
    rcases Nat.lt_or_ge c' (len + k) with hk | hk
    · -- it grows
      have hll : len * inf.size ≤ c.size := by rw [← hsz]; exact Nat.mul_le_mul_right _ hl'
      have hlen2 : (c.toList.take (len * inf.size)).length = len * inf.size := by simp; omega
      obtain ⟨newCap, h6, h7⟩ := append_grow (ty := ty) (w := w) (base := some ⟨b, 0, none⟩) (len := len) (cap := c') (olds := c.toList.take (len * inf.size)) ht hu hi hz0 hb hle hl hf
        (fun w' hw => run_cells hlen2 fun j v hv => by
          rcases Nat.lt_or_ge j (len * inf.size) with hj | hj
          · rw [List.getElem?_take_of_lt hj] at hv
            simpa [World.cell?, hw, h2] using hv
          · rw [List.getElem?_eq_none (by omega)] at hv; cases hv) hk
      refine VOk.of (ψ := upd φ H.next w.heap.size newCap) h7 (.slice (upd_same _ _ _ _) h6 (fun _ e => by cases e) (fun _ _ => rfl)) ?_
      refine h.renew i newCap rfl ⟨rfl, rfl, rfl⟩ ⟨rfl, fun o v ho => ?_, fun h hh => Nat.zero_le _, fun _ => (row_size (k := 0) hlen2 hlen hzs h6).symm⟩
      have r2' := r2.mono (upd_sub h w.heap.size newCap)
      rcases getN_storeL _ _ _ _ _ ho with ⟨g1, g2, g3⟩ | ⟨g1, g2⟩
      · obtain ⟨cv, g4, g5⟩ := r2'.get g3
        refine ⟨cv, ?_, g5⟩
        have := (List.getElem?_eq_some_iff.1 g4).1
        rw [Array.getElem?_append_left (by simp; omega), Array.getElem?_append_right (by simp; omega)]
        simp only [List.size_toArray, hlen2, List.getElem?_toArray]; exact g4
      · obtain ⟨cv, g4, g5⟩ := hcell o v g2
        have hos := (Array.getElem?_eq_some_iff.1 g4).1
        have hlv := r2.length
        have g6 : o < len * inf.size := by
          rcases g1 with g1 | g1
          · exact g1
          · exfalso
            have : (c' + 1) * inf.size ≤ (len + k) * inf.size := Nat.mul_le_mul_right _ hk
            rw [Nat.add_mul] at this
            rw [hlv, hlen, ← Nat.add_mul] at g1
            omega
        refine ⟨cv, ?_, g5.mono (upd_sub h _ _)⟩
        rw [Array.getElem?_append_left (by simp; omega), Array.getElem?_append_left (by simp; omega), List.getElem?_toArray, List.getElem?_take_of_lt g6]
        simpa using g4
    · -- it has room
      have hroom : len * inf.size + vs.length ≤ c.size := by rw [← hsz, hlen, ← Nat.add_mul]; exact Nat.mul_le_mul_right _ hk
      have h8 := append_room (ty := ty) (base := some ⟨b, 0, none⟩) (len := len) (cap := c') ht hu hi hl hf0 hk
      have h9 := run_storeCells_atF P b (len * inf.size) e2 fr vs 0 c w h2 (by omega) (by omega) (oneCell_of_allVal r2 hal)
      simp only [Addr.add_lit, Nat.zero_add] at h8
      rw [h9] at h8
      have hset := setRow_heap w b c (c.toList.take (len * inf.size + 0) ++ vs ++ c.toList.drop (len * inf.size + 0 + vs.length)).toArray e2 fr h2
      refine VOk.of (ψ := upd φ H.next b c') h8 (.slice (upd_same _ _ _ _) hk (fun _ e => by cases e) (fun _ _ => rfl)) ?_
      refine h.rename hg hb' (by simp) hset (fun k hk => setRow_other w b k _ hk) ⟨rfl, rfl, rfl⟩ ⟨rfl, ?_, hfr, fun _ => ?_⟩
      · exact stored_rel (fun o v ho => by obtain ⟨cv, g1, g2⟩ := hcell o v ho; exact ⟨cv, g1, g2.mono (upd_sub h _ _)⟩) (r2.mono (upd_sub h _ _)) hroom
      · rw [hsz]; simp; omega
end
end Go.Fx
