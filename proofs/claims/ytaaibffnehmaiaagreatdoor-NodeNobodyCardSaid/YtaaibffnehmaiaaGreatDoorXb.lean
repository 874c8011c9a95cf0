import Derived.Test.YtaaibffnehmaiaaGreatDoorXa
import Derived.Laws.Entries
import Derived.Laws.Cells
import Derived.Lib.FrozenHead
/-! Each operation's function stands for the model's operation. -/
namespace Go.Fx
set_option linter.unusedVariables false
set_option linter.unusedSimpArgs false

/-! lookups -/
theorem nthG_eq {α : Type} : ∀ (i : Nat) (l : List α), nthG i l = l[i]?
  | 0, [] => rfl
  | 0, _ :: _ => rfl
  | i + 1, [] => rfl
  | i + 1, a :: l => by
    show nthG i l = _
    rw [nthG_eq i l]; rfl
theorem infoF_some {P : Program} {t : TypeId} {i : TypeInfo} (h : infoF P t = some i) : P.info? t = some i := by
  unfold infoF at h; rw [nthG_eq] at h
  have h' : P.types[t]? = some i := by simpa using h
  have hlt : t < P.types.size := (Array.getElem?_eq_some_iff.1 h').1
  unfold Tables.info?
  rw [if_pos hlt]; exact h'
theorem undF_some {P : Program} {t : TypeId} {d : TypeDesc} (h : undF P t = some d) : P.underlying t = some d := by
  unfold undF at h
  cases hi : infoF P t with
  | none => rw [hi] at h; cases h
  | some i =>
    rw [hi] at h
    unfold Program.underlying
    rw [infoF_some hi]
    obtain ⟨desc, _⟩ := i
    cases desc with
    | named n u =>
      simp only [Option.bind_some, undOf] at h
      cases hu : infoF P u with
      | none => rw [hu] at h; cases h
      | some j => rw [hu] at h; simp only [infoF_some hu]; exact h
    | _ => simpa [undOf] using h
theorem fnF_eq (P : Program) (f : FuncId) : fnF P f = P.funcs[f]? := by
  unfold fnF; rw [nthG_eq]; simp
theorem lenL_eq {α : Type} (l : List α) : lenL l = l.length := by
  induction l with
  | nil => rfl
  | cons a l ih => show Nat.succ (lenL l) = _; rw [ih]; rfl

/-! trees -/
theorem getN_storeL : ∀ (l : List AV) (m : VT) (off k : Nat) (v : AV), getN (storeL m off l) k = some v →
    (off ≤ k ∧ k < off + l.length ∧ l[k - off]? = some v) ∨ ((k < off ∨ off + l.length ≤ k) ∧ getN m k = some v)
  | [], m, off, k, v, h => .inr ⟨by simp; omega, h⟩
  | a :: l, m, off, k, v, h => by
    have h' : getN (storeL (setN (some a) 24 m off) (off + 1) l) k = some v := h
    rcases getN_storeL l _ _ _ _ h' with ⟨h1, h2, h3⟩ | ⟨h1, h2⟩
    · refine .inl ⟨by omega, by simp; omega, ?_⟩
      rw [show k - off = (k - (off + 1)) + 1 by omega]; simpa using h3
    · rcases getN_setN _ _ _ _ _ _ h2 with ⟨h3, h4⟩ | ⟨h3, h4⟩
      · subst h3; exact .inl ⟨Nat.le_refl _, by simp, by simpa using h4⟩
      · exact .inr ⟨by simp; omega, h4⟩
theorem getN_storeL_E {l : List AV} {k : Nat} {v : AV} (h : getN (storeL .E 0 l) k = some v) : l[k]? = some v := by
  rcases getN_storeL _ _ _ _ _ h with ⟨_, _, h3⟩ | ⟨_, h2⟩
  · simpa using h3
  · rw [getN_E] at h2; cases h2
theorem loadL_zero (m : VT) (off : Nat) : loadL m 0 off = some .nil := rfl
theorem loadL_succ (m : VT) (n off : Nat) : loadL m (n + 1) off = (getN m off).bind fun v => (loadL m n (off + 1)).bind fun l => some (.cons v l) := by
  show Option.rec (motive := fun _ => Option AV) none (fun v => Option.rec (motive := fun _ => Option AV) none (fun l => some (.cons v l)) (loadL m n (off + 1))) (getN m off) = _
  cases getN m off with
  | none => rfl
  | some v => cases loadL m n (off + 1) <;> rfl
theorem allIn_succ (m : VT) (n off : Nat) : allIn m (n + 1) off = ((getN m off).isSome && allIn m n (off + 1)) := by
  show Option.rec (motive := fun _ => Bool) false (fun _ => allIn m n (off + 1)) (getN m off) = _
  cases getN m off <;> rfl
theorem allIn_get : ∀ {m : VT} {n off : Nat}, allIn m n off = true → ∀ k, k < n → ∃ v, getN m (off + k) = some v
  | m, 0, off, _, k, hk => by omega
  | m, n + 1, off, h, k, hk => by
    rw [allIn_succ, Bool.and_eq_true] at h
    cases k with
    | zero => exact Option.isSome_iff_exists.1 h.1
    | succ k => have := allIn_get h.2 k (by omega); rwa [show off + 1 + k = off + (k + 1) by omega] at this
theorem allVal_cons (a : AV) (l : List AV) : allVal (a :: l) = (a.isVal && allVal l) := by
  show Bool.rec (motive := fun _ => Bool) false (allVal l) a.isVal = _
  cases a.isVal <;> rfl
theorem oneCell_of_isVal {φ : Nat → Option (Blk × Nat)} {a : AV} {v : Value} (r : Rel φ a v) (h : a.isVal = true) : v.oneCell' = true := by
  cases r <;> first | rfl | (simp [AV.isVal] at h)
theorem oneCell_of_allVal {φ : Nat → Option (Blk × Nat)} {l : List AV} {vs : List Value} (r : RelL φ l vs) (h : allVal l = true) : ∀ v ∈ vs, v.oneCell' = true := by
  induction r with
  | nil => intro v hv; cases hv
  | cons a _ ih =>
    rw [allVal_cons, Bool.and_eq_true] at h
    intro v hv
    cases hv with
    | head => exact oneCell_of_isVal a h.1
    | tail _ hm => exact ih h.2 v hm

/-! what a step of the model comes to -/
inductive StepOk (P : Program) (φ : Nat → Option (Blk × Nat)) (H : Hp) (w : World) (run : Result Next) : R → Prop where
  | val {v : AV} {H' : Hp} (n : Next) (cv : Value) (w' : World) (ψ : Nat → Option (Blk × Nat)) : run = .ok n w' → (n = .value cv ∨ (n = .skip ∧ cv = undef)) → Rel ψ v cv → HR ψ H' w' → Ext φ H w ψ H' w' → StepOk P φ H w run (.val v H')
  | enter {f : FuncId} {args : List AV} (vs : List Value) : run = (callFunc f vs.toArray).run P w → RelL φ args vs → StepOk P φ H w run (.enter f args H)

theorem StepOk.pure {P : Program} {φ : Nat → Option (Blk × Nat)} {H : Hp} {w : World} {run : Result Next} {v : AV} {cv : Value} (h : HR φ H w) (e : run = .ok (.value cv) w) (r : Rel φ v cv) : StepOk P φ H w run (.val v H) :=
  .val _ cv w φ e (.inl rfl) r h (Ext.refl _ _ _)

section
variable {P : Program} {φ : Nat → Option (Blk × Nat)} {H : Hp} {w : World}

/-! loads and stores -/
theorem cell_of {i q off : Nat} {b : Blk} {v : AV} (h : HR φ H w) (hp : φ i = some (b, q)) (hc : cellAt H i off = some v) : ∃ cv, w.cell? (b.at off) = some cv ∧ Rel φ v cv := by
  unfold cellAt at hc
  split at hc
  · rename_i m e fz sz hg
    obtain ⟨co, h1, h2⟩ := h.obj i _ b q hg hp
    cases co <;> simp only [RelO] at h2
    obtain ⟨cv, h3, h4⟩ := h2.2.1 off v hc
    exact ⟨cv, by simp [World.cell?, h1, h3], h4⟩
  · cases hc
theorem loadL_rel {i q : Nat} {b : Blk} {m : VT} {e : Nat} {fz : Option Nat} {sz : Nat} (h : HR φ H w) (hp : φ i = some (b, q)) (hg : H.get i = some (.cells m e fz sz)) : ∀ (n off : Nat) (l : AV), loadL m n off = some l →
    ∃ vs : List Value, vs.length = n ∧ RelV φ true l vs ∧ ∀ j v, vs[j]? = some v → w.cell? (b.at (off + j)) = some v
  | 0, off, l, hl => by rw [loadL_zero] at hl; obtain rfl := Option.some.inj hl; exact ⟨[], rfl, .nil, fun j v hv => by simp at hv⟩
  | n + 1, off, l, hl => by
    rw [loadL_succ] at hl
    cases hv : getN m off with
    | none => rw [hv] at hl; cases hl
    | some a =>
      rw [hv] at hl
      simp only [Option.bind_some] at hl
      cases hr : loadL m n (off + 1) with
      | none => rw [hr] at hl; cases hl
      | some l' =>
        rw [hr] at hl; obtain rfl := Option.some.inj hl
        obtain ⟨vs, h1, h2, h3⟩ := loadL_rel h hp hg n (off + 1) l' hr
        obtain ⟨cv, h4, h5⟩ := cell_of (i := i) (off := off) (v := a) h hp (by simp [cellAt, hg, hv])
        refine ⟨cv :: vs, by simp [h1], .cons h5 h2, fun j v hj => ?_⟩
        cases j with
        | zero => simp at hj; subst hj; exact h4
        | succ j => simp at hj; have := h3 j v hj; rwa [show off + 1 + j = off + (j + 1) by omega] at this
theorem cells_of {i q off n : Nat} {b : Blk} {l : AV} (h : HR φ H w) (hp : φ i = some (b, q)) (hc : cellsAt H i off n = some l) :
    ∃ vs : List Value, vs.length = n ∧ RelV φ true l vs ∧ ∀ j v, vs[j]? = some v → w.cell? (b.at (off + j)) = some v := by
  unfold cellsAt at hc
  split at hc
  · rename_i m e fz sz hg; exact loadL_rel h hp hg n off l hc
  · cases hc
theorem run_cellsN {b off n : Nat} {vs : List Value} (hn : vs.length = n) (hc : ∀ j v, vs[j]? = some v → w.cell? ⟨b, off + j, none⟩ = some v) :
    (loadCells ⟨b, off, none⟩ n).run P w = .ok vs.toArray w := by
  subst hn
  exact run_loadCells_list w ⟨b, off, none⟩ vs fun j v hv => by rw [Addr.add_lit]; exact hc j v hv
theorem run_cells {b : Blk} {off n : Nat} {vs : List Value} (hn : vs.length = n) (hc : ∀ j v, vs[j]? = some v → w.cell? (b.at (off + j)) = some v) :
    (loadCells (b.at off) n).run P w = .ok vs.toArray w :=
  run_cellsN hn fun j v hv => by rw [Nat.add_assoc]; exact hc j v hv

theorem store_ok {i q off : Nat} {b : Blk} {l : List AV} {vs : List Value} {H' : Hp} (h : HR φ H w) (hp : φ i = some (b, q)) (hs : Fx.storeAt H i off l = some H') (r : RelL φ l vs) :
    ∃ w', (storeCells (b.at off) vs).run P w = .ok () w' ∧ HR φ H' w' ∧ Ext φ H w φ H' w' := by
  unfold Fx.storeAt at hs
  split at hs
  · rename_i m e fz sz hg
    cases hc : fzOk fz off && allIn m (lenL l) off && allVal l with
    | false => rw [hc] at hs; cases hs
    | true =>
      rw [hc] at hs
      simp only [Bool.and_eq_true] at hc
      obtain ⟨⟨hf, ha⟩, hv⟩ := hc
      obtain rfl := Option.some.inj hs
      obtain ⟨co, h1, h2⟩ := h.obj i _ b q hg hp
      cases co <;> simp only [RelO] at h2
      rename_i c e' fr
      obtain ⟨rfl, hcell, hfz, hsz⟩ := h2
      have hfr : fr.2 ≤ b.base + off := by
        unfold fzOk at hf
        split at hf
        · rename_i k; exact Nat.le_trans (hfz k rfl).1 (Nat.le_trans (Nat.le_of_ble_eq_true hf) (Nat.le_add_left _ _))
        · cases hf
      have hlen : l.length = vs.length := r.length
      rcases Nat.eq_zero_or_pos vs.length with h0 | h0
      · obtain rfl : vs = [] := List.eq_nil_of_length_eq_zero h0
        obtain rfl : l = [] := List.eq_nil_of_length_eq_zero (by omega)
        exact ⟨w, rfl, h.turn hg hp rfl h1 (fun _ _ => rfl) ⟨rfl, rfl, rfl⟩ ⟨rfl, hcell, hfz, hsz⟩⟩
      have hroom : b.base + off + vs.length ≤ c.size := by
        rw [lenL_eq] at ha
        obtain ⟨v, hv⟩ := allIn_get ha (vs.length - 1) (by omega)
        obtain ⟨cv, h3, _⟩ := hcell _ _ hv
        have := (Array.getElem?_eq_some_iff.1 h3).1
        omega
      have hrun := run_storeCells_atF P b.b (b.base + off) e' fr vs 0 c w h1 (by omega) (by omega) (oneCell_of_allVal r hv)
      refine ⟨_, hrun, ?_⟩
      have hset := setRow_heap w b.b c (c.toList.take (b.base + off + 0) ++ vs ++ c.toList.drop (b.base + off + 0 + vs.length)).toArray e' fr h1
      refine h.turn hg hp (by simp) hset (fun k hk => setRow_other w b.b k _ hk) ⟨rfl, rfl, rfl⟩ ⟨rfl, fun o v ho => ?_, hfz, ?_⟩
      case refine_2 =>
        have : (c.toList.take (b.base + off + 0) ++ vs ++ c.toList.drop (b.base + off + 0 + vs.length)).toArray.size = c.size := by simp; omega
        rw [this]; exact hsz
      rcases getN_storeL _ _ _ _ _ ho with ⟨h3, h4, h5⟩ | ⟨h3, h4⟩
      · obtain ⟨cv, h6, h7⟩ := r.get h5
        refine ⟨cv, ?_, h7⟩
        have ht : (c.toList.take (b.base + off)).length = b.base + off := by simp; omega
        rw [Nat.add_zero, List.getElem?_toArray, List.append_assoc, List.getElem?_append_right (by omega), ht, List.getElem?_append_left (by omega)]
        rw [show b.base + o - (b.base + off) = o - off by omega]
        exact h6
      · obtain ⟨cv, h6, h7⟩ := hcell o v h4
        refine ⟨cv, ?_, h7⟩
        have ht : (c.toList.take (b.base + off)).length = b.base + off := by simp; omega
        have hsz := (Array.getElem?_eq_some_iff.1 h6).1
        rw [Nat.add_zero, List.getElem?_toArray]
        rcases h3 with h3 | h3
        · rw [List.append_assoc, List.getElem?_append_left (by omega), List.getElem?_take_of_lt (by omega)]; simpa using h6
        · rw [List.getElem?_append_right (by simp [ht]; omega), List.length_append, ht, List.getElem?_drop]
          rw [show b.base + off + vs.length + (b.base + o - (b.base + off + vs.length)) = b.base + o by omega]; simpa using h6
  · cases hs
end
end Go.Fx
