import Derived.Test.YtaaibffnehmaiaaGreatDoorXc
import Derived.Room.Entries
/-! append, copy. -/
namespace Go.Fx
set_option linter.unusedVariables false
set_option linter.unusedSimpArgs false

section
variable {P : Program} {φ : Nat → Option (Blk × Nat)} {H : Hp} {w : World}

theorem elemT_some {e n b : Nat} {z : List AV} (h : elemT P e = some (n, b, z)) : ∃ i zv, P.info? e = some i ∧ i.size = n ∧ i.bytes = b ∧ i.zero = some zv ∧ 0 < n ∧ z.length = n ∧ b ≤ 65536 ∧ ∃ za, ofConst zv = some za ∧ za.cells = z := by
  unfold elemT at h
  obtain ⟨i, h1, h⟩ := bind_some h
  obtain ⟨za, h2, h⟩ := bind_some h
  obtain ⟨h3, h⟩ := cond_some h
  simp only [Bool.and_eq_true, blt_iff, beq_iff, ble_iff, lenL_eq] at h3
  obtain ⟨rfl, h5⟩ := Prod.mk.inj (Option.some.inj h)
  obtain ⟨rfl, rfl⟩ := Prod.mk.inj h5
  cases hz : i.zero with
  | none => rw [hz] at h2; cases h2
  | some zv =>
    rw [hz] at h2
    exact ⟨i, zv, infoF_some h1, rfl, rfl, hz, h3.1.1, h3.1.2, h3.2, za, h2, rfl⟩

theorem toCells_rel {s : ByteArray} {l : List Nat} (h : s.data.toList.map (·.toNat) = l) : RelL φ (toCells l) (s.data.toList.map fun b => Value.int .u8 b.toNat) := by
  subst h
  unfold toCells
  induction s.data.toList with
  | nil => exact .nil
  | cons a l ih => exact .cons (.int _ _) ih
theorem toCells_val (l : List Nat) : allVal (toCells l) = true := by
  unfold toCells
  induction l with
  | nil => rfl
  | cons a l ih => rw [List.map_cons, allVal_cons, ih]; rfl

/-- what is appended -/
theorem appended_ok {size : Nat} {x : AV} {cx : Value} {n : Nat} {l : List AV} (h : HR φ H w) (hs : 0 < size) (ha : appended size x H = some (n, l)) (r : Rel φ x cx) :
    (∀ w', (Builtin.lenOf cx).run P w' = .ok n w') ∧ ∃ vs : List Value, RelL φ l vs ∧ vs.length = n * size ∧ ∀ w', w'.heap = w.heap → (Builtin.firstCells size n cx).run P w' = .ok vs.toArray w' := by
  unfold appended at ha
  split at ha
  · rename_i s
    obtain ⟨h1, h2⟩ := cond_some ha
    rw [beq_iff] at h1
    obtain ⟨rfl, rfl⟩ := Prod.mk.inj (Option.some.inj h2)
    cases r
    rename_i cs hcs
    rw [lenL_eq, str_len hcs]
    refine ⟨fun w' => rfl, _, toCells_rel hcs, by rw [h1, Nat.mul_one, List.length_map, Array.length_toList]; rfl, fun w' _ => ?_⟩
    show Result.ok ((cs.extract 0 cs.size).data.map fun b => Value.int .u8 b.toNat) w' = _
    congr 1
    apply Array.ext'
    rw [Array.toList_map, Lib.extract_data, List.drop_zero, Nat.sub_zero, List.take_of_length_le (by rw [Array.length_toList]; exact Nat.le_refl _)]
  · obtain ⟨rfl, rfl⟩ := Prod.mk.inj (Option.some.inj ha)
    cases r
    exact ⟨fun w' => rfl, [], .nil, by simp, fun w' _ => rfl⟩
  · obtain ⟨rfl, rfl⟩ := Prod.mk.inj (Option.some.inj ha)
    cases r
    refine ⟨fun w' => rfl, [], .nil, by simp, fun w' _ => ?_⟩
    show (loadCells _ (0 * size)).run P w' = _
    rw [Nat.zero_mul]; rfl
  · rename_i j o m cap
    obtain ⟨c, h1, h2⟩ := map_some ha
    obtain ⟨rfl, rfl⟩ := Prod.mk.inj h2
    cases r
    rename_i q b cc o' hb hl hc ho
    obtain ⟨vs, h3, h4, h5⟩ := cells_of h hb h1
    refine ⟨fun w' => rfl, vs, RelL.of_chain h4, h3, fun w' hw => ?_⟩
    rcases ho with rfl | ⟨rfl, _, _⟩
    · exact run_cells h3 fun j v hv => by have := h5 j v hv; simpa [World.cell?, hw] using this
    · obtain rfl : vs = [] := List.eq_nil_of_length_eq_zero (by rw [h3, Nat.zero_mul])
      show (loadCells _ (0 * size)).run P w' = _
      rw [Nat.zero_mul]; rfl
  · cases ha

theorem appended_val {size : Nat} {x : AV} {n : Nat} {l : List AV} (ha : appended size x H = some (n, l)) (hx : ∀ j o m c, x = .slice j o m c → allVal l = true) : allVal l = true := by
  unfold appended at ha
  split at ha
  · obtain ⟨_, h2⟩ := cond_some ha
    obtain ⟨_, rfl⟩ := Prod.mk.inj (Option.some.inj h2)
    exact toCells_val _
  · obtain ⟨_, rfl⟩ := Prod.mk.inj (Option.some.inj ha); rfl
  · obtain ⟨_, rfl⟩ := Prod.mk.inj (Option.some.inj ha); rfl
  · exact hx _ _ _ _ rfl
  · cases ha

/-- in place -/
theorem append_room {t u e : TypeId} {ty : TypeId} {inf : TypeInfo} {base : Option Addr} {len cap n : Nat} {cx : Value} {vs : List Value} (ht : P.underlying t = some (.slice e))
    (hu : ∃ d, P.underlying u = some d ∧ ∀ k, d ≠ .int k) (hi : P.info? e = some inf) (hl : ∀ w', (Builtin.lenOf cx).run P w' = .ok n w')
    (hf : (Builtin.firstCells inf.size n cx).run P w = .ok vs.toArray w) (hroom : len + n ≤ cap) :
    (Builtin.append_ #[t, u] ty #[.slice base len cap, cx]).run P w =
      match base with
      | some a => ((storeCells (a.add (len * inf.size)) vs).run P w).andThen fun _ w' => .ok (.slice (some a) (len + n) cap) w'
      | none => .ok (.slice none (len + n) cap) w := by
  obtain ⟨d, hu, hd⟩ := hu
  have hz : (match d with | .int _ => true | _ => false) = false := by cases d <;> first | rfl | (exact absurd rfl (hd _))
  cases base with
  | none => simp [Builtin.append_, run_underlying ht, run_underlying hu, sizeOf, typeInfo, hi, hz, hl, hroom, hf]
  | some a => simp [Builtin.append_, run_underlying ht, run_underlying hu, sizeOf, typeInfo, hi, hz, hl, hroom, hf]

/-- grown -/
theorem append_grow {t u e : TypeId} {ty : TypeId} {inf : TypeInfo} {zv : Value} {base : Option Addr} {len cap n : Nat} {cx : Value} {vs olds : List Value} (ht : P.underlying t = some (.slice e))
    (hu : ∃ d, P.underlying u = some d ∧ ∀ k, d ≠ .int k) (hi : P.info? e = some inf) (hz0 : inf.zero = some zv) (hb : inf.bytes ≤ 65536) (hsmall : len + n ≤ 1000000)
    (hl : ∀ w', (Builtin.lenOf cx).run P w' = .ok n w')
    (hf : ∀ w', w'.heap = w.heap → (Builtin.firstCells inf.size n cx).run P w' = .ok vs.toArray w')
    (ho : ∀ w', w'.heap = w.heap → (Builtin.firstCells inf.size len (.slice base len cap)).run P w' = .ok olds.toArray w') (hroom : cap < len + n) :
    ∃ newCap, len + n ≤ newCap ∧ (Builtin.append_ #[t, u] ty #[.slice base len cap, cx]).run P w =
      .ok (.slice (some ⟨w.heap.size, 0, none⟩) (len + n) newCap) (w.drew.alloc (.cells (olds.toArray ++ vs.toArray ++ Builtin.zeroCells zv.cells (newCap - (len + n))) e)) := by
  obtain ⟨d, hu, hd⟩ := hu
  have hz : (match d with | .int _ => true | _ => false) = false := by cases d <;> first | rfl | (exact absurd rfl (hd _))
  have hnext := Room.nextslicecap_le' hroom
  have hbytes : Builtin.nextslicecap (len + n) cap * inf.bytes ≤ 2000000 * 65536 := Nat.mul_le_mul (by omega) hb
  refine ⟨(Question.appendCap (len + n) cap e).cut (w.tape w.drawn (.appendCap (len + n) cap e)), ?_, ?_⟩
  · simp only [Question.cut]; omega
  · have h1 := hf w.drew rfl
    have h2 := ho w.drew rfl
    simp only [Builtin.append_]
    simp [run_underlying ht, run_underlying hu, sizeOf, typeInfo, hi, hz, hl, show ¬ len + n ≤ cap by omega, show ¬ (len : Int) + n > 9223372036854775807 by omega,
      show ¬ Builtin.nextslicecap (len + n) cap * inf.bytes > 281474976710656 by omega, Question.forced, h1, h2, zeroValue, hz0, newRow]
    congr 2
    apply Array.ext'
    simp

theorem allVal_append {l m : List AV} (h : allVal l = true) (k : allVal m = true) : allVal (l ++ m) = true := by
  induction l with
  | nil => exact k
  | cons a l ih => rw [allVal_cons, Bool.and_eq_true] at h; rw [List.cons_append, allVal_cons, h.1, ih h.2]; rfl

/-- a row that append has made stands for the cells that it was made of -/
theorem row_rel {ψ : Nat → Option (Blk × Nat)} {l : List AV} {vs zs : List Value} {e size q : Nat} (r : RelL ψ l vs) (hz : size ≠ 0 → q * size = (vs.toArray ++ zs.toArray).size) :
    RelO ψ 0 q (.cells (storeL .E 0 l) e (some 0) size) (.cells (vs.toArray ++ zs.toArray) e) := by
  refine ⟨rfl, fun o v ho => ?_, fun h hh => by cases hh; exact ⟨Nat.le_refl _, fun _ => rfl⟩, fun h => by rw [Nat.zero_add]; exact hz h⟩
  obtain ⟨cv, h1, h2⟩ := r.get (getN_storeL_E ho)
  refine ⟨cv, ?_, h2⟩
  have := (List.getElem?_eq_some_iff.1 h1).1
  rw [Nat.zero_add, Array.getElem?_append_left (by simpa using this)]; simpa using h1

theorem zeroCells_size (z : Array Value) (n : Nat) : (Builtin.zeroCells z n).size = n * z.size := by simp [Builtin.zeroCells]

/-- a constant stands for itself -/
theorem ofConst1_rel {v : Value} {a : AV} (h : ofConst1 v = some a) : Rel φ a v ∧ a.isVal = true := by
  unfold ofConst1 at h
  split at h <;> first | cases h | (obtain rfl := Option.some.inj h)
  · exact ⟨.bool _, rfl⟩
  · exact ⟨.int _ _, rfl⟩
  · exact ⟨.str rfl, rfl⟩
  · exact ⟨.nulPtr, rfl⟩
  · exact ⟨.nulSlice, rfl⟩
  · exact ⟨.nulMap, rfl⟩
  · exact ⟨.nulFunc, rfl⟩
  · exact ⟨.nulIface, rfl⟩
theorem ofConsts_rel : ∀ {l : List Value} {a : AV}, ofConsts l = some a → RelV φ true a l ∧ allVal a.list = true
  | [], a, h => by obtain rfl := Option.some.inj h; exact ⟨.nil, rfl⟩
  | v :: l, a, h => by
    unfold ofConsts at h
    obtain ⟨x, h1, h⟩ := bind_some h
    obtain ⟨b, h2, rfl⟩ := map_some h
    obtain ⟨r1, v1⟩ := ofConst1_rel (φ := φ) h1
    obtain ⟨r2, v2⟩ := ofConsts_rel h2
    exact ⟨.cons r1 r2, by show allVal (x :: b.list) = true; rw [allVal_cons, v1, v2]; rfl⟩
theorem ofConst_rel {v : Value} {a : AV} (h : ofConst v = some a) : Rel φ a v ∧ RelL φ a.cells v.cells.toList ∧ allVal a.cells = true := by
  unfold ofConst at h
  split at h
  · rename_i cs
    obtain ⟨c, h1, rfl⟩ := map_some h
    obtain ⟨r1, r2⟩ := ofConsts_rel (φ := φ) h1
    refine ⟨?_, RelL.of_chain r1, r2⟩
    have := RelV.agg r1
    rwa [Array.toArray_toList] at this
  · rename_i hn
    obtain ⟨r, hv⟩ := ofConst1_rel (φ := φ) h
    have e1 : a.cells = [a] := by cases a <;> first | rfl | (simp [AV.isVal] at hv)
    have e2 : v.cells.toList = [v] := by cases v <;> first | rfl | (exact (hn _ rfl).elim)
    rw [e1, e2]
    exact ⟨r, .cons r .nil, by rw [allVal_cons, hv]; rfl⟩
theorem cells_rel {a : AV} {v : Value} (r : Rel φ a v) : RelL φ a.cells v.cells.toList := by
  cases r with
  | agg r => exact RelL.of_chain r
  | _ => exact .cons (by first | assumption | (constructor <;> assumption)) .nil
end
end Go.Fx

/-! append. -/
namespace Go.Fx
set_option linter.unusedVariables false
set_option linter.unusedSimpArgs false

/-- a value is made, and perhaps the heap turned -/
def VOk (P : Program) (φ : Nat → Option (Blk × Nat)) (H : Hp) (w : World) (s : Sem Value) (r : R) : Prop :=
  ∃ v H' cv w' ψ, r = .val v H' ∧ s.run P w = .ok cv w' ∧ Rel ψ v cv ∧ HR ψ H' w' ∧ Ext φ H w ψ H' w'

section
variable {P : Program} {φ : Nat → Option (Blk × Nat)} {H : Hp} {w : World}

theorem VOk.same {s : Sem Value} {v : AV} {cv : Value} (h : HR φ H w) (e : s.run P w = .ok cv w) (r : Rel φ v cv) : VOk P φ H w s (.val v H) := ⟨v, H, cv, w, φ, rfl, e, r, h, Ext.refl _ _ _⟩
theorem VOk.of {s : Sem Value} {v : AV} {cv : Value} {H' : Hp} {w' : World} {ψ : Nat → Option (Blk × Nat)} (e : s.run P w = .ok cv w') (r : Rel ψ v cv) (h : HR ψ H' w' ∧ Ext φ H w ψ H' w') : VOk P φ H w s (.val v H') := ⟨v, H', cv, w', ψ, rfl, e, r, h.1, h.2⟩

theorem stored_rel {ψ : Nat → Option (Blk × Nat)} {m : VT} {c : Array Value} {s off : Nat} {l : List AV} {vs : List Value} (hcell : ∀ o v, getN m o = some v → ∃ cv, c[s + o]? = some cv ∧ Rel ψ v cv) (r : RelL ψ l vs) (hroom : s + off + vs.length ≤ c.size) :
    ∀ o v, getN (storeL m off l) o = some v → ∃ cv, (c.toList.take (s + off) ++ vs ++ c.toList.drop (s + off + vs.length)).toArray[s + o]? = some cv ∧ Rel ψ v cv := by
  intro o v ho
  have hlen : l.length = vs.length := r.length
  rcases getN_storeL _ _ _ _ _ ho with ⟨h3, h4, h5⟩ | ⟨h3, h4⟩
  · obtain ⟨cv, h6, h7⟩ := r.get h5
    refine ⟨cv, ?_, h7⟩
    have ht : (c.toList.take (s + off)).length = s + off := by simp; omega
    rw [List.getElem?_toArray, List.append_assoc, List.getElem?_append_right (by omega), ht, List.getElem?_append_left (by omega)]
    rw [show s + o - (s + off) = o - off by omega]
    exact h6
  · obtain ⟨cv, h6, h7⟩ := hcell o v h4
    refine ⟨cv, ?_, h7⟩
    have ht : (c.toList.take (s + off)).length = s + off := by simp; omega
    have hsz := (Array.getElem?_eq_some_iff.1 h6).1
    rw [List.getElem?_toArray]
    rcases h3 with h3 | h3
    · rw [List.append_assoc, List.getElem?_append_left (by omega), List.getElem?_take_of_lt (by omega)]; simpa using h6
    · rw [List.getElem?_append_right (by simp [ht]; omega), List.length_append, ht, List.getElem?_drop]
      rw [show s + off + vs.length + (s + o - (s + off + vs.length)) = s + o by omega]; simpa using h6

theorem info_run {t : TypeId} {i : TypeInfo} (h : P.info? t = some i) : sizeT P t = some i.size ∨ True := .inr trivial

theorem fz_le {fz : Option Nat} {off a s : Nat} (hf : fzOk fz off = true) (h : ∀ k, fz = some k → a ≤ k ∧ (k = 0 → s = 0)) : a ≤ off := by
  unfold fzOk at hf
  split at hf
  · rename_i k; exact Nat.le_trans (h k rfl).1 (Nat.le_of_ble_eq_true hf)
  · cases hf
theorem upFz_ok {fz : Option Nat} {a s t : Nat} (h : ∀ k, fz = some k → a ≤ k ∧ (k = 0 → s = 0)) : ∀ k, upFz fz = some k → a ≤ k ∧ (k = 0 → t = 0) := by
  intro k hk
  obtain ⟨j, h1, h2⟩ := map_some hk
  have h3 := (h j h1).1
  cases hb : Nat.beq j 0 with
  | true =>
    rw [hb] at h2; rw [beq_iff] at hb
    simp only [cond_true] at h2
    exact ⟨by omega, fun e => by omega⟩
  | false =>
    rw [hb] at h2
    have hb : j ≠ 0 := fun e => by rw [← beq_iff] at e; rw [e] at hb; cases hb
    simp only [cond_false] at h2
    exact ⟨by omega, fun e => by omega⟩
theorem row_size {olds vs : List Value} {z : Array Value} {k size len n newCap : Nat} (h1 : olds.length = len * size) (h2 : vs.length = n * size) (hz : z.size = size) (hc : len + n ≤ newCap) :
    (olds.toArray ++ vs.toArray ++ Builtin.zeroCells z (newCap - (len + n))).size = newCap * size := by
  simp only [Array.size_append, List.size_toArray, zeroCells_size, h1, h2, hz]
  rw [← Nat.add_mul, ← Nat.add_mul]; congr 1; omega

theorem z_size {zv : Value} {za : AV} {n : Nat} (h : ofConst zv = some za) (hl : za.cells.length = n) : zv.cells.size = n := by
  have := (ofConst_rel (φ := fun _ => none) h).2.1.length
  rw [hl] at this; simpa using this.symm

/-- a row is made of old cells and of new ones -/
theorem grown {e n len k : Nat} {ol nl : List AV} {olds vs : List Value} {zv : Value} {newCap : Nat} (h : HR φ H w) (r1 : RelL φ ol olds) (r2 : RelL φ nl vs)
    (h1 : olds.length = len * n) (h2 : vs.length = k * n) (hz : zv.cells.size = n) (hc : len + k ≤ newCap) :
    (HR (upd φ H.next ⟨w.heap.size, 0⟩ newCap) (newCells H (storeL .E 0 (ol ++ nl)) e (some 0) n) (w.drew.alloc (.cells (olds.toArray ++ vs.toArray ++ Builtin.zeroCells zv.cells (newCap - (len + k))) e)) ∧
      Ext φ H w (upd φ H.next ⟨w.heap.size, 0⟩ newCap) (newCells H (storeL .E 0 (ol ++ nl)) e (some 0) n) (w.drew.alloc (.cells (olds.toArray ++ vs.toArray ++ Builtin.zeroCells zv.cells (newCap - (len + k))) e))) := by
  refine h.alloc newCap rfl ⟨rfl, rfl, rfl⟩ ?_
  have hr := (r1.append r2).mono (upd_sub h ⟨w.heap.size, 0⟩ newCap)
  have := row_rel (zs := (Builtin.zeroCells zv.cells (newCap - (len + k))).toList) (e := e) (size := n) (q := newCap) hr (fun _ => by
    have := row_size (k := 0) h1 h2 hz hc
    rw [← this]; simp)
  simpa using this

theorem appendF_inv {e n : Nat} {s x : AV} {r : R} (h : appendF e n s x H = some r) : ∃ k l, appended n x H = some (k, l) ∧ ((s = .nul .slice ∧ appendNil e n (k, l) H = some r) ∨
    (∃ i o len c, s = .slice i o len (.known c) ∧ appendCap e n i o len c (k, l) H = some r) ∨ (∃ i o len d, s = .slice i o len (.own d) ∧ len + k = 0 ∧ r = .val s H) ∨
    (∃ i o len, s = .slice i o len (.own 0) ∧ len + k ≠ 0 ∧ appendOwn e n i o len (k, l) H = some r) ∨ ∃ i o len d, s = .slice i o len (.own d) ∧ len + k ≠ 0 ∧ appendRest e n i o len d (k, l) H = some r) := by
  unfold appendF at h
  obtain ⟨⟨k, l⟩, h1, h⟩ := bind_some h
  refine ⟨k, l, h1, ?_⟩
  clear h1
  split at h
  · exact .inl ⟨rfl, h⟩
  · exact .inr (.inl ⟨_, _, _, _, rfl, h⟩)
  · rename_i _ i o len d _
    cases hz : Nat.beq (len + (k, l).1) 0 with
    | true =>
      rw [hz] at h
      rw [beq_iff] at hz
      exact .inr (.inr (.inl ⟨_, _, _, _, rfl, hz, (Option.some.inj h).symm⟩))
    | false =>
      rw [hz] at h
      have hz : len + k ≠ 0 := fun e => by rw [← beq_iff] at e; rw [e] at hz; cases hz
      simp only [cond_false] at h
      cases hd : Nat.beq d 0 with
      | true =>
        rw [hd] at h
        rw [beq_iff] at hd; subst hd
        exact .inr (.inr (.inr (.inl ⟨_, _, _, rfl, hz, h⟩)))
      | false => rw [hd] at h; exact .inr (.inr (.inr (.inr ⟨_, _, _, _, rfl, hz, h⟩)))
  · cases h

theorem append_ok {t u e n b : Nat} {z : List AV} {ty : TypeId} {s x : AV} {cs cx : Value} {r : R} (ht : P.underlying t = some (.slice e)) (hu : ∃ d, P.underlying u = some d ∧ ∀ k, d ≠ .int k)
    (he : elemT P e = some (n, b, z)) (h : HR φ H w) (ha : appendF e n s x H = some r) (rs : Rel φ s cs) (rx : Rel φ x cx) : VOk P φ H w (Builtin.append_ #[t, u] ty #[cs, cx]) r := by
  obtain ⟨inf, zv, hi, rfl, rfl, hz0, hpos, hzl, hb, za, hza, rfl⟩ := elemT_some he
  have hzs := z_size hza hzl
  obtain ⟨k, l, h1, ha'⟩ := appendF_inv ha
  clear ha
  obtain ⟨hl, vs, r2, hlen, hf⟩ := appended_ok h hpos h1 rx
  have hf0 := hf w rfl
  rcases ha' with ⟨rfl, ha⟩ | ⟨i, o, len, c, rfl, ha⟩ | ⟨i, o, len, d, rfl, hz, rfl⟩ | ⟨i, o, len, rfl, hz, ha⟩ | ⟨i, o, len, d, rfl, hz, ha⟩
  · -- nil
    cases rs
    unfold appendNil at ha
    cases hk : Nat.beq k 0 with
    | true =>
      simp only [hk, cond_true] at ha
      obtain rfl := Option.some.inj ha
      rw [beq_iff] at hk; subst hk
      have := append_room (ty := ty) (base := none) (len := 0) (cap := 0) ht hu hi hl hf0 (Nat.le_refl _)
      exact VOk.same h this .nulSlice
    | false =>
      simp only [hk, cond_false] at ha
      obtain ⟨hle, ha⟩ := cond_some ha
      rw [ble_iff] at hle
      obtain rfl := Option.some.inj ha
      have hk0 : k ≠ 0 := fun e => by subst e; simp at hk
      obtain ⟨newCap, h2, h3⟩ := append_grow (ty := ty) (w := w) (base := none) (len := 0) (cap := 0) (olds := []) ht hu hi hz0 hb (by omega) hl hf (fun w' _ => rfl) (by omega)
      have hg := grown (e := e) h (.nil : RelL φ [] []) r2 (len := 0) (n := inf.size) (by simp) hlen hzs h2
      rw [Nat.zero_add] at h3 hg h2
      refine VOk.of h3 ?_ (by simpa using hg)
      exact .slice (cap := .own 0) (upd_same _ _ _ _) h2 rfl (.inl rfl)
  · -- a capacity that is known
    cases rs
    rename_i q b c' o' hb' hl' hc' ho'
    obtain rfl : c' = c := hc'
    obtain rfl : o' = b.base + o := by
      rcases ho' with h | ⟨_, _, h⟩
      · exact h
      · cases h
    unfold appendCap at ha
    cases hk : Nat.ble (len + k) c' with
    | true =>
      simp only [hk, cond_true] at ha
      rw [ble_iff] at hk
      obtain ⟨H', h2, rfl⟩ := map_some ha
      obtain ⟨w', h3, h4, h5⟩ := store_ok (P := P) h hb' h2 r2
      have := append_room (ty := ty) (base := some ⟨b.b, b.base + o, none⟩) (len := len) (cap := c') ht hu hi hl hf0 hk
      simp only [Addr.add_lit, Nat.add_assoc] at this
      rw [h3] at this
      exact VOk.of this (.slice (cap := .known c') (h5.sub _ _ hb') hk rfl (.inl rfl)) ⟨h4, h5⟩
    | false =>
      simp only [hk, cond_false] at ha
      obtain ⟨hle, ha⟩ := cond_some ha
      rw [ble_iff] at hle
      have hk' : ¬ len + k ≤ c' := fun e => by rw [← ble_iff, hk] at e; cases e
      obtain ⟨old, h2, rfl⟩ := map_some ha
      obtain ⟨olds, h3, h4, h5⟩ := cells_of h hb' h2
      obtain ⟨newCap, h6, h7⟩ := append_grow (ty := ty) (w := w) (base := some ⟨b.b, b.base + o, none⟩) (len := len) (cap := c') (olds := olds) ht hu hi hz0 hb hle hl hf
        (fun w' hw => run_cells h3 fun j v hv => by have := h5 j v hv; simpa [World.cell?, hw] using this) (by omega)
      have hg := grown (e := e) h (RelL.of_chain h4) r2 h3 hlen hzs h6
      exact VOk.of h7 (.slice (cap := .own 0) (upd_same _ _ _ _) h6 rfl (.inl rfl)) hg
  · -- nothing comes to nothing
    have hr := rs
    cases rs
    rename_i q b c' o' hb' hl' hc' ho'
    obtain rfl : len = 0 := by omega
    obtain rfl : k = 0 := by omega
    obtain rfl : vs = [] := List.eq_nil_of_length_eq_zero (by rw [hlen, Nat.zero_mul])
    have := append_room (ty := ty) (base := some ⟨b.b, o', none⟩) (len := 0) (cap := c') ht hu hi hl hf0 (Nat.zero_le _)
    exact VOk.same h this hr
  · -- one that is not
    cases rs
    rename_i q b c' o' hb' hl' hc' ho'
    obtain rfl : c' = q := hc'
    unfold appendOwn at ha
    split at ha
    case h_2 => cases ha
    rename_i m e' fz sz hg
    obtain ⟨hc, ha⟩ := cond_some ha
    obtain rfl := Option.some.inj ha
    simp only [Bool.and_eq_true, beq_iff, ble_iff] at hc
    obtain ⟨⟨⟨⟨⟨⟨rfl, rfl⟩, rfl⟩, hle⟩, hfz⟩, hin⟩, hal⟩ := hc
    obtain ⟨co, h2, h3⟩ := h.obj i _ b c' hg hb'
    cases co <;> simp only [RelO] at h3
    rename_i c e2 fr
    obtain ⟨rfl, hcell, hfr, hsz⟩ := h3
    have hsz := hsz (by omega)
    have hfr' : fr.2 ≤ len * inf.size := fz_le hfz hfr
    have hll : len * inf.size ≤ c' * inf.size := Nat.mul_le_mul_right _ hl'
    rcases Nat.lt_or_ge c' (len + k) with hk | hk
    · -- it grows
      have hlen2 : ((c.toList.drop b.base).take (len * inf.size)).length = len * inf.size := by simp; omega
      obtain ⟨newCap, h6, h7⟩ := append_grow (ty := ty) (w := w) (base := some ⟨b.b, o', none⟩) (len := len) (cap := c') (olds := (c.toList.drop b.base).take (len * inf.size)) ht hu hi hz0 hb hle hl hf
        (fun w' hw => by
          rcases ho' with rfl | ⟨rfl, _, _⟩
          · exact run_cells hlen2 fun j v hv => by
              rcases Nat.lt_or_ge j (len * inf.size) with hj | hj
              · rw [List.getElem?_take_of_lt hj, List.getElem?_drop] at hv
                simpa [World.cell?, hw, h2] using hv
              · rw [List.getElem?_eq_none (by omega)] at hv; cases hv
          · show (loadCells _ (0 * inf.size)).run P w' = _
            simp [loadCells]; rfl) hk
      refine VOk.of (ψ := upd φ H.next ⟨w.heap.size, 0⟩ newCap) h7 (.slice (cap := .own 0) (upd_same _ _ _ _) h6 rfl (.inl rfl)) ?_
      refine h.renew i newCap rfl ⟨rfl, rfl, rfl⟩ ⟨rfl, fun o v ho => ?_, fun h hh => ⟨Nat.zero_le _, fun _ => rfl⟩, fun _ => by rw [Nat.zero_add]; exact (row_size (k := 0) hlen2 hlen hzs h6).symm⟩
      have r2' := r2.mono (upd_sub h ⟨w.heap.size, 0⟩ newCap)
      rw [Nat.zero_add]
      rcases getN_storeL _ _ _ _ _ ho with ⟨g1, g2, g3⟩ | ⟨g1, g2⟩
      · obtain ⟨cv, g4, g5⟩ := r2'.get g3
        refine ⟨cv, ?_, g5⟩
        have := (List.getElem?_eq_some_iff.1 g4).1
        rw [Array.getElem?_append_left (by simp; omega), Array.getElem?_append_right (by simp; omega)]
        simp only [List.size_toArray, hlen2, List.getElem?_toArray]; exact g4
      · obtain ⟨cv, g4, g5⟩ := hcell o v g2
        have hos := (Array.getElem?_eq_some_iff.1 g4).1
        have hlv := r2.length
        have g6 : o < len * inf.size := by
          rcases g1 with g1 | g1
          · exact g1
          · exfalso
            have : (c' + 1) * inf.size ≤ (len + k) * inf.size := Nat.mul_le_mul_right _ hk
            rw [Nat.add_mul] at this
            rw [hlv, hlen, ← Nat.add_mul] at g1
            omega
        refine ⟨cv, ?_, g5.mono (upd_sub h _ _)⟩
        rw [Array.getElem?_append_left (by simp; omega), Array.getElem?_append_left (by simp; omega), List.getElem?_toArray, List.getElem?_take_of_lt g6, List.getElem?_drop]
        simpa using g4
    · -- it has room
      obtain rfl : o' = b.base := by
        rcases ho' with h | ⟨_, h, _⟩
        · exact h
        · omega
      have hmul : (len + k) * inf.size ≤ c' * inf.size := Nat.mul_le_mul_right _ hk
      have hroom : b.base + len * inf.size + vs.length ≤ c.size := by rw [hlen]; rw [Nat.add_mul] at hmul; omega
      have h8 := append_room (ty := ty) (base := some ⟨b.b, b.base, none⟩) (len := len) (cap := c') ht hu hi hl hf0 hk
      have h9 := run_storeCells_atF P b.b (b.base + len * inf.size) e2 fr vs 0 c w h2 (by omega) (by omega) (oneCell_of_allVal r2 hal)
      simp only [Addr.add_lit] at h8
      rw [h9] at h8
      have hset := setRow_heap w b.b c (c.toList.take (b.base + len * inf.size + 0) ++ vs ++ c.toList.drop (b.base + len * inf.size + 0 + vs.length)).toArray e2 fr h2
      refine VOk.of (ψ := upd φ H.next b c') h8 (.slice (cap := .own 0) (upd_same _ _ _ _) hk rfl (.inl rfl)) ?_
      refine h.rename hg hb' rfl (by simp) hset (fun k hk => setRow_other w b.b k _ hk) ⟨rfl, rfl, rfl⟩ ⟨rfl, ?_, hfr, fun _ => ?_⟩
      · exact stored_rel (fun o v ho => by obtain ⟨cv, g1, g2⟩ := hcell o v ho; exact ⟨cv, g1, g2.mono (upd_sub h _ _)⟩) (r2.mono (upd_sub h _ _)) hroom
      · rw [hsz]; simp; omega
  · -- elements were dropped ahead
    cases rs
    rename_i q b c' o' hb' hl' hc' ho'
    obtain rfl : c' + d = q := hc'
    unfold appendRest at ha
    split at ha
    case h_2 => cases ha
    rename_i m e' fz sz hg
    obtain ⟨hc, ha⟩ := cond_some ha
    obtain ⟨old, hold, rfl⟩ := map_some ha
    simp only [Bool.and_eq_true, beq_iff, ble_iff] at hc
    obtain ⟨⟨⟨⟨⟨rfl, rfl⟩, rfl⟩, hle⟩, hfz⟩, hal⟩ := hc
    obtain ⟨co, h2, h3⟩ := h.obj i _ b (c' + d) hg hb'
    cases co <;> simp only [RelO] at h3
    rename_i c e2 fr
    obtain ⟨rfl, hcell, hfr, hsz⟩ := h3
    have hsz := hsz (by omega)
    rw [Nat.add_mul] at hsz
    have hfr' : fr.2 ≤ d * inf.size + len * inf.size := fz_le hfz hfr
    have hll : len * inf.size ≤ c' * inf.size := Nat.mul_le_mul_right _ hl'
    obtain ⟨olds, o3, o4, o5⟩ := loadL_rel h hb' hg _ _ _ hold
    have r1 := RelL.of_chain o4
    rcases Nat.lt_or_ge c' (len + k) with hk | hk
    · -- it grows
      obtain ⟨newCap, h6, h7⟩ := append_grow (ty := ty) (w := w) (base := some ⟨b.b, o', none⟩) (len := len) (cap := c') (olds := olds) ht hu hi hz0 hb hle hl hf
        (fun w' hw => by
          rcases ho' with rfl | ⟨rfl, _, _⟩
          · exact run_cells o3 fun j v hv => by have := o5 j v hv; simpa [World.cell?, hw] using this
          · obtain rfl : olds = [] := List.eq_nil_of_length_eq_zero (by rw [o3, Nat.zero_mul])
            show (loadCells _ (0 * inf.size)).run P w' = _
            simp [loadCells]; rfl) hk
      refine VOk.of (ψ := upd φ H.next ⟨w.heap.size, 0⟩ newCap) h7 (.slice (cap := .own 0) (upd_same _ _ _ _) h6 rfl (.inl rfl)) ?_
      have hr := row_rel (zs := (Builtin.zeroCells zv.cells (newCap - (len + k))).toList) (e := e2) (size := inf.size) (q := newCap) ((r1.append r2).mono (upd_sub h ⟨w.heap.size, 0⟩ newCap)) (fun _ => by
        have := row_size (k := 0) o3 hlen hzs h6
        rw [← this]; simp)
      refine h.renew i newCap rfl ⟨rfl, rfl, rfl⟩ ⟨rfl, fun o v ho => ?_, fun h hh => ⟨Nat.zero_le _, fun _ => rfl⟩, fun hz => ?_⟩
      · have := hr.2.1 o v ho; simpa using this
      · have := hr.2.2.2 hz; simpa using this
    · -- it has room
      obtain rfl : o' = b.base + d * inf.size := by
        rcases ho' with h | ⟨_, h, _⟩
        · exact h
        · omega
      have hmul : (len + k) * inf.size ≤ c' * inf.size := Nat.mul_le_mul_right _ hk
      have hroom : b.base + d * inf.size + len * inf.size + vs.length ≤ c.size := by rw [hlen]; rw [Nat.add_mul] at hmul; omega
      have h8 := append_room (ty := ty) (base := some ⟨b.b, b.base + d * inf.size, none⟩) (len := len) (cap := c') ht hu hi hl hf0 hk
      have h9 := run_storeCells_atF P b.b (b.base + d * inf.size + len * inf.size) e2 fr vs 0 c w h2 (by omega) (by omega) (oneCell_of_allVal r2 hal)
      simp only [Addr.add_lit] at h8
      rw [h9] at h8
      have hset := setRow_heap w b.b c (c.toList.take (b.base + d * inf.size + len * inf.size + 0) ++ vs ++ c.toList.drop (b.base + d * inf.size + len * inf.size + 0 + vs.length)).toArray e2 fr h2
      refine VOk.of (ψ := upd φ H.next ⟨b.b, b.base + d * inf.size⟩ c') h8 (.slice (b := ⟨b.b, b.base + d * inf.size⟩) (cap := .own 0) (upd_same _ _ _ _) hk rfl (.inl (Nat.add_zero _).symm)) ?_
      refine h.rename (b := ⟨b.b, b.base + d * inf.size⟩) hg hb' rfl (by simp) hset (fun k hk => setRow_other w b.b k _ hk) ⟨rfl, rfl, rfl⟩ ⟨rfl, fun o v ho => ?_, upFz_ok hfr, fun _ => ?_⟩
      · have r3 := (r1.append r2).mono (upd_sub h ⟨b.b, b.base + d * inf.size⟩ c')
        obtain ⟨cv, g1, g2⟩ := r3.get (getN_storeL_E ho)
        refine ⟨cv, ?_, g2⟩
        have hlt := (List.getElem?_eq_some_iff.1 g1).1
        rw [List.length_append, o3] at hlt
        have ht : (c.toList.take (b.base + d * inf.size + len * inf.size)).length = b.base + d * inf.size + len * inf.size := by simp; omega
        rw [Nat.add_zero, List.getElem?_toArray]
        rcases Nat.lt_or_ge o (len * inf.size) with ho2 | ho2
        · rw [List.append_assoc, List.getElem?_append_left (by show b.base + d * inf.size + o < _; omega), List.getElem?_take_of_lt (by show b.base + d * inf.size + o < _; omega)]
          rw [List.getElem?_append_left (by omega)] at g1
          have := o5 o cv g1
          simp only [World.cell?, h2, Option.isSome_none, Bool.false_eq_true, if_false] at this
          rw [← Nat.add_assoc] at this
          simpa using this
        · rw [List.append_assoc, List.getElem?_append_right (by show _ ≤ b.base + d * inf.size + o; omega), ht, List.getElem?_append_left (by show b.base + d * inf.size + o - _ < _; omega)]
          rw [List.getElem?_append_right (by omega), o3] at g1
          show vs[b.base + d * inf.size + o - (b.base + d * inf.size + len * inf.size)]? = _
          rw [show b.base + d * inf.size + o - (b.base + d * inf.size + len * inf.size) = o - len * inf.size by omega]
          exact g1
      · show b.base + d * inf.size + c' * inf.size = _
        simp; omega
end
end Go.Fx

/-! The other builtins. -/
namespace Go.Fx
set_option linter.unusedVariables false
set_option linter.unusedSimpArgs false

section
variable {P : Program} {φ : Nat → Option (Blk × Nat)} {H : Hp} {w : World}

theorem minN_eq (a b : Nat) : minN a b = Nat.min a b := by
  unfold minN; cases h : Nat.ble a b with
  | true => rw [ble_iff] at h; exact (Nat.min_eq_left h).symm
  | false =>
    have : ¬ a ≤ b := fun e => by rw [← ble_iff, h] at e; cases e
    show b = _; exact (Nat.min_eq_right (by omega)).symm

theorem get_map {r : Nat} {es : Array MapEntry} {clock : Nat} (hb : w.heap[r]? = some (.map es clock)) : (getObj r).run P w = .ok (.map es clock) w := by simp [getObj, Sem.run, hb]
theorem set_map {r : Nat} {es : Array MapEntry} {clock : Nat} (o : Obj) (hb : w.heap[r]? = some (.map es clock)) : (setObj r o).run P w = .ok () { w with heap := w.heap.setIfInBounds r o } := by simp [setObj, Sem.run, hb]
theorem get_iter {r : Nat} {m : Option Nat} {a : Nat} {b : Array Nat} {c : Nat} (hb : w.heap[r]? = some (.mapIter m a b c)) : (getObj r).run P w = .ok (.mapIter m a b c) w := by simp [getObj, Sem.run, hb]
theorem set_iter {r : Nat} {m : Option Nat} {a : Nat} {b : Array Nat} {c : Nat} (o : Obj) (hb : w.heap[r]? = some (.mapIter m a b c)) : (setObj r o).run P w = .ok () { w with heap := w.heap.setIfInBounds r o } := by simp [setObj, Sem.run, hb]

/-- nothing is stored, wherever that be -/
theorem store_any {b : Blk} {o o' : Nat} {vs : List Value} {w' : World} (h : (storeCells (b.at o) vs).run P w = .ok () w') (ho : o' = b.base + o ∨ vs = []) : (storeCells ⟨b.b, o', none⟩ vs).run P w = .ok () w' := by
  rcases ho with rfl | rfl
  · exact h
  · exact h
theorem load_any {b : Blk} {o o' n : Nat} {vs : List Value} (h : (loadCells (b.at o) n).run P w = .ok vs.toArray w) (ho : o' = b.base + o ∨ n = 0) : (loadCells ⟨b.b, o', none⟩ n).run P w = .ok vs.toArray w := by
  rcases ho with rfl | rfl
  · exact h
  · exact h
/-- copy -/
theorem copy_run {t e n : Nat} {rest : List TypeId} {ty : TypeId} {base : Option Addr} {dLen dc k : Nat} {cs : Value} {vs : List Value} {w' : World} (ht : P.underlying t = some (.slice e)) (hn : sizeT P e = some n)
    (hl : (Builtin.lenOf cs).run P w = .ok k w) (hf : (Builtin.firstCells n (Nat.min k dLen) cs).run P w = .ok vs.toArray w)
    (hs : match base with | some a => (storeCells a vs).run P w = .ok () w' | none => w' = w) :
    (Builtin.copy_ (t :: rest).toArray ty #[.slice base dLen dc, cs]).run P w = .ok (.int .i64 (Int.ofNat (Nat.min k dLen))) w' := by
  have hsz := sizeOf_run (w := w) hn
  cases base with
  | none =>
    subst hs
    simp [Builtin.copy_, run_underlying ht, hl, hsz, hf, goInt]
  | some a =>
    simp [Builtin.copy_, run_underlying ht, hl, hsz, hf, goInt]
    simp at hs
    simp [hs]

theorem toCells_take {s : ByteArray} {l : List Nat} (h : s.data.toList.map (·.toNat) = l) (m : Nat) : RelL φ (toCells (l.take m)) (((s.extract 0 m).data.map fun b => Value.int .u8 b.toNat)).toList := by
  subst h
  rw [Array.toList_map, Lib.extract_data, List.drop_zero, Nat.sub_zero]
  rw [← List.map_take]
  unfold toCells
  induction s.data.toList.take m with
  | nil => exact .nil
  | cons a l ih => exact .cons (.int _ _) ih

theorem copy_ok {t e n : Nat} {rest : List TypeId} {ty : TypeId} {d s : AV} {cd cs : Value} {r : R} (ht : P.underlying t = some (.slice e)) (hn : sizeT P e = some n) (h : HR φ H w) (ha : copyF n d s H = some r)
    (rd : Rel φ d cd) (rs : Rel φ s cs) : VOk P φ H w (Builtin.copy_ (t :: rest).toArray ty #[cd, cs]) r := by
  unfold copyF at ha
  split at ha
  · rename_i i o dLen cap l
    obtain ⟨h1, ha⟩ := cond_some ha
    rw [beq_iff] at h1; subst h1
    obtain ⟨H', h2, rfl⟩ := map_some ha
    cases rd; rename_i q b c' o' hb' hl' hc' ho'
    cases rs; rename_i s hs
    rw [lenL_eq, str_len hs, minN_eq] at h2 ⊢
    obtain ⟨w', h3, h4, h5⟩ := store_ok (P := P) h hb' h2 (toCells_take hs (Nat.min s.size dLen))
    exact VOk.of (copy_run (base := some ⟨b.b, o', none⟩) ht hn (k := s.size) rfl (vs := (((s.extract 0 (Nat.min s.size dLen)).data.map fun b => Value.int .u8 b.toNat)).toList) (by rw [Array.toArray_toList]; rfl) (store_any h3 (ho'.imp_right fun ⟨e, _⟩ => by
      subst e
      rw [show ∀ x, Nat.min x 0 = 0 from Nat.min_zero]
      apply List.eq_nil_of_length_eq_zero
      simp))) (.int _ _) ⟨h4, h5⟩
  · rename_i i o dLen cap j p sLen cap2
    obtain ⟨l, h1, ha⟩ := bind_some ha
    obtain ⟨H', h2, rfl⟩ := map_some ha
    cases rd; rename_i q b c' o' hb' hl' hc' ho'
    cases rs; rename_i q2 b2 c2 o2 hb2 hl2 hc2 ho2
    rw [minN_eq] at h1 ⊢
    obtain ⟨vs, h3, h4, h5⟩ := cells_of h hb2 h1
    obtain ⟨w', h6, h7, h8⟩ := store_ok (P := P) h hb' h2 (RelL.of_chain h4)
    exact VOk.of (copy_run (base := some ⟨b.b, o', none⟩) ht hn (k := sLen) rfl (load_any (run_cells h3 h5) (ho2.imp_right fun ⟨e, _⟩ => by subst e; rw [show ∀ x, Nat.min 0 x = 0 from Nat.zero_min, Nat.zero_mul])) (store_any h6 (ho'.imp_right fun ⟨e, _⟩ => by
      subst e
      rw [show ∀ x, Nat.min x 0 = 0 from Nat.min_zero, Nat.zero_mul] at h3
      exact List.eq_nil_of_length_eq_zero h3))) (.int _ _) ⟨h7, h8⟩
  · obtain rfl := Option.some.inj ha
    cases rd; rename_i q b c' o' hb' hl' hc' ho'
    cases rs
    rename_i o dl _
    have := copy_run (P := P) (w := w) (w' := w) (rest := rest) (ty := ty) (base := some ⟨b.b, o', none⟩) (dLen := dl) (dc := c') ht hn (k := 0) (cs := .slice none 0 0) (vs := []) rfl rfl rfl
    rw [show ∀ x, Nat.min 0 x = 0 from Nat.zero_min] at this
    exact VOk.same h this (.int _ _)
  · obtain rfl := Option.some.inj ha
    cases rd; cases rs
    exact VOk.same h (copy_run (P := P) (w := w) (w' := w) (rest := rest) (ty := ty) (base := none) (dLen := 0) (dc := 0) ht hn (k := 0) (cs := .slice none 0 0) (vs := []) rfl rfl rfl) (.int _ _)
  · obtain rfl := Option.some.inj ha
    cases rd
    cases rs; rename_i q2 b2 c2 o2 hb2 hl2 hc2 ho2
    rename_i o sl _
    have := copy_run (P := P) (w := w) (w' := w) (rest := rest) (ty := ty) (base := none) (dLen := 0) (dc := 0) ht hn (k := sl) (cs := .slice (some ⟨b2.b, o2, none⟩) sl c2) (vs := []) rfl (by
      rw [show ∀ x, Nat.min x 0 = 0 from Nat.min_zero]
      show (loadCells _ (0 * n)).run P w = _
      rw [Nat.zero_mul]; rfl) rfl
    rw [show ∀ x, Nat.min x 0 = 0 from Nat.min_zero] at this
    exact VOk.same h this (.int _ _)
  · cases ha

/-- len -/
theorem len_str {t : TypeId} {rest : List TypeId} {ty : TypeId} {x v : AV} {cx : Value} (ht : P.underlying t = some .string) (ha : lenStr x = some v) (rx : Rel φ x cx) :
    ∃ cv, (Builtin.len_ (t :: rest).toArray ty #[cx]).run P w = .ok cv w ∧ Rel φ v cv := by
  unfold lenStr at ha
  split at ha
  · obtain rfl := Option.some.inj ha
    cases rx; rename_i s hs
    rw [lenL_eq, str_len hs]
    refine ⟨_, ?_, .int _ _⟩
    simp [Builtin.len_, run_underlying ht, goInt]
  · cases ha
theorem len_sl {t e : TypeId} {rest : List TypeId} {ty : TypeId} {x v : AV} {cx : Value} (ht : P.underlying t = some (.slice e)) (ha : lenSl x = some v) (rx : Rel φ x cx) :
    ∃ cv, (Builtin.len_ (t :: rest).toArray ty #[cx]).run P w = .ok cv w ∧ Rel φ v cv := by
  unfold lenSl at ha
  split at ha <;> first | cases ha | skip
  all_goals
    cases rx
    refine ⟨_, ?_, .int _ _⟩
    simp [Builtin.len_, run_underlying ht, goInt]
theorem len_arr {t n e : TypeId} {rest : List TypeId} {ty : TypeId} {cx : Value} (ht : P.underlying t = some (.array n e)) :
    ∃ cv, (Builtin.len_ (t :: rest).toArray ty #[cx]).run P w = .ok cv w ∧ Rel φ (.int .i64 (Int.ofNat n)) cv := by
  refine ⟨_, ?_, .int _ _⟩
  simp [Builtin.len_, run_underlying ht, goInt]
theorem RelE.length {l : List (AV × AV × Nat)} {es : List MapEntry} (r : RelE φ l es) : l.length = es.length := by
  induction r with
  | nil => rfl
  | cons _ _ _ ih => simp [ih]
theorem map_obj {r q : Nat} {b : Blk} {es : List (AV × AV × Nat)} {k : Nat} (h : HR φ H w) (hr : φ r = some (b, q)) (hg : H.get r = some (.map es k)) : ∃ es', w.heap[b.b]? = some (.map es' k) ∧ RelE φ es es'.toList := by
  obtain ⟨co, h1, h2⟩ := h.obj _ _ _ _ hg hr
  cases co <;> simp only [RelO] at h2
  obtain ⟨rfl, h2⟩ := h2
  exact ⟨_, h1, h2⟩
theorem len_map {t k e : TypeId} {rest : List TypeId} {ty : TypeId} {x v : AV} {cx : Value} (h : HR φ H w) (ht : P.underlying t = some (.map k e)) (ha : lenMap x H = some v) (rx : Rel φ x cx) :
    ∃ cv, (Builtin.len_ (t :: rest).toArray ty #[cx]).run P w = .ok cv w ∧ Rel φ v cv := by
  unfold lenMap at ha
  split at ha
  · obtain rfl := Option.some.inj ha
    cases rx
    refine ⟨_, ?_, .int _ _⟩
    simp [Builtin.len_, run_underlying ht, goInt]
  · split at ha
    · rename_i es k hg
      obtain rfl := Option.some.inj ha
      cases rx; rename_i q b hb
      obtain ⟨es', h1, h2⟩ := map_obj h hb hg
      rw [lenL_eq, h2.length]
      refine ⟨_, ?_, .int _ _⟩
      simp [Builtin.len_, run_underlying ht, goInt, get_map h1]
    · cases ha
  · cases ha
theorem cap_sl {t e : TypeId} {rest : List TypeId} {ty : TypeId} {x v : AV} {cx : Value} (ht : P.underlying t = some (.slice e)) (ha : capSl x = some v) (rx : Rel φ x cx) :
    ∃ cv, (Builtin.cap_ (t :: rest).toArray ty #[cx]).run P w = .ok cv w ∧ Rel φ v cv := by
  unfold capSl at ha
  split at ha
  · obtain rfl := Option.some.inj ha
    cases rx; rename_i q b c' o' hb' hl' hc' ho'
    obtain rfl := hc'
    refine ⟨_, ?_, .int _ _⟩
    simp [Builtin.cap_, run_underlying ht, goInt]
  · obtain rfl := Option.some.inj ha
    cases rx
    refine ⟨_, ?_, .int _ _⟩
    simp [Builtin.cap_, run_underlying ht, goInt]
  · cases ha

/-- a map is turned -/
theorem map_turn {r q : Nat} {b : Blk} {es es2 : List (AV × AV × Nat)} {k k2 : Nat} {es' : Array MapEntry} (h : HR φ H w) (hr : φ r = some (b, q)) (hg : H.get r = some (.map es k)) (h1 : w.heap[b.b]? = some (.map es' k)) {es2' : Array MapEntry} (r2 : RelE φ es2 es2'.toList) :
    HR φ (H.put r (.map es2 k2)) { w with heap := w.heap.setIfInBounds b.b (.map es2' k2) } ∧ Ext φ H w φ (H.put r (.map es2 k2)) { w with heap := w.heap.setIfInBounds b.b (.map es2' k2) } := by
  have hlt : b.b < w.heap.size := (Array.getElem?_eq_some_iff.1 h1).1
  refine h.turn (co := .map es2' k2) hg hr (by simp) (by simp [hlt]) (fun c hc => ?_) ⟨rfl, rfl, rfl⟩ ⟨rfl, r2⟩
  show (w.heap.setIfInBounds b.b _)[c]? = _
  rw [Array.getElem?_setIfInBounds_ne (Ne.symm hc)]

theorem undef_rel : Rel φ undefA (.tuple #[]) := .tuple .nil

theorem clear_map {t k e : TypeId} {rest : List TypeId} {ty : TypeId} {x : AV} {cx : Value} {r : R} (h : HR φ H w) (ht : P.underlying t = some (.map k e)) (ha : clearMap x H = some r) (rx : Rel φ x cx) :
    VOk P φ H w (Builtin.clear_ (t :: rest).toArray ty #[cx]) r := by
  unfold clearMap at ha
  split at ha
  · split at ha
    · rename_i es k hg
      obtain rfl := Option.some.inj ha
      cases rx; rename_i q b hb
      obtain ⟨es', h1, h2⟩ := map_obj h hb hg
      refine VOk.of ?_ undef_rel (map_turn h hb hg h1 (es2' := #[]) .nil)
      simp [Builtin.clear_, run_underlying ht, get_map h1, set_map _ h1]
    · cases ha
  · obtain rfl := Option.some.inj ha
    cases rx
    refine VOk.same h ?_ undef_rel
    simp [Builtin.clear_, run_underlying ht]
  · cases ha

theorem zeroCells_list (z : List Value) (n : Nat) : (Builtin.zeroCells z.toArray n).toList = (List.replicate n z).flatten := by
  apply List.ext_getElem?
  intro i
  simp only [Builtin.zeroCells, Array.toList_map, Array.toList_range, List.getElem?_map]
  rcases Nat.eq_zero_or_pos z.length with h0 | h0
  · have : z = [] := List.eq_nil_of_length_eq_zero h0
    subst this; simp
  rcases Nat.lt_or_ge i (n * z.length) with hi | hi
  · rw [List.getElem?_range (by simpa using hi)]
    simp only [Option.map_some]
    have hm : i % z.length < z.length := Nat.mod_lt _ h0
    have hx : (z.toArray)[i % z.toArray.size]! = z[i % z.length] := by simp [hm]
    rw [hx]
    symm
    clear hx
    induction n generalizing i with
    | zero => omega
    | succ n ih =>
      rw [List.replicate_succ, List.flatten_cons]
      rcases Nat.lt_or_ge i z.length with hz | hz
      · rw [List.getElem?_append_left hz, List.getElem?_eq_getElem hz]
        congr 1
        simp [Nat.mod_eq_of_lt hz]
      · rw [List.getElem?_append_right hz]
        have e : i % z.length = (i - z.length) % z.length := Nat.mod_eq_sub_mod hz
        have := ih (i - z.length) (by rw [Nat.add_mul, Nat.one_mul] at hi; omega) (Nat.mod_lt _ h0)
        rw [this]; congr 1
        simp only [e]
  · rw [List.getElem?_eq_none (by simpa using hi), List.getElem?_eq_none]
    · rfl
    · simp; exact hi

theorem clear_sl {t e n b : TypeId} {z : List AV} {rest : List TypeId} {ty : TypeId} {x : AV} {cx : Value} {r : R} (h : HR φ H w) (ht : P.underlying t = some (.slice e)) (he : elemT P e = some (n, b, z)) (ha : clearSl z x H = some r) (rx : Rel φ x cx) :
    VOk P φ H w (Builtin.clear_ (t :: rest).toArray ty #[cx]) r := by
  obtain ⟨inf, zv, hi, rfl, rfl, hz0, hpos, hzl, hb, za, hza, rfl⟩ := elemT_some he
  unfold clearSl at ha
  split at ha
  · obtain rfl := Option.some.inj ha
    cases rx
    exact VOk.same h (by simp [Builtin.clear_, run_underlying ht]) undef_rel
  · obtain rfl := Option.some.inj ha
    cases rx
    exact VOk.same h (by simp [Builtin.clear_, run_underlying ht]) undef_rel
  · rename_i i o n c
    cases rx; rename_i q b c' o' hb' hl' hc' ho'
    cases hn : Nat.beq n 0 with
    | true =>
      rw [hn, cond_true] at ha
      rw [beq_iff] at hn; subst hn
      obtain rfl := Option.some.inj ha
      exact VOk.same h (by simp [Builtin.clear_, run_underlying ht]) undef_rel
    | false =>
      rw [hn, cond_false] at ha
      obtain ⟨H', h2, rfl⟩ := map_some ha
      have hz := (ofConst_rel (φ := φ) hza).2.1
      have hr := RelL.replicate hz n
      obtain ⟨w', h3, h4⟩ := store_ok (P := P) h hb' h2 hr
      refine VOk.of ?_ undef_rel h4
      have e := zeroCells_list zv.cells.toList n
      rw [Array.toArray_toList] at e
      cases n with
      | zero => simp at hn
      | succ n => 
        obtain rfl : o' = b.base + o := by
          rcases ho' with e | ⟨e, _⟩
          · exact e
          · omega
        have h3' : (storeCells ⟨b.b, b.base + o, none⟩ (List.replicate (n + 1) zv.cells.toList).flatten).run P w = .ok () w' := h3
        simp [Builtin.clear_, run_underlying ht, zeroValue, typeInfo, hi, hz0, e, h3']
  · cases ha

theorem max2_ok {x y v : AV} {cx cy : Value} (ha : max2 x y = some v) (rx : Rel φ x cx) (ry : Rel φ y cy) : ∃ cv, (Builtin.max2 cx cy).run P w = .ok cv w ∧ Rel φ v cv := by
  unfold max2 at ha
  split at ha
  · obtain rfl := Option.some.inj ha
    cases rx; cases ry
    refine ⟨_, rfl, ?_⟩
    rw [intLt_eq]
    rename_i a k' b
    by_cases h : a < b
    · simp [h]; exact .int _ _
    · simp [h]; exact .int _ _
  · cases ha
theorem min2_ok {x y v : AV} {cx cy : Value} (ha : min2 x y = some v) (rx : Rel φ x cx) (ry : Rel φ y cy) : ∃ cv, (Builtin.min2 cx cy).run P w = .ok cv w ∧ Rel φ v cv := by
  unfold min2 at ha
  split at ha
  · obtain rfl := Option.some.inj ha
    cases rx; cases ry
    refine ⟨_, rfl, ?_⟩
    rw [intLt_eq]
    rename_i a k' b
    by_cases h : b < a
    · simp [h]; exact .int _ _
    · simp [h]; exact .int _ _
  · cases ha
theorem fold_ok {f : AV → AV → Option AV} {g : Value → Value → Sem Value} (hf : ∀ {x y v : AV} {cx cy : Value}, f x y = some v → Rel φ x cx → Rel φ y cy → ∃ cv, (g cx cy).run P w = .ok cv w ∧ Rel φ v cv) :
    ∀ {l : List AV} {vs : List Value} {x v : AV} {cx : Value}, foldO f x l = some v → Rel φ x cx → RelL φ l vs → ∃ cv, (vs.foldlM g cx).run P w = .ok cv w ∧ Rel φ v cv
  | [], _, x, v, cx, h, rx, r => by cases r; obtain rfl := Option.some.inj h; exact ⟨cx, rfl, rx⟩
  | y :: l, _, x, v, cx, h, rx, r => by
    cases r; rename_i vs cy ry r
    obtain ⟨z, h1, h2⟩ := bind_some (show (f x y).bind (fun z => foldO f z l) = some v from h)
    obtain ⟨cz, h3, h4⟩ := hf h1 rx ry
    obtain ⟨cv, h5, h6⟩ := fold_ok hf h2 h4 r
    refine ⟨cv, ?_, h6⟩
    rw [List.foldlM_cons]
    simp [h3, h5]
theorem max_ok {tys : Array TypeId} {ty : TypeId} {l : List AV} {vs : List Value} {v : AV} (ha : fold1 max2 l = some v) (r : RelL φ l vs) : ∃ cv, (Builtin.max_ tys ty vs.toArray).run P w = .ok cv w ∧ Rel φ v cv := by
  cases r with
  | nil => cases ha
  | cons rx r => exact fold_ok (fun h1 h2 h3 => max2_ok h1 h2 h3) ha rx r
theorem min_ok {tys : Array TypeId} {ty : TypeId} {l : List AV} {vs : List Value} {v : AV} (ha : fold1 min2 l = some v) (r : RelL φ l vs) : ∃ cv, (Builtin.min_ tys ty vs.toArray).run P w = .ok cv w ∧ Rel φ v cv := by
  cases r with
  | nil => cases ha
  | cons rx r => exact fold_ok (fun h1 h2 h3 => min2_ok h1 h2 h3) ha rx r
end
end Go.Fx

/-! Maps and their iterators. -/
namespace Go.Fx
set_option linter.unusedVariables false
set_option linter.unusedSimpArgs false

section
variable {P : Program} {φ : Nat → Option (Blk × Nat)} {H : Hp} {w : World}

inductive KeyD : Bool → TypeDesc → Prop where
  | int (k : IntKind) : KeyD false (.int k)
  | str : KeyD true .string
theorem keyT_some {kt : TypeId} {s : Bool} (h : keyT P kt = some s) : ∃ d, P.underlying kt = some d ∧ KeyD s d := by
  unfold keyT at h
  split at h
  · rename_i k hk; obtain rfl := Option.some.inj h; exact ⟨_, undF_some hk, .int k⟩
  · rename_i hk; obtain rfl := Option.some.inj h; exact ⟨_, undF_some hk, .str⟩
  · cases h
theorem check_run {kt : TypeId} {d : TypeDesc} {s : Bool} (hd : P.underlying kt = some d) (hk : KeyD s d) (e : Bool) (k : Value) : (Instr.checkKey e 10000 kt k).run P w = .ok () w := by
  show (Instr.checkKey e (9999 + 1) kt k).run P w = _
  unfold Instr.checkKey
  cases hk <;> simp [run_underlying hd]

theorem ba_beq (a b : ByteArray) : (a == b) = decide (a = b) := by
  rw [Bool.eq_iff_iff, decide_eq_true_eq]
  obtain ⟨a⟩ := a
  obtain ⟨b⟩ := b
  show (a == b) = true ↔ _
  rw [beq_iff_eq]
  simp

theorem key_eq {s : Bool} {d : TypeDesc} {k e : AV} {ck ce : Value} {b : Bool} (hd : KeyD s d) (h : keyEq s k e = some b) (rk : Rel φ k ck) (re : Rel φ e ce) :
    Instr.sameNow d ck ce = some b ∧ (b = true → e = k ∧ ce = ck ∧ Instr.sameBits 10000 ce ck = true) := by
  unfold keyEq at h
  split at h
  · rename_i a x b' y
    obtain ⟨h1, h2⟩ := cond_some h
    have := kn_inj h1; subst this
    obtain rfl := Option.some.inj h2
    cases rk; cases re; cases hd
    refine ⟨?_, fun hb => ?_⟩
    · show (if a = a then some (x == y) else none) = _
      rw [if_pos rfl, intEq_eq]; rfl
    · rw [intEq_eq, decide_eq_true_eq] at hb
      subst hb
      refine ⟨rfl, rfl, ?_⟩
      show (a == a && x == x) = true
      simp
  · rename_i x y
    obtain rfl := Option.some.inj h
    cases rk; rename_i cx hx
    cases re; rename_i cy hy
    cases hd
    rw [bytesEq_eq]
    have hiff : cx = cy ↔ x = y := by
      constructor
      · rintro rfl; rw [← hx, ← hy]
      · intro e
        rw [← hx, ← hy] at e
        have e' : cx.data.toList = cy.data.toList := nat_map_inj e
        have : cx.data = cy.data := Array.ext' e'
        cases cx; cases cy; simp at this; rw [this]
    refine ⟨?_, fun hb => ?_⟩
    · show some (cx == cy) = _
      congr 1
      rw [ba_beq, Bool.eq_iff_iff, decide_eq_true_eq, decide_eq_true_eq]; exact hiff
    · rw [decide_eq_true_eq] at hb
      have hc := hiff.2 hb
      subst hb; subst hc
      refine ⟨rfl, rfl, ?_⟩
      show (cx == cx) = true
      rw [ba_beq]; simp
  · cases h

theorem RelE.get {l : List (AV × AV × Nat)} {es : List MapEntry} (r : RelE φ l es) {i : Nat} {e : AV × AV × Nat} (h : l[i]? = some e) : ∃ e', es[i]? = some e' ∧ Rel φ e.1 e'.key ∧ Rel φ e.2.1 e'.val ∧ e'.born = e.2.2 := by
  induction r generalizing i with
  | nil => simp at h
  | cons a b _ ih =>
    cases i with
    | zero => simp at h; subst h; exact ⟨_, rfl, a, b, rfl⟩
    | succ i => simp at h ⊢; exact ih h

/-- what has been found -/
inductive Found (φ : Nat → Option (Blk × Nat)) (k : AV) (ck : Value) (es : List (AV × AV × Nat)) (es' : List MapEntry) (i : Nat) : Option (Nat × AV) → Option (Nat × Value) → Prop where
  | none : Found φ k ck es es' i none none
  | some {j : Nat} {n : Nat} {v : AV} {v' : Value} : es[j]? = some (k, v, n) → es'[j]? = some ⟨ck, v', n⟩ → Rel φ v v' → Instr.sameBits 10000 ck ck = true → Found φ k ck es es' i (some (i + j, v)) (some (i + j, v'))

theorem find_ok {s : Bool} {d : TypeDesc} {k : AV} {ck : Value} (hd : KeyD s d) (rk : Rel φ k ck) : ∀ {es : List (AV × AV × Nat)} {es' : List MapEntry} {i : Nat} {r : Option (Nat × AV)}, findKeyA s k es i = some r → RelE φ es es' →
    ∃ r', Instr.findNow d ck es' i = some r' ∧ Found φ k ck es es' i r r'
  | [], _, i, r, h, he => by
    cases he
    obtain rfl := Option.some.inj (show some none = some r from h)
    exact ⟨none, rfl, .none⟩
  | e :: es, _, i, r, h, he => by
    cases he; rename_i k1 v1 n1 kv vv es' r1 r2 he
    unfold findKeyA at h
    split at h
    · rename_i h1
      obtain rfl := Option.some.inj h
      obtain ⟨g1, g2⟩ := key_eq hd h1 rk r1
      obtain ⟨rfl, rfl, g3⟩ := g2 rfl
      refine ⟨some (i, vv), ?_, Found.some (j := 0) (n := n1) rfl rfl r2 g3⟩
      unfold Instr.findNow; rw [g1]
    · rename_i h1
      obtain ⟨g1, _⟩ := key_eq hd h1 rk r1
      obtain ⟨r', h3, h4⟩ := find_ok hd rk h he
      refine ⟨r', ?_, ?_⟩
      · unfold Instr.findNow; rw [g1]; exact h3
      · cases h4 with
        | none => exact .none
        | some a b c g => rw [Nat.add_assoc, Nat.add_comm 1]; exact .some (j := _ + 1) a b c g
    · cases h

theorem find_run {s : Bool} {d : TypeDesc} {kt : TypeId} {k : AV} {ck : Value} {es : List (AV × AV × Nat)} {es' : List MapEntry} {r : Option (Nat × AV)} (ht : P.underlying kt = some d) (hd : KeyD s d) (rk : Rel φ k ck)
    (h : findKeyA s k es 0 = some r) (re : RelE φ es es') : ∃ r', (Instr.findKey kt ck es').run P w = .ok r' w ∧ Found φ k ck es es' 0 r r' := by
  obtain ⟨r', h1, h2⟩ := find_ok hd rk h re
  refine ⟨r', ?_, h2⟩
  unfold Instr.findKey
  simp [run_underlying ht, h1]

theorem RelE.eraseIdx {l : List (AV × AV × Nat)} {es : List MapEntry} (r : RelE φ l es) (i : Nat) : RelE φ (l.eraseIdx i) (es.eraseIdx i) := by
  induction r generalizing i with
  | nil => exact .nil
  | cons a b r ih =>
    cases i with
    | zero => exact r
    | succ i => exact .cons a b (ih i)
theorem RelE.append {l m : List (AV × AV × Nat)} {es fs : List MapEntry} (r : RelE φ l es) (s : RelE φ m fs) : RelE φ (l ++ m) (es ++ fs) := by
  induction r with
  | nil => exact s
  | cons a b _ ih => exact .cons a b ih
theorem RelE.modify {l : List (AV × AV × Nat)} {es : List MapEntry} (r : RelE φ l es) {i n : Nat} {k v x : AV} {ck v' cx : Value} (h1 : l[i]? = some (k, v, n)) (h2 : es[i]? = some ⟨ck, v', n⟩) (rx : Rel φ x cx) :
    RelE φ (l.modify i fun e => (e.1, x, e.2.2)) (es.modify i fun e => { e with key := ck, val := cx }) := by
  induction r generalizing i with
  | nil => simp at h1
  | cons a b r ih =>
    cases i with
    | zero => simp at h1 h2; obtain ⟨rfl, rfl, rfl⟩ := h1; obtain ⟨rfl, rfl, _⟩ := h2; exact .cons a rx r
    | succ i => simp at h1 h2; exact .cons a b (ih h1 h2)

theorem delete_ok {t kt e : TypeId} {rest : List TypeId} {ty : TypeId} {s : Bool} {m k : AV} {cm ck : Value} {r : R} (h : HR φ H w) (ht : P.underlying t = some (.map kt e)) (hs : keyT P kt = some s) (ha : deleteF s m k H = some r)
    (rm : Rel φ m cm) (rk : Rel φ k ck) : VOk P φ H w (Builtin.delete_ (t :: rest).toArray ty #[cm, ck]) r := by
  obtain ⟨d, hd, hk⟩ := keyT_some hs
  unfold deleteF at ha
  split at ha
  · split at ha
    · rename_i es clock hg
      obtain ⟨f, h1, rfl⟩ := map_some ha
      cases rm; rename_i q b hb
      obtain ⟨es', h2, h3⟩ := map_obj h hb hg
      obtain ⟨f', h4, h5⟩ := find_run (P := P) (w := w) hd hk rk h1 h3
      cases h5 with
      | none =>
        refine VOk.of ?_ undef_rel (map_turn h hb hg h2 (es2' := es') h3)
        simp [Builtin.delete_, run_underlying ht, get_map h2, set_map _ h2, check_run hd hk, h4]
      | @some j n v v' g1 g2 g3 gs =>
        refine VOk.of ?_ undef_rel (map_turn h hb hg h2 (es2' := es'.eraseIdxIfInBounds (0 + j)) ?_)
        · simp [Builtin.delete_, run_underlying ht, get_map h2, set_map _ h2, check_run hd hk, h4]
        · rw [Array.toList_eraseIdxIfInBounds]; exact h3.eraseIdx _
    · cases ha
  · obtain rfl := Option.some.inj ha
    cases rm
    refine VOk.same h ?_ undef_rel
    simp [Builtin.delete_, run_underlying ht, check_run hd hk]
  · cases ha

theorem withOk_rel {ok b : Bool} {v : AV} {cv : Value} (r : Rel φ v cv) : Rel φ (withOk ok v b) (if ok then .tuple #[cv, .bool b] else cv) := by
  cases ok with
  | true => exact .tuple (.cons r (.cons (.bool b) .nil))
  | false => exact r
theorem zeroT_run {t : TypeId} {z : AV} (h : zeroT P t = some z) : ∃ zv, ofConst zv = some z ∧ ∀ w, (zeroValue t).run P w = .ok zv w := by
  unfold zeroT at h
  obtain ⟨zv, h1, h2⟩ := bind_some h
  obtain ⟨i, h3, h4⟩ := bind_some h1
  refine ⟨zv, h2, fun w => ?_⟩
  simp [zeroValue, typeInfo, infoF_some h3, h4]

theorem lookup_ok {t kt e : TypeId} {s ok : Bool} {z m k : AV} {cm ck : Value} {r : AV} (h : HR φ H w) (ht : P.underlying t = some (.map kt e)) (hs : keyT P kt = some s) (hz : zeroT P e = some z) (ha : lookupF s z ok m k H = some r)
    (rm : Rel φ m cm) (rk : Rel φ k ck) : ∃ cv, (Instr.lookup t cm ck ok).run P w = .ok cv w ∧ Rel φ r cv := by
  obtain ⟨d, hd, hk⟩ := keyT_some hs
  obtain ⟨zv, hz1, hz2⟩ := zeroT_run hz
  unfold lookupF at ha
  obtain ⟨es, h1, ha⟩ := bind_some ha
  obtain ⟨f, h2, rfl⟩ := map_some ha
  unfold entriesOf at h1
  split at h1
  · obtain rfl := Option.some.inj h1
    cases rm
    obtain ⟨f', h4, h5⟩ := find_run (P := P) (w := w) (es' := []) hd hk rk h2 .nil
    cases h5 with
    | none =>
      refine ⟨_, ?_, withOk_rel (ofConst_rel hz1).1⟩
      unfold Instr.lookup
      simp [run_underlying ht, check_run hd hk, h4, hz2]
    | @some j n v v' g1 g2 g3 gs => simp at g1
  · split at h1
    · rename_i es0 clock hg
      obtain rfl := Option.some.inj h1
      cases rm; rename_i q b hb
      obtain ⟨es', h6, h3⟩ := map_obj h hb hg
      obtain ⟨f', h4, h5⟩ := find_run (P := P) (w := w) hd hk rk h2 h3
      cases h5 with
      | none =>
        refine ⟨_, ?_, withOk_rel (ofConst_rel hz1).1⟩
        unfold Instr.lookup
        simp [run_underlying ht, check_run hd hk, h4, hz2, get_map h6]
      | @some j n v v' g1 g2 g3 gs =>
        refine ⟨_, ?_, withOk_rel g3⟩
        unfold Instr.lookup
        simp [run_underlying ht, check_run hd hk, h4, hz2, get_map h6]
    · cases h1
  · cases h1

theorem mapUpdate_ok {t kt e : TypeId} {s : Bool} {m k x : AV} {cm ck cx : Value} {r : R} (h : HR φ H w) (ht : P.underlying t = some (.map kt e)) (hs : keyT P kt = some s) (ha : mapUpdateF s m k x H = some r)
    (rm : Rel φ m cm) (rk : Rel φ k ck) (rx : Rel φ x cx) : ∃ H' w', r = .val undefA H' ∧ (Instr.mapUpdate t cm ck cx).run P w = .ok () w' ∧ HR φ H' w' ∧ Ext φ H w φ H' w' := by
  obtain ⟨d, hd, hk⟩ := keyT_some hs
  unfold mapUpdateF at ha
  split at ha
  · split at ha
    · rename_i es clock hg
      obtain ⟨f, h1, rfl⟩ := map_some ha
      cases rm; rename_i q b hb
      obtain ⟨es', h2, h3⟩ := map_obj h hb hg
      obtain ⟨f', h4, h5⟩ := find_run (P := P) (w := w) hd hk rk h1 h3
      cases h5 with
      | none =>
        obtain ⟨g1, g2⟩ := map_turn (k2 := clock + 1) (es2 := es ++ [(k, x, clock)]) h hb hg h2 (es2' := es'.push ⟨ck, cx, clock⟩) (by rw [Array.toList_push]; exact h3.append (.cons rk rx .nil))
        refine ⟨_, _, rfl, ?_, g1, g2⟩
        unfold Instr.mapUpdate
        simp [run_underlying ht, get_map h2, set_map _ h2, check_run hd hk, h4]
      | @some j n v v' g1 g2 g3 gs =>
        rw [Nat.zero_add] at h4 ⊢
        obtain ⟨g4, g5⟩ := map_turn (k2 := clock) (es2 := es.modify j fun e => (e.1, x, e.2.2)) h hb hg h2 (es2' := es'.modify j fun e => { e with key := ck, val := cx }) (by rw [Array.toList_modify]; exact h3.modify g1 g2 rx)
        refine ⟨_, _, rfl, ?_, g4, g5⟩
        have g6 : es'[j]? = some ⟨ck, v', n⟩ := by simpa using g2
        unfold Instr.mapUpdate
        simp [run_underlying ht, get_map h2, set_map _ h2, check_run hd hk, h4, g6, Instr.keyThatStays, gs]
    · cases ha
  · cases ha
end
end Go.Fx

/-! Iterators; what makes an object. -/
namespace Go.Fx
set_option linter.unusedVariables false
set_option linter.unusedSimpArgs false

section
variable {P : Program} {φ : Nat → Option (Blk × Nat)} {H : Hp} {w : World}

theorem ptr0 {ψ : Nat → Option (Blk × Nat)} {i n k off : Nat} (h : ψ i = some (⟨n, 0⟩, k)) : Rel ψ (.ptr i off) (.pointer (some ⟨n, off, none⟩)) := by
  have := RelV.ptr (off := off) h
  rwa [show (Blk.mk n 0).at off = ⟨n, off, none⟩ by unfold Blk.at; simp] at this
theorem slice0 {ψ : Nat → Option (Blk × Nat)} {i n q len c : Nat} {cap : Cp} (h : ψ i = some (⟨n, 0⟩, q)) (h1 : len ≤ c) (h2 : cap.rel c q) : Rel ψ (.slice i 0 len cap) (.slice (some ⟨n, 0, none⟩) len c) :=
  .slice h h1 h2 (.inl rfl)
/-- a new object -/
theorem new_ok {o : AObj} {co : Obj} {q : Nat} {s : Sem Value} {v : AV} {cv : Value} (h : HR φ H w) (e : s.run P w = .ok cv (w.alloc co)) (r : RelO (upd φ H.next ⟨w.heap.size, 0⟩ q) 0 q o co) (rv : Rel (upd φ H.next ⟨w.heap.size, 0⟩ q) v cv) :
    VOk P φ H w s (.val v (H.new o)) := VOk.of e rv (h.alloc q rfl ⟨rfl, rfl, rfl⟩ r)

theorem range_ok {t kt e : TypeId} {m : AV} {cm : Value} {r : R} (h : HR φ H w) (ht : P.underlying t = some (.map kt e)) (ha : rangeF m H = some r) (rm : Rel φ m cm) : VOk P φ H w (Instr.range t cm) r := by
  unfold rangeF at ha
  split at ha
  · obtain rfl := Option.some.inj ha
    cases rm
    refine new_ok (q := 0) (co := .mapIter none 0 #[] 0) (cv := .pointer (some ⟨w.heap.size, 0, none⟩)) h ?_ ⟨rfl, rfl, rfl, rfl, trivial⟩ (ptr0 (upd_same _ _ _ _))
    unfold Instr.range
    simp [run_underlying ht]
  · split at ha
    · rename_i es clock hg
      obtain rfl := Option.some.inj ha
      cases rm; rename_i r' _ q b hb
      obtain ⟨es', h1, h2⟩ := map_obj h hb hg
      refine new_ok (q := 0) (co := .mapIter (some b.b) clock #[] clock) (cv := .pointer (some ⟨w.heap.size, 0, none⟩)) h ?_ ⟨rfl, rfl, rfl, rfl, (b, q), upd_sub h _ _ _ _ hb, rfl⟩ (ptr0 (upd_same _ _ _ _))
      unfold Instr.range
      simp [run_underlying ht, get_map h1]
    · cases ha
  · cases ha

theorem anyEq_eq (n : Nat) (l : List Nat) : anyEq n l = l.contains n := by
  induction l with
  | nil => rfl
  | cons a l ih =>
    unfold anyEq
    rw [ih, List.contains_cons]
    cases h : Nat.beq a n with
    | true => rw [beq_iff] at h; subst h; simp
    | false =>
      have : a ≠ n := fun e => by rw [← beq_iff, h] at e; cases e
      have h2 : (n == a) = false := by simp; exact fun e => this e.symm
      rw [h2]; rfl

theorem RelE.filter {l : List (AV × AV × Nat)} {es : List MapEntry} (r : RelE φ l es) (f : Nat → Bool) : RelE φ (l.filter fun e => f e.2.2) (es.filter fun e => f e.born) := by
  induction r with
  | nil => exact .nil
  | @cons _ _ n _ _ _ _ a b _ ih =>
    rw [List.filter_cons, List.filter_cons]
    simp only
    cases f n with
    | true => exact .cons a b ih
    | false => exact ih
theorem RelE.all {l : List (AV × AV × Nat)} {es : List MapEntry} (r : RelE φ l es) (f : Nat → Bool) : l.all (fun e => f e.2.2) = es.all (fun e => f e.born) := by
  induction r with
  | nil => rfl
  | cons a b _ ih => rw [List.all_cons, List.all_cons, ih]
theorem RelE.find {l : List (AV × AV × Nat)} {es : List MapEntry} (r : RelE φ l es) (f : Nat → Bool) {e : AV × AV × Nat} (h : l.find? (fun e => f e.2.2) = some e) : ∃ e', es.find? (fun e => f e.born) = some e' ∧ Rel φ e.1 e'.key ∧ Rel φ e.2.1 e'.val := by
  induction r with
  | nil => cases h
  | @cons _ _ n _ _ _ _ a b _ ih =>
    rw [List.find?_cons] at h ⊢
    simp only at h ⊢
    cases hf : f n with
    | true => rw [hf] at h; obtain rfl := Option.some.inj h; exact ⟨_, rfl, a, b⟩
    | false => rw [hf] at h; exact ih h

def IterM (φ : Nat → Option (Blk × Nat)) : Option Nat → Option Nat → Prop
  | none, none => True
  | some r, some b => ∃ k, φ r = some k ∧ k.1.b = b
  | _, _ => False
theorem iter_obj {r q : Nat} {b : Blk} {m : Option Nat} {s t : Nat} {l : List Nat} (h : HR φ H w) (hr : φ r = some (b, q)) (hg : H.get r = some (.iter m s l t)) : ∃ m' l', w.heap[b.b]? = some (.mapIter m' s l' t) ∧ l'.toList = l ∧ IterM φ m m' ∧ b.base = 0 := by
  obtain ⟨co, h1, h2⟩ := h.obj _ _ _ _ hg hr
  cases co <;> simp only [RelO] at h2
  obtain ⟨h0, rfl, h2, rfl, h3⟩ := h2
  refine ⟨_, _, h1, h2, ?_, h0⟩
  rename_i m' _ _ _
  cases m <;> cases m' <;> exact h3

theorem next_ok {ty : TypeId} {it : AV} {ci : Value} {r : R} (h : HR φ H w) (ha : nextF it H = some r) (ri : Rel φ it ci) : VOk P φ H w (Instr.next ci false ty) r := by
  unfold nextF at ha
  split at ha
  case h_2 => cases ha
  cases ri; rename_i r' q b hb
  split at ha
  · rename_i s l t hg
    obtain rfl := Option.some.inj ha
    obtain ⟨m', l', h1, h2, h3, h0⟩ := iter_obj h hb hg
    obtain ⟨bn, bs⟩ := b
    obtain rfl : bs = 0 := h0
    cases m' with
    | some _ => exact h3.elim
    | none =>
      refine VOk.same h (cv := .tuple #[.bool false]) ?_ (.tuple (.cons (.bool _) .nil))
      show (Instr.next (.pointer (some ⟨bn, 0, none⟩)) false ty).run P w = _
      unfold Instr.next
      simp [get_iter h1]
  · rename_i m since seen last hg
    split at ha
    case h_2 => cases ha
    rename_i es clock hm
    obtain ⟨m', l', h1, h2, h3, h0⟩ := iter_obj h hb hg
    obtain ⟨bn, bs⟩ := b
    obtain rfl : bs = 0 := h0
    cases m' with
    | none => exact h3.elim
    | some mb =>
    obtain ⟨⟨mb, k⟩, hmb, rfl⟩ := h3
    obtain ⟨es', h4, h5⟩ := map_obj h hmb hm
    cases hc : !seen.isEmpty && !es.isEmpty && es.all (fun e => Nat.ble last e.2.2) with
    | true => rw [hc] at ha; cases ha
    | false =>
    rw [hc, cond_false] at ha
    have hguard : (!l'.isEmpty && !es'.isEmpty && es'.all (fun e => decide (e.born ≥ last))) = false := by
      rw [← hc, ← h2]
      have e1 : l'.isEmpty = l'.toList.isEmpty := by cases l'; simp
      have e2 : es'.isEmpty = es.isEmpty := by
        have := h5.length
        rw [Bool.eq_iff_iff, List.isEmpty_iff_length_eq_zero]
        simp [this]
      have e3 : es'.all (fun e => decide (e.born ≥ last)) = es.all (fun e => Nat.ble last e.2.2) := by
        rw [← Array.all_toList, ← h5.all (fun n => decide (n ≥ last))]
        congr 1; funext e; rw [ble_eq]
      rw [e1, e2, e3]
    have hleft := h5.filter fun n => !(anyEq n seen)
    have hl2 : (es'.filter fun e => !l'.contains e.born).toList = es'.toList.filter fun e => !(anyEq e.born seen) := by
      rw [Array.toList_filter]; congr 1; funext e; rw [anyEq_eq, ← h2]; simp
    unfold nextOf at ha
    split at ha
    · rename_i hf
      rw [hf] at hleft
      have hnil : es'.toList.filter (fun e => !(anyEq e.born seen)) = [] := by
        generalize es'.toList.filter (fun e => !(anyEq e.born seen)) = x at hleft; cases hleft; rfl
      have hemp : (es'.filter fun e => !l'.contains e.born) = #[] := by apply Array.ext'; rw [hl2, hnil]
      obtain rfl := Option.some.inj ha
      refine VOk.same h (cv := .tuple #[.bool false]) ?_ (.tuple (.cons (.bool _) .nil))
      show (Instr.next (.pointer (some ⟨bn, 0, none⟩)) false ty).run P w = _
      unfold Instr.next
      simp only [Sem.run_bind, get_iter h1, Result.andThen_ok, get_map h4, hguard, hemp]
      simp [Question.forced]
    · rename_i e hf
      obtain ⟨k1, v1, n1⟩ := e
      obtain ⟨hlt, ha⟩ := cond_some ha
      rw [blt_iff] at hlt
      simp only at hlt
      obtain rfl := Option.some.inj ha
      rw [hf] at hleft
      have : ∃ e', es'.toList.filter (fun e => !(anyEq e.born seen)) = [e'] ∧ e'.born = n1 ∧ Rel φ k1 e'.key ∧ Rel φ v1 e'.val := by
        generalize es'.toList.filter (fun e => !(anyEq e.born seen)) = x at hleft
        cases hleft; rename_i a b c; cases c; exact ⟨_, rfl, rfl, a, b⟩
      obtain ⟨e', he, rfl, rk, rv⟩ := this
      have hone : (es'.filter fun e => !l'.contains e.born) = #[e'] := by apply Array.ext'; rw [hl2, he]
      have hbl : bn < w.heap.size := (Array.getElem?_eq_some_iff.1 h1).1
      have hturn := h.turn (w' := { w with heap := w.heap.setIfInBounds bn (.mapIter (some mb.b) since (l'.push e'.born) clock) }) (o' := .iter (some m) since (seen ++ [e'.born]) clock) (co := .mapIter (some mb.b) since (l'.push e'.born) clock) hg hb (by simp) (by simp [hbl])
        (fun c hc => by show (w.heap.setIfInBounds bn _)[c]? = _; rw [Array.getElem?_setIfInBounds_ne (Ne.symm hc)]) ⟨rfl, rfl, rfl⟩ ⟨rfl, rfl, by rw [Array.toList_push, h2], rfl, (mb, k), hmb, rfl⟩
      refine VOk.of (cv := .tuple #[.bool true, e'.key, e'.val]) ?_ (.tuple (.cons (.bool _) (.cons rk (.cons rv .nil)))) hturn
      show (Instr.next (.pointer (some ⟨bn, 0, none⟩)) false ty).run P w = _
      unfold Instr.next
      simp only [Sem.run_bind, get_iter h1, Result.andThen_ok, get_map h4, hguard, hone]
      simp [Question.forced, hlt, show ¬ since ≤ e'.born by omega, set_iter _ h1]
    · cases ha
  · cases ha

theorem entry_ok {it : AV} {ci : Value} {r : R} (h : HR φ H w) (ha : entryF it H = some r) (ri : Rel φ it ci) : VOk P φ H w (Instr.entry ci) r := by
  unfold entryF at ha
  split at ha
  case h_2 => cases ha
  cases ri; rename_i r' q b hb
  split at ha
  case h_2 => cases ha
  rename_i m since seen stepped hg
  split at ha
  case h_2 => cases ha
  rename_i es clock stamp hm hs
  obtain ⟨h0, ha2⟩ := cond_some ha
  rw [beq_iff] at h0; subst h0
  obtain ⟨e, he, rfl⟩ := map_some ha2
  obtain ⟨m', l', h1, h2, h3, h0⟩ := iter_obj h hb hg
  obtain ⟨bn, bs⟩ := b
  obtain rfl : bs = 0 := h0
  cases m' with
  | none => exact h3.elim
  | some mb =>
    obtain ⟨⟨mb, k⟩, hmb, rfl⟩ := h3
    obtain ⟨es', h4, h5⟩ := map_obj h hmb hm
    obtain ⟨e', h6, rk, rv⟩ := h5.find (fun n => Nat.beq n stamp) he
    have h7 : es'.find? (fun e => e.born == stamp) = some e' := by
      rw [← Array.find?_toList, ← h6]; congr 1; funext e; rw [beq_eq]; rfl
    have h8 : l'.back? = some stamp := by rw [← h2] at hs; rw [← hs]; cases l'; simp
    refine VOk.same h (cv := .tuple #[e'.key, e'.val]) ?_ (.tuple (.cons rk (.cons rv .nil)))
    show (Instr.entry (.pointer (some ⟨bn, 0, none⟩))).run P w = _
    unfold Instr.entry
    simp [get_iter h1, h8, get_map h4, h7]
end
end Go.Fx

/-! Making, loading, storing, converting. -/
namespace Go.Fx
set_option linter.unusedVariables false
set_option linter.unusedSimpArgs false

section
variable {P : Program} {φ : Nat → Option (Blk × Nat)} {H : Hp} {w : World}

/-- a new row of known cells -/
theorem row_ok {l : List AV} {vs : Array Value} {e : TypeId} {s : Sem Value} {v : AV} {cv : Value} (h : HR φ H w) (e1 : s.run P w = .ok cv (w.alloc (.cells vs e))) (r : RelL φ l vs.toList) (q : Nat)
    (rv : Rel (upd φ H.next ⟨w.heap.size, 0⟩ q) v cv) : VOk P φ H w s (.val v (newCells H (storeL .E 0 l) e (some 0) 0)) := by
  refine new_ok (q := q) h e1 ⟨rfl, fun o a ho => ?_, fun k hk => by cases hk; exact ⟨Nat.le_refl _, fun _ => rfl⟩, fun hc => absurd rfl hc⟩ rv
  obtain ⟨cv, h1, h2⟩ := (r.mono (upd_sub h ⟨w.heap.size, 0⟩ q)).get (getN_storeL_E ho)
  exact ⟨cv, by simpa using h1, h2⟩

theorem alloc_ok {e n b : Nat} {z : List AV} {old : Value} {r : R} (h : HR φ H w) (he : elemT P e = some (n, b, z)) (ha : allocF e z H = some r) : VOk P φ H w (Instr.alloc e true old) r := by
  obtain ⟨inf, zv, hi, rfl, rfl, hz0, hpos, hzl, hb, za, hza, rfl⟩ := elemT_some he
  obtain rfl := Option.some.inj ha
  refine row_ok (vs := zv.cells) (cv := .pointer (some ⟨w.heap.size, 0, none⟩)) h ?_ (ofConst_rel hza).2.1 0 (ptr0 (upd_same _ _ _ _))
  unfold Instr.alloc
  simp [zeroValue, typeInfo, hi, hz0, newVar, newRow]
theorem box_ok {e : Nat} {x : AV} {cx : Value} {r : R} (h : HR φ H w) (ha : allocF e x.cells H = some r) (rx : Rel φ x cx) : VOk P φ H w (Instr.box e cx) r := by
  obtain rfl := Option.some.inj ha
  refine row_ok (vs := cx.cells) (cv := .pointer (some ⟨w.heap.size, 0, none⟩)) h ?_ (cells_rel rx) 0 (ptr0 (upd_same _ _ _ _))
  unfold Instr.box
  simp [newVar, newRow]

theorem load1_ok {t : TypeId} {a v : AV} {ca : Value} (h : HR φ H w) (hg : isAggT P t = some false) (ha : loadF1 a H = some v) (ra : Rel φ a ca) : ∃ cv, (Instr.loadAt t ca).run P w = .ok cv w ∧ Rel φ v cv := by
  unfold loadF1 at ha
  split at ha
  · cases ra; rename_i q b hb
    obtain ⟨cv, h1, h2⟩ := cell_of h hb ha
    refine ⟨cv, ?_, h2⟩
    unfold Instr.loadAt
    simp [Instr.sureAddr, loadVar, isAgg_run hg, h1]
  · cases ha
theorem loadN_ok {t : TypeId} {n : Nat} {a v : AV} {ca : Value} (h : HR φ H w) (hg : isAggT P t = some true) (hn : sizeT P t = some n) (ha : loadFN n a H = some v) (ra : Rel φ a ca) : ∃ cv, (Instr.loadAt t ca).run P w = .ok cv w ∧ Rel φ v cv := by
  unfold loadFN at ha
  split at ha
  · cases ra; rename_i q b hb
    obtain ⟨l, h1, rfl⟩ := map_some ha
    obtain ⟨vs, h2, h3, h4⟩ := cells_of h hb h1
    refine ⟨.agg vs.toArray, ?_, .agg h3⟩
    unfold Instr.loadAt
    simp [Instr.sureAddr, loadVar, isAgg_run hg, sizeOf_run hn, run_cells h2 h4]
  · cases ha
theorem store_op {t : TypeId} {n : Nat} {a x : AV} {ca cx : Value} {r : R} (h : HR φ H w) (hn : sizeT P t = some n) (ha : storeF n a x H = some r) (ra : Rel φ a ca) (rx : Rel φ x cx) :
    ∃ H' w', r = .val undefA H' ∧ (Instr.storeAt t ca cx).run P w = .ok () w' ∧ HR φ H' w' ∧ Ext φ H w φ H' w' := by
  unfold storeF at ha
  split at ha
  · cases ra; rename_i q b hb
    obtain ⟨h1, ha⟩ := cond_some ha
    rw [beq_iff, lenL_eq] at h1
    obtain ⟨H', h2, rfl⟩ := map_some ha
    have hc := cells_rel rx
    obtain ⟨w', h3, h4, h5⟩ := store_ok (P := P) h hb h2 hc
    refine ⟨H', w', rfl, ?_, h4, h5⟩
    have : cx.cells.size = n := by rw [← h1, hc.length]; simp
    unfold Instr.storeAt
    simp [Instr.sureAddr, storeVar, sizeOf_run hn, this, h3]
  · cases ha

theorem getN_zeros {z : AV} {d n k : Nat} {v : AV} (h : getN (zerosT z d n) k = some v) : k < n ∧ v = z := (getN_zerosT z d n k v h).symm

theorem makeSlice_ok {t e n b : Nat} {z : List AV} {l c : AV} {cl cc : Value} {r : R} (h : HR φ H w) (ht : P.underlying t = some (.slice e)) (he : elemT P e = some (n, b, z)) (ha : makeSliceF e n b z l c H = some r)
    (rl : Rel φ l cl) (rc : Rel φ c cc) : VOk P φ H w (Instr.makeSlice t cl cc) r := by
  obtain ⟨inf, zv, hi, rfl, rfl, hz0, hpos, hzl, hb, za, hza, rfl⟩ := elemT_some he
  unfold makeSliceF at ha
  split at ha
  case h_2 => cases ha
  rename_i k1 len k2 cap
  cases rl; cases rc
  obtain ⟨h1, ha⟩ := cond_some ha
  obtain rfl := Option.some.inj ha
  simp only [Bool.and_eq_true, ble_iff, blt_iff] at h1
  obtain ⟨⟨h1, h2⟩, h3⟩ := h1
  have hw1 : IntKind.i64.wrap (Int.ofNat len) = Int.ofNat len := wrap_small _ _ (by show len < 9223372036854775808; omega)
  have hw2 : IntKind.i64.wrap (Int.ofNat cap) = Int.ofNat cap := wrap_small _ _ (by show cap < 9223372036854775808; omega)
  have hzr := (ofConst_rel (φ := φ) hza)
  have hzs := z_size hza hzl
  have hrun : (Instr.makeSlice t (.int k1 (Int.ofNat len)) (.int k2 (Int.ofNat cap))).run P w = .ok (.slice (some ⟨w.heap.size, 0, none⟩) len cap) (w.alloc (.cells (Builtin.zeroCells zv.cells cap) e)) := by
    have e1 : ¬ ((inf.bytes : Int) * (cap : Int) > 2 ^ 48) := by
      have : ((inf.bytes * cap : Nat) : Int) ≤ (140737488355328 : Nat) := Int.ofNat_le.2 h2
      rw [Int.natCast_mul] at this; omega
    have e2 : ¬ ((cap : Int) < 0) := by omega
    have e3 : ¬ ((len : Int) < 0) := by omega
    have e4 : ¬ ((len : Int) > cap) := by omega
    have hti : ∀ w, (typeInfo e).run P w = .ok inf w := fun w => by simp [typeInfo, hi]
    have hzv : ∀ w, (zeroValue e).run P w = .ok zv w := fun w => by simp [zeroValue, typeInfo, hi, hz0]
    have hsz : ∀ w, (sizeOf e).run P w = .ok inf.size w := fun w => by simp [sizeOf, typeInfo, hi]
    unfold Instr.makeSlice
    simp only [Int.ofNat_eq_natCast] at hw1 hw2
    simp only [Int.ofNat_eq_natCast, Sem.run_bind, asInt, asIntOf, Sem.run_pure, Result.andThen_ok, run_underlying ht, hti, hw1, hw2]
    rw [if_neg (by simp only [Bool.or_eq_true, decide_eq_true_eq, not_or]; exact ⟨⟨⟨e2, e1⟩, e3⟩, e4⟩)]
    simp only [Sem.run_bind, run_askRoom, hsz, Result.andThen_ok, Int.toNat_natCast]
    by_cases hc : cap * inf.size = 0
    · rw [if_pos hc]
      simp [hc, Builtin.zeroCells, hzs, newRow, show Array.range 0 = #[] from rfl]
    · rw [if_neg hc]
      simp [hzv, Builtin.zeroCells, hzs, newRow]
  have hcells : (Builtin.zeroCells zv.cells cap).toList = (List.replicate cap zv.cells.toList).flatten := by
    have := zeroCells_list zv.cells.toList cap
    rwa [Array.toArray_toList] at this
  refine new_ok (q := 0) (co := .cells (Builtin.zeroCells zv.cells cap) e) h hrun ⟨rfl, fun o a ho => ?_, fun k hk => by cases hk; exact ⟨Nat.le_refl _, fun _ => rfl⟩, fun hc => absurd rfl hc⟩ (slice0 (upd_same _ _ _ _) h1 rfl)
  have hr := (RelL.replicate hzr.2.1 cap).mono (upd_sub h ⟨w.heap.size, 0⟩ 0)
  rw [← hcells] at hr
  split at ho
  · rename_i v0 hv0
    obtain ⟨hlt, rfl⟩ := getN_zeros ho
    rw [hv0] at hr
    have : (List.replicate cap [a]).flatten[o]? = some a := by
      have : (List.replicate cap [a]).flatten = List.replicate cap a := by
        clear hr
        induction cap with
        | zero => rfl
        | succ n ih => rw [List.replicate_succ, List.flatten_cons, List.replicate_succ]; simp
      rw [this]; simp [hlt]
    obtain ⟨cv, g1, g2⟩ := hr.get this
    exact ⟨cv, by simpa using g1, g2⟩
  · obtain ⟨cv, g1, g2⟩ := hr.get (getN_storeL_E ho)
    exact ⟨cv, by simpa using g1, g2⟩

theorem makeMap_ok {t : TypeId} (h : HR φ H w) : VOk P φ H w (Instr.makeMap t none) (.val (.map H.next) (H.new (.map [] 0))) :=
  new_ok (q := 0) (co := .map #[] 0) (cv := .map (some w.heap.size)) h rfl ⟨rfl, .nil⟩ (.map (upd_same _ _ _ _))

theorem field_ok {t : TypeId} {f : Nat} {g : Nat × Nat × Bool} {x v : AV} {cx : Value} (hf : fieldT P t f = some g) (ha : fieldF g.1 g.2.1 g.2.2 x = some v) (rx : Rel φ x cx) : ∃ cv, (Instr.field t cx f).run P w = .ok cv w ∧ Rel φ v cv := by
  unfold fieldT at hf
  split at hf
  case h_2 => cases hf
  rename_i fs ht
  obtain ⟨fd, h1, hf⟩ := bind_some hf
  obtain ⟨n, h2, hf⟩ := bind_some hf
  obtain ⟨a, h3, rfl⟩ := map_some hf
  unfold fieldF at ha
  split at ha
  · cases rx; rename_i vs r
    obtain ⟨cv, h4, h5⟩ := part_ok (P := P) (w := w) h2 h3 ha (RelL.of_chain r)
    refine ⟨cv, ?_, h5⟩
    unfold Instr.field
    simp [run_underlying (undF_some ht), h1, asAgg, h4]
  · cases ha
theorem fieldAddr_ok {t : TypeId} {f : Nat} {g : Nat × Nat × Bool} {x v : AV} {cx : Value} (hf : fieldT P t f = some g) (hg : Nat.beq g.2.1 0 = false) (ha : fieldAddrF g.1 x = some v) (rx : Rel φ x cx) : ∃ cv, (Instr.fieldAt t cx f).run P w = .ok cv w ∧ Rel φ v cv := by
  unfold fieldT at hf
  split at hf
  case h_2 => cases hf
  rename_i fs ht
  obtain ⟨fd, h1, hf⟩ := bind_some hf
  obtain ⟨n, h2, hf⟩ := bind_some hf
  obtain ⟨a, h3, rfl⟩ := map_some hf
  have hn : n ≠ 0 := fun e => by subst e; simp at hg
  unfold fieldAddrF at ha
  split at ha
  · obtain rfl := Option.some.inj ha
    cases rx; rename_i q b hb
    refine ⟨_, ?_, .ptr hb⟩
    unfold Instr.fieldAt
    simp [run_underlying (undF_some ht), h1, Instr.sureAddr, fieldPlace, sizeOf_run h2, hn, Addr.add_lit, Nat.add_assoc]
  · cases ha
theorem indexAgg_ok {t e : TypeId} {s len : Nat} {g : Bool} {x ix v : AV} {cx ci : Value} (ht : P.underlying t = some (.array len e)) (hs : sizeT P e = some s) (hg : isAggT P e = some g) (ha : indexAgg len s g x ix = some v)
    (rx : Rel φ x cx) (ri : Rel φ ix ci) : ∃ cv, (Instr.index t cx ci).run P w = .ok cv w ∧ Rel φ v cv := by
  unfold indexAgg at ha
  split at ha
  · rename_i l k n
    obtain ⟨h1, ha⟩ := cond_some ha
    rw [blt_iff] at h1
    cases rx; rename_i vs r
    cases ri
    obtain ⟨cv, h4, h5⟩ := part_ok (P := P) (w := w) hs hg ha (RelL.of_chain r)
    refine ⟨cv, ?_, h5⟩
    unfold Instr.index
    simp [asIntOf, run_underlying ht, h1, asAgg, sizeOf_run hs, h4]
  · cases ha

theorem nilCheck_ok {x v : AV} {cx : Value} (ha : nilCheckF x = some v) (rx : Rel φ x cx) : ∃ b o, cx = .pointer (some ⟨b, o, none⟩) ∧ v = x := by
  unfold nilCheckF at ha
  split at ha
  · obtain rfl := Option.some.inj ha; cases rx; exact ⟨_, _, rfl, rfl⟩
  · cases ha
theorem iface_ok {t : TypeId} {d : TypeDesc} {x : AV} {cx : Value} (ht : P.underlying t = some d) (hd : ∀ ms, d ≠ .interface ms) (rx : Rel φ x cx) : (Instr.makeInterface t cx).run P w = .ok (.iface t cx) w ∧ Rel φ (.iface t x) (.iface t cx) := by
  refine ⟨?_, .iface rx⟩
  unfold Instr.makeInterface
  cases d <;> first | (simp [run_underlying ht]; done) | (exact absurd rfl (hd _))
theorem assert_ok {x v z : AV} {cx : Value} {xt a : TypeId} {ok : Bool} {d : TypeDesc} (ht : P.underlying a = some d) (hd : ∀ ms, d ≠ .interface ms) (hz : zeroT P a = some z) (ha : assertF a z ok x = some v) (rx : Rel φ x cx) :
    ∃ cv, (Instr.typeAssert cx xt a ok).run P w = .ok cv w ∧ Rel φ v cv := by
  obtain ⟨zv, hz1, hz2⟩ := zeroT_run hz
  have hi : ∀ {α : Type} (f : Array (String × TypeId) → α) (g : α), (match d with | .interface ms => f ms | _ => g) = g := by
    intro α f g; cases d <;> first | rfl | (exact absurd rfl (hd _))
  unfold assertF at ha
  split at ha
  · rename_i t v0
    cases rx; rename_i cv0 r0
    cases hb : Nat.beq t a with
    | true =>
      rw [hb, cond_true] at ha
      rw [beq_iff] at hb; subst hb
      obtain rfl := Option.some.inj ha
      refine ⟨if ok then .tuple #[cv0, .bool true] else cv0, ?_, withOk_rel r0⟩
      unfold Instr.typeAssert
      cases d <;> first | (exact absurd rfl (hd _)) | simp [run_underlying ht]
    | false =>
      rw [hb, cond_false] at ha
      have hne : t ≠ a := fun e => by rw [← beq_iff, hb] at e; cases e
      obtain ⟨rfl, ha⟩ := cond_some ha
      obtain rfl := Option.some.inj ha
      refine ⟨.tuple #[zv, .bool false], ?_, .tuple (.cons (ofConst_rel hz1).1 (.cons (.bool _) .nil))⟩
      unfold Instr.typeAssert
      cases d <;> first | (exact absurd rfl (hd _)) | simp [run_underlying ht, hne, hz2]
  · cases rx
    obtain ⟨rfl, ha⟩ := cond_some ha
    obtain rfl := Option.some.inj ha
    refine ⟨.tuple #[zv, .bool false], ?_, .tuple (.cons (ofConst_rel hz1).1 (.cons (.bool _) .nil))⟩
    unfold Instr.typeAssert
    cases d <;> first | (exact absurd rfl (hd _)) | simp [run_underlying ht, hz2]
  · cases ha
theorem extract_ok {x v : AV} {cx : Value} {i : Nat} (ha : extractF i x = some v) (rx : Rel φ x cx) : ∃ cv, (Instr.extract cx i).run P w = .ok cv w ∧ Rel φ v cv := by
  unfold extractF at ha
  split at ha
  · cases rx; rename_i vs r
    obtain ⟨cv, h1, h2⟩ := (RelL.of_chain r).get ha
    refine ⟨cv, ?_, h2⟩
    unfold Instr.extract
    simp [h1]
  · cases ha
theorem not_ok {x v : AV} {cx : Value} (ha : notF x = some v) (rx : Rel φ x cx) : ∃ cv, (Op.unary .not cx).run P w = .ok cv w ∧ Rel φ v cv := by
  unfold notF at ha
  split at ha
  · obtain rfl := Option.some.inj ha; cases rx; exact ⟨_, rfl, .bool _⟩
  · cases ha
theorem neg_ok {x v : AV} {cx : Value} (ha : negF x = some v) (rx : Rel φ x cx) : ∃ cv, (Op.unary .neg cx).run P w = .ok cv w ∧ Rel φ v cv := by
  unfold negF at ha
  split at ha
  · rename_i k n
    obtain rfl := Option.some.inj ha; cases rx
    refine ⟨.int k (k.wrap (0 - n)), ?_, by rw [wrapF_eq]; exact .int _ _⟩
    unfold Op.unary
    simp [Op.intArith]
  · cases ha
theorem convInt_ok {s d : TypeId} {sd : TypeDesc} {k : IntKind} {x v : AV} {cx : Value} (hs : P.underlying s = some sd) (hd : P.underlying d = some (.int k)) (ha : convInt k x = some v) (rx : Rel φ x cx) :
    ∃ cv, (convert s d cx).run P w = .ok cv w ∧ Rel φ v cv := by
  unfold convInt at ha
  split at ha
  · rename_i k' n
    obtain rfl := Option.some.inj ha; cases rx
    refine ⟨.int k (k.wrap n), ?_, by rw [wrapF_eq]; exact .int _ _⟩
    unfold convert
    simp [run_underlying hs, run_underlying hd, Conv.intToInt]
  · cases ha
theorem convStr_ok {s d : TypeId} {sd : TypeDesc} {x v : AV} {cx : Value} (hs : P.underlying s = some sd) (hd : P.underlying d = some .string) (ha : convStr x = some v) (rx : Rel φ x cx) :
    ∃ cv, (convert s d cx).run P w = .ok cv w ∧ Rel φ v cv := by
  unfold convStr at ha
  split at ha
  · obtain rfl := Option.some.inj ha
    cases rx; rename_i cs hcs
    refine ⟨.string cs, ?_, .str hcs⟩
    unfold convert
    simp [run_underlying hs, run_underlying hd]
  · cases ha
end
end Go.Fx
