import Derived.Test.YtelhhbcccndaaaaGreatDoorXc
import Derived.Room.Entries
/-! append, copy. -/
namespace Go.Fx
set_option linter.unusedVariables false
set_option linter.unusedSimpArgs false

section
variable {P : Program} {φ : Nat → Option (Nat × Nat)} {H : Hp} {w : World}

theorem elemT_some {e n b : Nat} {z : List AV} (h : elemT P e = some (n, b, z)) : ∃ i zv, P.info? e = some i ∧ i.size = n ∧ i.bytes = b ∧ i.zero = some zv ∧ 0 < n ∧ z.length = n ∧ b ≤ 65536 ∧ ∃ za, ofConst zv = some za ∧ za.cells = z := by
  unfold elemT at h
  obtain ⟨i, h1, h⟩ := bind_some h
  obtain ⟨za, h2, h⟩ := bind_some h
  obtain ⟨h3, h⟩ := cond_some h
  simp only [Bool.and_eq_true, blt_iff, beq_iff, ble_iff, lenL_eq] at h3
  obtain ⟨rfl, h5⟩ := Prod.mk.inj (Option.some.inj h)
  obtain ⟨rfl, rfl⟩ := Prod.mk.inj h5
  cases hz : i.zero with
  | none => rw [hz] at h2; cases h2
  | some zv =>
    rw [hz] at h2
    exact ⟨i, zv, infoF_some h1, rfl, rfl, hz, h3.1.1, h3.1.2, h3.2, za, h2, rfl⟩

theorem toCells_rel {s : ByteArray} {l : List Nat} (h : s.data.toList.map (·.toNat) = l) : RelL φ (toCells l) (s.data.toList.map fun b => Value.int .u8 b.toNat) := by
  subst h
  unfold toCells
  induction s.data.toList with
  | nil => exact .nil
  | cons a l ih => exact .cons (.int _ _) ih
theorem toCells_val (l : List Nat) : allVal (toCells l) = true := by
  unfold toCells
  induction l with
  | nil => rfl
  | cons a l ih => rw [List.map_cons, allVal_cons, ih]; rfl

/-- what is appended -/
theorem appended_ok {size : Nat} {x : AV} {cx : Value} {n : Nat} {l : List AV} (h : HR φ H w) (hs : 0 < size) (ha : appended size x H = some (n, l)) (r : Rel φ x cx) :
    (∀ w', (Builtin.lenOf cx).run P w' = .ok n w') ∧ ∃ vs : List Value, RelL φ l vs ∧ vs.length = n * size ∧ ∀ w', w'.heap = w.heap → (Builtin.firstCells size n cx).run P w' = .ok vs.toArray w' := by
  unfold appended at ha
  split at ha
  · rename_i s
    obtain ⟨h1, h2⟩ := cond_some ha
    rw [beq_iff] at h1
    obtain ⟨rfl, rfl⟩ := Prod.mk.inj (Option.some.inj h2)
    cases r
    rename_i cs hcs
    rw [lenL_eq, str_len hcs]
    refine ⟨fun w' => rfl, _, toCells_rel hcs, by rw [h1, Nat.mul_one, List.length_map, Array.length_toList]; rfl, fun w' _ => ?_⟩
    show Result.ok ((cs.extract 0 cs.size).data.map fun b => Value.int .u8 b.toNat) w' = _
    congr 1
    apply Array.ext'
    rw [Array.toList_map, Lib.extract_data, List.drop_zero, Nat.sub_zero, List.take_of_length_le (by rw [Array.length_toList]; exact Nat.le_refl _)]
  · obtain ⟨rfl, rfl⟩ := Prod.mk.inj (Option.some.inj ha)
    cases r
    exact ⟨fun w' => rfl, [], .nil, by simp, fun w' _ => rfl⟩
  · obtain ⟨rfl, rfl⟩ := Prod.mk.inj (Option.some.inj ha)
    cases r
    refine ⟨fun w' => rfl, [], .nil, by simp, fun w' _ => ?_⟩
    show (loadCells _ (0 * size)).run P w' = _
    rw [Nat.zero_mul]; rfl
  · rename_i j o m cap
    obtain ⟨c, h1, h2⟩ := map_some ha
    obtain ⟨rfl, rfl⟩ := Prod.mk.inj h2
    cases r
    rename_i b q cc hb hl hc ho
    obtain ⟨vs, h3, h4, h5⟩ := cells_of h hb h1
    refine ⟨fun w' => rfl, vs, RelL.of_chain h4, h3, fun w' hw => ?_⟩
    exact run_cells h3 fun j v hv => by have := h5 j v hv; simpa [World.cell?, hw] using this
  · cases ha

theorem appended_val {size : Nat} {x : AV} {n : Nat} {l : List AV} (ha : appended size x H = some (n, l)) (hx : ∀ j o m c, x = .slice j o m c → allVal l = true) : allVal l = true := by
  unfold appended at ha
  split at ha
  · obtain ⟨_, h2⟩ := cond_some ha
    obtain ⟨_, rfl⟩ := Prod.mk.inj (Option.some.inj h2)
    exact toCells_val _
  · obtain ⟨_, rfl⟩ := Prod.mk.inj (Option.some.inj ha); rfl
  · obtain ⟨_, rfl⟩ := Prod.mk.inj (Option.some.inj ha); rfl
  · exact hx _ _ _ _ rfl
  · cases ha

/-- in place -/
theorem append_room {t u e : TypeId} {ty : TypeId} {inf : TypeInfo} {base : Option Addr} {len cap n : Nat} {cx : Value} {vs : List Value} (ht : P.underlying t = some (.slice e))
    (hu : ∃ d, P.underlying u = some d ∧ ∀ k, d ≠ .int k) (hi : P.info? e = some inf) (hl : ∀ w', (Builtin.lenOf cx).run P w' = .ok n w')
    (hf : (Builtin.firstCells inf.size n cx).run P w = .ok vs.toArray w) (hroom : len + n ≤ cap) :
    (Builtin.append_ #[t, u] ty #[.slice base len cap, cx]).run P w =
      match base with
      | some a => ((storeCells (a.add (len * inf.size)) vs).run P w).andThen fun _ w' => .ok (.slice (some a) (len + n) cap) w'
      | none => .ok (.slice none (len + n) cap) w := by
  obtain ⟨d, hu, hd⟩ := hu
  have hz : (match d with | .int _ => true | _ => false) = false := by cases d <;> first | rfl | (exact absurd rfl (hd _))
  cases base with
  | none => simp [Builtin.append_, run_underlying ht, run_underlying hu, sizeOf, typeInfo, hi, hz, hl, hroom, hf]
  | some a => simp [Builtin.append_, run_underlying ht, run_underlying hu, sizeOf, typeInfo, hi, hz, hl, hroom, hf]

/-- grown -/
theorem append_grow {t u e : TypeId} {ty : TypeId} {inf : TypeInfo} {zv : Value} {base : Option Addr} {len cap n : Nat} {cx : Value} {vs olds : List Value} (ht : P.underlying t = some (.slice e))
    (hu : ∃ d, P.underlying u = some d ∧ ∀ k, d ≠ .int k) (hi : P.info? e = some inf) (hz0 : inf.zero = some zv) (hb : inf.bytes ≤ 65536) (hsmall : len + n ≤ 1000000)
    (hl : ∀ w', (Builtin.lenOf cx).run P w' = .ok n w')
    (hf : ∀ w', w'.heap = w.heap → (Builtin.firstCells inf.size n cx).run P w' = .ok vs.toArray w')
    (ho : ∀ w', w'.heap = w.heap → (Builtin.firstCells inf.size len (.slice base len cap)).run P w' = .ok olds.toArray w') (hroom : cap < len + n) :
    ∃ newCap, len + n ≤ newCap ∧ (Builtin.append_ #[t, u] ty #[.slice base len cap, cx]).run P w =
      .ok (.slice (some ⟨w.heap.size, 0, none⟩) (len + n) newCap) (w.drew.alloc (.cells (olds.toArray ++ vs.toArray ++ Builtin.zeroCells zv.cells (newCap - (len + n))) e)) := by
  obtain ⟨d, hu, hd⟩ := hu
  have hz : (match d with | .int _ => true | _ => false) = false := by cases d <;> first | rfl | (exact absurd rfl (hd _))
  have hnext := Room.nextslicecap_le' hroom
  have hbytes : Builtin.nextslicecap (len + n) cap * inf.bytes ≤ 2000000 * 65536 := Nat.mul_le_mul (by omega) hb
  refine ⟨(Question.appendCap (len + n) cap e).cut (w.tape w.drawn (.appendCap (len + n) cap e)), ?_, ?_⟩
  · simp only [Question.cut]; omega
  · have h1 := hf w.drew rfl
    have h2 := ho w.drew rfl
    simp only [Builtin.append_]
    simp [run_underlying ht, run_underlying hu, sizeOf, typeInfo, hi, hz, hl, show ¬ len + n ≤ cap by omega, show ¬ (len : Int) + n > 9223372036854775807 by omega,
      show ¬ Builtin.nextslicecap (len + n) cap * inf.bytes > 281474976710656 by omega, Question.forced, h1, h2, zeroValue, hz0, newRow]
    congr 2
    apply Array.ext'
    simp

theorem allVal_append {l m : List AV} (h : allVal l = true) (k : allVal m = true) : allVal (l ++ m) = true := by
  induction l with
  | nil => exact k
  | cons a l ih => rw [allVal_cons, Bool.and_eq_true] at h; rw [List.cons_append, allVal_cons, h.1, ih h.2]; rfl

/-- a row that append has made stands for the cells that it was made of -/
theorem row_rel {ψ : Nat → Option (Nat × Nat)} {l : List AV} {vs zs : List Value} {e size q : Nat} (r : RelL ψ l vs) (hz : size ≠ 0 → q * size = (vs.toArray ++ zs.toArray).size) :
    RelO ψ q (.cells (storeL .E 0 l) e (some 0) size) (.cells (vs.toArray ++ zs.toArray) e) := by
  refine ⟨rfl, fun o v ho => ?_, fun h hh => by cases hh; exact Nat.le_refl _, hz⟩
  obtain ⟨cv, h1, h2⟩ := r.get (getN_storeL_E ho)
  refine ⟨cv, ?_, h2⟩
  have := (List.getElem?_eq_some_iff.1 h1).1
  rw [Array.getElem?_append_left (by simpa using this)]; simpa using h1

theorem zeroCells_size (z : Array Value) (n : Nat) : (Builtin.zeroCells z n).size = n * z.size := by simp [Builtin.zeroCells]

/-- a constant stands for itself -/
theorem ofConst1_rel {v : Value} {a : AV} (h : ofConst1 v = some a) : Rel φ a v ∧ a.isVal = true := by
  unfold ofConst1 at h
  split at h <;> first | cases h | (obtain rfl := Option.some.inj h)
  · exact ⟨.bool _, rfl⟩
  · exact ⟨.int _ _, rfl⟩
  · exact ⟨.str rfl, rfl⟩
  · exact ⟨.nulPtr, rfl⟩
  · exact ⟨.nulSlice, rfl⟩
  · exact ⟨.nulMap, rfl⟩
  · exact ⟨.nulFunc, rfl⟩
  · exact ⟨.nulIface, rfl⟩
theorem ofConsts_rel : ∀ {l : List Value} {a : AV}, ofConsts l = some a → RelV φ true a l ∧ allVal a.list = true
  | [], a, h => by obtain rfl := Option.some.inj h; exact ⟨.nil, rfl⟩
  | v :: l, a, h => by
    unfold ofConsts at h
    obtain ⟨x, h1, h⟩ := bind_some h
    obtain ⟨b, h2, rfl⟩ := map_some h
    obtain ⟨r1, v1⟩ := ofConst1_rel (φ := φ) h1
    obtain ⟨r2, v2⟩ := ofConsts_rel h2
    exact ⟨.cons r1 r2, by show allVal (x :: b.list) = true; rw [allVal_cons, v1, v2]; rfl⟩
theorem ofConst_rel {v : Value} {a : AV} (h : ofConst v = some a) : Rel φ a v ∧ RelL φ a.cells v.cells.toList ∧ allVal a.cells = true := by
  unfold ofConst at h
  split at h
  · rename_i cs
    obtain ⟨c, h1, rfl⟩ := map_some h
    obtain ⟨r1, r2⟩ := ofConsts_rel (φ := φ) h1
    refine ⟨?_, RelL.of_chain r1, r2⟩
    have := RelV.agg r1
    rwa [Array.toArray_toList] at this
  · rename_i hn
    obtain ⟨r, hv⟩ := ofConst1_rel (φ := φ) h
    have e1 : a.cells = [a] := by cases a <;> first | rfl | (simp [AV.isVal] at hv)
    have e2 : v.cells.toList = [v] := by cases v <;> first | rfl | (exact (hn _ rfl).elim)
    rw [e1, e2]
    exact ⟨r, .cons r .nil, by rw [allVal_cons, hv]; rfl⟩
theorem cells_rel {a : AV} {v : Value} (r : Rel φ a v) : RelL φ a.cells v.cells.toList := by
  cases r with
  | agg r => exact RelL.of_chain r
  | _ => exact .cons (by first | assumption | (constructor <;> assumption)) .nil
end
end Go.Fx
