import Derived.Test.YtelhhbcccndaaaaGreatDoorXt
/-! Objects that are made late. -/
namespace Go.Fx
set_option linter.unusedVariables false
set_option linter.unusedSimpArgs false

section
variable {P : Program} {φ φ0 : Nat → Option (Nat × Nat)} {H H0 : Hp} {w w0 : World}

theorem upd_sub' {φ : Nat → Option (Nat × Nat)} {n b q : Nat} (h : φ n = none) : ∀ i c, φ i = some c → upd φ n b q i = some c := by
  intro i c e
  have : i ≠ n := by rintro rfl; rw [h] at e; cases e
  simp [upd, this, e]
theorem HR.ghost (h : HR φ H w) (o : AObj) : HR φ (H.new o) w where
  dom i b e := by have := h.dom i b e; rw [next_new]; omega
  obj i x b q hx e := by
    rcases get_new hx with ⟨a, _⟩ | ⟨_, a⟩
    · have := h.dom i _ e; omega
    · exact h.obj i x b q a e
  lt i x hx := by
    rcases get_new hx with ⟨a, _⟩ | ⟨_, a⟩
    · rw [next_new]; omega
    · have := h.lt i x a; rw [next_new]; omega
  inj i j oi oj b q q' hi hj ei ej := by
    rcases get_new hi with ⟨a, _⟩ | ⟨_, a⟩
    · have := h.dom i _ ei; omega
    · rcases get_new hj with ⟨c, _⟩ | ⟨_, c⟩
      · have := h.dom j _ ej; omega
      · exact h.inj i j _ _ b q q' a c ei ej
theorem Ext.ghostNew (e : Ext φ0 H0 w0 φ H w) (h : HR φ H w) (o : AObj) : Ext φ0 H0 w0 φ (H.new o) w where
  sub := e.sub
  dom := e.dom
  nxt := by rw [next_new]; exact Nat.le_succ_of_le e.nxt
  size := e.size
  frame := e.frame
  new i x b q hx hp := by
    rcases get_new hx with ⟨a, _⟩ | ⟨_, a⟩
    · have := h.dom i _ hp; omega
    · exact e.new i x b q a hp
  ghost i x hi hp hx := by
    rcases get_new hx with ⟨a, _⟩ | ⟨_, a⟩
    · have := e.nxt; omega
    · exact e.ghost i x hi hp a
  os := e.os
  tape := e.tape
  output := e.output
theorem heap_alloc (w : World) (co : Obj) : (w.alloc co).heap = w.heap.push co := rfl
/-- an object is made of which the heap knows already -/
theorem HR.mat (h : HR φ H w) {n q : Nat} {o : AObj} {co : Obj} (hn : φ n = none) (hlt : n < H.next) (ho : ∀ x, H.get n = some x → x = o) (r : RelO (upd φ n w.heap.size q) q o co) : HR (upd φ n w.heap.size q) H (w.alloc co) := by
  have hb : ∀ b co, w.heap[b]? = some co → b < w.heap.size := fun b co e => (Array.getElem?_eq_some_iff.1 e).1
  refine ⟨fun i b e => ?_, fun i x b p hx e => ?_, h.lt, fun i j oi oj b p p' hi hj ei ej => ?_⟩
  · rcases upd_or e with ⟨a, _⟩ | ⟨_, a⟩
    · omega
    · exact h.dom i b a
  · rcases upd_or e with ⟨a, c⟩ | ⟨a, c⟩
    · subst a; obtain ⟨rfl, rfl⟩ := Prod.mk.inj c
      obtain rfl := ho x hx
      exact ⟨co, by rw [heap_alloc]; simp, r⟩
    · obtain ⟨c1, h1, h2⟩ := h.obj i x b p hx c
      refine ⟨c1, ?_, h2.mono (upd_sub' hn)⟩
      have := hb _ _ h1
      rw [heap_alloc, Array.getElem?_push]; simp [show b ≠ w.heap.size by omega, h1]
  · rcases upd_or ei with ⟨a, a'⟩ | ⟨a, a'⟩ <;> rcases upd_or ej with ⟨c, c'⟩ | ⟨c, c'⟩
    · omega
    · obtain ⟨c1, h1, _⟩ := h.obj j oj b p' hj c'; have := hb _ _ h1; have := (Prod.mk.inj a').1; omega
    · obtain ⟨c1, h1, _⟩ := h.obj i oi b p hi a'; have := hb _ _ h1; have := (Prod.mk.inj c').1; omega
    · exact h.inj i j _ _ b p p' hi hj a' c'
theorem Ext.mat (e : Ext φ0 H0 w0 φ H w) {n q : Nat} {co : Obj} (hn : φ n = none) (hlt : H0.next ≤ n) : Ext φ0 H0 w0 (upd φ n w.heap.size q) H (w.alloc co) where
  sub i b h := upd_sub' hn i b (e.sub i b h)
  dom i b h := by
    rcases upd_or h with ⟨a, _⟩ | ⟨_, a⟩
    · exact .inr (by omega)
    · exact e.dom i b a
  nxt := e.nxt
  size := by rw [heap_alloc, Array.size_push]; exact Nat.le_succ_of_le e.size
  frame b hb hno := by
    rw [heap_alloc, Array.getElem?_push]
    have := e.size
    rw [if_neg (by omega)]
    exact e.frame b hb hno
  new i x b p hx h := by
    rcases upd_or h with ⟨_, a⟩ | ⟨_, a⟩
    · have := (Prod.mk.inj a).1; have := e.size; exact .inl (by omega)
    · exact e.new i x b p hx a
  ghost := e.ghost
  os := e.os
  tape := e.tape
  output := e.output

/-- what an operation makes, whenever it runs -/
def MatOk (P : Program) (o : Oper) (ρA : Operand → Option AV) (n : Nat) (obj : AObj) (v : AV) : Prop := ∀ (φ : Nat → Option (Nat × Nat)) (a : Act) (w : World), (∀ y u, ρA y = some u → Rel φ u (a.eval y)) →
  ∃ cv co q, (execOp a.eval o).run P w = .ok (.value cv) (w.alloc co) ∧ ∀ ψ, (∀ i b, φ i = some b → ψ i = some b) → ψ n = some (w.heap.size, q) → RelO ψ q obj co ∧ Rel ψ v cv

theorem alloc_mat {o : Oper} {e : TypeId} {ρA : Operand → Option AV} {r : R} (hop : o.op = .alloc e) (ho : opA P ρA H o = some r) : ∃ obj v, r = .val v (H.new obj) ∧ MatOk P o ρA H.next obj v := by
  rw [opA_eq] at ho
  unfold spec at ho
  rw [hop] at ho
  simp only at ho
  split at ho
  · rename_i n b z he
    obtain ⟨inf, zv, hi, rfl, rfl, hz0, hpos, hzl, hb, za, hza, rfl⟩ := elemT_some he
    obtain rfl := Option.some.inj (show allocF e za.cells H = some r from ho)
    refine ⟨_, _, rfl, fun φ a w hρ => ⟨.pointer (some ⟨w.heap.size, 0, none⟩), .cells zv.cells e, 0, ?_, fun ψ hs hn => ⟨⟨rfl, fun k u hk => ?_, fun k hk => by cases hk; exact Nat.le_refl _, fun hc => absurd rfl hc⟩, .ptr hn⟩⟩⟩
    · unfold execOp
      rw [hop]
      simp [Instr.alloc, zeroValue, typeInfo, hi, hz0, newVar, newRow]
    · obtain ⟨cv, h1, h2⟩ := ((ofConst_rel (φ := ψ) hza).2.1).get (getN_storeL_E hk)
      exact ⟨cv, by simpa using h1, h2⟩
  · cases ho

theorem replicate_flat {α : Type} (a : α) (n : Nat) : (List.replicate n [a]).flatten = List.replicate n a := by
  induction n with
  | zero => rfl
  | succ n ih => rw [List.replicate_succ, List.flatten_cons, List.replicate_succ, ih]; rfl

noncomputable def rowOf (z : List AV) (cap : Nat) : VT := match z with
  | [v] => zerosT v 20 cap
  | _ => storeL .E 0 (List.replicate cap z).flatten
theorem makeSliceF_inv {e size bytes : Nat} {z : List AV} {l c : AV} {r : R} (h : makeSliceF e size bytes z l c H = some r) : ∃ k1 len k2 cap, l = .int k1 (.ofNat len) ∧ c = .int k2 (.ofNat cap) ∧ len ≤ cap ∧ bytes * cap ≤ 140737488355328 ∧ cap < 100000 ∧
    r = .val (.slice H.next 0 len (some cap)) (H.new (.cells (rowOf z cap) e (some 0) 0)) := by
  unfold makeSliceF at h
  split at h
  · obtain ⟨h1, h2⟩ := cond_some h
    simp only [Bool.and_eq_true, ble_iff, blt_iff] at h1
    exact ⟨_, _, _, _, rfl, rfl, h1.1.1, h1.1.2, h1.2, (Option.some.inj h2).symm⟩
  · cases h
theorem makeSlice_run {t e : TypeId} {inf : TypeInfo} {zv : Value} {k1 k2 : IntKind} {len cap : Nat} (ht : P.underlying t = some (.slice e)) (hi : P.info? e = some inf) (hz0 : inf.zero = some zv) (hzs : zv.cells.size = inf.size)
    (h1 : len ≤ cap) (h2 : inf.bytes * cap ≤ 140737488355328) (h3 : cap < 100000) : (Instr.makeSlice t (.int k1 (Int.ofNat len)) (.int k2 (Int.ofNat cap))).run P w = .ok (.slice (some ⟨w.heap.size, 0, none⟩) len cap) (w.alloc (.cells (Builtin.zeroCells zv.cells cap) e)) := by
  have hw1 : IntKind.i64.wrap (Int.ofNat len) = Int.ofNat len := wrap_small _ _ (by show len < 9223372036854775808; omega)
  have hw2 : IntKind.i64.wrap (Int.ofNat cap) = Int.ofNat cap := wrap_small _ _ (by show cap < 9223372036854775808; omega)
  have e1 : ¬ ((inf.bytes : Int) * (cap : Int) > 2 ^ 48) := by
    have : ((inf.bytes * cap : Nat) : Int) ≤ (140737488355328 : Nat) := Int.ofNat_le.2 h2
    rw [Int.natCast_mul] at this; omega
  have e2 : ¬ ((cap : Int) < 0) := by omega
  have e3 : ¬ ((len : Int) < 0) := by omega
  have e4 : ¬ ((len : Int) > cap) := by omega
  have hti : ∀ w, (typeInfo e).run P w = .ok inf w := fun w => by simp [typeInfo, hi]
  have hzv : ∀ w, (zeroValue e).run P w = .ok zv w := fun w => by simp [zeroValue, typeInfo, hi, hz0]
  have hsz : ∀ w, (sizeOf e).run P w = .ok inf.size w := fun w => by simp [sizeOf, typeInfo, hi]
  unfold Instr.makeSlice
  simp only [Int.ofNat_eq_natCast] at hw1 hw2
  simp only [Int.ofNat_eq_natCast, Sem.run_bind, Go.asInt, asIntOf, Sem.run_pure, Result.andThen_ok, run_underlying ht, hti, hw1, hw2]
  rw [if_neg (by simp only [Bool.or_eq_true, decide_eq_true_eq, not_or]; exact ⟨⟨⟨e2, e1⟩, e3⟩, e4⟩)]
  simp only [Sem.run_bind, run_askRoom, hsz, Result.andThen_ok, Int.toNat_natCast]
  by_cases hc : cap * inf.size = 0
  · rw [if_pos hc]
    simp [hc, Builtin.zeroCells, hzs, newRow, show Array.range 0 = #[] from rfl]
  · rw [if_neg hc]
    simp [hzv, Builtin.zeroCells, hzs, newRow]

theorem makeSlice_mat {o : Oper} {t : TypeId} {l c : Operand} {ρA : Operand → Option AV} {r : R} (hop : o.op = .makeSlice t l c) (ho : opA P ρA H o = some r) : ∃ obj v, r = .val v (H.new obj) ∧ MatOk P o ρA H.next obj v := by
  rw [opA_eq] at ho
  unfold spec at ho
  rw [hop] at ho
  simp only at ho
  split at ho
  case h_2 => cases ho
  rename_i e ht
  split at ho
  case h_2 => cases ho
  rename_i n b z he
  obtain ⟨inf, zv, hi, rfl, rfl, hz0, hpos, hzl, hb, za, hza, rfl⟩ := elemT_some he
  obtain ⟨vl, hl, ho⟩ := bind_some (show (ρA l).bind _ = some r from ho)
  obtain ⟨vc, hc, ho⟩ := bind_some ho
  obtain ⟨k1, len, k2, cap, rfl, rfl, h1, h2, h3, rfl⟩ := makeSliceF_inv ho
  refine ⟨_, _, rfl, fun φ a w hρ => ?_⟩
  have rl := hρ _ _ hl
  have rc := hρ _ _ hc
  have hzs := z_size hza hzl
  have hcells : (Builtin.zeroCells zv.cells cap).toList = (List.replicate cap zv.cells.toList).flatten := by
    have := zeroCells_list zv.cells.toList cap
    rwa [Array.toArray_toList] at this
  refine ⟨.slice (some ⟨w.heap.size, 0, none⟩) len cap, .cells (Builtin.zeroCells zv.cells cap) e, 0, ?_, fun ψ hs hn => ⟨⟨rfl, fun k u hk => ?_, fun k hk => by cases hk; exact Nat.le_refl _, fun hc => absurd rfl hc⟩, .slice hn h1 (fun _ e => Option.some.inj e) (fun e => by cases e)⟩⟩
  · unfold execOp
    rw [hop]
    simp only
    generalize a.eval l = cl at rl ⊢
    generalize a.eval c = cc at rc ⊢
    cases rl; cases rc
    rw [Sem.run_bind, makeSlice_run (undF_some ht) hi hz0 hzs h1 h2 h3]; rfl
  · have hr := RelL.replicate (ofConst_rel (φ := ψ) hza).2.1 cap
    rw [← hcells] at hr
    unfold rowOf at hk
    split at hk
    · rename_i v0 hv0
      obtain ⟨hlt, rfl⟩ := getN_zeros hk
      rw [hv0, replicate_flat] at hr
      obtain ⟨cv, g1, g2⟩ := hr.get (i := k) (a := u) (by simp [hlt])
      exact ⟨cv, by simpa using g1, g2⟩
    · obtain ⟨cv, g1, g2⟩ := hr.get (getN_storeL_E hk)
      exact ⟨cv, by simpa using g1, g2⟩

theorem mk_mat {o : Oper} {ρA : Operand → Option AV} {r : R} (hc : clsO P o = 1) (ho : opA P ρA H o = some r) : o.guard = none ∧ ∃ obj v, r = .val v (H.new obj) ∧ MatOk P o ρA H.next obj v := by
  unfold clsO at hc
  split at hc
  · rename_i e hg hop; exact ⟨hg, alloc_mat hop ho⟩
  · rename_i t l c hg hop; exact ⟨hg, makeSlice_mat hop ho⟩
  · split at hc <;> cases hc
end
end Go.Fx
