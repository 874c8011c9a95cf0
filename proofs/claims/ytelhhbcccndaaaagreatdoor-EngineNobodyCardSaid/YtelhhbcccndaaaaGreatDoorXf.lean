import Derived.Test.YtelhhbcccndaaaaGreatDoorXe
/-! The other builtins. -/
namespace Go.Fx
set_option linter.unusedVariables false
set_option linter.unusedSimpArgs false

section
variable {P : Program} {φ : Nat → Option (Nat × Nat)} {H : Hp} {w : World}

theorem minN_eq (a b : Nat) : minN a b = Nat.min a b := by
  unfold minN; cases h : Nat.ble a b with
  | true => rw [ble_iff] at h; exact (Nat.min_eq_left h).symm
  | false =>
    have : ¬ a ≤ b := fun e => by rw [← ble_iff, h] at e; cases e
    show b = _; exact (Nat.min_eq_right (by omega)).symm

theorem get_map {r : Nat} {es : Array MapEntry} {clock : Nat} (hb : w.heap[r]? = some (.map es clock)) : (getObj r).run P w = .ok (.map es clock) w := by simp [getObj, Sem.run, hb]
theorem set_map {r : Nat} {es : Array MapEntry} {clock : Nat} (o : Obj) (hb : w.heap[r]? = some (.map es clock)) : (setObj r o).run P w = .ok () { w with heap := w.heap.setIfInBounds r o } := by simp [setObj, Sem.run, hb]
theorem get_iter {r : Nat} {m : Option Nat} {a : Nat} {b : Array Nat} {c : Nat} (hb : w.heap[r]? = some (.mapIter m a b c)) : (getObj r).run P w = .ok (.mapIter m a b c) w := by simp [getObj, Sem.run, hb]
theorem set_iter {r : Nat} {m : Option Nat} {a : Nat} {b : Array Nat} {c : Nat} (o : Obj) (hb : w.heap[r]? = some (.mapIter m a b c)) : (setObj r o).run P w = .ok () { w with heap := w.heap.setIfInBounds r o } := by simp [setObj, Sem.run, hb]

/-- copy -/
theorem copy_run {t e n : Nat} {rest : List TypeId} {ty : TypeId} {base : Option Addr} {dLen dc k : Nat} {cs : Value} {vs : List Value} {w' : World} (ht : P.underlying t = some (.slice e)) (hn : sizeT P e = some n)
    (hl : (Builtin.lenOf cs).run P w = .ok k w) (hf : (Builtin.firstCells n (Nat.min k dLen) cs).run P w = .ok vs.toArray w)
    (hs : match base with | some a => (storeCells a vs).run P w = .ok () w' | none => w' = w) :
    (Builtin.copy_ (t :: rest).toArray ty #[.slice base dLen dc, cs]).run P w = .ok (.int .i64 (Int.ofNat (Nat.min k dLen))) w' := by
  have hsz := sizeOf_run (w := w) hn
  cases base with
  | none =>
    subst hs
    simp [Builtin.copy_, run_underlying ht, hl, hsz, hf, goInt]
  | some a =>
    simp [Builtin.copy_, run_underlying ht, hl, hsz, hf, goInt]
    simp at hs
    simp [hs]

theorem toCells_take {s : ByteArray} {l : List Nat} (h : s.data.toList.map (·.toNat) = l) (m : Nat) : RelL φ (toCells (l.take m)) (((s.extract 0 m).data.map fun b => Value.int .u8 b.toNat)).toList := by
  subst h
  rw [Array.toList_map, Lib.extract_data, List.drop_zero, Nat.sub_zero]
  rw [← List.map_take]
  unfold toCells
  induction s.data.toList.take m with
  | nil => exact .nil
  | cons a l ih => exact .cons (.int _ _) ih

theorem copy_ok {t e n : Nat} {rest : List TypeId} {ty : TypeId} {d s : AV} {cd cs : Value} {r : R} (ht : P.underlying t = some (.slice e)) (hn : sizeT P e = some n) (h : HR φ H w) (ha : copyF n d s H = some r)
    (rd : Rel φ d cd) (rs : Rel φ s cs) : VOk P φ H w (Builtin.copy_ (t :: rest).toArray ty #[cd, cs]) r := by
  unfold copyF at ha
  split at ha
  · rename_i i o dLen cap l
    obtain ⟨h1, ha⟩ := cond_some ha
    rw [beq_iff] at h1; subst h1
    obtain ⟨H', h2, rfl⟩ := map_some ha
    cases rd; rename_i b q c' hb' hl' hc' ho'
    cases rs; rename_i s hs
    rw [lenL_eq, str_len hs, minN_eq] at h2 ⊢
    obtain ⟨w', h3, h4, h5⟩ := store_ok (P := P) h hb' h2 (toCells_take hs (Nat.min s.size dLen))
    exact VOk.of (copy_run (base := some ⟨b, o, none⟩) ht hn (k := s.size) rfl (vs := (((s.extract 0 (Nat.min s.size dLen)).data.map fun b => Value.int .u8 b.toNat)).toList) (by rw [Array.toArray_toList]; rfl) h3) (.int _ _) ⟨h4, h5⟩
  · rename_i i o dLen cap j p sLen cap2
    obtain ⟨l, h1, ha⟩ := bind_some ha
    obtain ⟨H', h2, rfl⟩ := map_some ha
    cases rd; rename_i b q c' hb' hl' hc' ho'
    cases rs; rename_i b2 q2 c2 hb2 hl2 hc2 ho2
    rw [minN_eq] at h1 ⊢
    obtain ⟨vs, h3, h4, h5⟩ := cells_of h hb2 h1
    obtain ⟨w', h6, h7, h8⟩ := store_ok (P := P) h hb' h2 (RelL.of_chain h4)
    exact VOk.of (copy_run (base := some ⟨b, o, none⟩) ht hn (k := sLen) rfl (run_cells h3 h5) h6) (.int _ _) ⟨h7, h8⟩
  · obtain rfl := Option.some.inj ha
    cases rd; rename_i b q c' hb' hl' hc' ho'
    cases rs
    rename_i o dl _
    have := copy_run (P := P) (w := w) (w' := w) (rest := rest) (ty := ty) (base := some ⟨b, o, none⟩) (dLen := dl) (dc := c') ht hn (k := 0) (cs := .slice none 0 0) (vs := []) rfl rfl rfl
    rw [show ∀ x, Nat.min 0 x = 0 from Nat.zero_min] at this
    exact VOk.same h this (.int _ _)
  · obtain rfl := Option.some.inj ha
    cases rd; cases rs
    exact VOk.same h (copy_run (P := P) (w := w) (w' := w) (rest := rest) (ty := ty) (base := none) (dLen := 0) (dc := 0) ht hn (k := 0) (cs := .slice none 0 0) (vs := []) rfl rfl rfl) (.int _ _)
  · obtain rfl := Option.some.inj ha
    cases rd
    cases rs; rename_i b2 q2 c2 hb2 hl2 hc2 ho2
    rename_i o sl _
    have := copy_run (P := P) (w := w) (w' := w) (rest := rest) (ty := ty) (base := none) (dLen := 0) (dc := 0) ht hn (k := sl) (cs := .slice (some ⟨b2, o, none⟩) sl c2) (vs := []) rfl (by
      rw [show ∀ x, Nat.min x 0 = 0 from Nat.min_zero]
      show (loadCells _ (0 * n)).run P w = _
      rw [Nat.zero_mul]; rfl) rfl
    rw [show ∀ x, Nat.min x 0 = 0 from Nat.min_zero] at this
    exact VOk.same h this (.int _ _)
  · cases ha

/-- len -/
theorem len_str {t : TypeId} {rest : List TypeId} {ty : TypeId} {x v : AV} {cx : Value} (ht : P.underlying t = some .string) (ha : lenStr x = some v) (rx : Rel φ x cx) :
    ∃ cv, (Builtin.len_ (t :: rest).toArray ty #[cx]).run P w = .ok cv w ∧ Rel φ v cv := by
  unfold lenStr at ha
  split at ha
  · obtain rfl := Option.some.inj ha
    cases rx; rename_i s hs
    rw [lenL_eq, str_len hs]
    refine ⟨_, ?_, .int _ _⟩
    simp [Builtin.len_, run_underlying ht, goInt]
  · cases ha
theorem len_sl {t e : TypeId} {rest : List TypeId} {ty : TypeId} {x v : AV} {cx : Value} (ht : P.underlying t = some (.slice e)) (ha : lenSl x = some v) (rx : Rel φ x cx) :
    ∃ cv, (Builtin.len_ (t :: rest).toArray ty #[cx]).run P w = .ok cv w ∧ Rel φ v cv := by
  unfold lenSl at ha
  split at ha <;> first | cases ha | skip
  all_goals
    cases rx
    refine ⟨_, ?_, .int _ _⟩
    simp [Builtin.len_, run_underlying ht, goInt]
theorem len_arr {t n e : TypeId} {rest : List TypeId} {ty : TypeId} {cx : Value} (ht : P.underlying t = some (.array n e)) :
    ∃ cv, (Builtin.len_ (t :: rest).toArray ty #[cx]).run P w = .ok cv w ∧ Rel φ (.int .i64 (Int.ofNat n)) cv := by
  refine ⟨_, ?_, .int _ _⟩
  simp [Builtin.len_, run_underlying ht, goInt]
theorem RelE.length {l : List (AV × AV × Nat)} {es : List MapEntry} (r : RelE φ l es) : l.length = es.length := by
  induction r with
  | nil => rfl
  | cons _ _ _ ih => simp [ih]
theorem map_obj {r b q : Nat} {es : List (AV × AV × Nat)} {k : Nat} (h : HR φ H w) (hr : φ r = some (b, q)) (hg : H.get r = some (.map es k)) : ∃ es', w.heap[b]? = some (.map es' k) ∧ RelE φ es es'.toList := by
  obtain ⟨co, h1, h2⟩ := h.obj _ _ _ _ hg hr
  cases co <;> simp only [RelO] at h2
  obtain ⟨rfl, h2⟩ := h2
  exact ⟨_, h1, h2⟩
theorem len_map {t k e : TypeId} {rest : List TypeId} {ty : TypeId} {x v : AV} {cx : Value} (h : HR φ H w) (ht : P.underlying t = some (.map k e)) (ha : lenMap x H = some v) (rx : Rel φ x cx) :
    ∃ cv, (Builtin.len_ (t :: rest).toArray ty #[cx]).run P w = .ok cv w ∧ Rel φ v cv := by
  unfold lenMap at ha
  split at ha
  · obtain rfl := Option.some.inj ha
    cases rx
    refine ⟨_, ?_, .int _ _⟩
    simp [Builtin.len_, run_underlying ht, goInt]
  · split at ha
    · rename_i es k hg
      obtain rfl := Option.some.inj ha
      cases rx; rename_i b q hb
      obtain ⟨es', h1, h2⟩ := map_obj h hb hg
      rw [lenL_eq, h2.length]
      refine ⟨_, ?_, .int _ _⟩
      simp [Builtin.len_, run_underlying ht, goInt, get_map h1]
    · cases ha
  · cases ha
theorem cap_sl {t e : TypeId} {rest : List TypeId} {ty : TypeId} {x v : AV} {cx : Value} (ht : P.underlying t = some (.slice e)) (ha : capSl x = some v) (rx : Rel φ x cx) :
    ∃ cv, (Builtin.cap_ (t :: rest).toArray ty #[cx]).run P w = .ok cv w ∧ Rel φ v cv := by
  unfold capSl at ha
  split at ha
  · obtain rfl := Option.some.inj ha
    cases rx; rename_i b q c' hb' hl' hc' ho'
    obtain rfl := hc' _ rfl
    refine ⟨_, ?_, .int _ _⟩
    simp [Builtin.cap_, run_underlying ht, goInt]
  · obtain rfl := Option.some.inj ha
    cases rx
    refine ⟨_, ?_, .int _ _⟩
    simp [Builtin.cap_, run_underlying ht, goInt]
  · cases ha

/-- a map is turned -/
theorem map_turn {r b q : Nat} {es es2 : List (AV × AV × Nat)} {k k2 : Nat} {es' : Array MapEntry} (h : HR φ H w) (hr : φ r = some (b, q)) (hg : H.get r = some (.map es k)) (h1 : w.heap[b]? = some (.map es' k)) {es2' : Array MapEntry} (r2 : RelE φ es2 es2'.toList) :
    HR φ (H.put r (.map es2 k2)) { w with heap := w.heap.setIfInBounds b (.map es2' k2) } ∧ Ext φ H w φ (H.put r (.map es2 k2)) { w with heap := w.heap.setIfInBounds b (.map es2' k2) } := by
  have hlt : b < w.heap.size := (Array.getElem?_eq_some_iff.1 h1).1
  refine h.turn (co := .map es2' k2) hg hr (by simp) (by simp [hlt]) (fun c hc => ?_) ⟨rfl, rfl, rfl⟩ ⟨rfl, r2⟩
  show (w.heap.setIfInBounds b _)[c]? = _
  rw [Array.getElem?_setIfInBounds_ne (Ne.symm hc)]

theorem undef_rel : Rel φ undefA (.tuple #[]) := .tuple .nil

theorem clear_map {t k e : TypeId} {rest : List TypeId} {ty : TypeId} {x : AV} {cx : Value} {r : R} (h : HR φ H w) (ht : P.underlying t = some (.map k e)) (ha : clearMap x H = some r) (rx : Rel φ x cx) :
    VOk P φ H w (Builtin.clear_ (t :: rest).toArray ty #[cx]) r := by
  unfold clearMap at ha
  split at ha
  · split at ha
    · rename_i es k hg
      obtain rfl := Option.some.inj ha
      cases rx; rename_i b q hb
      obtain ⟨es', h1, h2⟩ := map_obj h hb hg
      refine VOk.of ?_ undef_rel (map_turn h hb hg h1 (es2' := #[]) .nil)
      simp [Builtin.clear_, run_underlying ht, get_map h1, set_map _ h1]
    · cases ha
  · obtain rfl := Option.some.inj ha
    cases rx
    refine VOk.same h ?_ undef_rel
    simp [Builtin.clear_, run_underlying ht]
  · cases ha

theorem zeroCells_list (z : List Value) (n : Nat) : (Builtin.zeroCells z.toArray n).toList = (List.replicate n z).flatten := by
  apply List.ext_getElem?
  intro i
  simp only [Builtin.zeroCells, Array.toList_map, Array.toList_range, List.getElem?_map]
  rcases Nat.eq_zero_or_pos z.length with h0 | h0
  · have : z = [] := List.eq_nil_of_length_eq_zero h0
    subst this; simp
  rcases Nat.lt_or_ge i (n * z.length) with hi | hi
  · rw [List.getElem?_range (by simpa using hi)]
    simp only [Option.map_some]
    have hm : i % z.length < z.length := Nat.mod_lt _ h0
    have hx : (z.toArray)[i % z.toArray.size]! = z[i % z.length] := by simp [hm]
    rw [hx]
    symm
    clear hx
    induction n generalizing i with
    | zero => omega
    | succ n ih =>
      rw [List.replicate_succ, List.flatten_cons]
      rcases Nat.lt_or_ge i z.length with hz | hz
      · rw [List.getElem?_append_left hz, List.getElem?_eq_getElem hz]
        congr 1
        simp [Nat.mod_eq_of_lt hz]
      · rw [List.getElem?_append_right hz]
        have e : i % z.length = (i - z.length) % z.length := Nat.mod_eq_sub_mod hz
        have := ih (i - z.length) (by rw [Nat.add_mul, Nat.one_mul] at hi; omega) (Nat.mod_lt _ h0)
        rw [this]; congr 1
        simp only [e]
  · rw [List.getElem?_eq_none (by simpa using hi), List.getElem?_eq_none]
    · rfl
    · simp; exact hi

theorem clear_sl {t e n b : TypeId} {z : List AV} {rest : List TypeId} {ty : TypeId} {x : AV} {cx : Value} {r : R} (h : HR φ H w) (ht : P.underlying t = some (.slice e)) (he : elemT P e = some (n, b, z)) (ha : clearSl z x H = some r) (rx : Rel φ x cx) :
    VOk P φ H w (Builtin.clear_ (t :: rest).toArray ty #[cx]) r := by
  obtain ⟨inf, zv, hi, rfl, rfl, hz0, hpos, hzl, hb, za, hza, rfl⟩ := elemT_some he
  unfold clearSl at ha
  split at ha
  · obtain rfl := Option.some.inj ha
    cases rx
    exact VOk.same h (by simp [Builtin.clear_, run_underlying ht]) undef_rel
  · obtain rfl := Option.some.inj ha
    cases rx
    exact VOk.same h (by simp [Builtin.clear_, run_underlying ht]) undef_rel
  · rename_i i o n c
    cases rx; rename_i b q c' hb' hl' hc' ho'
    cases hn : Nat.beq n 0 with
    | true =>
      rw [hn, cond_true] at ha
      rw [beq_iff] at hn; subst hn
      obtain rfl := Option.some.inj ha
      exact VOk.same h (by simp [Builtin.clear_, run_underlying ht]) undef_rel
    | false =>
      rw [hn, cond_false] at ha
      obtain ⟨H', h2, rfl⟩ := map_some ha
      have hz := (ofConst_rel (φ := φ) hza).2.1
      have hr := RelL.replicate hz n
      obtain ⟨w', h3, h4⟩ := store_ok (P := P) h hb' h2 hr
      refine VOk.of ?_ undef_rel h4
      have e := zeroCells_list zv.cells.toList n
      rw [Array.toArray_toList] at e
      cases n with
      | zero => simp at hn
      | succ n => simp [Builtin.clear_, run_underlying ht, zeroValue, typeInfo, hi, hz0, e, h3]
  · cases ha

theorem max2_ok {x y v : AV} {cx cy : Value} (ha : max2 x y = some v) (rx : Rel φ x cx) (ry : Rel φ y cy) : ∃ cv, (Builtin.max2 cx cy).run P w = .ok cv w ∧ Rel φ v cv := by
  unfold max2 at ha
  split at ha
  · obtain rfl := Option.some.inj ha
    cases rx; cases ry
    refine ⟨_, rfl, ?_⟩
    rw [intLt_eq]
    rename_i a k' b
    by_cases h : a < b
    · simp [h]; exact .int _ _
    · simp [h]; exact .int _ _
  · cases ha
theorem min2_ok {x y v : AV} {cx cy : Value} (ha : min2 x y = some v) (rx : Rel φ x cx) (ry : Rel φ y cy) : ∃ cv, (Builtin.min2 cx cy).run P w = .ok cv w ∧ Rel φ v cv := by
  unfold min2 at ha
  split at ha
  · obtain rfl := Option.some.inj ha
    cases rx; cases ry
    refine ⟨_, rfl, ?_⟩
    rw [intLt_eq]
    rename_i a k' b
    by_cases h : b < a
    · simp [h]; exact .int _ _
    · simp [h]; exact .int _ _
  · cases ha
theorem fold_ok {f : AV → AV → Option AV} {g : Value → Value → Sem Value} (hf : ∀ {x y v : AV} {cx cy : Value}, f x y = some v → Rel φ x cx → Rel φ y cy → ∃ cv, (g cx cy).run P w = .ok cv w ∧ Rel φ v cv) :
    ∀ {l : List AV} {vs : List Value} {x v : AV} {cx : Value}, foldO f x l = some v → Rel φ x cx → RelL φ l vs → ∃ cv, (vs.foldlM g cx).run P w = .ok cv w ∧ Rel φ v cv
  | [], _, x, v, cx, h, rx, r => by cases r; obtain rfl := Option.some.inj h; exact ⟨cx, rfl, rx⟩
  | y :: l, _, x, v, cx, h, rx, r => by
    cases r; rename_i vs cy ry r
    obtain ⟨z, h1, h2⟩ := bind_some (show (f x y).bind (fun z => foldO f z l) = some v from h)
    obtain ⟨cz, h3, h4⟩ := hf h1 rx ry
    obtain ⟨cv, h5, h6⟩ := fold_ok hf h2 h4 r
    refine ⟨cv, ?_, h6⟩
    rw [List.foldlM_cons]
    simp [h3, h5]
theorem max_ok {tys : Array TypeId} {ty : TypeId} {l : List AV} {vs : List Value} {v : AV} (ha : fold1 max2 l = some v) (r : RelL φ l vs) : ∃ cv, (Builtin.max_ tys ty vs.toArray).run P w = .ok cv w ∧ Rel φ v cv := by
  cases r with
  | nil => cases ha
  | cons rx r => exact fold_ok (fun h1 h2 h3 => max2_ok h1 h2 h3) ha rx r
theorem min_ok {tys : Array TypeId} {ty : TypeId} {l : List AV} {vs : List Value} {v : AV} (ha : fold1 min2 l = some v) (r : RelL φ l vs) : ∃ cv, (Builtin.min_ tys ty vs.toArray).run P w = .ok cv w ∧ Rel φ v cv := by
  cases r with
  | nil => cases ha
  | cons rx r => exact fold_ok (fun h1 h2 h3 => min2_ok h1 h2 h3) ha rx r
end
end Go.Fx
