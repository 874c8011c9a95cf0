import Derived.Test.YtelhhbcccndaaaaGreatDoorXh
/-! Making, loading, storing, converting. -/
namespace Go.Fx
set_option linter.unusedVariables false
set_option linter.unusedSimpArgs false

section
variable {P : Program} {φ : Nat → Option (Nat × Nat)} {H : Hp} {w : World}

/-- a new row of known cells -/
theorem row_ok {l : List AV} {vs : Array Value} {e : TypeId} {s : Sem Value} {v : AV} {cv : Value} (h : HR φ H w) (e1 : s.run P w = .ok cv (w.alloc (.cells vs e))) (r : RelL φ l vs.toList) (q : Nat)
    (rv : Rel (upd φ H.next w.heap.size q) v cv) : VOk P φ H w s (.val v (newCells H (storeL .E 0 l) e (some 0) 0)) := by
  refine new_ok (q := q) h e1 ⟨rfl, fun o a ho => ?_, fun k hk => by cases hk; exact Nat.le_refl _, fun hc => absurd rfl hc⟩ rv
  obtain ⟨cv, h1, h2⟩ := (r.mono (upd_sub h w.heap.size q)).get (getN_storeL_E ho)
  exact ⟨cv, by simpa using h1, h2⟩

theorem alloc_ok {e n b : Nat} {z : List AV} {old : Value} {r : R} (h : HR φ H w) (he : elemT P e = some (n, b, z)) (ha : allocF e z H = some r) : VOk P φ H w (Instr.alloc e true old) r := by
  obtain ⟨inf, zv, hi, rfl, rfl, hz0, hpos, hzl, hb, za, hza, rfl⟩ := elemT_some he
  obtain rfl := Option.some.inj ha
  refine row_ok (vs := zv.cells) (cv := .pointer (some ⟨w.heap.size, 0, none⟩)) h ?_ (ofConst_rel hza).2.1 0 (.ptr (upd_same _ _ _ _))
  unfold Instr.alloc
  simp [zeroValue, typeInfo, hi, hz0, newVar, newRow]
theorem box_ok {e : Nat} {x : AV} {cx : Value} {r : R} (h : HR φ H w) (ha : allocF e x.cells H = some r) (rx : Rel φ x cx) : VOk P φ H w (Instr.box e cx) r := by
  obtain rfl := Option.some.inj ha
  refine row_ok (vs := cx.cells) (cv := .pointer (some ⟨w.heap.size, 0, none⟩)) h ?_ (cells_rel rx) 0 (.ptr (upd_same _ _ _ _))
  unfold Instr.box
  simp [newVar, newRow]

theorem load1_ok {t : TypeId} {a v : AV} {ca : Value} (h : HR φ H w) (hg : isAggT P t = some false) (ha : loadF1 a H = some v) (ra : Rel φ a ca) : ∃ cv, (Instr.loadAt t ca).run P w = .ok cv w ∧ Rel φ v cv := by
  unfold loadF1 at ha
  split at ha
  · cases ra; rename_i b q hb
    obtain ⟨cv, h1, h2⟩ := cell_of h hb ha
    refine ⟨cv, ?_, h2⟩
    unfold Instr.loadAt
    simp [Instr.sureAddr, loadVar, isAgg_run hg, h1]
  · cases ha
theorem loadN_ok {t : TypeId} {n : Nat} {a v : AV} {ca : Value} (h : HR φ H w) (hg : isAggT P t = some true) (hn : sizeT P t = some n) (ha : loadFN n a H = some v) (ra : Rel φ a ca) : ∃ cv, (Instr.loadAt t ca).run P w = .ok cv w ∧ Rel φ v cv := by
  unfold loadFN at ha
  split at ha
  · cases ra; rename_i b q hb
    obtain ⟨l, h1, rfl⟩ := map_some ha
    obtain ⟨vs, h2, h3, h4⟩ := cells_of h hb h1
    refine ⟨.agg vs.toArray, ?_, .agg h3⟩
    unfold Instr.loadAt
    simp [Instr.sureAddr, loadVar, isAgg_run hg, sizeOf_run hn, run_cells h2 h4]
  · cases ha
theorem store_op {t : TypeId} {n : Nat} {a x : AV} {ca cx : Value} {r : R} (h : HR φ H w) (hn : sizeT P t = some n) (ha : storeF n a x H = some r) (ra : Rel φ a ca) (rx : Rel φ x cx) :
    ∃ H' w', r = .val undefA H' ∧ (Instr.storeAt t ca cx).run P w = .ok () w' ∧ HR φ H' w' ∧ Ext φ H w φ H' w' := by
  unfold storeF at ha
  split at ha
  · cases ra; rename_i b q hb
    obtain ⟨h1, ha⟩ := cond_some ha
    rw [beq_iff, lenL_eq] at h1
    obtain ⟨H', h2, rfl⟩ := map_some ha
    have hc := cells_rel rx
    obtain ⟨w', h3, h4, h5⟩ := store_ok (P := P) h hb h2 hc
    refine ⟨H', w', rfl, ?_, h4, h5⟩
    have : cx.cells.size = n := by rw [← h1, hc.length]; simp
    unfold Instr.storeAt
    simp [Instr.sureAddr, storeVar, sizeOf_run hn, this, h3]
  · cases ha

theorem getN_zeros {z : AV} {d n k : Nat} {v : AV} (h : getN (zerosT z d n) k = some v) : k < n ∧ v = z := (getN_zerosT z d n k v h).symm

theorem makeSlice_ok {t e n b : Nat} {z : List AV} {l c : AV} {cl cc : Value} {r : R} (h : HR φ H w) (ht : P.underlying t = some (.slice e)) (he : elemT P e = some (n, b, z)) (ha : makeSliceF e n b z l c H = some r)
    (rl : Rel φ l cl) (rc : Rel φ c cc) : VOk P φ H w (Instr.makeSlice t cl cc) r := by
  obtain ⟨inf, zv, hi, rfl, rfl, hz0, hpos, hzl, hb, za, hza, rfl⟩ := elemT_some he
  unfold makeSliceF at ha
  split at ha
  case h_2 => cases ha
  rename_i k1 len k2 cap
  cases rl; cases rc
  obtain ⟨h1, ha⟩ := cond_some ha
  obtain rfl := Option.some.inj ha
  simp only [Bool.and_eq_true, ble_iff, blt_iff] at h1
  obtain ⟨⟨h1, h2⟩, h3⟩ := h1
  have hw1 : IntKind.i64.wrap (Int.ofNat len) = Int.ofNat len := wrap_small _ _ (by show len < 9223372036854775808; omega)
  have hw2 : IntKind.i64.wrap (Int.ofNat cap) = Int.ofNat cap := wrap_small _ _ (by show cap < 9223372036854775808; omega)
  have hzr := (ofConst_rel (φ := φ) hza)
  have hzs := z_size hza hzl
  have hrun : (Instr.makeSlice t (.int k1 (Int.ofNat len)) (.int k2 (Int.ofNat cap))).run P w = .ok (.slice (some ⟨w.heap.size, 0, none⟩) len cap) (w.alloc (.cells (Builtin.zeroCells zv.cells cap) e)) := by
    have e1 : ¬ ((inf.bytes : Int) * (cap : Int) > 2 ^ 48) := by
      have : ((inf.bytes * cap : Nat) : Int) ≤ (140737488355328 : Nat) := Int.ofNat_le.2 h2
      rw [Int.natCast_mul] at this; omega
    have e2 : ¬ ((cap : Int) < 0) := by omega
    have e3 : ¬ ((len : Int) < 0) := by omega
    have e4 : ¬ ((len : Int) > cap) := by omega
    have hti : ∀ w, (typeInfo e).run P w = .ok inf w := fun w => by simp [typeInfo, hi]
    have hzv : ∀ w, (zeroValue e).run P w = .ok zv w := fun w => by simp [zeroValue, typeInfo, hi, hz0]
    have hsz : ∀ w, (sizeOf e).run P w = .ok inf.size w := fun w => by simp [sizeOf, typeInfo, hi]
    unfold Instr.makeSlice
    simp only [Int.ofNat_eq_natCast] at hw1 hw2
    simp only [Int.ofNat_eq_natCast, Sem.run_bind, asInt, asIntOf, Sem.run_pure, Result.andThen_ok, run_underlying ht, hti, hw1, hw2]
    rw [if_neg (by simp only [Bool.or_eq_true, decide_eq_true_eq, not_or]; exact ⟨⟨⟨e2, e1⟩, e3⟩, e4⟩)]
    simp only [Sem.run_bind, run_askRoom, hsz, Result.andThen_ok, Int.toNat_natCast]
    by_cases hc : cap * inf.size = 0
    · rw [if_pos hc]
      simp [hc, Builtin.zeroCells, hzs, newRow, show Array.range 0 = #[] from rfl]
    · rw [if_neg hc]
      simp [hzv, Builtin.zeroCells, hzs, newRow]
  have hcells : (Builtin.zeroCells zv.cells cap).toList = (List.replicate cap zv.cells.toList).flatten := by
    have := zeroCells_list zv.cells.toList cap
    rwa [Array.toArray_toList] at this
  refine new_ok (q := 0) (co := .cells (Builtin.zeroCells zv.cells cap) e) h hrun ⟨rfl, fun o a ho => ?_, fun k hk => by cases hk; exact Nat.le_refl _, fun hc => absurd rfl hc⟩ (.slice (upd_same _ _ _ _) h1 (fun _ e => Option.some.inj e) (fun e => by cases e))
  have hr := (RelL.replicate hzr.2.1 cap).mono (upd_sub h w.heap.size 0)
  rw [← hcells] at hr
  split at ho
  · rename_i v0 hv0
    obtain ⟨hlt, rfl⟩ := getN_zeros ho
    rw [hv0] at hr
    have : (List.replicate cap [a]).flatten[o]? = some a := by
      have : (List.replicate cap [a]).flatten = List.replicate cap a := by
        clear hr
        induction cap with
        | zero => rfl
        | succ n ih => rw [List.replicate_succ, List.flatten_cons, List.replicate_succ]; simp
      rw [this]; simp [hlt]
    obtain ⟨cv, g1, g2⟩ := hr.get this
    exact ⟨cv, by simpa using g1, g2⟩
  · obtain ⟨cv, g1, g2⟩ := hr.get (getN_storeL_E ho)
    exact ⟨cv, by simpa using g1, g2⟩

theorem makeMap_ok {t : TypeId} (h : HR φ H w) : VOk P φ H w (Instr.makeMap t none) (.val (.map H.next) (H.new (.map [] 0))) :=
  new_ok (q := 0) (co := .map #[] 0) (cv := .map (some w.heap.size)) h rfl ⟨rfl, .nil⟩ (.map (upd_same _ _ _ _))

theorem field_ok {t : TypeId} {f : Nat} {g : Nat × Nat × Bool} {x v : AV} {cx : Value} (hf : fieldT P t f = some g) (ha : fieldF g.1 g.2.1 g.2.2 x = some v) (rx : Rel φ x cx) : ∃ cv, (Instr.field t cx f).run P w = .ok cv w ∧ Rel φ v cv := by
  unfold fieldT at hf
  split at hf
  case h_2 => cases hf
  rename_i fs ht
  obtain ⟨fd, h1, hf⟩ := bind_some hf
  obtain ⟨n, h2, hf⟩ := bind_some hf
  obtain ⟨a, h3, rfl⟩ := map_some hf
  unfold fieldF at ha
  split at ha
  · cases rx; rename_i vs r
    obtain ⟨cv, h4, h5⟩ := part_ok (P := P) (w := w) h2 h3 ha (RelL.of_chain r)
    refine ⟨cv, ?_, h5⟩
    unfold Instr.field
    simp [run_underlying (undF_some ht), h1, asAgg, h4]
  · cases ha
theorem fieldAddr_ok {t : TypeId} {f : Nat} {g : Nat × Nat × Bool} {x v : AV} {cx : Value} (hf : fieldT P t f = some g) (hg : Nat.beq g.2.1 0 = false) (ha : fieldAddrF g.1 x = some v) (rx : Rel φ x cx) : ∃ cv, (Instr.fieldAt t cx f).run P w = .ok cv w ∧ Rel φ v cv := by
  unfold fieldT at hf
  split at hf
  case h_2 => cases hf
  rename_i fs ht
  obtain ⟨fd, h1, hf⟩ := bind_some hf
  obtain ⟨n, h2, hf⟩ := bind_some hf
  obtain ⟨a, h3, rfl⟩ := map_some hf
  have hn : n ≠ 0 := fun e => by subst e; simp at hg
  unfold fieldAddrF at ha
  split at ha
  · obtain rfl := Option.some.inj ha
    cases rx; rename_i b q hb
    refine ⟨_, ?_, .ptr hb⟩
    unfold Instr.fieldAt
    simp [run_underlying (undF_some ht), h1, Instr.sureAddr, fieldPlace, sizeOf_run h2, hn, Addr.add_lit]
  · cases ha
theorem indexAgg_ok {t e : TypeId} {s len : Nat} {g : Bool} {x ix v : AV} {cx ci : Value} (ht : P.underlying t = some (.array len e)) (hs : sizeT P e = some s) (hg : isAggT P e = some g) (ha : indexAgg len s g x ix = some v)
    (rx : Rel φ x cx) (ri : Rel φ ix ci) : ∃ cv, (Instr.index t cx ci).run P w = .ok cv w ∧ Rel φ v cv := by
  unfold indexAgg at ha
  split at ha
  · rename_i l k n
    obtain ⟨h1, ha⟩ := cond_some ha
    rw [blt_iff] at h1
    cases rx; rename_i vs r
    cases ri
    obtain ⟨cv, h4, h5⟩ := part_ok (P := P) (w := w) hs hg ha (RelL.of_chain r)
    refine ⟨cv, ?_, h5⟩
    unfold Instr.index
    simp [asIntOf, run_underlying ht, h1, asAgg, sizeOf_run hs, h4]
  · cases ha

theorem nilCheck_ok {x v : AV} {cx : Value} (ha : nilCheckF x = some v) (rx : Rel φ x cx) : ∃ b o, cx = .pointer (some ⟨b, o, none⟩) ∧ v = x := by
  unfold nilCheckF at ha
  split at ha
  · obtain rfl := Option.some.inj ha; cases rx; exact ⟨_, _, rfl, rfl⟩
  · cases ha
theorem iface_ok {t : TypeId} {d : TypeDesc} {x : AV} {cx : Value} (ht : P.underlying t = some d) (hd : ∀ ms, d ≠ .interface ms) (rx : Rel φ x cx) : (Instr.makeInterface t cx).run P w = .ok (.iface t cx) w ∧ Rel φ (.iface t x) (.iface t cx) := by
  refine ⟨?_, .iface rx⟩
  unfold Instr.makeInterface
  cases d <;> first | (simp [run_underlying ht]; done) | (exact absurd rfl (hd _))
theorem assert_ok {x v z : AV} {cx : Value} {xt a : TypeId} {ok : Bool} {d : TypeDesc} (ht : P.underlying a = some d) (hd : ∀ ms, d ≠ .interface ms) (hz : zeroT P a = some z) (ha : assertF a z ok x = some v) (rx : Rel φ x cx) :
    ∃ cv, (Instr.typeAssert cx xt a ok).run P w = .ok cv w ∧ Rel φ v cv := by
  obtain ⟨zv, hz1, hz2⟩ := zeroT_run hz
  have hi : ∀ {α : Type} (f : Array (String × TypeId) → α) (g : α), (match d with | .interface ms => f ms | _ => g) = g := by
    intro α f g; cases d <;> first | rfl | (exact absurd rfl (hd _))
  unfold assertF at ha
  split at ha
  · rename_i t v0
    cases rx; rename_i cv0 r0
    cases hb : Nat.beq t a with
    | true =>
      rw [hb, cond_true] at ha
      rw [beq_iff] at hb; subst hb
      obtain rfl := Option.some.inj ha
      refine ⟨if ok then .tuple #[cv0, .bool true] else cv0, ?_, withOk_rel r0⟩
      unfold Instr.typeAssert
      cases d <;> first | (exact absurd rfl (hd _)) | simp [run_underlying ht]
    | false =>
      rw [hb, cond_false] at ha
      have hne : t ≠ a := fun e => by rw [← beq_iff, hb] at e; cases e
      obtain ⟨rfl, ha⟩ := cond_some ha
      obtain rfl := Option.some.inj ha
      refine ⟨.tuple #[zv, .bool false], ?_, .tuple (.cons (ofConst_rel hz1).1 (.cons (.bool _) .nil))⟩
      unfold Instr.typeAssert
      cases d <;> first | (exact absurd rfl (hd _)) | simp [run_underlying ht, hne, hz2]
  · cases rx
    obtain ⟨rfl, ha⟩ := cond_some ha
    obtain rfl := Option.some.inj ha
    refine ⟨.tuple #[zv, .bool false], ?_, .tuple (.cons (ofConst_rel hz1).1 (.cons (.bool _) .nil))⟩
    unfold Instr.typeAssert
    cases d <;> first | (exact absurd rfl (hd _)) | simp [run_underlying ht, hz2]
  · cases ha
theorem extract_ok {x v : AV} {cx : Value} {i : Nat} (ha : extractF i x = some v) (rx : Rel φ x cx) : ∃ cv, (Instr.extract cx i).run P w = .ok cv w ∧ Rel φ v cv := by
  unfold extractF at ha
  split at ha
  · cases rx; rename_i vs r
    obtain ⟨cv, h1, h2⟩ := (RelL.of_chain r).get ha
    refine ⟨cv, ?_, h2⟩
    unfold Instr.extract
    simp [h1]
  · cases ha
theorem not_ok {x v : AV} {cx : Value} (ha : notF x = some v) (rx : Rel φ x cx) : ∃ cv, (Op.unary .not cx).run P w = .ok cv w ∧ Rel φ v cv := by
  unfold notF at ha
  split at ha
  · obtain rfl := Option.some.inj ha; cases rx; exact ⟨_, rfl, .bool _⟩
  · cases ha
theorem neg_ok {x v : AV} {cx : Value} (ha : negF x = some v) (rx : Rel φ x cx) : ∃ cv, (Op.unary .neg cx).run P w = .ok cv w ∧ Rel φ v cv := by
  unfold negF at ha
  split at ha
  · rename_i k n
    obtain rfl := Option.some.inj ha; cases rx
    refine ⟨.int k (k.wrap (0 - n)), ?_, by rw [wrapF_eq]; exact .int _ _⟩
    unfold Op.unary
    simp [Op.intArith]
  · cases ha
theorem convInt_ok {s d : TypeId} {sd : TypeDesc} {k : IntKind} {x v : AV} {cx : Value} (hs : P.underlying s = some sd) (hd : P.underlying d = some (.int k)) (ha : convInt k x = some v) (rx : Rel φ x cx) :
    ∃ cv, (convert s d cx).run P w = .ok cv w ∧ Rel φ v cv := by
  unfold convInt at ha
  split at ha
  · rename_i k' n
    obtain rfl := Option.some.inj ha; cases rx
    refine ⟨.int k (k.wrap n), ?_, by rw [wrapF_eq]; exact .int _ _⟩
    unfold convert
    simp [run_underlying hs, run_underlying hd, Conv.intToInt]
  · cases ha
theorem convStr_ok {s d : TypeId} {sd : TypeDesc} {x v : AV} {cx : Value} (hs : P.underlying s = some sd) (hd : P.underlying d = some .string) (ha : convStr x = some v) (rx : Rel φ x cx) :
    ∃ cv, (convert s d cx).run P w = .ok cv w ∧ Rel φ v cv := by
  unfold convStr at ha
  split at ha
  · obtain rfl := Option.some.inj ha
    cases rx; rename_i cs hcs
    refine ⟨.string cs, ?_, .str hcs⟩
    unfold convert
    simp [run_underlying hs, run_underlying hd]
  · cases ha
end
end Go.Fx
