import Derived.Test.YtaaibffnehmaiaaGreatDoorXd
import Derived.Laws.IdiomStrings
import Derived.Laws.StructEq
import Derived.Laws.Tables
/-! Structs and slices that are built; texts and bytes; '==' of structs. -/
namespace Go.Fx
set_option linter.unusedVariables false
set_option linter.unusedSimpArgs false

section
variable {P : Program} {φ : Nat → Option (Blk × Nat)} {H : Hp} {w : World}

theorem fold_set : ∀ (vs : List Value) (k : Nat) (cs : Array Value) (off : Nat), off + k + vs.length ≤ cs.size →
    (vs.zipIdx k).foldl (fun (cs : Array Value) (p : Value × Nat) => cs.setIfInBounds (off + p.2) p.1) cs = (cs.toList.take (off + k) ++ vs ++ cs.toList.drop (off + k + vs.length)).toArray
  | [], k, cs, off, h => by simp
  | v :: vs, k, cs, off, h => by
    simp only [List.length_cons] at h
    rw [List.zipIdx_cons, List.foldl_cons, fold_set vs (k + 1) _ off (by simp; omega)]
    apply Array.ext'
    simp only [Array.toList_setIfInBounds]
    apply List.ext_getElem?
    intro i
    have hl : cs.toList.length = cs.size := Array.length_toList
    simp only [List.append_assoc]
    have t1 : (List.take (off + (k + 1)) (cs.toList.set (off + k) v)).length = off + (k + 1) := by simp; omega
    have t2 : (List.take (off + k) cs.toList).length = off + k := by simp; omega
    rcases Nat.lt_or_ge i (off + k) with h1 | h1
    · rw [List.getElem?_append_left (by omega), List.getElem?_append_left (by omega), List.getElem?_take_of_lt (by omega), List.getElem?_take_of_lt h1, List.getElem?_set_ne (by omega)]
    rcases Nat.eq_or_lt_of_le h1 with h2 | h2
    · subst h2
      rw [List.getElem?_append_left (by omega), List.getElem?_take_of_lt (by omega), List.getElem?_set_self (by omega), List.getElem?_append_right (by omega), t2]
      simp
    rw [List.getElem?_append_right (by omega), List.getElem?_append_right (l₁ := List.take (off + k) cs.toList) (by omega), t1, t2]
    rcases Nat.lt_or_ge i (off + k + 1 + vs.length) with h3 | h3
    · rw [List.getElem?_append_left (by omega), List.getElem?_append_left (by simp; omega), show i - (off + k) = (i - (off + (k + 1))) + 1 by omega, List.getElem?_cons_succ]
    · rw [List.getElem?_append_right (by omega), List.getElem?_append_right (by simp; omega), List.getElem?_drop, List.getElem?_drop, List.length_cons]
      rw [show off + (k + 1) + vs.length + (i - (off + (k + 1)) - vs.length) = i by omega, show off + k + (vs.length + 1) + (i - (off + k) - (vs.length + 1)) = i by omega, List.getElem?_set_ne (by omega)]

theorem fill_ok {place : Nat → Option (Nat × Nat)} : ∀ {ps : List Nat} {vs : List AV} {cvs : List Value} {cells : List AV} {cc : List Value} {l : List AV}, fillA place cells (zipNat ps vs) = some l → RelL φ cells cc → RelL φ vs cvs → ps.length = cvs.length →
    ∃ cl : List Value, Instr.fill place cc.toArray (ps.zip cvs) = some cl.toArray ∧ RelL φ l cl
  | [], _, _, cells, cc, l, h, rc, rv, hl => by
    cases rv with
    | nil => obtain rfl := Option.some.inj (show some cells = some l from h); exact ⟨cc, rfl, rc⟩
    | cons _ _ => cases hl
  | p :: ps, _, _, cells, cc, l, h, rc, rv, hl => by
    cases rv with
    | nil => cases hl
    | @cons v vs cv cvs r1 rv =>
      have h' : fillA place cells ((p, v) :: zipNat ps vs) = some l := h
      unfold fillA at h'
      split at h'
      · cases h'
      · rename_i off size hp
        obtain ⟨h1, h2⟩ := cond_some h'
        simp only [Bool.and_eq_true, beq_iff, ble_iff, lenL_eq] at h1
        have hv := cells_rel r1
        have hlen : v.cells.length = cv.cells.size := by rw [hv.length]; simp
        have hcl : cells.length = cc.length := rc.length
        have rc' : RelL φ (cells.take off ++ (v.cells ++ cells.drop (off + size))) (cc.take off ++ (cv.cells.toList ++ cc.drop (off + size))) := (rc.take off).append (hv.append (rc.drop _))
        obtain ⟨cl, h3, h4⟩ := fill_ok h2 rc' rv (by simpa using hl)
        refine ⟨cl, ?_, h4⟩
        rw [List.zip_cons_cons]
        unfold Instr.fill
        simp only [hp]
        rw [if_neg (by simp; omega)]
        rw [← h3]
        congr 1
        have := fold_set cv.cells.toList 0 cc.toArray off (by simp; omega)
        have e : cv.cells.zipIdx.foldl (fun (cs : Array Value) (x : Value × Nat) => match x with | (c, j) => cs.setIfInBounds (off + j) c) cc.toArray = (cv.cells.toList.zipIdx 0).foldl (fun (cs : Array Value) (p : Value × Nat) => cs.setIfInBounds (off + p.2) p.1) cc.toArray := by
          rw [← Array.foldl_toList, Array.toList_zipIdx]
        rw [e, this]
        simp only [Array.length_toList, Nat.add_zero]
        rw [show cv.cells.size = size by omega, List.append_assoc]
termination_by ps => ps.length

theorem zip_map {α : Type} (ps : Array (Nat × α)) (ρ : α → Value) : (ps.map fun p => (p.1, ρ p.2)).toList = (ps.toList.map (·.1)).zip ((ps.toList.map (·.2)).map ρ) := by
  rw [Array.toList_map]
  induction ps.toList with
  | nil => rfl
  | cons a l ih => simp [ih]

theorem placesT_some : ∀ {fs : List Field} {l : List (Nat × Nat)}, placesT P fs = some l → fs.mapM (fun f => (P.info? f.type).map fun i => (f.offset, i.size)) = some l
  | [], l, h => by obtain rfl := Option.some.inj (show some [] = some l from h); simp
  | f :: fs, l, h => by
    obtain ⟨n, h1, h2⟩ := bind_some (show (sizeT P f.type).bind _ = some l from h)
    obtain ⟨m, h3, rfl⟩ := map_some h2
    unfold sizeT at h1
    obtain ⟨i, h4, rfl⟩ := map_some h1
    simp [infoF_some h4, placesT_some h3]

theorem zeroT_info {t : TypeId} {z : AV} (h : zeroT P t = some z) : ∃ i zv, P.info? t = some i ∧ i.zero = some zv ∧ ofConst zv = some z := by
  unfold zeroT at h
  obtain ⟨zv, h1, h2⟩ := bind_some h
  obtain ⟨i, h3, h4⟩ := bind_some h1
  exact ⟨i, zv, infoF_some h3, h4, h2⟩

theorem build_gen {t : TypeId} {place : Nat → Option (Nat × Nat)} {z : AV} {zv : Value} {ps : List Nat} {vs : List AV} {cvs : List Value} {v : AV} (hz : ofConst zv = some z) (ha : buildF place z.cells ps vs = some v) (rv : RelL φ vs cvs) (hl : ps.length = cvs.length) :
    ∃ cl : List Value, Instr.fill place zv.cells (ps.zip cvs) = some cl.toArray ∧ Rel φ v (.agg cl.toArray) := by
  unfold buildF at ha
  obtain ⟨l, h1, rfl⟩ := map_some ha
  obtain ⟨cl, h2, h3⟩ := fill_ok h1 (ofConst_rel hz).2.1 rv hl
  rw [Array.toArray_toList] at h2
  exact ⟨cl, h2, .agg h3.chain⟩

theorem build_ok {t : TypeId} {place : Nat → Option (Nat × Nat)} {z : AV} {ps : Array (Nat × Operand)} {ρ : Operand → Value} {vs : List AV} {v : AV} (hz : zeroT P t = some z)
    (hp : (∃ fs l, P.underlying t = some (.struct fs) ∧ placesT P fs.toList = some l ∧ place = fun i => nthG i l) ∨ (∃ n e s, P.underlying t = some (.array n e) ∧ sizeT P e = some s ∧ place = fun i => some (i * s, s)))
    (ha : buildF place z.cells (ps.toList.map (·.1)) vs = some v) (rv : RelL φ vs ((ps.toList.map (·.2)).map ρ)) :
    ∃ cv, (Instr.build t (ps.map fun p => (p.1, ρ p.2))).run P w = .ok cv w ∧ Rel φ v cv := by
  obtain ⟨i, zv, h1, h2, h3⟩ := zeroT_info hz
  obtain ⟨cl, h4, h5⟩ := build_gen (t := t) h3 ha rv (by simp)
  refine ⟨_, run_build w t _ cl.toArray ?_, h5⟩
  unfold Program.built
  rw [zip_map]
  rcases hp with ⟨fs, l, g1, g2, rfl⟩ | ⟨n, e, s, g1, g2, rfl⟩
  · rw [h1, g1]
    simp only [h2, placesT_some g2]
    rw [← h4]; congr 1; funext i; rw [nthG_eq]; simp
  · unfold sizeT at g2
    obtain ⟨ie, g3, rfl⟩ := map_some g2
    rw [h1, g1]
    simp only [h2, infoF_some g3]
    exact h4

theorem buildSlice_ok {t e n b len : Nat} {z : List AV} {ps : Array (Nat × Operand)} {ρ : Operand → Value} {vs : List AV} {r : R} (h : HR φ H w) (ht : P.underlying t = some (.slice e)) (he : elemT P e = some (n, b, z))
    (hc : Nat.ble (len * n) 16777216 = true) (ha : buildSliceF e n len z (ps.toList.map (·.1)) vs H = some r) (rv : RelL φ vs ((ps.toList.map (·.2)).map ρ)) :
    VOk P φ H w (Instr.buildSlice t len (ps.map fun p => (p.1, ρ p.2))) r := by
  obtain ⟨inf, zv, hi, rfl, rfl, hz0, hpos, hzl, hb, za, hza, rfl⟩ := elemT_some he
  rw [ble_iff] at hc
  have hc2 := hc
  unfold buildSliceF at ha
  obtain ⟨l, h1, rfl⟩ := map_some ha
  have hr := RelL.replicate (ofConst_rel (φ := φ) hza).2.1 len
  have hzs := z_size hza hzl
  obtain ⟨cl, h2, h3⟩ := fill_ok h1 hr rv (by simp)
  have e1 : (Array.range (len * inf.size)).map (fun x => zv.cells[x % zv.cells.size]!) = (List.replicate len zv.cells.toList).flatten.toArray := by
    apply Array.ext'
    have := zeroCells_list zv.cells.toList len
    rw [Array.toArray_toList] at this
    rw [← this]; unfold Builtin.zeroCells; rw [hzs]
  refine row_ok (vs := cl.toArray) (cv := .slice (some ⟨w.heap.size, 0, none⟩) len len) h ?_ (by simpa using h3) 0 (slice0 (upd_same _ _ _ _) (Nat.le_refl _) rfl)
  unfold Instr.buildSlice
  have hsz : ∀ w, (sizeOf e).run P w = .ok inf.size w := fun w => by simp [sizeOf, typeInfo, hi]
  have hzv : ∀ w, (zeroValue e).run P w = .ok zv w := fun w => by simp [zeroValue, typeInfo, hi, hz0]
  simp only [Sem.run_bind, run_underlying ht, Result.andThen_ok, hsz]
  rw [if_neg (by omega)]
  by_cases hne : len * inf.size = 0
  · obtain rfl : len = 0 := by
      rcases Nat.mul_eq_zero.1 hne with h | h
      · exact h
      · omega
    have h2' : Instr.fill (fun i => some (i * inf.size, inf.size)) (#[] : Array Value) (ps.map fun p => (p.1, ρ p.2)).toList = some cl.toArray := by
      rw [zip_map]; simpa using h2
    simp only [Nat.zero_mul, if_true, Sem.run_bind, Sem.run_pure, Result.andThen_ok]
    have e3 : (Array.range 0).map (fun x => (#[] : Array Value)[x % (#[] : Array Value).size]!) = #[] := by simp
    rw [e3, h2']
    simp [newRow]
  simp only [Sem.run_bind, Sem.run_pure, Result.andThen_ok, Sem.run_ite, hne, if_false, hzv, e1]
  rw [zip_map, h2]
  simp [newRow]

theorem toBytes_ok {s d e : TypeId} {x : AV} {cx : Value} {r : R} (h : HR φ H w) (hs : P.underlying s = some .string) (hd : P.underlying d = some (.slice e)) (he : P.underlying e = some (.int .u8)) (ha : toBytesF e x H = some r) (rx : Rel φ x cx) :
    VOk P φ H w (convert s d cx) r := by
  unfold toBytesF at ha
  split at ha
  · obtain rfl := Option.some.inj ha
    cases rx; rename_i cs hcs
    have hrun := run_bytes_of_string (P := P) w s d e cs hs hd he
    have hcap : cs.size ≤ grownCap w cs.size 0 e := by unfold grownCap Question.cut; simp only; omega
    have hsz : (bytesRow cs (grownCap w cs.size 0 e)).size = grownCap w cs.size 0 e := by
      unfold bytesRow; simp only [Array.size_append, Array.size_map, Array.size_replicate]
      show cs.size + _ = _; omega
    rw [lenL_eq, str_len hcs]
    refine VOk.of (ψ := upd φ H.next ⟨w.heap.size, 0⟩ (grownCap w cs.size 0 e)) hrun (slice0 (upd_same _ _ _ _) hcap rfl) ?_
    refine h.alloc _ rfl ⟨rfl, rfl, rfl⟩ ⟨rfl, fun o a ho => ?_, (fun k hk => by cases hk), (fun _ => by rw [hsz, Nat.mul_one, Nat.zero_add])⟩
    obtain ⟨cv, h1, h2⟩ := (toCells_rel (φ := upd φ H.next ⟨w.heap.size, 0⟩ (grownCap w cs.size 0 e)) hcs).get (getN_storeL_E ho)
    refine ⟨cv, ?_, h2⟩
    have hlt := (List.getElem?_eq_some_iff.1 h1).1
    unfold bytesRow
    rw [Array.getElem?_append_left (by simpa using hlt)]
    simpa using h1
  · cases ha

theorem ofCells_rel : ∀ {c : AV} {s : List Nat} {vs : List Value}, ofCells c = some s → RelV φ true c vs → ∃ l : List UInt8, l.map (·.toNat) = s ∧ vs = l.map fun b => Value.int .u8 (b.toNat : Int)
  | .nil, s, vs, h, r => by
    obtain rfl := Option.some.inj (show some [] = some s from h)
    cases r; exact ⟨[], rfl, rfl⟩
  | .cons a c, s, vs, h, r => by
    unfold ofCells at h
    split at h
    · rename_i heq; cases heq
    · rename_i n l heq
      obtain ⟨rfl, rfl⟩ := AV.cons.inj heq
      obtain ⟨h1, h2⟩ := cond_some h
      rw [blt_iff] at h1
      obtain ⟨s', h3, rfl⟩ := map_some h2
      cases r; rename_i v vs r1 r2
      cases r1
      obtain ⟨l', h4, rfl⟩ := ofCells_rel h3 r2
      have hb : (UInt8.ofNat n).toNat = n := by simp; omega
      refine ⟨UInt8.ofNat n :: l', by rw [List.map_cons, hb, h4], by rw [List.map_cons, hb]; rfl⟩
    · cases h

theorem ofBytes_ok {s d e : TypeId} {x v : AV} {cx : Value} (h : HR φ H w) (hs : P.underlying s = some (.slice e)) (hd : P.underlying d = some .string) (he : P.underlying e = some (.int .u8)) (ha : ofBytesF x H = some v) (rx : Rel φ x cx) :
    ∃ cv, (convert s d cx).run P w = .ok cv w ∧ Rel φ v cv := by
  unfold ofBytesF at ha
  split at ha
  · rename_i i o len cap
    obtain ⟨l, h1, ha⟩ := bind_some ha
    obtain ⟨t, h2, rfl⟩ := map_some ha
    cases rx; rename_i q b c' o' hb' hl' hc' ho'
    obtain ⟨vs, h3, h4, h5⟩ := cells_of h hb' h1
    obtain ⟨bs, rfl, rfl⟩ := ofCells_rel h2 h4
    have hlen : bs.length = len := by simpa using h3
    subst hlen
    refine ⟨.string ⟨bs.toArray⟩, run_convert_bytes_back w s d e _ _ bs hs he hd fun j hj => ?_, .str rfl⟩
    have h6 := h5 j (.int .u8 (bs[j].toNat : Int)) (by simp [hj])
    rcases ho' with rfl | ⟨e, _⟩
    · rw [Addr.add_lit, Nat.add_assoc]
      exact h6
    · omega
  · obtain rfl := Option.some.inj ha
    cases rx
    refine ⟨.string .empty, ?_, .str rfl⟩
    simp [convert, run_underlying hs, run_underlying hd, run_underlying he, Conv.bytesToString]
  · cases ha

/-! '==' of structs -/
theorem flatEq_nil {x y : List AV} {r : Bool} (h : flatEq [] x y = some r) : r = true := by
  cases x <;> cases y <;> first | (cases h; done) | exact (Option.some.inj h).symm
theorem flatEq_cons {k : FK} {l : List FK} {x y : List AV} {r : Bool} (h : flatEq (k :: l) x y = some r) : ∃ a x' b y', x = a :: x' ∧ y = b :: y' ∧ ((cellEq k a b).bind fun c => cond c (flatEq l x' y') (some false)) = some r := by
  cases x with
  | nil => cases y <;> cases h
  | cons a x => cases y with
    | nil => cases h
    | cons b y => exact ⟨a, x, b, y, rfl, rfl, h⟩
theorem cellEq_bool {a b : AV} {c : Bool} (h : cellEq .bool a b = some c) : ∃ p q, a = .bool p ∧ b = .bool q ∧ c = (p == q) := by
  cases a <;> first | (cases h; done) | skip
  cases b <;> first | (cases h; done) | skip
  exact ⟨_, _, rfl, rfl, (Option.some.inj h).symm⟩
theorem cellEq_int {a b : AV} {c : Bool} (h : cellEq .int a b = some c) : ∃ k p q, a = .int k p ∧ b = .int k q ∧ c = intEq p q := by
  cases a <;> first | (cases h; done) | skip
  cases b <;> first | (cases h; done) | skip
  obtain ⟨h1, h2⟩ := cond_some h
  have := kn_inj h1; subst this
  exact ⟨_, _, _, rfl, rfl, (Option.some.inj h2).symm⟩
theorem cellEq_str {a b : AV} {c : Bool} (h : cellEq .str a b = some c) : ∃ p q, a = .str p ∧ b = .str q ∧ c = bytesEq p q := by
  cases a <;> first | (cases h; done) | skip
  cases b <;> first | (cases h; done) | skip
  exact ⟨_, _, rfl, rfl, (Option.some.inj h).symm⟩
theorem flatEq_ok {d : Nat} {xs ys : Array Value} : ∀ {fs : List Field} {off : Nat} {l : List FK} {x y : List AV} {vs ws : List Value} {r : Bool}, flatT P fs off = some l → flatEq l x y = some r → RelL φ x vs → RelL φ y ws →
    (∀ j, xs[off + j]? = vs[j]?) → (∀ j, ys[off + j]? = ws[j]?) → (Op.eqFields (d + 1) xs ys fs).run P w = .ok r w
  | [], off, l, x, y, vs, ws, r, hf, he, rx, ry, hx, hy => by
    obtain rfl := Option.some.inj (show some [] = some l from hf)
    rw [flatEq_nil he]; rfl
  | f :: fs, off, l, x, y, vs, ws, r, hf, he, rx, ry, hx, hy => by
    unfold flatT at hf
    obtain ⟨h1, hf⟩ := cond_some hf
    simp only [Bool.and_eq_true, beq_iff, Bool.not_eq_true', beq_eq_false_iff_ne] at h1
    obtain ⟨h1, hname⟩ := h1
    obtain ⟨k, hk, hf⟩ := bind_some hf
    obtain ⟨l', hl', rfl⟩ := map_some hf
    obtain ⟨a, x, b, y, rfl, rfl, he⟩ := flatEq_cons he
    obtain ⟨c, hc, he⟩ := bind_some he
    cases rx; rename_i va vs ra rx
    cases ry; rename_i vb ws rb ry
    have hxa : xs[f.offset]? = some va := by rw [h1]; simpa using hx 0
    have hyb : ys[f.offset]? = some vb := by rw [h1]; simpa using hy 0
    have hag : isAggT P f.type = some false ∧ (Op.equalIn (d + 1) f.type va vb).run P w = .ok c w := by
      split at hk
      · rename_i hu; obtain rfl := Option.some.inj hk
        refine ⟨by unfold isAggT; rw [hu], ?_⟩
        obtain ⟨p, q, rfl, rfl, rfl⟩ := cellEq_bool hc
        cases ra; cases rb; exact equalIn_bool (undF_some hu) _ _
      · rename_i kk hu; obtain rfl := Option.some.inj hk
        refine ⟨by unfold isAggT; rw [hu], ?_⟩
        obtain ⟨k0, p, q, rfl, rfl, rfl⟩ := cellEq_int hc
        cases ra; cases rb
        rw [intEq_eq]
        exact equalIn_int (undF_some hu) _ _ _
      · rename_i hu; obtain rfl := Option.some.inj hk
        refine ⟨by unfold isAggT; rw [hu], ?_⟩
        obtain ⟨p, q, rfl, rfl, rfl⟩ := cellEq_str hc
        cases ra; rename_i s1 hs1
        cases rb; rename_i s2 hs2
        rw [equalIn_str (undF_some hu), ba_beq, bytesEq_eq]
        congr 1
        rw [Bool.eq_iff_iff, decide_eq_true_eq, decide_eq_true_eq]
        constructor
        · rintro rfl; rw [← hs1, ← hs2]
        · intro e
          rw [← hs1, ← hs2] at e
          have e' := nat_map_inj e
          have : s1.data = s2.data := Array.ext' e'
          cases s1; cases s2; simp at this; rw [this]
      · cases hk
    unfold Op.eqFields
    rw [if_pos hname]
    have p1 : (part f.type xs f.offset).run P w = .ok va w := by unfold part; simp [isAgg_run hag.1, hxa]
    have p2 : (part f.type ys f.offset).run P w = .ok vb w := by unfold part; simp [isAgg_run hag.1, hyb]
    simp only [Sem.run_bind, p1, p2, hag.2, Result.andThen_ok]
    cases c with
    | false =>
      obtain rfl := Option.some.inj (show some false = some r from he)
      simp
    | true =>
      have ih := flatEq_ok (d := d) (xs := xs) (ys := ys) hl' (show flatEq l' x y = some r from he) rx ry (fun j => by have := hx (j + 1); simp at this; rw [show off + 1 + j = off + (j + 1) by omega]; exact this) (fun j => by have := hy (j + 1); simp at this; rw [show off + 1 + j = off + (j + 1) by omega]; exact this)
      simpa using ih

theorem eq_struct {neg : Bool} {t : TypeId} {fs : Array Field} {l : List FK} {x y v : AV} {cx cy : Value} (ht : P.underlying t = some (.struct fs)) (hf : flatT P fs.toList 0 = some l) (hg : (P.eqGuardType P.depth t || P.stoodInHeld t) = false)
    (h : posNeg neg (aggEq l x y) = some v) (rx : Rel φ x cx) (ry : Rel φ y cy) :
    ∃ cv, (binOp (cond neg .neq .eql) t cx cy).run P w = .ok cv w ∧ Rel φ v cv ∧ ∀ op a b, (eqGuard op t a b cx cy).run P w = .ok () w := by
  obtain ⟨b, h1, rfl⟩ := posNeg_some h
  rw [Bool.or_eq_false_iff] at hg
  unfold aggEq at h1
  split at h1
  · cases rx; rename_i xs rx
    cases ry; rename_i ys ry
    have hfs : P.fieldsOf t = fs := by unfold Program.fieldsOf; rw [ht]
    have he := run_equalIn_struct (P := P) w 9999 t xs.toArray ys.toArray (by rw [hfs]; exact ht) hg.2
    rw [hfs, flatEq_ok (d := 9998) hf h1 (RelL.of_chain rx) (RelL.of_chain ry) (fun j => by simp) (fun j => by simp)] at he
    refine ⟨.bool (cond neg (!b) b), ?_, .bool _, fun op a b => run_eqGuard_agg w op t a b _ _ hg.1⟩
    cases neg with
    | true => rw [cond_true, cond_true, run_neq_struct]; rw [he]; rfl
    | false => rw [cond_false, cond_false, run_eql_struct]; rw [he]; rfl
  · cases h1
end
end Go.Fx

/-! Every operation. -/
namespace Go.Fx
set_option linter.unusedVariables false
set_option linter.unusedSimpArgs false

section
variable {P : Program} {φ : Nat → Option (Blk × Nat)} {H : Hp} {w : World}

theorem stepV {s : Sem Value} {v : AV} (h : HR φ H w) (k : ∃ cv, s.run P w = .ok cv w ∧ Rel φ v cv) : StepOk P φ H w ((do pure (.value (← s)) : Sem Next).run P w) (.val v H) := by
  obtain ⟨cv, h1, h2⟩ := k
  exact .pure h (by simp [h1]) h2
theorem stepVOk {s : Sem Value} {r : R} (k : VOk P φ H w s r) : StepOk P φ H w ((do pure (.value (← s)) : Sem Next).run P w) r := by
  obtain ⟨v, H', cv, w', ψ, rfl, h1, h2, h3, h4⟩ := k
  exact .val (.value cv) cv w' ψ (by simp [h1]) (.inl rfl) h2 h3 h4
theorem stepU {s : Sem Unit} {r : R} (k : ∃ H' w', r = .val undefA H' ∧ s.run P w = .ok () w' ∧ HR φ H' w' ∧ Ext φ H w φ H' w') : StepOk P φ H w ((do s; pure .skip : Sem Next).run P w) r := by
  obtain ⟨H', w', rfl, h1, h2, h3⟩ := k
  exact .val .skip undef w' φ (by simp [h1]) (.inr ⟨rfl, rfl⟩) undef_rel h2 h3

variable {ρA : Operand → Option AV} {a : Act}

theorem valO_some {x : Option AV} {r : R} (h : valO x H = some r) : ∃ v, x = some v ∧ r = .val v H := by
  obtain ⟨v, h1, rfl⟩ := map_some h; exact ⟨v, h1, rfl⟩
theorem evalAll_rel {ρ : Operand → Value} (hρ : ∀ x v, ρA x = some v → Rel φ v (ρ x)) : ∀ {xs : List Operand} {l : List AV}, evalAll ρA xs = some l → RelL φ l (xs.map ρ)
  | [], l, h => by obtain rfl := Option.some.inj (show some [] = some l from h); exact .nil
  | x :: xs, l, h => by
    obtain ⟨v, h1, h2⟩ := bind_some (show (ρA x).bind _ = some l from h)
    obtain ⟨m, h3, rfl⟩ := map_some h2
    exact .cons (hρ _ _ h1) (evalAll_rel hρ h3)

theorem relOpt_of {φ : Nat → Option (Blk × Nat)} {x : Option AV} {o : Option Value} (h : x = none ∧ o = none ∨ ∃ v cv, x = some v ∧ o = some cv ∧ Rel φ v cv) : RelOpt φ x o := by
  rcases h with ⟨rfl, rfl⟩ | ⟨v, cv, rfl, rfl, r⟩
  · exact .none
  · exact .some r

/-- what an operation's specification says, at values -/
noncomputable def specA (s : Spec) (ρ : Operand → Option AV) (H : Hp) : Option R := match s with
  | .p1 x f => (ρ x).bind fun a => valO (f a) H
  | .p2 x y f => (ρ x).bind fun a => (ρ y).bind fun b => valO (f a b) H
  | .pl xs f => (evalAll ρ xs).bind fun l => valO (f l) H
  | .l1 x f => (ρ x).bind fun a => valO (f a H) H
  | .l2 x y f => (ρ x).bind fun a => (ρ y).bind fun b => valO (f a b H) H
  | .h0 f => f H
  | .h1 x f => (ρ x).bind fun a => f a H
  | .h2 x y f => (ρ x).bind fun a => (ρ y).bind fun b => f a b H
  | .h3 x y z f => (ρ x).bind fun a => (ρ y).bind fun b => (ρ z).bind fun c => f a b c H
  | .hl xs f => (evalAll ρ xs).bind fun l => f l H
  | .pick c a b => (ρ c).bind fun
    | .bool t => valO (ρ (cond t a b)) H
    | _ => none
  | .bad => none
theorem opA_eq (ρ : Operand → Option AV) (o : Oper) : opA P ρ H o = specA (spec P o) ρ H := rfl

theorem guard_other {op : BinOp} {t : TypeId} {x y : Operand} {u v : Value} (h1 : op ≠ .eql) (h2 : op ≠ .neq) : eqGuard op t x y u v = pure () := by
  cases op <;> first | rfl | exact absurd rfl h1 | exact absurd rfl h2
theorem guard_int {op : BinOp} {t : TypeId} {x y : Operand} {k k' : IntKind} {m n : Int} : eqGuard op t x y (.int k m) (.int k' n) = pure () := by
  cases op <;> rfl
theorem guard_str {op : BinOp} {t : TypeId} {x y : Operand} {m n : ByteArray} : eqGuard op t x y (.string m) (.string n) = pure () := by
  cases op <;> rfl

variable (hρ : ∀ x v, ρA x = some v → Rel φ v (a.eval x))
include hρ

theorem p1_some {x : Operand} {f : AV → Option AV} {r : R} (h : specA (.p1 x f) ρA H = some r) : ∃ v u, Rel φ v (a.eval x) ∧ f v = some u ∧ r = .val u H := by
  obtain ⟨v, h1, h2⟩ := bind_some h
  obtain ⟨u, h3, h4⟩ := valO_some h2
  exact ⟨v, u, hρ _ _ h1, h3, h4⟩
theorem l1_some {x : Operand} {f : AV → Hp → Option AV} {r : R} (h : specA (.l1 x f) ρA H = some r) : ∃ v u, Rel φ v (a.eval x) ∧ f v H = some u ∧ r = .val u H := by
  obtain ⟨v, h1, h2⟩ := bind_some h
  obtain ⟨u, h3, h4⟩ := valO_some h2
  exact ⟨v, u, hρ _ _ h1, h3, h4⟩
theorem p2_some {x y : Operand} {f : AV → AV → Option AV} {r : R} (h : specA (.p2 x y f) ρA H = some r) : ∃ v z u, Rel φ v (a.eval x) ∧ Rel φ z (a.eval y) ∧ f v z = some u ∧ r = .val u H := by
  obtain ⟨v, h1, h2⟩ := bind_some h
  obtain ⟨z, h5, h2⟩ := bind_some h2
  obtain ⟨u, h3, h4⟩ := valO_some h2
  exact ⟨v, z, u, hρ _ _ h1, hρ _ _ h5, h3, h4⟩
theorem l2_some {x y : Operand} {f : AV → AV → Hp → Option AV} {r : R} (h : specA (.l2 x y f) ρA H = some r) : ∃ v z u, Rel φ v (a.eval x) ∧ Rel φ z (a.eval y) ∧ f v z H = some u ∧ r = .val u H := by
  obtain ⟨v, h1, h2⟩ := bind_some h
  obtain ⟨z, h5, h2⟩ := bind_some h2
  obtain ⟨u, h3, h4⟩ := valO_some h2
  exact ⟨v, z, u, hρ _ _ h1, hρ _ _ h5, h3, h4⟩
theorem pl_some {xs : List Operand} {f : List AV → Option AV} {r : R} (h : specA (.pl xs f) ρA H = some r) : ∃ l u, RelL φ l (xs.map a.eval) ∧ f l = some u ∧ r = .val u H := by
  obtain ⟨l, h1, h2⟩ := bind_some h
  obtain ⟨u, h3, h4⟩ := valO_some h2
  exact ⟨l, u, evalAll_rel hρ h1, h3, h4⟩
theorem h1_some {x : Operand} {f : AV → Hp → Option R} {r : R} (h : specA (.h1 x f) ρA H = some r) : ∃ v, Rel φ v (a.eval x) ∧ f v H = some r := by
  obtain ⟨v, h1, h2⟩ := bind_some h
  exact ⟨v, hρ _ _ h1, h2⟩
theorem h2_some {x y : Operand} {f : AV → AV → Hp → Option R} {r : R} (h : specA (.h2 x y f) ρA H = some r) : ∃ v z, Rel φ v (a.eval x) ∧ Rel φ z (a.eval y) ∧ f v z H = some r := by
  obtain ⟨v, h1, h2⟩ := bind_some h
  obtain ⟨z, h5, h2⟩ := bind_some h2
  exact ⟨v, z, hρ _ _ h1, hρ _ _ h5, h2⟩
theorem h3_some {x y z : Operand} {f : AV → AV → AV → Hp → Option R} {r : R} (h : specA (.h3 x y z f) ρA H = some r) : ∃ u v t, Rel φ u (a.eval x) ∧ Rel φ v (a.eval y) ∧ Rel φ t (a.eval z) ∧ f u v t H = some r := by
  obtain ⟨v, h1, h2⟩ := bind_some h
  obtain ⟨z, h5, h2⟩ := bind_some h2
  obtain ⟨t, h6, h2⟩ := bind_some h2
  exact ⟨v, z, t, hρ _ _ h1, hρ _ _ h5, hρ _ _ h6, h2⟩
theorem hl_some {xs : List Operand} {f : List AV → Hp → Option R} {r : R} (h : specA (.hl xs f) ρA H = some r) : ∃ l, RelL φ l (xs.map a.eval) ∧ f l H = some r := by
  obtain ⟨l, h1, h2⟩ := bind_some h
  exact ⟨l, evalAll_rel hρ h1, h2⟩

/-! '==' and its like -/
theorem eqSpec_ok {neg : Bool} {t : TypeId} {x y : Operand} {r : R} (h : HR φ H w) (ho : specA (eqSpec P neg t x y) ρA H = some r) :
    ∃ v cv, r = .val v H ∧ (binOp (cond neg .neq .eql) t (a.eval x) (a.eval y)).run P w = .ok cv w ∧ Rel φ v cv ∧ (eqGuard (cond neg .neq .eql) t x y (a.eval x) (a.eval y)).run P w = .ok () w := by
  unfold eqSpec at ho
  split at ho
  · rename_i ht
    obtain ⟨v, z, u, r1, r2, h1, rfl⟩ := p2_some hρ ho
    obtain ⟨cv, h2, h3, h4⟩ := eq_bool (w := w) (undF_some ht) h1 r1 r2
    exact ⟨u, cv, rfl, h2, h3, by rw [h4]; rfl⟩
  · rename_i e ht
    split at ho
    · rename_i n hn
      obtain ⟨v, z, u, r1, r2, h1, rfl⟩ := l2_some hρ ho
      obtain ⟨cv, h2, h3, h4⟩ := eq_ptr (w := w) h (undF_some ht) hn h1 r1 r2
      exact ⟨u, cv, rfl, h2, h3, by rw [h4]; rfl⟩
    · cases ho
  · rename_i ht
    obtain ⟨v, z, u, r1, r2, h1, rfl⟩ := p2_some hρ ho
    obtain ⟨cv, h2, h3, h4⟩ := eq_iface (w := w) (undF_some ht) h1 r1 r2
    exact ⟨u, cv, rfl, h2, h3, by rw [h4]; rfl⟩
  · rename_i ht
    obtain ⟨v, z, u, r1, r2, h1, rfl⟩ := p2_some hρ ho
    obtain ⟨cv, h2, h3, h4⟩ := eq_slice (w := w) (undF_some ht) h1 r1 r2
    exact ⟨u, cv, rfl, h2, h3, by rw [h4]; rfl⟩
  · rename_i ht
    obtain ⟨v, z, u, r1, r2, h1, rfl⟩ := p2_some hρ ho
    obtain ⟨cv, h2, h3, h4⟩ := eq_map (w := w) (undF_some ht) h1 r1 r2
    exact ⟨u, cv, rfl, h2, h3, by rw [h4]; rfl⟩
  · rename_i ht
    obtain ⟨v, z, u, r1, r2, h1, rfl⟩ := p2_some hρ ho
    obtain ⟨cv, h2, h3, h4⟩ := eq_func (w := w) (undF_some ht) h1 r1 r2
    exact ⟨u, cv, rfl, h2, h3, by rw [h4]; rfl⟩
  · rename_i fs ht
    split at ho
    · rename_i l hl
      cases hc : (P.eqGuardType P.depth t || P.stoodInHeld t) with
      | true => rw [hc] at ho; cases ho
      | false =>
        rw [hc, cond_false] at ho
        obtain ⟨v, z, u, r1, r2, h1, rfl⟩ := p2_some hρ ho
        obtain ⟨cv, h2, h3, h4⟩ := eq_struct (w := w) (undF_some ht) hl hc h1 r1 r2
        exact ⟨u, cv, rfl, h2, h3, h4 _ _ _⟩
    · cases ho
  · cases ho

theorem binSpec_ok {op : BinOp} {t : TypeId} {x y : Operand} {r : R} (h : HR φ H w) (ho : specA (binSpec P op t x y) ρA H = some r) :
    ∃ v cv, r = .val v H ∧ (binOp op t (a.eval x) (a.eval y)).run P w = .ok cv w ∧ Rel φ v cv ∧ (eqGuard op t x y (a.eval x) (a.eval y)).run P w = .ok () w := by
  unfold binSpec at ho
  split at ho
  · obtain ⟨v, z, u, r1, r2, h1, rfl⟩ := p2_some hρ ho
    obtain ⟨cv, h2, h3⟩ := shl_ok (P := P) (w := w) (t := t) h1 r1 r2
    exact ⟨u, cv, rfl, h2, h3, rfl⟩
  · obtain ⟨v, z, u, r1, r2, h1, rfl⟩ := p2_some hρ ho
    obtain ⟨cv, h2, h3⟩ := shr_ok (P := P) (w := w) (t := t) h1 r1 r2
    exact ⟨u, cv, rfl, h2, h3, rfl⟩
  · rename_i n1 n2
    split at ho
    · rename_i k hk
      split at ho
      · rename_i f hf
        obtain ⟨v, z, u, r1, r2, h1, rfl⟩ := p2_some hρ ho
        obtain ⟨k', m, n, rfl, rfl, h2⟩ := int2_some h1
        generalize a.eval x = cx at r1 ⊢
        generalize a.eval y = cy at r2 ⊢
        cases r1; cases r2
        obtain ⟨cv, h3, h4⟩ := intBin_ok (P := P) (φ := φ) (w := w) (t := t) hf h2
        exact ⟨u, cv, rfl, h3, h4, by rw [guard_int]; rfl⟩
      · cases ho
    · rename_i hk
      obtain ⟨v, z, u, r1, r2, h1, rfl⟩ := p2_some hρ ho
      obtain ⟨cv, h2, h3⟩ := strBin_ok (P := P) (w := w) (t := t) h1 r1 r2 n1 n2
      refine ⟨u, cv, rfl, h2, h3, ?_⟩
      have : ∃ p q, v = .str p ∧ z = .str q := by
        unfold strBin at h1
        split at h1
        · exact ⟨_, _, rfl, rfl⟩
        · cases h1
      obtain ⟨p, q, rfl, rfl⟩ := this
      generalize a.eval x = cx at r1 ⊢
      generalize a.eval y = cy at r2 ⊢
      cases r1; cases r2
      rw [guard_str]; rfl
    · split at ho
      · exact eqSpec_ok hρ (neg := false) h ho
      · exact eqSpec_ok hρ (neg := true) h ho
      · cases ho

omit hρ in
theorem optArgs_rel {lo hi mx : Option Operand} {x : Operand} {l : List AV} (r : RelL φ l ((x :: (optL lo ++ (optL hi ++ optL mx))).map a.eval)) {f : Option AV → Option AV → Option AV → AV → Option AV} {v : AV}
    (h : optArgs lo.isSome hi.isSome mx.isSome l f = some v) : ∃ xa loA hiA mxA, f loA hiA mxA xa = some v ∧ Rel φ xa (a.eval x) ∧ RelOpt φ loA (lo.map a.eval) ∧ RelOpt φ hiA (hi.map a.eval) ∧ RelOpt φ mxA (mx.map a.eval) := by
  obtain ⟨xa, la, ha, ma, h1, e1, e2, e3, rfl⟩ := optArgs_ok h
  refine ⟨xa, la, ha, ma, h1, ?_⟩
  cases lo <;> cases la <;> simp only [Option.isSome, reduceCtorEq] at e1 <;> cases hi <;> cases ha <;> simp only [Option.isSome, reduceCtorEq] at e2 <;> cases mx <;> cases ma <;> simp only [Option.isSome, reduceCtorEq] at e3
  all_goals
    simp only [optL, Option.toList, List.nil_append, List.append_nil, List.cons_append, List.map_cons, List.map_nil] at r
    cases r with | cons r1 r =>
  all_goals first
    | (cases r with | nil => exact ⟨r1, .none, .none, .none⟩)
    | (cases r with | cons r2 r => cases r with
        | nil => first | exact ⟨r1, .some r2, .none, .none⟩ | exact ⟨r1, .none, .some r2, .none⟩ | exact ⟨r1, .none, .none, .some r2⟩)
    | (cases r with | cons r2 r => cases r with | cons r3 r => cases r with
        | nil => first | exact ⟨r1, .some r2, .some r3, .none⟩ | exact ⟨r1, .some r2, .none, .some r3⟩ | exact ⟨r1, .none, .some r2, .some r3⟩)
    | (cases r with | cons r2 r => cases r with | cons r3 r => cases r with | cons r4 r => exact ⟨r1, .some r2, .some r3, .some r4⟩)

omit hρ in
theorem eval_func (f : FuncId) : a.eval (.func f) = .func (.func f) #[] #[] := rfl

theorem builtin_ok {b : Builtin} {tys : List TypeId} {args : List Operand} {ty : TypeId} {consts : Array Bool} {r : R} (h : HR φ H w) (ho : specA (builtinSpec P b tys args) ρA H = some r) :
    StepOk P φ H w ((builtin b tys.toArray ty consts (args.map a.eval).toArray).run P w) r := by
  cases b <;> simp only [builtinSpec] at ho
  case append =>
    split at ho
    · rename_i t u s x
      split at ho
      · rename_i e e' ht hu
        split at ho
        · rename_i n b z he
          obtain ⟨v, y, r1, r2, h1⟩ := h2_some hρ ho
          exact stepVOk (append_ok (undF_some ht) ⟨_, undF_some hu, fun _ => nofun⟩ he h h1 r1 r2)
        · cases ho
      · rename_i e ht hu
        split at ho
        · rename_i n b z he
          obtain ⟨v, y, r1, r2, h1⟩ := h2_some hρ ho
          exact stepVOk (append_ok (undF_some ht) ⟨_, undF_some hu, fun _ => nofun⟩ he h h1 r1 r2)
        · cases ho
      · cases ho
    · cases ho
  case copy =>
    split at ho
    · split at ho
      · rename_i ht
        split at ho
        · rename_i n hn
          obtain ⟨v, y, r1, r2, h1⟩ := h2_some hρ ho
          exact stepVOk (copy_ok (undF_some ht) hn h h1 r1 r2)
        · cases ho
      · cases ho
    · cases ho
  case len =>
    split at ho
    · split at ho
      · rename_i ht
        obtain ⟨v, u, r1, h1, rfl⟩ := p1_some hρ ho
        exact stepV h (len_str (undF_some ht) h1 r1)
      · rename_i ht
        obtain ⟨v, u, r1, h1, rfl⟩ := p1_some hρ ho
        exact stepV h (len_sl (undF_some ht) h1 r1)
      · rename_i ht
        obtain ⟨v, u, r1, h1, rfl⟩ := l1_some hρ ho
        exact stepV h (len_map h (undF_some ht) h1 r1)
      · rename_i ht
        obtain ⟨v, u, r1, h1, rfl⟩ := p1_some hρ ho
        obtain rfl := Option.some.inj h1
        exact stepV h (len_arr (undF_some ht))
      · cases ho
    · cases ho
  case cap =>
    split at ho
    · split at ho
      · rename_i ht
        obtain ⟨v, u, r1, h1, rfl⟩ := p1_some hρ ho
        exact stepV h (cap_sl (undF_some ht) h1 r1)
      · cases ho
    · cases ho
  case clear =>
    split at ho
    · split at ho
      · rename_i ht
        obtain ⟨v, r1, h1⟩ := h1_some hρ ho
        exact stepVOk (clear_map h (undF_some ht) h1 r1)
      · rename_i ht
        split at ho
        · rename_i n b z he
          obtain ⟨v, r1, h1⟩ := h1_some hρ ho
          exact stepVOk (clear_sl h (undF_some ht) he h1 r1)
        · cases ho
      · cases ho
    · cases ho
  case delete =>
    split at ho
    · split at ho
      · rename_i ht
        split at ho
        · rename_i s hs
          obtain ⟨v, y, r1, r2, h1⟩ := h2_some hρ ho
          exact stepVOk (delete_ok h (undF_some ht) hs h1 r1 r2)
        · cases ho
      · cases ho
    · cases ho
  case max =>
    obtain ⟨l, u, r1, h1, rfl⟩ := pl_some hρ ho
    exact stepV h (max_ok h1 r1)
  case min =>
    obtain ⟨l, u, r1, h1, rfl⟩ := pl_some hρ ho
    exact stepV h (min_ok h1 r1)
  all_goals (cases ho; done)

omit hρ in
theorem callV_ok {f : Operand} {args : Array Operand} {tys : Array TypeId} {ty : TypeId} {l : List AV} {r : R} (h : HR φ H w) (ho : callV l H = some r) (rl : RelL φ l ((f :: args.toList).map a.eval)) :
    StepOk P φ H w ((do let d ← (Deferred.ofValue (a.eval f) (args.map a.eval)); invoke d.target d.args : Sem Next).run P w) r := by
  unfold callV at ho
  split at ho
  · rename_i g first captured args'
    obtain rfl := Option.some.inj ho
    rw [List.map_cons] at rl
    generalize a.eval f = cf at rl ⊢
    cases rl with
    | cons r1 r2 =>
      cases r1; rename_i xs ys r3 r4
      refine .enter (xs ++ (args.toList.map a.eval ++ ys)) ?_ ((RelL.of_chain r3).append (r2.append (RelL.of_chain r4)))
      simp only [Deferred.ofValue, Sem.run_bind, Sem.run_pure, Result.andThen_ok, invoke]
      congr 2
      apply Array.ext'
      simp
  · cases ho

/-- every operation -/
theorem opA_ok {o : Oper} {r : R} (h : HR φ H w) (ho : opA P ρA H o = some r) : StepOk P φ H w ((execOp a.eval o).run P w) r := by
  rw [opA_eq] at ho
  obtain ⟨dst, op, ty, pos, after, guard⟩ := o
  unfold execOp
  cases op <;> simp only [spec] at ho
  case move x =>
    obtain ⟨v, u, r1, h1, rfl⟩ := p1_some hρ ho
    obtain rfl := Option.some.inj h1
    exact .pure h rfl r1
  case assign x =>
    obtain ⟨v, u, r1, h1, rfl⟩ := p1_some hρ ho
    obtain rfl := Option.some.inj h1
    exact .pure h rfl r1
  case pick c x y =>
    obtain ⟨v, h1, h2⟩ := bind_some (show (ρA c).bind _ = some r from ho)
    have r1 := hρ _ _ h1
    split at h2
    · rename_i t
      obtain ⟨u, h3, rfl⟩ := valO_some h2
      have r2 := hρ _ _ h3
      simp only
      generalize a.eval c = cv at r1
      cases r1
      cases t with
      | true => exact .pure h (by simp [asBool]) r2
      | false => exact .pure h (by simp [asBool]) r2
    · cases h2
  case alloc e =>
    split at ho
    · rename_i he; exact stepVOk (alloc_ok h he ho)
    · cases ho
  case box e x =>
    obtain ⟨v, r1, h1⟩ := h1_some hρ ho
    exact stepVOk (box_ok h h1 r1)
  case build t ps =>
    split at ho
    · rename_i z fs hz ht
      split at ho
      · rename_i pl hp
        obtain ⟨l, u, r1, h1, rfl⟩ := pl_some hρ ho
        exact stepV h (build_ok (ρ := a.eval) hz (.inl ⟨fs, pl, undF_some ht, hp, rfl⟩) h1 r1)
      · cases ho
    · rename_i z n e hz ht
      split at ho
      · rename_i s hs
        obtain ⟨l, u, r1, h1, rfl⟩ := pl_some hρ ho
        exact stepV h (build_ok (ρ := a.eval) hz (.inr ⟨n, e, s, undF_some ht, hs, rfl⟩) h1 r1)
      · cases ho
    · cases ho
  case buildSlice t len ps =>
    split at ho
    · rename_i e ht
      split at ho
      · rename_i n b z he
        cases hc : Nat.ble (len * n) 16777216 with
        | false => rw [hc] at ho; cases ho
        | true =>
          rw [hc, cond_true] at ho
          obtain ⟨l, r1, h1⟩ := hl_some hρ ho
          exact stepVOk (buildSlice_ok (ρ := a.eval) h (undF_some ht) he hc h1 r1)
      · cases ho
    · cases ho
  case load t x =>
    split at ho
    · rename_i hg
      obtain ⟨v, u, r1, h1, rfl⟩ := l1_some hρ ho
      exact stepV h (load1_ok h hg h1 r1)
    · rename_i n hg hn
      obtain ⟨v, u, r1, h1, rfl⟩ := l1_some hρ ho
      exact stepV h (loadN_ok h hg hn h1 r1)
    · cases ho
  case store t x y =>
    split at ho
    · rename_i n hn
      obtain ⟨v, z, r1, r2, h1⟩ := h2_some hρ ho
      exact stepU (store_op h hn h1 r1 r2)
    · cases ho
  case nilCheck x =>
    obtain ⟨v, u, r1, h1, rfl⟩ := p1_some hρ ho
    obtain ⟨b, o, h2, rfl⟩ := nilCheck_ok h1 r1
    simp only [h2]
    rw [h2] at r1
    exact .pure h rfl r1
  case binOp op t x y =>
    obtain ⟨v, cv, rfl, h2, h3, h4⟩ := binSpec_ok hρ h ho
    refine stepV h ⟨cv, ?_, h3⟩
    simp [h4, h2]
  case unOp op t x =>
    split at ho
    · obtain ⟨v, u, r1, h1, rfl⟩ := p1_some hρ ho
      exact stepV h (not_ok h1 r1)
    · obtain ⟨v, u, r1, h1, rfl⟩ := p1_some hρ ho
      exact stepV h (neg_ok h1 r1)
    · cases ho
  case convert s d x =>
    unfold convSpec at ho
    split at ho
    · rename_i hs hd
      obtain ⟨v, u, r1, h1, rfl⟩ := p1_some hρ ho
      exact stepV h (convInt_ok (undF_some hs) (undF_some hd) h1 r1)
    · rename_i hs hd
      obtain ⟨v, u, r1, h1, rfl⟩ := p1_some hρ ho
      exact stepV h (convStr_ok (undF_some hs) (undF_some hd) h1 r1)
    · rename_i e hs hd
      split at ho
      · rename_i he
        split at ho
        · obtain ⟨v, r1, h1⟩ := h1_some hρ ho
          exact stepVOk (toBytes_ok h (undF_some hs) (undF_some hd) (undF_some he) h1 r1)
        · cases ho
      · cases ho
    · rename_i e hs hd
      split at ho
      · rename_i he
        obtain ⟨v, u, r1, h1, rfl⟩ := l1_some hρ ho
        exact stepV h (ofBytes_ok h (undF_some hs) (undF_some hd) (undF_some he) h1 r1)
      · cases ho
    · cases ho
  case makeInterface t x =>
    split at ho
    · cases ho
    · rename_i d hn ht
      obtain ⟨v, u, r1, h1, rfl⟩ := p1_some hρ ho
      obtain rfl := Option.some.inj h1
      exact stepV h ⟨_, iface_ok (undF_some ht) (fun ms e => hn ms e) r1⟩
    · cases ho
  case makeFunc fn xs ys =>
    obtain ⟨l, u, r1, h1, rfl⟩ := pl_some hρ ho
    obtain rfl := Option.some.inj h1
    refine stepV h ⟨.func fn (xs.map a.eval) (ys.map a.eval), rfl, ?_⟩
    rw [List.map_append] at r1
    have t1 := r1.take xs.size
    have t2 := r1.drop xs.size
    rw [List.take_left' (by simp)] at t1
    rw [List.drop_left' (by simp)] at t2
    have := RelV.func (fn := fn) t1.chain t2.chain
    rw [← Array.toList_map, ← Array.toList_map, Array.toArray_toList, Array.toArray_toList] at this
    exact this
  case makeMap t rv =>
    cases rv with
    | some _ => cases ho
    | none => obtain rfl := Option.some.inj (show some (R.val (.map H.next) (H.new (.map [] 0))) = some r from ho); exact stepVOk (makeMap_ok (t := t) h)
  case makeSlice t l c =>
    split at ho
    · rename_i e ht
      split at ho
      · rename_i n b z he
        obtain ⟨v, u, r1, r2, h1⟩ := h2_some hρ ho
        exact stepVOk (makeSlice_ok h (undF_some ht) he h1 r1 r2)
      · cases ho
    · cases ho
  case slice t x lo hi mx =>
    unfold sliceSpec at ho
    simp only at ho
    split at ho
    · rename_i ht
      split at ho
      · cases ho
      · obtain ⟨l, u, r1, h1, rfl⟩ := pl_some hρ ho
        obtain ⟨xa, la, ha, ma, h2, r2, r3, r4, r5⟩ := optArgs_rel (mx := none) r1 h1
        obtain ⟨cv, g1, g2⟩ := sliceStr_ok (P := P) (w := w) (undF_some ht) h2 r2 r3 r4
        refine stepV h ⟨cv, ?_, g2⟩
        rw [← g1]; unfold Instr.sliceAt; simp [run_underlying (undF_some ht)]
    · rename_i e ht
      split at ho
      · rename_i n hn
        obtain ⟨l, u, r1, h1, rfl⟩ := pl_some hρ ho
        obtain ⟨xa, la, ha, ma, h2, r2, r3, r4, r5⟩ := optArgs_rel r1 h1
        exact stepV h (sliceSl_ok hn (undF_some ht) h2 r2 r3 r4 r5)
      · cases ho
    · rename_i m e ht
      split at ho
      · rename_i n hn
        obtain ⟨l, u, r1, h1, rfl⟩ := pl_some hρ ho
        obtain ⟨xa, la, ha, ma, h2, r2, r3, r4, r5⟩ := optArgs_rel (mx := none) r1 h1
        exact stepV h (sliceArr_ok hn (.inl (undF_some ht)) h2 r2 r3 r4)
      · cases ho
    · rename_i b ht
      split at ho
      · rename_i m e hb
        split at ho
        · rename_i n hn
          obtain ⟨l, u, r1, h1, rfl⟩ := pl_some hρ ho
          obtain ⟨xa, la, ha, ma, h2, r2, r3, r4, r5⟩ := optArgs_rel (mx := none) r1 h1
          exact stepV h (sliceArr_ok hn (.inr ⟨b, undF_some ht, undF_some hb⟩) h2 r2 r3 r4)
        · cases ho
      · cases ho
    · cases ho
  case fieldAddr t x f =>
    split at ho
    · rename_i g hf
      cases hc : Nat.beq g.2.1 0 with
      | true => rw [hc] at ho; cases ho
      | false =>
        rw [hc, cond_false] at ho
        obtain ⟨v, u, r1, h1, rfl⟩ := p1_some hρ ho
        exact stepV h (fieldAddr_ok hf hc h1 r1)
    · cases ho
  case field t x f =>
    split at ho
    · rename_i g hf
      obtain ⟨v, u, r1, h1, rfl⟩ := p1_some hρ ho
      exact stepV h (field_ok hf h1 r1)
    · cases ho
  case indexAddr t x ix =>
    split at ho
    · rename_i len e ht
      split at ho
      · rename_i s hs
        obtain ⟨v, z, u, r1, r2, h1, rfl⟩ := p2_some hρ ho
        exact stepV h (idxArr_ok hs (undF_some ht) h1 r1 r2)
      · cases ho
    · rename_i e ht
      split at ho
      · rename_i s hs
        obtain ⟨v, z, u, r1, r2, h1, rfl⟩ := p2_some hρ ho
        exact stepV h (idxSl_ok hs (undF_some ht) h1 r1 r2)
      · cases ho
    · cases ho
  case index t x ix =>
    split at ho
    · rename_i ht
      obtain ⟨v, z, u, r1, r2, h1, rfl⟩ := p2_some hρ ho
      exact stepV h (indexStr_ok (undF_some ht) h1 r1 r2)
    · rename_i len e ht
      split at ho
      · rename_i s g hs hg
        obtain ⟨v, z, u, r1, r2, h1, rfl⟩ := p2_some hρ ho
        exact stepV h (indexAgg_ok (undF_some ht) hs hg h1 r1 r2)
      · cases ho
    · cases ho
  case lookup t m k ok =>
    split at ho
    · rename_i kt e ht
      split at ho
      · rename_i s z hs hz
        obtain ⟨v, z, u, r1, r2, h1, rfl⟩ := l2_some hρ ho
        exact stepV h (lookup_ok h (undF_some ht) hs hz h1 r1 r2)
      · cases ho
    · cases ho
  case mapUpdate t m k x =>
    split at ho
    · rename_i kt e ht
      split at ho
      · rename_i s hs
        obtain ⟨v, u, y, r1, r2, r3, h1⟩ := h3_some hρ ho
        exact stepU (mapUpdate_ok h (undF_some ht) hs h1 r1 r2 r3)
      · cases ho
    · cases ho
  case range t x =>
    split at ho
    · rename_i kt e ht
      obtain ⟨v, r1, h1⟩ := h1_some hρ ho
      exact stepVOk (range_ok h (undF_some ht) h1 r1)
    · cases ho
  case next it b =>
    cases b with
    | true => cases ho
    | false =>
      obtain ⟨v, r1, h1⟩ := h1_some hρ ho
      exact stepVOk (next_ok h h1 r1)
  case entry it =>
    obtain ⟨v, r1, h1⟩ := h1_some hρ ho
    exact stepVOk (entry_ok h h1 r1)
  case typeAssert x xt as ok =>
    split at ho
    · cases ho
    · rename_i d z hn ht hz
      obtain ⟨v, u, r1, h1, rfl⟩ := p1_some hρ ho
      exact stepV h (assert_ok (undF_some ht) (fun ms e => hn ms e) hz h1 r1)
    · cases ho
  case extract x i =>
    obtain ⟨v, u, r1, h1, rfl⟩ := p1_some hρ ho
    exact stepV h (extract_ok h1 r1)
  case call c =>
    obtain ⟨callee, args, tys⟩ := c
    simp only at ho
    unfold resolve
    cases callee with
    | invoke => cases ho
    | builtin b =>
      have hb := fun consts => builtin_ok hρ (ty := ty) (consts := consts) h ho
      simp only [Array.toArray_toList, ← Array.toList_map] at hb
      simp only [Sem.run_bind, Sem.run_pure, Result.andThen_ok, invoke]
      exact hb _
    | value f =>
      cases f with
      | func g =>
        obtain ⟨l, r1, h1⟩ := hl_some hρ ho
        obtain rfl := Option.some.inj h1
        refine .enter (args.toList.map a.eval) ?_ r1
        simp [eval_func, Deferred.ofValue, invoke]
        rw [← Array.toList_map, Array.toArray_toList]
      | tmp t =>
        obtain ⟨l, r1, h1⟩ := hl_some hρ ho
        exact callV_ok (ty := ty) (tys := tys) h h1 r1
      | const t =>
        obtain ⟨l, r1, h1⟩ := hl_some hρ ho
        exact callV_ok (ty := ty) (tys := tys) h h1 r1
      | global t =>
        obtain ⟨l, r1, h1⟩ := hl_some hρ ho
        exact callV_ok (ty := ty) (tys := tys) h h1 r1
  all_goals (cases ho; done)
end
end Go.Fx
