import Derived.Test.YtelhhbcccndaaaaGreatDoorXf
/-! Maps and their iterators. -/
namespace Go.Fx
set_option linter.unusedVariables false
set_option linter.unusedSimpArgs false

section
variable {P : Program} {φ : Nat → Option (Nat × Nat)} {H : Hp} {w : World}

inductive KeyD : Bool → TypeDesc → Prop where
  | int (k : IntKind) : KeyD false (.int k)
  | str : KeyD true .string
theorem keyT_some {kt : TypeId} {s : Bool} (h : keyT P kt = some s) : ∃ d, P.underlying kt = some d ∧ KeyD s d := by
  unfold keyT at h
  split at h
  · rename_i k hk; obtain rfl := Option.some.inj h; exact ⟨_, undF_some hk, .int k⟩
  · rename_i hk; obtain rfl := Option.some.inj h; exact ⟨_, undF_some hk, .str⟩
  · cases h
theorem check_run {kt : TypeId} {d : TypeDesc} {s : Bool} (hd : P.underlying kt = some d) (hk : KeyD s d) (e : Bool) (k : Value) : (Instr.checkKey e 10000 kt k).run P w = .ok () w := by
  show (Instr.checkKey e (9999 + 1) kt k).run P w = _
  unfold Instr.checkKey
  cases hk <;> simp [run_underlying hd]

theorem ba_beq (a b : ByteArray) : (a == b) = decide (a = b) := by
  rw [Bool.eq_iff_iff, decide_eq_true_eq]
  obtain ⟨a⟩ := a
  obtain ⟨b⟩ := b
  show (a == b) = true ↔ _
  rw [beq_iff_eq]
  simp

theorem key_eq {s : Bool} {d : TypeDesc} {k e : AV} {ck ce : Value} {b : Bool} (hd : KeyD s d) (h : keyEq s k e = some b) (rk : Rel φ k ck) (re : Rel φ e ce) :
    Instr.sameNow d ck ce = some b ∧ (b = true → e = k ∧ ce = ck ∧ Instr.sameBits 10000 ce ck = true) := by
  unfold keyEq at h
  split at h
  · rename_i a x b' y
    obtain ⟨h1, h2⟩ := cond_some h
    have := kn_inj h1; subst this
    obtain rfl := Option.some.inj h2
    cases rk; cases re; cases hd
    refine ⟨?_, fun hb => ?_⟩
    · show (if a = a then some (x == y) else none) = _
      rw [if_pos rfl, intEq_eq]; rfl
    · rw [intEq_eq, decide_eq_true_eq] at hb
      subst hb
      refine ⟨rfl, rfl, ?_⟩
      show (a == a && x == x) = true
      simp
  · rename_i x y
    obtain rfl := Option.some.inj h
    cases rk; rename_i cx hx
    cases re; rename_i cy hy
    cases hd
    rw [bytesEq_eq]
    have hiff : cx = cy ↔ x = y := by
      constructor
      · rintro rfl; rw [← hx, ← hy]
      · intro e
        rw [← hx, ← hy] at e
        have e' : cx.data.toList = cy.data.toList := nat_map_inj e
        have : cx.data = cy.data := Array.ext' e'
        cases cx; cases cy; simp at this; rw [this]
    refine ⟨?_, fun hb => ?_⟩
    · show some (cx == cy) = _
      congr 1
      rw [ba_beq, Bool.eq_iff_iff, decide_eq_true_eq, decide_eq_true_eq]; exact hiff
    · rw [decide_eq_true_eq] at hb
      have hc := hiff.2 hb
      subst hb; subst hc
      refine ⟨rfl, rfl, ?_⟩
      show (cx == cx) = true
      rw [ba_beq]; simp
  · cases h

theorem RelE.get {l : List (AV × AV × Nat)} {es : List MapEntry} (r : RelE φ l es) {i : Nat} {e : AV × AV × Nat} (h : l[i]? = some e) : ∃ e', es[i]? = some e' ∧ Rel φ e.1 e'.key ∧ Rel φ e.2.1 e'.val ∧ e'.born = e.2.2 := by
  induction r generalizing i with
  | nil => simp at h
  | cons a b _ ih =>
    cases i with
    | zero => simp at h; subst h; exact ⟨_, rfl, a, b, rfl⟩
    | succ i => simp at h ⊢; exact ih h

/-- what has been found -/
inductive Found (φ : Nat → Option (Nat × Nat)) (k : AV) (ck : Value) (es : List (AV × AV × Nat)) (es' : List MapEntry) (i : Nat) : Option (Nat × AV) → Option (Nat × Value) → Prop where
  | none : Found φ k ck es es' i none none
  | some {j : Nat} {n : Nat} {v : AV} {v' : Value} : es[j]? = some (k, v, n) → es'[j]? = some ⟨ck, v', n⟩ → Rel φ v v' → Instr.sameBits 10000 ck ck = true → Found φ k ck es es' i (some (i + j, v)) (some (i + j, v'))

theorem find_ok {s : Bool} {d : TypeDesc} {k : AV} {ck : Value} (hd : KeyD s d) (rk : Rel φ k ck) : ∀ {es : List (AV × AV × Nat)} {es' : List MapEntry} {i : Nat} {r : Option (Nat × AV)}, findKeyA s k es i = some r → RelE φ es es' →
    ∃ r', Instr.findNow d ck es' i = some r' ∧ Found φ k ck es es' i r r'
  | [], _, i, r, h, he => by
    cases he
    obtain rfl := Option.some.inj (show some none = some r from h)
    exact ⟨none, rfl, .none⟩
  | e :: es, _, i, r, h, he => by
    cases he; rename_i k1 v1 n1 kv vv es' r1 r2 he
    unfold findKeyA at h
    split at h
    · rename_i h1
      obtain rfl := Option.some.inj h
      obtain ⟨g1, g2⟩ := key_eq hd h1 rk r1
      obtain ⟨rfl, rfl, g3⟩ := g2 rfl
      refine ⟨some (i, vv), ?_, Found.some (j := 0) (n := n1) rfl rfl r2 g3⟩
      unfold Instr.findNow; rw [g1]
    · rename_i h1
      obtain ⟨g1, _⟩ := key_eq hd h1 rk r1
      obtain ⟨r', h3, h4⟩ := find_ok hd rk h he
      refine ⟨r', ?_, ?_⟩
      · unfold Instr.findNow; rw [g1]; exact h3
      · cases h4 with
        | none => exact .none
        | some a b c g => rw [Nat.add_assoc, Nat.add_comm 1]; exact .some (j := _ + 1) a b c g
    · cases h

theorem find_run {s : Bool} {d : TypeDesc} {kt : TypeId} {k : AV} {ck : Value} {es : List (AV × AV × Nat)} {es' : List MapEntry} {r : Option (Nat × AV)} (ht : P.underlying kt = some d) (hd : KeyD s d) (rk : Rel φ k ck)
    (h : findKeyA s k es 0 = some r) (re : RelE φ es es') : ∃ r', (Instr.findKey kt ck es').run P w = .ok r' w ∧ Found φ k ck es es' 0 r r' := by
  obtain ⟨r', h1, h2⟩ := find_ok hd rk h re
  refine ⟨r', ?_, h2⟩
  unfold Instr.findKey
  simp [run_underlying ht, h1]

theorem RelE.eraseIdx {l : List (AV × AV × Nat)} {es : List MapEntry} (r : RelE φ l es) (i : Nat) : RelE φ (l.eraseIdx i) (es.eraseIdx i) := by
  induction r generalizing i with
  | nil => exact .nil
  | cons a b r ih =>
    cases i with
    | zero => exact r
    | succ i => exact .cons a b (ih i)
theorem RelE.append {l m : List (AV × AV × Nat)} {es fs : List MapEntry} (r : RelE φ l es) (s : RelE φ m fs) : RelE φ (l ++ m) (es ++ fs) := by
  induction r with
  | nil => exact s
  | cons a b _ ih => exact .cons a b ih
theorem RelE.modify {l : List (AV × AV × Nat)} {es : List MapEntry} (r : RelE φ l es) {i n : Nat} {k v x : AV} {ck v' cx : Value} (h1 : l[i]? = some (k, v, n)) (h2 : es[i]? = some ⟨ck, v', n⟩) (rx : Rel φ x cx) :
    RelE φ (l.modify i fun e => (e.1, x, e.2.2)) (es.modify i fun e => { e with key := ck, val := cx }) := by
  induction r generalizing i with
  | nil => simp at h1
  | cons a b r ih =>
    cases i with
    | zero => simp at h1 h2; obtain ⟨rfl, rfl, rfl⟩ := h1; obtain ⟨rfl, rfl, _⟩ := h2; exact .cons a rx r
    | succ i => simp at h1 h2; exact .cons a b (ih h1 h2)

theorem delete_ok {t kt e : TypeId} {rest : List TypeId} {ty : TypeId} {s : Bool} {m k : AV} {cm ck : Value} {r : R} (h : HR φ H w) (ht : P.underlying t = some (.map kt e)) (hs : keyT P kt = some s) (ha : deleteF s m k H = some r)
    (rm : Rel φ m cm) (rk : Rel φ k ck) : VOk P φ H w (Builtin.delete_ (t :: rest).toArray ty #[cm, ck]) r := by
  obtain ⟨d, hd, hk⟩ := keyT_some hs
  unfold deleteF at ha
  split at ha
  · split at ha
    · rename_i es clock hg
      obtain ⟨f, h1, rfl⟩ := map_some ha
      cases rm; rename_i b q hb
      obtain ⟨es', h2, h3⟩ := map_obj h hb hg
      obtain ⟨f', h4, h5⟩ := find_run (P := P) (w := w) hd hk rk h1 h3
      cases h5 with
      | none =>
        refine VOk.of ?_ undef_rel (map_turn h hb hg h2 (es2' := es') h3)
        simp [Builtin.delete_, run_underlying ht, get_map h2, set_map _ h2, check_run hd hk, h4]
      | @some j n v v' g1 g2 g3 gs =>
        refine VOk.of ?_ undef_rel (map_turn h hb hg h2 (es2' := es'.eraseIdxIfInBounds (0 + j)) ?_)
        · simp [Builtin.delete_, run_underlying ht, get_map h2, set_map _ h2, check_run hd hk, h4]
        · rw [Array.toList_eraseIdxIfInBounds]; exact h3.eraseIdx _
    · cases ha
  · obtain rfl := Option.some.inj ha
    cases rm
    refine VOk.same h ?_ undef_rel
    simp [Builtin.delete_, run_underlying ht, check_run hd hk]
  · cases ha

theorem withOk_rel {ok b : Bool} {v : AV} {cv : Value} (r : Rel φ v cv) : Rel φ (withOk ok v b) (if ok then .tuple #[cv, .bool b] else cv) := by
  cases ok with
  | true => exact .tuple (.cons r (.cons (.bool b) .nil))
  | false => exact r
theorem zeroT_run {t : TypeId} {z : AV} (h : zeroT P t = some z) : ∃ zv, ofConst zv = some z ∧ ∀ w, (zeroValue t).run P w = .ok zv w := by
  unfold zeroT at h
  obtain ⟨zv, h1, h2⟩ := bind_some h
  obtain ⟨i, h3, h4⟩ := bind_some h1
  refine ⟨zv, h2, fun w => ?_⟩
  simp [zeroValue, typeInfo, infoF_some h3, h4]

theorem lookup_ok {t kt e : TypeId} {s ok : Bool} {z m k : AV} {cm ck : Value} {r : AV} (h : HR φ H w) (ht : P.underlying t = some (.map kt e)) (hs : keyT P kt = some s) (hz : zeroT P e = some z) (ha : lookupF s z ok m k H = some r)
    (rm : Rel φ m cm) (rk : Rel φ k ck) : ∃ cv, (Instr.lookup t cm ck ok).run P w = .ok cv w ∧ Rel φ r cv := by
  obtain ⟨d, hd, hk⟩ := keyT_some hs
  obtain ⟨zv, hz1, hz2⟩ := zeroT_run hz
  unfold lookupF at ha
  obtain ⟨es, h1, ha⟩ := bind_some ha
  obtain ⟨f, h2, rfl⟩ := map_some ha
  unfold entriesOf at h1
  split at h1
  · obtain rfl := Option.some.inj h1
    cases rm
    obtain ⟨f', h4, h5⟩ := find_run (P := P) (w := w) (es' := []) hd hk rk h2 .nil
    cases h5 with
    | none =>
      refine ⟨_, ?_, withOk_rel (ofConst_rel hz1).1⟩
      unfold Instr.lookup
      simp [run_underlying ht, check_run hd hk, h4, hz2]
    | @some j n v v' g1 g2 g3 gs => simp at g1
  · split at h1
    · rename_i es0 clock hg
      obtain rfl := Option.some.inj h1
      cases rm; rename_i b q hb
      obtain ⟨es', h6, h3⟩ := map_obj h hb hg
      obtain ⟨f', h4, h5⟩ := find_run (P := P) (w := w) hd hk rk h2 h3
      cases h5 with
      | none =>
        refine ⟨_, ?_, withOk_rel (ofConst_rel hz1).1⟩
        unfold Instr.lookup
        simp [run_underlying ht, check_run hd hk, h4, hz2, get_map h6]
      | @some j n v v' g1 g2 g3 gs =>
        refine ⟨_, ?_, withOk_rel g3⟩
        unfold Instr.lookup
        simp [run_underlying ht, check_run hd hk, h4, hz2, get_map h6]
    · cases h1
  · cases h1

theorem mapUpdate_ok {t kt e : TypeId} {s : Bool} {m k x : AV} {cm ck cx : Value} {r : R} (h : HR φ H w) (ht : P.underlying t = some (.map kt e)) (hs : keyT P kt = some s) (ha : mapUpdateF s m k x H = some r)
    (rm : Rel φ m cm) (rk : Rel φ k ck) (rx : Rel φ x cx) : ∃ H' w', r = .val undefA H' ∧ (Instr.mapUpdate t cm ck cx).run P w = .ok () w' ∧ HR φ H' w' ∧ Ext φ H w φ H' w' := by
  obtain ⟨d, hd, hk⟩ := keyT_some hs
  unfold mapUpdateF at ha
  split at ha
  · split at ha
    · rename_i es clock hg
      obtain ⟨f, h1, rfl⟩ := map_some ha
      cases rm; rename_i b q hb
      obtain ⟨es', h2, h3⟩ := map_obj h hb hg
      obtain ⟨f', h4, h5⟩ := find_run (P := P) (w := w) hd hk rk h1 h3
      cases h5 with
      | none =>
        obtain ⟨g1, g2⟩ := map_turn (k2 := clock + 1) (es2 := es ++ [(k, x, clock)]) h hb hg h2 (es2' := es'.push ⟨ck, cx, clock⟩) (by rw [Array.toList_push]; exact h3.append (.cons rk rx .nil))
        refine ⟨_, _, rfl, ?_, g1, g2⟩
        unfold Instr.mapUpdate
        simp [run_underlying ht, get_map h2, set_map _ h2, check_run hd hk, h4]
      | @some j n v v' g1 g2 g3 gs =>
        rw [Nat.zero_add] at h4 ⊢
        obtain ⟨g4, g5⟩ := map_turn (k2 := clock) (es2 := es.modify j fun e => (e.1, x, e.2.2)) h hb hg h2 (es2' := es'.modify j fun e => { e with key := ck, val := cx }) (by rw [Array.toList_modify]; exact h3.modify g1 g2 rx)
        refine ⟨_, _, rfl, ?_, g4, g5⟩
        have g6 : es'[j]? = some ⟨ck, v', n⟩ := by simpa using g2
        unfold Instr.mapUpdate
        simp [run_underlying ht, get_map h2, set_map _ h2, check_run hd hk, h4, g6, Instr.keyThatStays, gs]
    · cases ha
  · cases ha
end
end Go.Fx
