import Derived.Test.YtelhhbcccndaaaaGreatDoorXg
/-! Iterators; what makes an object. -/
namespace Go.Fx
set_option linter.unusedVariables false
set_option linter.unusedSimpArgs false

section
variable {P : Program} {φ : Nat → Option (Nat × Nat)} {H : Hp} {w : World}

/-- a new object -/
theorem new_ok {o : AObj} {co : Obj} {q : Nat} {s : Sem Value} {v : AV} {cv : Value} (h : HR φ H w) (e : s.run P w = .ok cv (w.alloc co)) (r : RelO (upd φ H.next w.heap.size q) q o co) (rv : Rel (upd φ H.next w.heap.size q) v cv) :
    VOk P φ H w s (.val v (H.new o)) := VOk.of e rv (h.alloc q rfl ⟨rfl, rfl, rfl⟩ r)

theorem range_ok {t kt e : TypeId} {m : AV} {cm : Value} {r : R} (h : HR φ H w) (ht : P.underlying t = some (.map kt e)) (ha : rangeF m H = some r) (rm : Rel φ m cm) : VOk P φ H w (Instr.range t cm) r := by
  unfold rangeF at ha
  split at ha
  · obtain rfl := Option.some.inj ha
    cases rm
    refine new_ok (q := 0) (co := .mapIter none 0 #[] 0) (cv := .pointer (some ⟨w.heap.size, 0, none⟩)) h ?_ ⟨rfl, rfl, rfl, trivial⟩ (.ptr (upd_same _ _ _ _))
    unfold Instr.range
    simp [run_underlying ht]
  · split at ha
    · rename_i es clock hg
      obtain rfl := Option.some.inj ha
      cases rm; rename_i r' _ b q hb
      obtain ⟨es', h1, h2⟩ := map_obj h hb hg
      refine new_ok (q := 0) (co := .mapIter (some b) clock #[] clock) (cv := .pointer (some ⟨w.heap.size, 0, none⟩)) h ?_ ⟨rfl, rfl, rfl, q, upd_sub h _ _ _ _ hb⟩ (.ptr (upd_same _ _ _ _))
      unfold Instr.range
      simp [run_underlying ht, get_map h1]
    · cases ha
  · cases ha

theorem anyEq_eq (n : Nat) (l : List Nat) : anyEq n l = l.contains n := by
  induction l with
  | nil => rfl
  | cons a l ih =>
    unfold anyEq
    rw [ih, List.contains_cons]
    cases h : Nat.beq a n with
    | true => rw [beq_iff] at h; subst h; simp
    | false =>
      have : a ≠ n := fun e => by rw [← beq_iff, h] at e; cases e
      have h2 : (n == a) = false := by simp; exact fun e => this e.symm
      rw [h2]; rfl

theorem RelE.filter {l : List (AV × AV × Nat)} {es : List MapEntry} (r : RelE φ l es) (f : Nat → Bool) : RelE φ (l.filter fun e => f e.2.2) (es.filter fun e => f e.born) := by
  induction r with
  | nil => exact .nil
  | @cons _ _ n _ _ _ _ a b _ ih =>
    rw [List.filter_cons, List.filter_cons]
    simp only
    cases f n with
    | true => exact .cons a b ih
    | false => exact ih
theorem RelE.all {l : List (AV × AV × Nat)} {es : List MapEntry} (r : RelE φ l es) (f : Nat → Bool) : l.all (fun e => f e.2.2) = es.all (fun e => f e.born) := by
  induction r with
  | nil => rfl
  | cons a b _ ih => rw [List.all_cons, List.all_cons, ih]
theorem RelE.find {l : List (AV × AV × Nat)} {es : List MapEntry} (r : RelE φ l es) (f : Nat → Bool) {e : AV × AV × Nat} (h : l.find? (fun e => f e.2.2) = some e) : ∃ e', es.find? (fun e => f e.born) = some e' ∧ Rel φ e.1 e'.key ∧ Rel φ e.2.1 e'.val := by
  induction r with
  | nil => cases h
  | @cons _ _ n _ _ _ _ a b _ ih =>
    rw [List.find?_cons] at h ⊢
    simp only at h ⊢
    cases hf : f n with
    | true => rw [hf] at h; obtain rfl := Option.some.inj h; exact ⟨_, rfl, a, b⟩
    | false => rw [hf] at h; exact ih h

def IterM (φ : Nat → Option (Nat × Nat)) : Option Nat → Option Nat → Prop
  | none, none => True
  | some r, some b => ∃ k, φ r = some (b, k)
  | _, _ => False
theorem iter_obj {r b q : Nat} {m : Option Nat} {s t : Nat} {l : List Nat} (h : HR φ H w) (hr : φ r = some (b, q)) (hg : H.get r = some (.iter m s l t)) : ∃ m' l', w.heap[b]? = some (.mapIter m' s l' t) ∧ l'.toList = l ∧ IterM φ m m' := by
  obtain ⟨co, h1, h2⟩ := h.obj _ _ _ _ hg hr
  cases co <;> simp only [RelO] at h2
  obtain ⟨rfl, h2, rfl, h3⟩ := h2
  refine ⟨_, _, h1, h2, ?_⟩
  rename_i m' _ _ _
  cases m <;> cases m' <;> exact h3

theorem next_ok {ty : TypeId} {it : AV} {ci : Value} {r : R} (h : HR φ H w) (ha : nextF it H = some r) (ri : Rel φ it ci) : VOk P φ H w (Instr.next ci false ty) r := by
  unfold nextF at ha
  split at ha
  case h_2 => cases ha
  cases ri; rename_i r' b q hb
  split at ha
  · rename_i s l t hg
    obtain rfl := Option.some.inj ha
    obtain ⟨m', l', h1, h2, h3⟩ := iter_obj h hb hg
    cases m' with
    | some _ => exact h3.elim
    | none =>
      refine VOk.same h (cv := .tuple #[.bool false]) ?_ (.tuple (.cons (.bool _) .nil))
      unfold Instr.next
      simp [get_iter h1]
  · rename_i m since seen last hg
    split at ha
    case h_2 => cases ha
    rename_i es clock hm
    obtain ⟨m', l', h1, h2, h3⟩ := iter_obj h hb hg
    cases m' with
    | none => exact h3.elim
    | some mb =>
    obtain ⟨k, hmb⟩ := h3
    obtain ⟨es', h4, h5⟩ := map_obj h hmb hm
    cases hc : !seen.isEmpty && !es.isEmpty && es.all (fun e => Nat.ble last e.2.2) with
    | true => rw [hc] at ha; cases ha
    | false =>
    rw [hc, cond_false] at ha
    have hguard : (!l'.isEmpty && !es'.isEmpty && es'.all (fun e => decide (e.born ≥ last))) = false := by
      rw [← hc, ← h2]
      have e1 : l'.isEmpty = l'.toList.isEmpty := by cases l'; simp
      have e2 : es'.isEmpty = es.isEmpty := by
        have := h5.length
        rw [Bool.eq_iff_iff, List.isEmpty_iff_length_eq_zero]
        simp [this]
      have e3 : es'.all (fun e => decide (e.born ≥ last)) = es.all (fun e => Nat.ble last e.2.2) := by
        rw [← Array.all_toList, ← h5.all (fun n => decide (n ≥ last))]
        congr 1; funext e; rw [ble_eq]
      rw [e1, e2, e3]
    have hleft := h5.filter fun n => !(anyEq n seen)
    have hl2 : (es'.filter fun e => !l'.contains e.born).toList = es'.toList.filter fun e => !(anyEq e.born seen) := by
      rw [Array.toList_filter]; congr 1; funext e; rw [anyEq_eq, ← h2]; simp
    unfold nextOf at ha
    split at ha
    · rename_i hf
      rw [hf] at hleft
      have hnil : es'.toList.filter (fun e => !(anyEq e.born seen)) = [] := by
        generalize es'.toList.filter (fun e => !(anyEq e.born seen)) = x at hleft; cases hleft; rfl
      have hemp : (es'.filter fun e => !l'.contains e.born) = #[] := by apply Array.ext'; rw [hl2, hnil]
      obtain rfl := Option.some.inj ha
      refine VOk.same h (cv := .tuple #[.bool false]) ?_ (.tuple (.cons (.bool _) .nil))
      unfold Instr.next
      simp only [Sem.run_bind, get_iter h1, Result.andThen_ok, get_map h4, hguard, hemp]
      simp [Question.forced]
    · rename_i e hf
      obtain ⟨k1, v1, n1⟩ := e
      obtain ⟨hlt, ha⟩ := cond_some ha
      rw [blt_iff] at hlt
      simp only at hlt
      obtain rfl := Option.some.inj ha
      rw [hf] at hleft
      have : ∃ e', es'.toList.filter (fun e => !(anyEq e.born seen)) = [e'] ∧ e'.born = n1 ∧ Rel φ k1 e'.key ∧ Rel φ v1 e'.val := by
        generalize es'.toList.filter (fun e => !(anyEq e.born seen)) = x at hleft
        cases hleft; rename_i a b c; cases c; exact ⟨_, rfl, rfl, a, b⟩
      obtain ⟨e', he, rfl, rk, rv⟩ := this
      have hone : (es'.filter fun e => !l'.contains e.born) = #[e'] := by apply Array.ext'; rw [hl2, he]
      have hbl : b < w.heap.size := (Array.getElem?_eq_some_iff.1 h1).1
      have hturn := h.turn (w' := { w with heap := w.heap.setIfInBounds b (.mapIter (some mb) since (l'.push e'.born) clock) }) (o' := .iter (some m) since (seen ++ [e'.born]) clock) (co := .mapIter (some mb) since (l'.push e'.born) clock) hg hb (by simp) (by simp [hbl])
        (fun c hc => by show (w.heap.setIfInBounds b _)[c]? = _; rw [Array.getElem?_setIfInBounds_ne (Ne.symm hc)]) ⟨rfl, rfl, rfl⟩ ⟨rfl, by rw [Array.toList_push, h2], rfl, k, hmb⟩
      refine VOk.of (cv := .tuple #[.bool true, e'.key, e'.val]) ?_ (.tuple (.cons (.bool _) (.cons rk (.cons rv .nil)))) hturn
      unfold Instr.next
      simp only [Sem.run_bind, get_iter h1, Result.andThen_ok, get_map h4, hguard, hone]
      simp [Question.forced, hlt, show ¬ since ≤ e'.born by omega, set_iter _ h1]
    · cases ha
  · cases ha

theorem entry_ok {it : AV} {ci : Value} {r : R} (h : HR φ H w) (ha : entryF it H = some r) (ri : Rel φ it ci) : VOk P φ H w (Instr.entry ci) r := by
  unfold entryF at ha
  split at ha
  case h_2 => cases ha
  cases ri; rename_i r' b q hb
  split at ha
  case h_2 => cases ha
  rename_i m since seen stepped hg
  split at ha
  case h_2 => cases ha
  rename_i es clock stamp hm hs
  obtain ⟨h0, ha2⟩ := cond_some ha
  rw [beq_iff] at h0; subst h0
  obtain ⟨e, he, rfl⟩ := map_some ha2
  obtain ⟨m', l', h1, h2, h3⟩ := iter_obj h hb hg
  cases m' with
  | none => exact h3.elim
  | some mb =>
    obtain ⟨k, hmb⟩ := h3
    obtain ⟨es', h4, h5⟩ := map_obj h hmb hm
    obtain ⟨e', h6, rk, rv⟩ := h5.find (fun n => Nat.beq n stamp) he
    have h7 : es'.find? (fun e => e.born == stamp) = some e' := by
      rw [← Array.find?_toList, ← h6]; congr 1; funext e; rw [beq_eq]; rfl
    have h8 : l'.back? = some stamp := by rw [← h2] at hs; rw [← hs]; cases l'; simp
    refine VOk.same h (cv := .tuple #[e'.key, e'.val]) ?_ (.tuple (.cons rk (.cons rv .nil)))
    unfold Instr.entry
    simp [get_iter h1, h8, get_map h4, h7]
end
end Go.Fx
