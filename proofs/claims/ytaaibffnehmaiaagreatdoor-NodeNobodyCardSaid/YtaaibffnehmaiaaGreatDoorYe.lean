import Derived.Test.YtaaibffnehmaiaaGreatDoorYd
import Derived.Maps.RangeWalk
/-! A step of a loop over a map of numbers and texts, in whatever order. -/
namespace Go.Fx
open Go.RowKit Go.MapKept Go.ChangeMaps
set_option linter.unusedVariables false

theorem leftOf_size_push {es : Array MapEntry} {seen : Array Nat} {e : MapEntry} (h : e ∈ (leftOf es seen).toList) : (leftOf es (seen.push e.born)).size < (leftOf es seen).size := left_shrinks es seen e h

section
variable {P : Program} {w : World} {ops : Array Oper} {rest : List Oper} {o : Oper} {a : Act} {Q : Exit → Act → World → Prop}

/-- what a step has turned -/
structure Stepped (w w' : World) (r : Nat) : Prop where
  size : w'.heap.size = w.heap.size
  other : ∀ i, i ≠ r → w'.heap[i]? = w.heap[i]?
  os : w'.os = w.os
  tape : w'.tape = w.tape
  output : w'.output = w.output

theorem wpList_next_raw (hg : o.guard = none) (it : Operand) (hop : o.op = Op.next it false) (r bm since c0 : Nat) (seen : Array Nat) (es : Array MapEntry) (clock : Nat) (hit : a.eval it = .pointer (some ⟨r, 0, none⟩))
    (hr : w.heap[r]? = some (.mapIter (some bm) since seen c0)) (hb : w.heap[bm]? = some (.map es clock)) (hold : ∀ x ∈ es.toList, x.born < since) (hsc : since ≤ c0) (hn : (es.toList.map (·.born)).Nodup) (hne : r ≠ bm)
    (hkv : ∀ x ∈ es.toList, ∃ (k : Nat) (s : ByteArray), x.key = .int .i64 k ∧ x.val = .string s)
    (hDone : (leftOf es seen).size = 0 → wpList P ops Q rest (a.put o.dst (.tuple #[.bool false])) w)
    (hMore : ∀ (e : MapEntry) (k : Nat) (s : ByteArray) (w' : World), e ∈ (leftOf es seen).toList → e.key = .int .i64 k → e.val = .string s → w'.heap[r]? = some (.mapIter (some bm) since (seen.push e.born) clock) → Stepped w w' r →
      (Instr.entry (.pointer (some ⟨r, 0, none⟩))).run P w' = .ok (.tuple #[.int .i64 k, .string s]) w' → wpList P ops Q rest (a.put o.dst (.tuple #[.bool true, .int .i64 k, .string s])) w') :
    wpList P ops Q (o :: rest) a w := by
  refine wpList_plain hg fun K' hK' => ?_
  unfold Oper.wp
  rcases run_next_at (P := P) w o.type r bm since c0 seen es clock hr hb hold hsc with ⟨h0, hrun⟩ | ⟨e, he, w1, hal, hrun⟩
  · simp [execOp, hop, hit, hrun, Result.andThen]
    exact hK' _ _ (hDone h0)
  · have hem : e ∈ es.toList := (mem_left he).1
    obtain ⟨k, s, hk, hv⟩ := hkv e hem
    have hr1 : w1.heap[r]? = some (.mapIter (some bm) since seen c0) := by rcases hal with rfl | rfl <;> exact hr
    have hb1 : w1.heap[bm]? = some (.map es clock) := by rcases hal with rfl | rfl <;> exact hb
    have hset := heap_set (o' := .mapIter (some bm) since (seen.push e.born) clock) hr1
    have hb' : (setBlock w1 r (.mapIter (some bm) since (seen.push e.born) clock)).heap[bm]? = some (.map es clock) := (hset.2 bm (fun e1 => hne e1.symm)).trans hb1
    have hen := run_entry_at (P := P) _ r bm since seen es clock e hset.1 hb' hem hn
    rw [hk, hv] at hen hrun
    simp [execOp, hop, hit, hrun, Result.andThen]
    refine hK' _ _ (hMore e k s _ he hk hv hset.1 ?_ hen)
    rcases hal with rfl | rfl
    · exact ⟨by simp [setBlock], hset.2, rfl, rfl, rfl⟩
    · exact ⟨by simp [setBlock], hset.2, rfl, rfl, rfl⟩

theorem wpList_range_raw (hg : o.guard = none) (m : Operand) (t k e : TypeId) (hop : o.op = Op.range t m) (ht : P.underlying t = some (.map k e)) (b : Nat) (es : Array MapEntry) (clock : Nat) (hm : a.eval m = .map (some b)) (hb : w.heap[b]? = some (.map es clock))
    (hK : wpList P ops Q rest (a.put o.dst (.pointer (some ⟨w.heap.size, 0, none⟩))) (w.alloc (.mapIter (some b) clock #[] clock))) : wpList P ops Q (o :: rest) a w := by
  refine wpList_plain hg fun K' hK' => ?_
  unfold Oper.wp
  simp [execOp, hop, hm, run_range_map w t k e b es clock ht hb, Result.andThen]
  exact hK' _ _ hK
end
end Go.Fx

/-! A loop that stores a map's entries into a row, in whatever order. -/
namespace Go.Fx
open Go.RowKit Go.ChangeMaps
set_option linter.unusedVariables false
set_option linter.unusedSimpArgs false

theorem run_clear_map {P : Program} (w : World) (t ty k e : TypeId) (ht : P.underlying t = some (.map k e)) (b : Nat) (es : Array MapEntry) (clock : Nat) (hb : w.heap[b]? = some (.map es clock)) :
    (Builtin.clear_ #[t] ty #[.map (some b)]).run P w = .ok (.tuple #[]) (Go.ChangeMaps.setBlock w b (.map #[] clock)) := by
  simp [Builtin.clear_, run_underlying ht, MapKept.run_getObj_map hb, MapKept.run_setObj_map _ hb, Result.andThen, Go.ChangeMaps.setBlock]

theorem lt_of_cell' {w : World} {b o : Nat} {v : Value} (h : w.cell? ⟨b, o, none⟩ = some v) : b < w.heap.size := by
  cases hb : w.heap[b]? with
  | none => simp [World.cell?, hb] at h
  | some _ => exact (Array.getElem?_eq_some_iff.1 hb).1
theorem cell_setCell_ne {w : World} {b o p : Nat} {v : Value} (h : o ≠ p) : (w.setCell ⟨b, p, none⟩ v).cell? ⟨b, o, none⟩ = w.cell? ⟨b, o, none⟩ := by
  cases hb : w.heap[b]? with
  | none => simp [World.cell?, World.setCell, Array.getElem?_modify, hb]
  | some x => cases x <;> simp [World.cell?, World.setCell, Array.getElem?_modify, hb, h.symm]
theorem alloc_old {w : World} {o : Obj} {i : Nat} (h : i < w.heap.size) : (w.alloc o).heap[i]? = w.heap[i]? := Below.heap_alloc w o i h
theorem alloc_new {w : World} {o : Obj} : (w.alloc o).heap[w.heap.size]? = some o := (MapKept.heap_alloc w o).1

/-- the loop of Sync under way -/
structure SyncSt (w0 : World) (bj bm br : Nat) (es : Array MapEntry) (clock : Nat) (et : TypeId) (fr : Nat × Nat) (c0 : Array Value) (w : World) : Prop where
  st : ∃ (seen : Array Nat) (c1 : Nat) (c : Array Value), w.heap[br]? = some (.mapIter (some bm) clock seen c1) ∧ clock ≤ c1 ∧ w.heap[bj]? = some (.cells c et fr) ∧ c.size = c0.size ∧
    (∀ x ∈ es.toList, seen.contains x.born = true → ∀ k : Nat, x.key = .int .i64 k → c[k]? = some x.val) ∧ (∀ o : Nat, (∀ x ∈ es.toList, seen.contains x.born = true → x.key ≠ .int .i64 o) → c[o]? = c0[o]?)
  size : w.heap.size = w0.heap.size
  other : ∀ i, i ≠ bj → i ≠ br → w.heap[i]? = w0.heap[i]?
  os : w.os = w0.os
  tape : w.tape = w0.tape
  output : w.output = w0.output

/-- how many are left -/
def syncLeft (es : Array MapEntry) (br : Nat) (w : World) : Nat := match w.heap[br]? with
  | some (.mapIter _ _ seen _) => (leftOf es seen).size
  | _ => 0

/-- what Sync has turned -/
structure SyncPost (w0 : World) (bd bj bm : Nat) (a : Int) (es : Array MapEntry) (clock : Nat) (et : TypeId) (fr : Nat × Nat) (c0 : Array Value) (w : World) : Prop where
  row : ∃ c : Array Value, w.heap[bj]? = some (.cells c et fr) ∧ c.size = c0.size ∧ (∀ x ∈ es.toList, ∀ k : Nat, x.key = .int .i64 k → c[k]? = some x.val) ∧ (∀ o : Nat, (∀ x ∈ es.toList, x.key ≠ .int .i64 o) → c[o]? = c0[o]?)
  map : w.heap[bm]? = some (.map #[] clock)
  disk : w.heap[bd]? = (w0.setCell ⟨bd, 5, none⟩ (.int .i64 (a + 1))).heap[bd]?
  size : w0.heap.size ≤ w.heap.size
  other : ∀ i, i < w0.heap.size → i ≠ bj → i ≠ bm → i ≠ bd → w.heap[i]? = w0.heap[i]?
  os : w.os = w0.os
  tape : w.tape = w0.tape
  output : w.output = w0.output

theorem SyncSt.step {w0 wr w1 : World} {bj bm br : Nat} {es : Array MapEntry} {clock : Nat} {et : TypeId} {fr : Nat × Nat} {c0 : Array Value} (h : SyncSt w0 bj bm br es clock et fr c0 wr) (hne : bj ≠ br)
    {seen : Array Nat} {c1 : Nat} {c : Array Value} (g1 : wr.heap[br]? = some (.mapIter (some bm) clock seen c1)) (g2 : wr.heap[bj]? = some (.cells c et fr)) (g3 : c.size = c0.size)
    (g4 : ∀ x ∈ es.toList, seen.contains x.born = true → ∀ k : Nat, x.key = .int .i64 k → c[k]? = some x.val) (g5 : ∀ o : Nat, (∀ x ∈ es.toList, seen.contains x.born = true → x.key ≠ .int .i64 o) → c[o]? = c0[o]?)
    {e : MapEntry} {k : Nat} (he : e ∈ es.toList) (hk : e.key = .int .i64 k) (hlt : k < c.size) (hnd : (es.toList.map (·.born)).Nodup) (hkd : ∀ x ∈ es.toList, ∀ y ∈ es.toList, x.key = y.key → x = y)
    (hr1 : w1.heap[br]? = some (.mapIter (some bm) clock (seen.push e.born) clock)) (hst : Stepped wr w1 br) : SyncSt w0 bj bm br es clock et fr c0 (w1.setCell ⟨bj, k, none⟩ e.val) := by
  have hb : w1.heap[bj]? = some (.cells c et fr) := (hst.other bj hne).trans g2
  refine ⟨⟨seen.push e.born, clock, c.setIfInBounds k e.val, (setCell_other (a := ⟨bj, k, none⟩) (fun e => hne e.symm)).trans hr1, Nat.le_refl _, setCell_heap hb, by simpa using g3, fun x hx hs j hj => ?_, fun o ho => ?_⟩, ?_, fun i h1 h2 => ?_, hst.os.trans h.os, hst.tape.trans h.tape, hst.output.trans h.output⟩
  · by_cases hxe : x = e
    · subst hxe
      rw [hk] at hj
      have : k = j := by injection hj with _ h; exact Int.ofNat.inj h
      subst this
      simp [hlt]
    · have hb : x.born ≠ e.born := fun hb => hxe (born_inj hnd hx he hb)
      have hs' : seen.contains x.born = true := by
        rw [contains_push] at hs
        have : (x.born == e.born) = false := by simp [hb]
        simpa [this] using hs
      have hkj : k ≠ j := by
        rintro rfl
        exact hxe (hkd x hx e he (hj.trans hk.symm))
      rw [Array.getElem?_setIfInBounds_ne hkj]
      exact g4 x hx hs' j hj
  · have hko : k ≠ o := by
      rintro rfl
      exact ho e he (by rw [contains_push]; simp) hk
    rw [Array.getElem?_setIfInBounds_ne hko]
    exact g5 o fun x hx hs => ho x hx (by rw [contains_push, hs]; simp)
  · have : (w1.setCell ⟨bj, k, none⟩ e.val).heap.size = w1.heap.size := by simp [World.setCell]
    rw [this, hst.size, h.size]
  · exact (setCell_other (a := ⟨bj, k, none⟩) h1).trans ((hst.other i h2).trans (h.other i h1 h2))

theorem syncLeft_eq {w : World} {es : Array MapEntry} {br since c1 : Nat} {m : Option Nat} {seen : Array Nat} (h : w.heap[br]? = some (.mapIter m since seen c1)) : syncLeft es br w = (leftOf es seen).size := by
  unfold syncLeft; rw [h]

theorem SyncSt.done {w W wr : World} {bd bj bm : Nat} {a : Int} {es : Array MapEntry} {clock : Nat} {et : TypeId} {fr : Nat × Nat} {c0 : Array Value}
    (hW : w.setCell ⟨bd, 5, none⟩ (.int .i64 (a + 1)) = W) (h : SyncSt (W.alloc (.mapIter (some bm) clock #[] clock)) bj bm W.heap.size es clock et fr c0 wr) (hbd : bd < w.heap.size) (hbj : bj < w.heap.size) (hbm : bm < w.heap.size) (hdj : bd ≠ bj) (hdm : bd ≠ bm) (hjm : bj ≠ bm)
    (hz : syncLeft es W.heap.size wr = 0) (hb : wr.heap[bm]? = some (.map es clock)) : SyncPost w bd bj bm a es clock et fr c0 (setBlock wr bm (.map #[] clock)) := by
  obtain ⟨⟨seen, c1, c, q1, q2, q3, q4, q5, q6⟩, p2, p3, p4, p5, p6⟩ := h
  rw [syncLeft_eq q1] at hz
  have hall := all_seen es seen hz
  have hset := MapKept.heap_set (o' := .map #[] clock) hb
  have hWs : W.heap.size = w.heap.size := by rw [← hW]; simp [World.setCell]
  have hWo : ∀ i, i ≠ bd → W.heap[i]? = w.heap[i]? := fun i hi => by rw [← hW]; exact setCell_other (a := ⟨bd, 5, none⟩) hi
  refine ⟨⟨c, (hset.2 bj hjm).trans q3, q4, fun x hx k hk => q5 x hx (hall x hx) k hk, fun o ho => q6 o fun x hx _ => ho x hx⟩, hset.1, ?_, ?_, fun i hi h1 h2 h3 => ?_, ?_, ?_, ?_⟩
  · rw [hW]
    exact (hset.2 bd hdm).trans ((p3 bd hdj (by omega)).trans (alloc_old (by omega)))
  · show w.heap.size ≤ (setBlock wr bm (.map #[] clock)).heap.size
    have : (setBlock wr bm (.map #[] clock)).heap.size = wr.heap.size := by simp [setBlock]
    rw [this, p2]; simp; omega
  · exact (hset.2 i h2).trans ((p3 i h1 (by omega)).trans ((alloc_old (by omega)).trans (hWo i h3)))
  · show wr.os = w.os; rw [p4, ← hW]; rfl
  · show wr.tape = w.tape; rw [p5, ← hW]; rfl
  · show wr.output = w.output; rw [p6, ← hW]; rfl

end Go.Fx

/-! Functions that are summed up: a disk's Sync. -/
namespace Go.Fx
open Go.RowKit Go.ChangeMaps
set_option linter.unusedVariables false
set_option linter.unusedSimpArgs false


/-- what is shown of Sync by a walk -/
def SyncSays (P : Program) (g : FuncId) : Prop := ∀ (bd bj bm n cap : Nat) (f a : Int) (es : Array MapEntry) (clock : Nat) (c0 : Array Value) (et : TypeId) (fr : Nat × Nat) (w : World)
    (h0 : w.cell? ⟨bd, 0, none⟩ = some (.slice (some ⟨bj, 0, none⟩) n cap)) (h1 : w.cell? ⟨bd, 1, none⟩ = some (.map (some bm))) (h2 : w.cell? ⟨bd, 2, none⟩ = some (.bool true)) (h3 : w.cell? ⟨bd, 3, none⟩ = some (.int .i64 f)) (hf : f < 0)
    (h5 : w.cell? ⟨bd, 5, none⟩ = some (.int .i64 a)) (ha : 0 ≤ a) (ha2 : a ≤ 1000000000000) (hfz : w.frozen? ⟨bd, 5, none⟩ = false) (hn0 : 0 < n) (hn : n ≤ c0.size)
    (hm : w.heap[bm]? = some (.map es clock)) (hj : w.heap[bj]? = some (.cells c0 et fr)) (hfr : fr.2 = 0) (hdj : bd ≠ bj) (hdm : bd ≠ bm) (hjm : bj ≠ bm)
    (hborn : ∀ x ∈ es.toList, x.born < clock) (hnd : (es.toList.map (·.born)).Nodup) (hkv : ∀ x ∈ es.toList, ∃ (k : Nat) (s : ByteArray), x.key = .int .i64 k ∧ x.val = .string s) (hkn : ∀ x ∈ es.toList, ∀ k : Nat, x.key = .int .i64 k → k < n)
    (hkd : ∀ x ∈ es.toList, ∀ y ∈ es.toList, x.key = y.key → x = y),
    Calls P g #[.pointer (some ⟨bd, 0, none⟩)] w fun e w' => e = .returned (.int .i64 0) ∧ SyncPost w bd bj bm a es clock et fr c0 w'

section
variable {P : Program} {φ : Nat → Option (Blk × Nat)} {H : Hp} {w : World}

theorem RelE.mem {l : List (AV × AV × Nat)} {es : List MapEntry} (h : RelE φ l es) : ∀ x ∈ l, ∃ y ∈ es, Rel φ x.1 y.key ∧ Rel φ x.2.1 y.val ∧ y.born = x.2.2 := by
  induction h with
  | nil => intro x hx; cases hx
  | cons a b _ ih =>
    intro x hx
    rcases List.mem_cons.1 hx with rfl | hx
    · exact ⟨_, List.mem_cons_self, a, b, rfl⟩
    · obtain ⟨y, h1, h2⟩ := ih x hx; exact ⟨y, List.mem_cons_of_mem _ h1, h2⟩
theorem RelE.mem' {l : List (AV × AV × Nat)} {es : List MapEntry} (h : RelE φ l es) : ∀ y ∈ es, ∃ x ∈ l, Rel φ x.1 y.key ∧ Rel φ x.2.1 y.val ∧ y.born = x.2.2 := by
  induction h with
  | nil => intro x hx; cases hx
  | cons a b _ ih =>
    intro y hy
    rcases List.mem_cons.1 hy with rfl | hy
    · exact ⟨_, List.mem_cons_self, a, b, rfl⟩
    · obtain ⟨x, h1, h2⟩ := ih y hy; exact ⟨x, List.mem_cons_of_mem _ h1, h2⟩

theorem freshK_mem {k : Nat} : ∀ {l : List (AV × AV × Nat)}, freshK k l = true → ∀ x ∈ l, ∃ (kd : IntKind) (j : Nat), x.1 = .int kd (.ofNat j) ∧ j ≠ k
  | [], _, x, hx => by cases hx
  | (.int kd (.ofNat j), v, b) :: l, h, x, hx => by
    unfold freshK at h
    rw [Bool.and_eq_true] at h
    rcases List.mem_cons.1 hx with rfl | hx
    · refine ⟨kd, j, rfl, ?_⟩
      rintro rfl
      simp at h
    · exact freshK_mem h.2 x hx
  | (.int _ (.negSucc _), _, _) :: _, h, _, _ => by cases h
  | (.nil, _, _) :: _, h, _, _ => by cases h
  | (.cons _ _, _, _) :: _, h, _, _ => by cases h
  | (.tuple _, _, _) :: _, h, _, _ => by cases h
  | (.agg _, _, _) :: _, h, _, _ => by cases h
  | (.func _ _ _, _, _) :: _, h, _, _ => by cases h
  | (.iface _ _, _, _) :: _, h, _, _ => by cases h
  | (.map _, _, _) :: _, h, _, _ => by cases h
  | (.nul _, _, _) :: _, h, _, _ => by cases h
  | (.str _, _, _) :: _, h, _, _ => by cases h
  | (.slice _ _ _ _, _, _) :: _, h, _, _ => by cases h
  | (.bool _, _, _) :: _, h, _, _ => by cases h
  | (.ptr _ _, _, _) :: _, h, _, _ => by cases h

/-- what okEs tells -/
inductive Ok (n clock : Nat) : List (AV × AV × Nat) → Nat → Prop where
  | nil {lo : Nat} : Ok n clock [] lo
  | cons {k b lo : Nat} {s : List Nat} {l : List (AV × AV × Nat)} : k < n → lo ≤ b → b < clock → (∀ x ∈ l, ∃ (kd : IntKind) (j : Nat), x.1 = .int kd (.ofNat j) ∧ j ≠ k) → Ok n clock l (b + 1) → Ok n clock ((.int .i64 (.ofNat k), .str s, b) :: l) lo
theorem ok_of {n clock : Nat} : ∀ {l : List (AV × AV × Nat)} {lo : Nat}, okEs n clock l lo = true → Ok n clock l lo
  | [], _, _ => .nil
  | (x, v, b) :: l, lo, h => by
    unfold okEs at h
    split at h
    · rename_i e; cases e
    · rename_i k s b' l' lo' e
      cases e
      rw [Bool.and_eq_true, Bool.and_eq_true, Bool.and_eq_true, Bool.and_eq_true, ble_iff] at h
      obtain ⟨h1, h2, h3, h4, h5⟩ := h
      exact .cons (by simp [Nat.blt] at h1; omega) h2 (by simp [Nat.blt] at h3; omega) (freshK_mem h4) (ok_of h5)
    · cases h
theorem Ok.mem {n clock : Nat} {l : List (AV × AV × Nat)} {lo : Nat} (h : Ok n clock l lo) : ∀ x ∈ l, ∃ (k : Nat) (s : List Nat), x.1 = .int .i64 (.ofNat k) ∧ x.2.1 = .str s ∧ k < n ∧ lo ≤ x.2.2 ∧ x.2.2 < clock := by
  induction h with
  | nil => intro x hx; cases hx
  | cons a b c d _ ih =>
    intro x hx
    rcases List.mem_cons.1 hx with rfl | hx
    · exact ⟨_, _, rfl, rfl, a, b, c⟩
    · obtain ⟨k, s, h1, h2, h3, h4, h5⟩ := ih x hx
      exact ⟨k, s, h1, h2, h3, by omega, h5⟩
theorem Ok.born {n clock : Nat} {l : List (AV × AV × Nat)} {lo : Nat} (h : Ok n clock l lo) {es : List MapEntry} (r : RelE φ l es) : (es.map (·.born)).Nodup := by
  induction h generalizing es with
  | nil => cases r; exact List.nodup_nil
  | cons a b c d h ih =>
    cases r; rename_i r1 r2 r3
    rw [List.map_cons, List.nodup_cons]
    refine ⟨fun hm => ?_, ih r3⟩
    obtain ⟨y, hy, e⟩ := List.mem_map.1 hm
    obtain ⟨x, hx, _, _, e'⟩ := r3.mem' y hy
    obtain ⟨_, _, _, _, _, h4, _⟩ := h.mem x hx
    simp only at e
    omega
theorem Ok.keys {n clock : Nat} {l : List (AV × AV × Nat)} {lo : Nat} (h : Ok n clock l lo) {es : List MapEntry} (r : RelE φ l es) : es.Pairwise (fun x y => x.key ≠ y.key) := by
  induction h generalizing es with
  | nil => cases r; exact .nil
  | cons a b c d h ih =>
    cases r; rename_i r1 r2 r3
    refine .cons (fun y hy e => ?_) (ih r3)
    obtain ⟨x, hx, g1, _, _⟩ := r3.mem' y hy
    obtain ⟨kd, j, hj, hne⟩ := d x hx
    cases r1
    rw [hj] at g1
    have e : Value.int .i64 _ = y.key := e
    rw [← e] at g1
    cases g1
    exact hne rfl
theorem putEs_get {n clock : Nat} : ∀ {l : List (AV × AV × Nat)} {lo : Nat}, Ok n clock l lo → ∀ {t : VT} {o : Nat} {v : AV}, getN (putEs l t) o = some v → (∃ x ∈ l, x.1 = .int .i64 (.ofNat o) ∧ x.2.1 = v) ∨ (getN t o = some v ∧ ∀ x ∈ l, x.1 ≠ .int .i64 (.ofNat o))
  | _, _, .nil, t, o, v, h => .inr ⟨h, fun x hx => by cases hx⟩
  | (.int .i64 (.ofNat k), .str s, b) :: l, lo, .cons a1 a2 a3 a4 hk, t, o, v, h => by
    rcases putEs_get hk (show getN (putEs l (setN (some (.str s)) (nat_lit 24) t k)) o = some v from h) with ⟨x, h1, h2⟩ | ⟨h1, h2⟩
    · exact .inl ⟨x, List.mem_cons_of_mem _ h1, h2⟩
    · rcases getN_setN _ _ _ _ _ _ h1 with ⟨g1, g2⟩ | ⟨g1, g2⟩
      · subst g1
        exact .inl ⟨_, List.mem_cons_self, rfl, Option.some.inj g2⟩
      · refine .inr ⟨g2, fun x hx => ?_⟩
        rcases List.mem_cons.1 hx with rfl | hx
        · intro e
          have e : AV.int .i64 (.ofNat k) = AV.int .i64 (.ofNat o) := e
          injection e with _ e; injection e with e; exact g1 e.symm
        · exact h2 x hx

theorem storeAt_put {i off : Nat} {l : List AV} {H1 : Hp} {m : VT} {e : Nat} {fz : Option Nat} {sz : Nat} (h : Fx.storeAt H i off l = some H1) (hg : H.get i = some (.cells m e fz sz)) : H1 = H.put i (.cells (storeL m off l) e fz sz) := by
  unfold Fx.storeAt at h
  rw [hg] at h
  simp only at h
  cases hc : (fzOk fz off && allIn m (lenL l) off && allVal l) with
  | true => rw [hc] at h; exact (Option.some.inj h).symm
  | false => rw [hc] at h; cases h

theorem sync_came {f : FuncId} (hs : SyncSays P f) (K : Known P f) : ∀ args H v H', xSync args H = some (v, H') → ∀ φ w vs, HR φ H w → RelL φ args vs → Came P φ H w f vs v H' := by
  intro args H v H' h φ w vs hH hr
  obtain ⟨fn, k1, k2, k3⟩ := K.there
  unfold xSync at h
  split at h
  case h_2 => cases h
  rename_i i
  cases hr with | cons r1 hr => cases hr with | nil =>
  cases r1; rename_i q bd hp
  split at h
  case h_2 => cases h
  rename_i m e sz hg
  split at h
  case h_2 => cases h
  rename_i j n cap r ng a g0 g1 g2 g3 g5
  obtain ⟨H1, hst, h⟩ := bind_some h
  split at h
  case h_2 => cases h
  rename_i es clock mj ej szj hgr1 hgj1
  split at h
  case h_2 => cases h
  rename_i u or hu hor
  cases hc : (okEs (n + 1) clock es 0 && (Nat.ble a 1000000000000 && (!(Nat.beq i j) && (!(Nat.beq i r) && !(Nat.beq j r))))) with
  | false => rw [hc] at h; cases h
  | true =>
  rw [hc] at h
  rw [Bool.and_eq_true, Bool.and_eq_true, Bool.and_eq_true, Bool.and_eq_true, ble_iff] at hc
  obtain ⟨hok, ha, hij, hir, hjr⟩ := hc
  have hij : i ≠ j := by rintro rfl; simp at hij
  have hir : i ≠ r := by rintro rfl; simp at hir
  have hjr : j ≠ r := by rintro rfl; simp at hjr
  have hok := ok_of hok
  obtain ⟨rfl, rfl⟩ := Prod.mk.inj (Option.some.inj h)
  have hH1 := storeAt_put hst hg
  have hgr : H.get r = some (.map es clock) := by
    rw [hH1] at hgr1
    rcases get_put hgr1 with ⟨e1, _⟩ | ⟨_, e1⟩
    · exact absurd e1.symm hir
    · exact e1
  have hgj : H.get j = some (.cells mj ej (some 0) szj) := by
    rw [hH1] at hgj1
    rcases get_put hgj1 with ⟨e1, _⟩ | ⟨_, e1⟩
    · exact absurd e1.symm hij
    · exact e1
  obtain ⟨bd, bs⟩ := bd
  obtain rfl : bs = 0 := hH.base hg hp rfl
  have hcell : ∀ o v, getN m o = some v → ∃ cv, w.cell? ⟨bd, o, none⟩ = some cv ∧ Rel φ v cv := fun o v ho => by
    have := cell_of hH hp (show cellAt H i o = some v by unfold cellAt; rw [hg]; exact ho)
    simpa only [Blk.at, Nat.zero_add] using this
  obtain ⟨cv0, c0, x0⟩ := hcell _ _ g0
  obtain ⟨cv1, c1, x1⟩ := hcell _ _ g1
  obtain ⟨cv2, c2, x2⟩ := hcell _ _ g2
  obtain ⟨cv3, c3, x3⟩ := hcell _ _ g3
  obtain ⟨cv5, c5, x5⟩ := hcell _ _ g5
  cases x0; rename_i qj bj cc oj hpj _ _ haddr
  obtain ⟨bj, bjs⟩ := bj
  obtain rfl : bjs = 0 := hH.base hgj hpj rfl
  obtain rfl : oj = 0 := by
    rcases haddr with e | ⟨e, _⟩
    · exact e
    · omega
  cases x1; rename_i qm bm hpr
  obtain ⟨bm, bms⟩ := bm
  cases x2; cases x3; cases x5
  obtain ⟨es', hm, hre⟩ := map_obj hH hpr hgr
  obtain ⟨co, o1, o2⟩ := hH.obj j _ ⟨bj, 0⟩ qj hgj hpj
  cases co <;> simp only [RelO] at o2
  rename_i cs e'' fr
  simp only [Nat.zero_add] at o2
  obtain ⟨rfl, hcs, hfz, hsz⟩ := o2
  have hfr : fr.2 = 0 := Nat.le_zero.1 (hfz 0 rfl).1
  obtain ⟨cu, u1, _⟩ := hcs _ _ hu
  have hroom := (Array.getElem?_eq_some_iff.1 u1).1
  have hdj : bd ≠ bj := fun e => hij (hH.inj i j _ _ _ _ q qj hg hgj hp hpj e)
  have hdm : bd ≠ bm := fun e => hir (hH.inj i r _ _ _ _ q qm hg hgr hp hpr e)
  have hjm : bj ≠ bm := fun e => hjr (hH.inj j r _ _ _ _ qj qm hgj hgr hpj hpr e)
  obtain ⟨_, s2, s3, s4⟩ := store1_world (v := .int .i64 ((a : Int) + 1)) hH hp hst (.int _ _)
  have hw := hs bd bj bm (n + 1) cc (Int.negSucc ng) a es' clock cs e'' fr w c0 c1 c2 c3 (by omega) c5 (by omega) (by omega) s2 (by omega) (by omega) hm o1 hfr hdj hdm hjm
    (fun x hx => by obtain ⟨y, hy, _, _, e⟩ := hre.mem' x hx; obtain ⟨_, _, _, _, _, _, h5⟩ := hok.mem y hy; omega)
    (hok.born hre)
    (fun x hx => by
      obtain ⟨y, hy, e1, e2, _⟩ := hre.mem' x hx
      obtain ⟨k, s, f1, f2, _⟩ := hok.mem y hy
      rw [f1] at e1; rw [f2] at e2
      generalize x.key = xk at e1
      generalize x.val = xv at e2
      cases e1; cases e2
      exact ⟨k, _, rfl, rfl⟩)
    (fun x hx k hk => by
      obtain ⟨y, hy, e1, e2, _⟩ := hre.mem' x hx
      obtain ⟨k', s, f1, f2, f3, _⟩ := hok.mem y hy
      rw [f1, hk] at e1
      cases e1
      exact f3)
    (fun x hx y hy e => Go.entry_eq_of_key (hok.keys hre) hx hy e)
  refine came_calls k1 k2 k3 (hw.mono fun e w' he => ?_)
  obtain ⟨rfl, hpost⟩ := he
  obtain ⟨⟨c, p1, p2, p3, p4⟩, p5, p6, p7, p8, p9, p10, p11⟩ := hpost
  generalize hW : w.setCell ⟨bd, 5, none⟩ (.int .i64 ((a : Int) + 1)) = W at s3 s4 p6
  have hWs : W.heap.size = w.heap.size := by rw [← hW]; simp [World.setCell]
  have hWo : ∀ i, i ≠ bd → W.heap[i]? = w.heap[i]? := fun i hi => by rw [← hW]; exact setCell_other (a := ⟨bd, 5, none⟩) hi
  have hWj : W.heap[bj]? = some (.cells cs e'' fr) := (hWo bj fun e => hdj e.symm).trans o1
  have hsetj := MapKept.heap_set (o' := .cells c e'' fr) hWj
  obtain ⟨t1, t2⟩ := s3.turn (w' := setBlock W bj (.cells c e'' fr)) hgj1 hpj (by simp [setBlock]) hsetj.1 hsetj.2 ⟨rfl, rfl, rfl⟩ (o' := .cells (putEs es mj) e'' (some 0) szj) ⟨rfl, fun o v ho => by
      simp only [Nat.zero_add]
      rcases putEs_get hok ho with ⟨x, hx, f1, f2⟩ | ⟨f1, f2⟩
      · obtain ⟨y, hy, r1, r2, _⟩ := hre.mem x hx
        rw [f1] at r1; rw [f2] at r2
        refine ⟨y.val, p3 y hy o ?_, r2⟩
        generalize y.key = yk at r1
        cases r1; rfl
      · obtain ⟨cv, v1, v2⟩ := hcs o v f1
        refine ⟨cv, ?_, v2⟩
        rw [p4 o fun y hy e => ?_]; exact v1
        obtain ⟨x, hx, r1, _, _⟩ := hre.mem' y hy
        obtain ⟨k, s, g1, _⟩ := hok.mem x hx
        rw [g1, e] at r1
        refine f2 x hx ?_
        rw [g1]
        cases r1; rfl, fun k hk => ⟨(hfz k hk).1, fun _ => rfl⟩, fun hz => by rw [p2]; simpa using hsz hz⟩
  have hr1 : (H1.put j (.cells (putEs es mj) e'' (some 0) szj)).get r = some (.map es clock) := by
    rcases get_put hor with ⟨e1, _⟩ | ⟨_, e1⟩
    · exact absurd e1.symm hjr
    · rw [hor]; rw [hgr1] at e1; exact e1.symm
  have hWm : (setBlock W bj (.cells c e'' fr)).heap[bm]? = some (.map es' clock) := (hsetj.2 bm fun e => hjm e.symm).trans ((hWo bm fun e => hdm e.symm).trans hm)
  have hsetm := MapKept.heap_set (o' := .map #[] clock) hWm
  obtain ⟨t3, t4⟩ := t1.turn (w' := setBlock (setBlock W bj (.cells c e'' fr)) bm (.map #[] clock)) hr1 hpr (by simp [setBlock]) hsetm.1 hsetm.2 ⟨rfl, rfl, rfl⟩ (o' := .map [] clock) ⟨rfl, by simpa using RelE.nil⟩
  have hb : Below (setBlock (setBlock W bj (.cells c e'' fr)) bm (.map #[] clock)).heap.size (setBlock (setBlock W bj (.cells c e'' fr)) bm (.map #[] clock)) w' := by
    have hz : (setBlock (setBlock W bj (.cells c e'' fr)) bm (.map #[] clock)).heap.size = w.heap.size := by simp [setBlock, hWs]
    refine ⟨?_, ?_, ?_, by rw [hz]; exact p7, fun i hi => ?_⟩
    · rw [p9, ← hW]; rfl
    · rw [p10, ← hW]; rfl
    · rw [p11, ← hW]; rfl
    · rw [hz] at hi
      by_cases i1 : i = bm
      · subst i1; exact p5.trans hsetm.1.symm
      · by_cases i2 : i = bj
        · subst i2; exact p1.trans ((hsetm.2 i i1).trans hsetj.1).symm
        · by_cases i3 : i = bd
          · subst i3; exact p6.trans ((hsetm.2 i i1).trans (hsetj.2 i i2)).symm
          · exact (p8 i hi i2 i1 i3).trans ((hsetm.2 i i1).trans ((hsetj.2 i i2).trans (hWo i i3))).symm
  obtain ⟨t5, t6⟩ := t3.below hb
  exact ⟨_, φ, rfl, .int _ _, t5, ((s4.trans t2).trans t4).trans t6⟩
end
end Go.Fx
