import Derived.Test.YtelhhbcccndaaaaGreatDoorYe
import Derived.Maps.RangeWalk
/-! A step of a loop over a map of numbers and texts, in whatever order. -/
namespace Go.Fx
open Go.RowKit Go.MapKept Go.ChangeMaps
set_option linter.unusedVariables false

theorem leftOf_size_push {es : Array MapEntry} {seen : Array Nat} {e : MapEntry} (h : e ∈ (leftOf es seen).toList) : (leftOf es (seen.push e.born)).size < (leftOf es seen).size := left_shrinks es seen e h

section
variable {P : Program} {w : World} {ops : Array Oper} {rest : List Oper} {o : Oper} {a : Act} {Q : Exit → Act → World → Prop}

/-- what a step has turned -/
structure Stepped (w w' : World) (r : Nat) : Prop where
  size : w'.heap.size = w.heap.size
  other : ∀ i, i ≠ r → w'.heap[i]? = w.heap[i]?
  os : w'.os = w.os
  tape : w'.tape = w.tape
  output : w'.output = w.output

theorem wpList_next_raw (hg : o.guard = none) (it : Operand) (hop : o.op = Op.next it false) (r bm since c0 : Nat) (seen : Array Nat) (es : Array MapEntry) (clock : Nat) (hit : a.eval it = .pointer (some ⟨r, 0, none⟩))
    (hr : w.heap[r]? = some (.mapIter (some bm) since seen c0)) (hb : w.heap[bm]? = some (.map es clock)) (hold : ∀ x ∈ es.toList, x.born < since) (hsc : since ≤ c0) (hn : (es.toList.map (·.born)).Nodup) (hne : r ≠ bm)
    (hkv : ∀ x ∈ es.toList, ∃ (k : Nat) (s : ByteArray), x.key = .int .i64 k ∧ x.val = .string s)
    (hDone : (leftOf es seen).size = 0 → wpList P ops Q rest (a.put o.dst (.tuple #[.bool false])) w)
    (hMore : ∀ (e : MapEntry) (k : Nat) (s : ByteArray) (w' : World), e ∈ (leftOf es seen).toList → e.key = .int .i64 k → e.val = .string s → w'.heap[r]? = some (.mapIter (some bm) since (seen.push e.born) clock) → Stepped w w' r →
      (Instr.entry (.pointer (some ⟨r, 0, none⟩))).run P w' = .ok (.tuple #[.int .i64 k, .string s]) w' → wpList P ops Q rest (a.put o.dst (.tuple #[.bool true, .int .i64 k, .string s])) w') :
    wpList P ops Q (o :: rest) a w := by
  refine wpList_plain hg fun K' hK' => ?_
  unfold Oper.wp
  rcases run_next_at (P := P) w o.type r bm since c0 seen es clock hr hb hold hsc with ⟨h0, hrun⟩ | ⟨e, he, w1, hal, hrun⟩
  · simp [execOp, hop, hit, hrun, Result.andThen]
    exact hK' _ _ (hDone h0)
  · have hem : e ∈ es.toList := (mem_left he).1
    obtain ⟨k, s, hk, hv⟩ := hkv e hem
    have hr1 : w1.heap[r]? = some (.mapIter (some bm) since seen c0) := by rcases hal with rfl | rfl <;> exact hr
    have hb1 : w1.heap[bm]? = some (.map es clock) := by rcases hal with rfl | rfl <;> exact hb
    have hset := heap_set (o' := .mapIter (some bm) since (seen.push e.born) clock) hr1
    have hb' : (setBlock w1 r (.mapIter (some bm) since (seen.push e.born) clock)).heap[bm]? = some (.map es clock) := (hset.2 bm (fun e1 => hne e1.symm)).trans hb1
    have hen := run_entry_at (P := P) _ r bm since seen es clock e hset.1 hb' hem hn
    rw [hk, hv] at hen hrun
    simp [execOp, hop, hit, hrun, Result.andThen]
    refine hK' _ _ (hMore e k s _ he hk hv hset.1 ?_ hen)
    rcases hal with rfl | rfl
    · exact ⟨by simp [setBlock], hset.2, rfl, rfl, rfl⟩
    · exact ⟨by simp [setBlock], hset.2, rfl, rfl, rfl⟩

theorem wpList_range_raw (hg : o.guard = none) (m : Operand) (t k e : TypeId) (hop : o.op = Op.range t m) (ht : P.underlying t = some (.map k e)) (b : Nat) (es : Array MapEntry) (clock : Nat) (hm : a.eval m = .map (some b)) (hb : w.heap[b]? = some (.map es clock))
    (hK : wpList P ops Q rest (a.put o.dst (.pointer (some ⟨w.heap.size, 0, none⟩))) (w.alloc (.mapIter (some b) clock #[] clock))) : wpList P ops Q (o :: rest) a w := by
  refine wpList_plain hg fun K' hK' => ?_
  unfold Oper.wp
  simp [execOp, hop, hm, run_range_map w t k e b es clock ht hb, Result.andThen]
  exact hK' _ _ hK
end
end Go.Fx
