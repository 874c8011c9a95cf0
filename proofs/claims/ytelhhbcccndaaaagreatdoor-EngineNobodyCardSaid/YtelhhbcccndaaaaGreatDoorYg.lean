import Derived.Test.YtelhhbcccndaaaaGreatDoorYf
import Derived.Maps.RangeWalk
/-! A loop that stores a map's entries into a row, in whatever order. -/
namespace Go.Fx
open Go.RowKit Go.ChangeMaps
set_option linter.unusedVariables false
set_option linter.unusedSimpArgs false

theorem run_clear_map {P : Program} (w : World) (t ty k e : TypeId) (ht : P.underlying t = some (.map k e)) (b : Nat) (es : Array MapEntry) (clock : Nat) (hb : w.heap[b]? = some (.map es clock)) :
    (Builtin.clear_ #[t] ty #[.map (some b)]).run P w = .ok (.tuple #[]) (Go.ChangeMaps.setBlock w b (.map #[] clock)) := by
  simp [Builtin.clear_, run_underlying ht, MapKept.run_getObj_map hb, MapKept.run_setObj_map _ hb, Result.andThen, Go.ChangeMaps.setBlock]

theorem lt_of_cell' {w : World} {b o : Nat} {v : Value} (h : w.cell? ⟨b, o, none⟩ = some v) : b < w.heap.size := by
  cases hb : w.heap[b]? with
  | none => simp [World.cell?, hb] at h
  | some _ => exact (Array.getElem?_eq_some_iff.1 hb).1
theorem cell_setCell_ne {w : World} {b o p : Nat} {v : Value} (h : o ≠ p) : (w.setCell ⟨b, p, none⟩ v).cell? ⟨b, o, none⟩ = w.cell? ⟨b, o, none⟩ := by
  cases hb : w.heap[b]? with
  | none => simp [World.cell?, World.setCell, Array.getElem?_modify, hb]
  | some x => cases x <;> simp [World.cell?, World.setCell, Array.getElem?_modify, hb, h.symm]
theorem alloc_old {w : World} {o : Obj} {i : Nat} (h : i < w.heap.size) : (w.alloc o).heap[i]? = w.heap[i]? := Below.heap_alloc w o i h
theorem alloc_new {w : World} {o : Obj} : (w.alloc o).heap[w.heap.size]? = some o := (MapKept.heap_alloc w o).1

/-- the loop of Sync under way -/
structure SyncSt (w0 : World) (bj bm br : Nat) (es : Array MapEntry) (clock : Nat) (et : TypeId) (fr : Nat × Nat) (c0 : Array Value) (w : World) : Prop where
  st : ∃ (seen : Array Nat) (c1 : Nat) (c : Array Value), w.heap[br]? = some (.mapIter (some bm) clock seen c1) ∧ clock ≤ c1 ∧ w.heap[bj]? = some (.cells c et fr) ∧ c.size = c0.size ∧
    (∀ x ∈ es.toList, seen.contains x.born = true → ∀ k : Nat, x.key = .int .i64 k → c[k]? = some x.val) ∧ (∀ o : Nat, (∀ x ∈ es.toList, seen.contains x.born = true → x.key ≠ .int .i64 o) → c[o]? = c0[o]?)
  size : w.heap.size = w0.heap.size
  other : ∀ i, i ≠ bj → i ≠ br → w.heap[i]? = w0.heap[i]?
  os : w.os = w0.os
  tape : w.tape = w0.tape
  output : w.output = w0.output

/-- how many are left -/
def syncLeft (es : Array MapEntry) (br : Nat) (w : World) : Nat := match w.heap[br]? with
  | some (.mapIter _ _ seen _) => (leftOf es seen).size
  | _ => 0

/-- what Sync has turned -/
structure SyncPost (w0 : World) (bd bj bm : Nat) (a : Int) (es : Array MapEntry) (clock : Nat) (et : TypeId) (fr : Nat × Nat) (c0 : Array Value) (w : World) : Prop where
  row : ∃ c : Array Value, w.heap[bj]? = some (.cells c et fr) ∧ c.size = c0.size ∧ (∀ x ∈ es.toList, ∀ k : Nat, x.key = .int .i64 k → c[k]? = some x.val) ∧ (∀ o : Nat, (∀ x ∈ es.toList, x.key ≠ .int .i64 o) → c[o]? = c0[o]?)
  map : w.heap[bm]? = some (.map #[] clock)
  disk : w.heap[bd]? = (w0.setCell ⟨bd, 5, none⟩ (.int .i64 (a + 1))).heap[bd]?
  size : w0.heap.size ≤ w.heap.size
  other : ∀ i, i < w0.heap.size → i ≠ bj → i ≠ bm → i ≠ bd → w.heap[i]? = w0.heap[i]?
  os : w.os = w0.os
  tape : w.tape = w0.tape
  output : w.output = w0.output

theorem SyncSt.step {w0 wr w1 : World} {bj bm br : Nat} {es : Array MapEntry} {clock : Nat} {et : TypeId} {fr : Nat × Nat} {c0 : Array Value} (h : SyncSt w0 bj bm br es clock et fr c0 wr) (hne : bj ≠ br)
    {seen : Array Nat} {c1 : Nat} {c : Array Value} (g1 : wr.heap[br]? = some (.mapIter (some bm) clock seen c1)) (g2 : wr.heap[bj]? = some (.cells c et fr)) (g3 : c.size = c0.size)
    (g4 : ∀ x ∈ es.toList, seen.contains x.born = true → ∀ k : Nat, x.key = .int .i64 k → c[k]? = some x.val) (g5 : ∀ o : Nat, (∀ x ∈ es.toList, seen.contains x.born = true → x.key ≠ .int .i64 o) → c[o]? = c0[o]?)
    {e : MapEntry} {k : Nat} (he : e ∈ es.toList) (hk : e.key = .int .i64 k) (hlt : k < c.size) (hnd : (es.toList.map (·.born)).Nodup) (hkd : ∀ x ∈ es.toList, ∀ y ∈ es.toList, x.key = y.key → x = y)
    (hr1 : w1.heap[br]? = some (.mapIter (some bm) clock (seen.push e.born) clock)) (hst : Stepped wr w1 br) : SyncSt w0 bj bm br es clock et fr c0 (w1.setCell ⟨bj, k, none⟩ e.val) := by
  have hb : w1.heap[bj]? = some (.cells c et fr) := (hst.other bj hne).trans g2
  refine ⟨⟨seen.push e.born, clock, c.setIfInBounds k e.val, (setCell_other (a := ⟨bj, k, none⟩) (fun e => hne e.symm)).trans hr1, Nat.le_refl _, setCell_heap hb, by simpa using g3, fun x hx hs j hj => ?_, fun o ho => ?_⟩, ?_, fun i h1 h2 => ?_, hst.os.trans h.os, hst.tape.trans h.tape, hst.output.trans h.output⟩
  · by_cases hxe : x = e
    · subst hxe
      rw [hk] at hj
      have : k = j := by injection hj with _ h; exact Int.ofNat.inj h
      subst this
      simp [hlt]
    · have hb : x.born ≠ e.born := fun hb => hxe (born_inj hnd hx he hb)
      have hs' : seen.contains x.born = true := by
        rw [contains_push] at hs
        have : (x.born == e.born) = false := by simp [hb]
        simpa [this] using hs
      have hkj : k ≠ j := by
        rintro rfl
        exact hxe (hkd x hx e he (hj.trans hk.symm))
      rw [Array.getElem?_setIfInBounds_ne hkj]
      exact g4 x hx hs' j hj
  · have hko : k ≠ o := by
      rintro rfl
      exact ho e he (by rw [contains_push]; simp) hk
    rw [Array.getElem?_setIfInBounds_ne hko]
    exact g5 o fun x hx hs => ho x hx (by rw [contains_push, hs]; simp)
  · have : (w1.setCell ⟨bj, k, none⟩ e.val).heap.size = w1.heap.size := by simp [World.setCell]
    rw [this, hst.size, h.size]
  · exact (setCell_other (a := ⟨bj, k, none⟩) h1).trans ((hst.other i h2).trans (h.other i h1 h2))

theorem syncLeft_eq {w : World} {es : Array MapEntry} {br since c1 : Nat} {m : Option Nat} {seen : Array Nat} (h : w.heap[br]? = some (.mapIter m since seen c1)) : syncLeft es br w = (leftOf es seen).size := by
  unfold syncLeft; rw [h]

theorem SyncSt.done {w W wr : World} {bd bj bm : Nat} {a : Int} {es : Array MapEntry} {clock : Nat} {et : TypeId} {fr : Nat × Nat} {c0 : Array Value}
    (hW : w.setCell ⟨bd, 5, none⟩ (.int .i64 (a + 1)) = W) (h : SyncSt (W.alloc (.mapIter (some bm) clock #[] clock)) bj bm W.heap.size es clock et fr c0 wr) (hbd : bd < w.heap.size) (hbj : bj < w.heap.size) (hbm : bm < w.heap.size) (hdj : bd ≠ bj) (hdm : bd ≠ bm) (hjm : bj ≠ bm)
    (hz : syncLeft es W.heap.size wr = 0) (hb : wr.heap[bm]? = some (.map es clock)) : SyncPost w bd bj bm a es clock et fr c0 (setBlock wr bm (.map #[] clock)) := by
  obtain ⟨⟨seen, c1, c, q1, q2, q3, q4, q5, q6⟩, p2, p3, p4, p5, p6⟩ := h
  rw [syncLeft_eq q1] at hz
  have hall := all_seen es seen hz
  have hset := MapKept.heap_set (o' := .map #[] clock) hb
  have hWs : W.heap.size = w.heap.size := by rw [← hW]; simp [World.setCell]
  have hWo : ∀ i, i ≠ bd → W.heap[i]? = w.heap[i]? := fun i hi => by rw [← hW]; exact setCell_other (a := ⟨bd, 5, none⟩) hi
  refine ⟨⟨c, (hset.2 bj hjm).trans q3, q4, fun x hx k hk => q5 x hx (hall x hx) k hk, fun o ho => q6 o fun x hx _ => ho x hx⟩, hset.1, ?_, ?_, fun i hi h1 h2 h3 => ?_, ?_, ?_, ?_⟩
  · rw [hW]
    exact (hset.2 bd hdm).trans ((p3 bd hdj (by omega)).trans (alloc_old (by omega)))
  · show w.heap.size ≤ (setBlock wr bm (.map #[] clock)).heap.size
    have : (setBlock wr bm (.map #[] clock)).heap.size = wr.heap.size := by simp [setBlock]
    rw [this, p2]; simp; omega
  · exact (hset.2 i h2).trans ((p3 i h1 (by omega)).trans ((alloc_old (by omega)).trans (hWo i h3)))
  · show wr.os = w.os; rw [p4, ← hW]; rfl
  · show wr.tape = w.tape; rw [p5, ← hW]; rfl
  · show wr.output = w.output; rw [p6, ← hW]; rfl

end Go.Fx
