import Derived.Test.YtaaibffnehmaiaaGreatDoorYe
import Derived.WalkKit
import Derived.Lib.Hide
import Derived.Test.YtaaibffnehmaiaaGreatDoorProg
namespace Go.Fx
open Go.RowKit Go.Proofs Go.ChangeMaps
set_option linter.unusedVariables false

set_option maxRecDepth 100000 in
set_option maxHeartbeats 1000000 in
theorem check_ok (b bj n cap : Nat) (i : Int) (w : World) (h0 : w.cell? ⟨b, 0, none⟩ = some (.slice (some ⟨bj, 0, none⟩) n cap)) (h2 : w.cell? ⟨b, 2, none⟩ = some (.bool true)) (hi : 0 ≤ i) (hn : i < n) :
    Calls Tryz.prog 87 #[.pointer (some ⟨b, 0, none⟩), .int .i64 i] w fun e w' => e = .returned (.int .i64 0) ∧ w = w' := by
  go_enter Tryz.func87, Tryz.ntmps87
  go_wp2
  all_goals go_ret
  all_goals exact ⟨rfl, rfl⟩

set_option maxRecDepth 100000 in
set_option maxHeartbeats 1000000 in
theorem act_ok (b : Nat) (f a : Int) (w : World) (h3 : w.cell? ⟨b, 3, none⟩ = some (.int .i64 f)) (hf : f < 0) (h5 : w.cell? ⟨b, 5, none⟩ = some (.int .i64 a)) (ha : 0 ≤ a) (ha2 : a ≤ 1000000000000) (hfz : w.frozen? ⟨b, 5, none⟩ = false) :
    Calls Tryz.prog 150 #[.pointer (some ⟨b, 0, none⟩)] w fun e w' => e = .returned (.int .i64 0) ∧ w.setCell ⟨b, 5, none⟩ (.int .i64 (a + 1)) = w' := by
  go_enter Tryz.func150, Tryz.ntmps150
  go_wp2
  all_goals go_ret
  all_goals exact ⟨rfl, rfl⟩

set_option maxRecDepth 100000 in
set_option maxHeartbeats 2000000 in
theorem sync_any (bd bj bm n cap : Nat) (f a : Int) (es : Array MapEntry) (clock : Nat) (c0 : Array Value) (et : TypeId) (fr : Nat × Nat) (w : World)
    (h0 : w.cell? ⟨bd, 0, none⟩ = some (.slice (some ⟨bj, 0, none⟩) n cap)) (h1 : w.cell? ⟨bd, 1, none⟩ = some (.map (some bm))) (h2 : w.cell? ⟨bd, 2, none⟩ = some (.bool true)) (h3 : w.cell? ⟨bd, 3, none⟩ = some (.int .i64 f)) (hf : f < 0)
    (h5 : w.cell? ⟨bd, 5, none⟩ = some (.int .i64 a)) (ha : 0 ≤ a) (ha2 : a ≤ 1000000000000) (hfz : w.frozen? ⟨bd, 5, none⟩ = false) (hn0 : 0 < n) (hn : n ≤ c0.size)
    (hm : w.heap[bm]? = some (.map es clock)) (hj : w.heap[bj]? = some (.cells c0 et fr)) (hfr : fr.2 = 0) (hdj : bd ≠ bj) (hdm : bd ≠ bm) (hjm : bj ≠ bm)
    (hborn : ∀ x ∈ es.toList, x.born < clock) (hnd : (es.toList.map (·.born)).Nodup) (hkv : ∀ x ∈ es.toList, ∃ (k : Nat) (s : ByteArray), x.key = .int .i64 k ∧ x.val = .string s) (hkn : ∀ x ∈ es.toList, ∀ k : Nat, x.key = .int .i64 k → k < n)
    (hkd : ∀ x ∈ es.toList, ∀ y ∈ es.toList, x.key = y.key → x = y) :
    Calls Tryz.prog 102 #[.pointer (some ⟨bd, 0, none⟩)] w fun e w' => e = .returned (.int .i64 0) ∧ SyncPost w bd bj bm a es clock et fr c0 w' := by
  have hchk := check_ok bd bj n cap 0 w h0 h2 (Int.le_refl _) (by omega)
  have hact := act_ok bd f a w h3 hf h5 ha ha2 hfz
  generalize hW : w.setCell ⟨bd, 5, none⟩ (.int .i64 (a + 1)) = W at hact
  have hWo : ∀ i, i ≠ bd → W.heap[i]? = w.heap[i]? := fun i hi => by rw [← hW]; exact setCell_other (a := ⟨bd, 5, none⟩) hi
  have hWs : W.heap.size = w.heap.size := by rw [← hW]; simp [World.setCell]
  have H := Lib.hid (And.intro hborn (And.intro hnd (And.intro hkv (And.intro hkn hkd))))
  clear hborn hnd hkv hkn hkd h2 h3 hf h5 ha ha2 hfz
  have hWm : W.heap[bm]? = some (.map es clock) := (hWo bm (fun e => hdm e.symm)).trans hm
  have g0 : W.cell? ⟨bd, 0, none⟩ = some (.slice (some ⟨bj, 0, none⟩) n cap) := by rw [← hW, cell_setCell_ne (by decide)]; exact h0
  have g1 : W.cell? ⟨bd, 1, none⟩ = some (.map (some bm)) := by rw [← hW, cell_setCell_ne (by decide)]; exact h1
  have HW := Lib.hid hW
  have HO := Lib.hid hWo
  clear hW hWo
  go_enter Tryz.func102, Tryz.ntmps102
  go_wp2_with (first
    | (go_at_call 87; refine hchk.mono ?_; rintro e w' ⟨rfl, rfl⟩)
    | (go_at_call 150; refine hact.mono ?_; rintro e w' ⟨rfl, rfl⟩)
    | (at_range; refine wpList_range_raw rfl _ _ _ _ rfl Tryz.underlying96 _ _ _ rfl hWm ?_)
    | fail)
  go_frame
  have hbr : bj ≠ W.heap.size := by
    have := (Array.getElem?_eq_some_iff.1 hj).1
    omega
  have hmr : bm ≠ W.heap.size := by
    have := (Array.getElem?_eq_some_iff.1 hWm).1
    omega
  have hdr : bd ≠ W.heap.size := by
    have := lt_of_cell' h0
    omega
  generalize hW1 : W.alloc (.mapIter (some bm) clock #[] clock) = W1
  generalize hbr0 : W.heap.size = br at *
  have HW1 := Lib.hid hW1
  have HWs := Lib.hid hWs
  have HBR := Lib.hid hbr0
  clear hW1 hWs hbr0
  go_loopw [5] (fun _ wr => SyncSt W1 bj bm br es clock et fr c0 wr) (fun _ wr => syncLeft es br wr)
  case atStart =>
    have hW1 := HW1.out
    have hWs := HWs.out
    have hbr0 := HBR.out
    subst hW1
    subst hbr0
    have hbj := (Array.getElem?_eq_some_iff.1 hj).1
    refine ⟨⟨#[], clock, c0, alloc_new, Nat.le_refl _, ?_, rfl, fun x _ hs => by simp at hs, fun _ _ => rfl⟩, rfl, fun _ _ _ => rfl, rfl, rfl, rfl⟩
    rw [alloc_old (by omega), HO.out bj (fun e => hdj e.symm)]; exact hj
  case round =>
    have R := Lib.hid hrel
    obtain ⟨⟨seen, c1, c, q1, q2, q3, q4, q5, q6⟩, p2, p3, p4, p5, p6⟩ := hrel
    have S5 := Lib.hid q5
    have S6 := Lib.hid q6
    have S3 := Lib.hid p3
    have Q4 := Lib.hid q4
    have hb1 : wr.heap[bm]? = some (.map es clock) := by
      rw [p3 bm (fun e => hjm e.symm) hmr, ← HW1.out, alloc_old (Array.getElem?_eq_some_iff.1 hWm).1]; exact hWm
    have hd1 : wr.heap[bd]? = W.heap[bd]? := by
      rw [p3 bd hdj hdr, ← HW1.out, alloc_old (lt_of_cell' g0)]
    have hc0 : wr.cell? ⟨bd, 0, none⟩ = some (.slice (some ⟨bj, 0, none⟩) n cap) := by rw [← g0]; exact World.cell?_of_block (w := W) (a := ⟨bd, 0, none⟩) hd1
    have hc1 : wr.cell? ⟨bd, 1, none⟩ = some (.map (some bm)) := by rw [← g1]; exact World.cell?_of_block (w := W) (a := ⟨bd, 1, none⟩) hd1
    obtain ⟨k1, k2, k3, k4, k5⟩ := H.out
    have K1 := Lib.hid k1
    have K2 := Lib.hid k2
    have K3 := Lib.hid k3
    have K4 := Lib.hid k4
    have K5 := Lib.hid k5
    clear k1 k2 k3 k4 k5 q5 q6 p2 p3 p4 p5 p6 q4 hd1
    go_wp2_with (first
      | (at_next; refine wpList_next_raw rfl _ rfl br bm clock c1 seen es clock rfl q1 hb1 K1.out q2 K2.out (fun e => hmr e.symm) K3.out ?_ ?_)
      | fail)
    · intro hz
      have hclr := fun ty => run_clear_map (P := Tryz.prog) wr 96 ty _ _ Tryz.underlying96 bm es clock hb1
      have HZ := Lib.hid hz
      clear hz
      go_wp2
      go_ret
      refine ⟨rfl, ?_⟩
      have hW1 := HW1.out
      have hbr0 := HBR.out
      have hWs := HWs.out
      subst hW1
      subst hbr0
      exact SyncSt.done HW.out R.out (lt_of_cell' h0) (Array.getElem?_eq_some_iff.1 hj).1 (Array.getElem?_eq_some_iff.1 hm).1 hdj hdm hjm (by rw [syncLeft_eq q1, HZ.out]; rfl) hb1
    · intro e k s w1 he hk hv hr1 hst hen
      have he' : e ∈ (leftOf es seen).toList := by simpa using he
      have hem := (mem_left he').1
      have HE' := Lib.hid he'
      clear he'
      have hkn : k < n := K4.out e hem k hk
      have hcs : k < c.size := by have := Q4.out; omega
      have hb2 : w1.heap[bj]? = some (.cells c et fr) := (hst.other bj hbr).trans q3
      have hd2 : w1.heap[bd]? = wr.heap[bd]? := hst.other bd hdr
      have e0 : w1.cell? ⟨bd, 0, none⟩ = some (.slice (some ⟨bj, 0, none⟩) n cap) := by rw [← hc0]; exact World.cell?_of_block (w := wr) (a := ⟨bd, 0, none⟩) hd2
      have e1 : w1.cell? ⟨bj, k, none⟩ = some c[k] := by simp [World.cell?, hb2, hcs]
      have e2 : w1.frozen? ⟨bj, k, none⟩ = false := by simp [World.frozen?, hb2, hfr]
      have ST := SyncSt.step R.out hbr q1 q3 Q4.out S5.out S6.out hem hk hcs K2.out K5.out hr1 hst
      have HE := Lib.hid he
      have HK := Lib.hid hk
      rw [hv] at ST
      have HV := Lib.hid hv
      have HR1 := Lib.hid hr1
      have HB2 := Lib.hid hb2
      have HD2 := Lib.hid hd2
      have HST := Lib.hid hst
      have STH := Lib.hid ST
      clear he hk hv hr1 hb2 hd2 hst ST
      go_wp2
      go_roundw
      case rel => exact STH.out
      case measure =>
        rw [syncLeft_eq q1, syncLeft_eq ((setCell_other (a := ⟨bj, k, none⟩) (fun e => hbr e.symm)).trans HR1.out)]
        exact leftOf_size_push HE'.out
end Go.Fx
