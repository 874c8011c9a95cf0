import Derived.Test.YtaaibffnehmaiaaGreatDoorYg
import Derived.Test.YtaaibffnehmaiaaGreatDoorS3
import Derived.WalkKit
import Derived.Lib.Hide
/-! The sums: sum.Sum, at this program. -/
namespace Go.Fx
open Go.RowKit Go.Proofs
set_option linter.unusedVariables false

theorem u32_shr4 (x : Nat) : ((x : Int) / 16) = ((x / 16 : Nat) : Int) := by omega

/-- the table's call by the executor -/
noncomputable def tabV : AV := .agg (chain (((List.range 16).map tabN).map fun n => AV.int .u32 (.ofNat n)))
noncomputable def rowIs (r : Option (Prod AV Hp)) (l : AV) : Bool := match r with
  | some (v, _) => aeq v l
  | none => false
theorem table_run : rowIs (callF Tryz.prog extK 10 367 [] (.mk 0 .E)) tabV = true := by kernel_rfl

def u32 (n : Nat) : Value := .int .u32 n
noncomputable def tabA : Array Value := #[u32 0, u32 274646895, u32 549293790, u32 820201905, u32 1098587580, u32 1361435347, u32 1640403810, u32 1905808397, u32 2197175160, u32 2460548119, u32 2722870694, u32 2987750089, u32 3280807620, u32 3553878443, u32 3811616794, u32 4084100981]

theorem tab0 : (List.range 16).map tabN = [0, 274646895, 549293790, 820201905, 1098587580, 1361435347, 1640403810, 1905808397, 2197175160, 2460548119, 2722870694, 2987750089, 3280807620, 3553878443, 3811616794, 4084100981] := by kernel_rfl
theorem tabA_eq : tabA = (((List.range 16).map tabN).map u32).toArray := by rw [tab0]; rfl
theorem tabA_get {j : Nat} (hj : j < 16) : tabA[j]? = some (.int .u32 (tabN j)) := by
  rw [tabA_eq, List.getElem?_toArray, List.getElem?_map, List.getElem?_map, List.getElem?_range hj]; rfl

set_option maxRecDepth 100000 in
set_option maxHeartbeats 4000000 in
theorem run_any (c : Nat) (s : ByteArray) (w : World) (hs : s.size ≤ 1000000) (hc : c < 4294967296) (ht : Calls Tryz.prog 367 #[] w fun e w' => e = .returned (.agg tabA) ∧ Below w.heap.size w w') :
   Calls Tryz.prog 322 #[.int .u32 c, .string s] w fun e w' => e = .returned (.int .u32 (sumL c (s.data.toList.map (·.toNat)))) ∧ Below w.heap.size w w' := by
  unfold tabA u32 at ht
  go_enter Tryz.func322, Tryz.ntmps322
  go_wp2_with (first
    | (go_at_call 367; refine ht.mono ?_; rintro e W ⟨rfl, hb⟩)
    | fail)
  have htab : ∀ j, j < 16 → (W.alloc (.cells tabA 420)).cell? ⟨W.heap.size, j, none⟩ = some (.int .u32 (tabN j)) := by
    intro j hj
    have h0 : (W.alloc (.cells tabA 420)).heap[W.heap.size]? = some (.cells tabA 420) := alloc_new
    simp only [World.cell?, h0, Option.isSome_none, Bool.false_eq_true, if_false]
    exact tabA_get hj
  have hb1 : Below w.heap.size w (W.alloc (.cells tabA 420)) := hb.alloc hb.size _
  unfold tabA u32 at htab hb1
  generalize hW1 : W.alloc _ = W1 at *
  generalize hB : W.heap.size = B at *
  clear hW1 hB hb ht
  have HT := Lib.hid htab
  have HB := Lib.hid hb1
  clear htab hb1
  have HC := Lib.hid hc
  clear hc
  go_loop [0, 10] (fun d i => ∃ k : Nat, k ≤ s.size ∧ i = .int .i64 k ∧ d = .int .u32 (sumL c ((s.data.toList.take k).map (·.toNat)))) (fun _ i => s.size - (RowKit.intOf i).toNat)
  case atStart => exact ⟨0, Nat.zero_le _, rfl, rfl⟩
  case round =>
    obtain ⟨k, hk, rfl, rfl⟩ := hrel
    by_cases hlt : k < s.size
    · have hd : sumL c ((s.data.toList.take k).map (·.toNat)) < 4294967296 := sumL_lt HC.out fun b hb => by
        obtain ⟨x, _, rfl⟩ := List.mem_map.1 hb
        exact UInt8.toNat_lt x
      have hsn : sumL c ((s.data.toList.take (k + 1)).map (·.toNat)) = stepN (sumL c ((s.data.toList.take k).map (·.toNat))) s[k].toNat := by
        rw [List.take_succ_eq_append_getElem (by simpa using hlt), List.map_append, sumL_append]; rfl
      have HSN := Lib.hid hsn
      clear hsn
      generalize hd0 : sumL c ((s.data.toList.take k).map (·.toNat)) = d at *
      have HD0 := Lib.hid hd0
      clear hd0
      have hbk := UInt8.toNat_lt s[k]
      have e1 : bits .xor .u32 (d : Int) (s[k].toNat : Int) = ((Nat.xor d s[k].toNat : Nat) : Int) := u32_xor_nat _ _ hd (by omega)
      have hx1 : Nat.xor d s[k].toNat < 4294967296 := xor_lt hd hbk
      have HX : Hid (stepN d s[k].toNat = rndN (rndN (Nat.xor d s[k].toNat))) := Lib.hid rfl
      generalize Nat.xor d s[k].toNat = x1 at *
      have hi1 : Nat.land x1 15 < 16 := Nat.lt_of_le_of_lt Nat.and_le_right (by decide)
      have e2 : bits .and .u32 (x1 : Int) 15 = ((Nat.land x1 15 : Nat) : Int) := u32_and_nat _ 15 hx1 (by decide)
      have t1 := HT.out (Nat.land x1 15) hi1
      have hr1 := rndN_lt hx1
      have e3 : bits .xor .u32 ((x1 : Int) / 16) (tabN (Nat.land x1 15) : Int) = ((rndN x1 : Nat) : Int) := by
        rw [u32_shr4]
        exact u32_xor_nat _ _ (by omega) (tabN_lt _)
      have hq1 := tabN_lt (Nat.land x1 15)
      generalize tabN (Nat.land x1 15) = q1 at *
      generalize Nat.land x1 15 = i1 at *
      have HX2 : Hid (rndN (rndN x1) = rndN (rndN x1)) := Lib.hid rfl
      generalize rndN x1 = x2 at *
      have hi2 : Nat.land x2 15 < 16 := Nat.lt_of_le_of_lt Nat.and_le_right (by decide)
      have e4 : bits .and .u32 (x2 : Int) 15 = ((Nat.land x2 15 : Nat) : Int) := u32_and_nat _ 15 hr1 (by decide)
      have t2 := HT.out (Nat.land x2 15) hi2
      have hr2 := rndN_lt hr1
      have e5 : bits .xor .u32 ((x2 : Int) / 16) (tabN (Nat.land x2 15) : Int) = ((rndN x2 : Nat) : Int) := by
        rw [u32_shr4]
        exact u32_xor_nat _ _ (by omega) (tabN_lt _)
      generalize tabN (Nat.land x2 15) = q2 at *
      generalize Nat.land x2 15 = i2 at *
      generalize rndN x2 = x3 at *
      go_wp2
      go_round
      case rel => exact ⟨k + 1, by omega, by go_num, by rw [HSN.out, HX.out]⟩
      case measure => simp [RowKit.intOf]; omega
    · go_wp2
      go_ret
      have e9 : (s.data.toList.map (·.toNat)).take k = s.data.toList.map (·.toNat) := List.take_of_length_le (by
        have h1 : s.data.toList.length = s.size := by simp
        rw [List.length_map, h1]; omega)
      exact ⟨by show Ending.returned (.int .u32 ((sumL c ((s.data.toList.map (·.toNat)).take k) : Nat) : Int)) = _; rw [e9], HB.out⟩

theorem rel_u32s {φ : Nat → Option (Blk × Nat)} : ∀ {l : List Nat} {vs : List Value}, RelV φ true (chain (l.map fun n => AV.int .u32 (.ofNat n))) vs → vs = l.map u32
  | [], vs, h => by
    have h : RelV φ true .nil vs := h
    cases h; rfl
  | n :: l, vs, h => by
    have h : RelV φ true (.cons (.int .u32 (.ofNat n)) (chain (l.map fun n => AV.int .u32 (.ofNat n)))) vs := h
    cases h with | cons h1 h2 =>
    cases h1
    rw [rel_u32s h2]; rfl

theorem rel_aggU {φ : Nat → Option (Blk × Nat)} {l : List Nat} {cv : Value} (r : RelV φ false (.agg (chain (l.map fun n => AV.int .u32 (.ofNat n)))) [cv]) : cv = .agg (l.map u32).toArray := by
  generalize hx : chain (l.map fun n => AV.int .u32 (.ofNat n)) = x at r
  cases r; rename_i vs r
  subst hx
  rw [rel_u32s r]

theorem table_calls (w : World) : Calls Tryz.prog 367 #[] w fun e w' => e = .returned (.agg tabA) ∧ Below w.heap.size w w' := by
  have h := table_run
  unfold rowIs at h
  cases hc : callF Tryz.prog extK 10 367 [] (.mk 0 .E) with
  | none => rw [hc] at h; cases h
  | some r =>
    obtain ⟨v, H'⟩ := r
    rw [hc] at h
    obtain rfl := aeq_eq h
    have hH : HR (fun _ => none) (.mk 0 .E) w := ⟨fun i b e => by (cases e), fun i o b q e => by (cases e), fun i o e => by (cases e), fun i j oi oj b c q q' e => by (cases e)⟩
    rcases sound 10 367 [] _ _ _ hc (fun _ => none) w [] hH .nil with ⟨cv, w', ψ, h1, _⟩ | ⟨_, h1⟩
    · have h2 := enters (P := Tryz.prog) (w := w) (vs := []) Tryz.func367 (by kernel_rfl) (by kernel_rfl)
      rw [h2] at h1; cases h1
    · refine h1.mono fun e w' he => ?_
      obtain ⟨cv, ψ, rfl, r, _, hx⟩ := he
      refine ⟨?_, ⟨hx.os, hx.tape, hx.output, hx.size, fun b hb => hx.frame b hb fun i o c q hi => by (cases hi)⟩⟩
      unfold tabV at r
      rw [rel_aggU r, tabA_eq]

set_option maxRecDepth 100000 in
set_option maxHeartbeats 2000000 in
theorem sum_any : SumSays Tryz.prog 270 := by
  intro s w hs
  have hlt : sumL 4294967295 (s.data.toList.map (·.toNat)) < 4294967296 := sumL_lt (by decide) fun b hb => by
    obtain ⟨x, _, rfl⟩ := List.mem_map.1 hb
    exact UInt8.toNat_lt x
  have hr := run_any 4294967295 s w hs (by decide) (table_calls w)
  have e1 : bits .xor .u32 ((sumL 4294967295 (s.data.toList.map (·.toNat)) : Nat) : Int) 4294967295 = ((Nat.xor (sumL 4294967295 (s.data.toList.map (·.toNat))) 4294967295 : Nat) : Int) := u32_xor_nat _ 4294967295 hlt (by decide)
  have h2 : Nat.xor (sumL 4294967295 (s.data.toList.map (·.toNat))) 4294967295 < 4294967296 := Nat.xor_lt_two_pow (n := 32) hlt (by decide)
  generalize Nat.xor (sumL 4294967295 (s.data.toList.map (·.toNat))) 4294967295 = r at *
  generalize sumL 4294967295 (s.data.toList.map (·.toNat)) = q at *
  go_enter Tryz.func270, Tryz.ntmps270
  go_wp2_with (first
    | (go_at_call 322; refine hr.mono ?_; rintro e W ⟨rfl, hb⟩)
    | fail)
  go_ret
  exact ⟨rfl, hb⟩
end Go.Fx
