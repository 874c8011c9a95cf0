import Derived.Test.YtaaibffnehmaiaaGreatDoorE1
import Derived.Test.YtaaibffnehmaiaaGreatDoorS6
import Derived.ChangeSame
import Derived.Test.YtaaibffnehmaiaaGreatDoorRows
import Derived.ProofKit
import Derived.LaidMore
import Derived.LaidHandle
import Derived.OpenShut
import Derived.Stop.Joined
/-! NodeNobody: the row. -/
namespace Go.Proofs.YtaaibffnehmaiaaGreatDoor
open Go.ChangeShapes Go.WideShapes Go.ChangeAt Go.WideMaps Go.WideElems Go.RowKit
set_option linter.unusedVariables false

theorem own : ownKnob Tryz.prog.godebug = none := by kernel_rfl
theorem door_met (os : Os) (args : Array Value) : laidMetH Tryz.prog Rows.nodeNobodyRow.laid ((World.doorLaid Tryz.prog 400 os).forCall (fun _ _ => 0) ⟨#[], args, []⟩).memory :=
  laidMetH_of_parts (laidMet_nil _ _) (by kernel_rfl)

theorem trod_int_any {H : Type} {enc : TypeId × Value → H} {P : Program} {w : World} {base : Nat} {sp : Nat → Bool} {held : Bool} {t : TypeId} {k : IntKind} {n : Nat} {cs : List Value} {x : DataW H × List MemPlace} (ht : P.underlying t = some (.int k))
    (h : DataW.trod enc P w base sp held n t cs = some x) : (∃ m, cs = [.int k m]) ∧ x.2 = [] ∧ ∀ w' base' sp' held', DataW.trod enc P w' base' sp' held' n t cs = some x := by
  cases n with
  | zero => simp [DataW.trod] at h
  | succ n =>
    unfold DataW.trod at h
    rw [ht] at h
    split at h <;> try (simp_all; done)
    rename_i k1 k2 m heq
    obtain rfl : k = k1 := by simpa using heq
    split at h
    · rename_i hk
      obtain ⟨rfl, hw⟩ := hk
      obtain rfl := Option.some.inj h
      exact ⟨⟨_, rfl⟩, rfl, fun w' base' sp' held' => by simp [DataW.trod, ht, hw]⟩
    · cases h
theorem trod_str_any {H : Type} {enc : TypeId × Value → H} {P : Program} {w : World} {base : Nat} {sp : Nat → Bool} {held : Bool} {t : TypeId} {n : Nat} {cs : List Value} {x : DataW H × List MemPlace} (ht : P.underlying t = some .string)
    (h : DataW.trod enc P w base sp held n t cs = some x) : (∃ s, cs = [.string s]) ∧ x.2 = [] ∧ ∀ w' base' sp' held', DataW.trod enc P w' base' sp' held' n t cs = some x := by
  cases n with
  | zero => simp [DataW.trod] at h
  | succ n =>
    unfold DataW.trod at h
    rw [ht] at h
    split at h <;> try (simp_all; done)
    split at h
    · rename_i hk
      obtain rfl := Option.some.inj h
      exact ⟨⟨_, rfl⟩, rfl, fun w' base' sp' held' => by simp [DataW.trod, ht, hk]⟩
    · cases h
theorem cells3 : Tryz.prog.cellsOf 3 = 1 := by kernel_rfl
theorem cells9 : Tryz.prog.cellsOf 9 = 1 := by kernel_rfl
theorem cells23 : Tryz.prog.cellsOf 23 = 10 := by kernel_rfl
theorem len10 {α : Type} {l : List α} (h : l.length = 10) : ∃ c0 c1 c2 c3 c4 c5 c6 c7 c8 c9, l = [c0, c1, c2, c3, c4, c5, c6, c7, c8, c9] := by
  match l, h with
  | [c0, c1, c2, c3, c4, c5, c6, c7, c8, c9], _ => exact ⟨c0, c1, c2, c3, c4, c5, c6, c7, c8, c9, rfl⟩
/-- a message is nine numbers and a text, whatever the memory -/
theorem open_msg {H : Type} {enc : TypeId × Value → H} {w : World} {base : Nat} {sp : Nat → Bool} {held : Bool} {fuel : Nat} {cs : List Value} {x : DataW H × List MemPlace} (h : DataW.trod enc Tryz.prog w base sp held fuel 23 cs = some x) :
    (∃ (m0 m1 m2 m3 m4 m5 m6 m7 m8 : Int) (s : ByteArray), cs = [.int .i64 m0, .int .i64 m1, .int .i64 m2, .int .i64 m3, .int .i64 m4, .int .i64 m5, .int .i64 m6, .int .i64 m7, .int .i64 m8, .string s]) ∧ x.2 = [] ∧ ∀ w' base' sp' held', DataW.trod enc Tryz.prog w' base' sp' held' fuel 23 cs = some x := by
  obtain ⟨xs, n, rfl, rfl, hl, hlen, hf⟩ := DataW.trod_struct Tryz.underlying23 h
  have hl10 : cs.length = 10 := hl.trans cells23
  have hx10 : xs.length = 10 := hlen
  clear hlen h
  obtain ⟨c0, c1, c2, c3, c4, c5, c6, c7, c8, c9, rfl⟩ := len10 hl10
  obtain ⟨y0, y1, y2, y3, y4, y5, y6, y7, y8, y9, rfl⟩ := len10 hx10
  have g0 : DataW.trod enc Tryz.prog w base sp held n 3 [c0] = some y0 := by simpa [cells3] using hf 0 _ rfl
  obtain ⟨⟨m0, q0⟩, p0, r0⟩ := trod_int_any Tryz.underlying3 g0
  obtain rfl := (List.cons.inj q0).1
  have g1 : DataW.trod enc Tryz.prog w base sp held n 3 [c1] = some y1 := by simpa [cells3] using hf 1 _ rfl
  obtain ⟨⟨m1, q1⟩, p1, r1⟩ := trod_int_any Tryz.underlying3 g1
  obtain rfl := (List.cons.inj q1).1
  have g2 : DataW.trod enc Tryz.prog w base sp held n 3 [c2] = some y2 := by simpa [cells3] using hf 2 _ rfl
  obtain ⟨⟨m2, q2⟩, p2, r2⟩ := trod_int_any Tryz.underlying3 g2
  obtain rfl := (List.cons.inj q2).1
  have g3 : DataW.trod enc Tryz.prog w base sp held n 3 [c3] = some y3 := by simpa [cells3] using hf 3 _ rfl
  obtain ⟨⟨m3, q3⟩, p3, r3⟩ := trod_int_any Tryz.underlying3 g3
  obtain rfl := (List.cons.inj q3).1
  have g4 : DataW.trod enc Tryz.prog w base sp held n 3 [c4] = some y4 := by simpa [cells3] using hf 4 _ rfl
  obtain ⟨⟨m4, q4⟩, p4, r4⟩ := trod_int_any Tryz.underlying3 g4
  obtain rfl := (List.cons.inj q4).1
  have g5 : DataW.trod enc Tryz.prog w base sp held n 3 [c5] = some y5 := by simpa [cells3] using hf 5 _ rfl
  obtain ⟨⟨m5, q5⟩, p5, r5⟩ := trod_int_any Tryz.underlying3 g5
  obtain rfl := (List.cons.inj q5).1
  have g6 : DataW.trod enc Tryz.prog w base sp held n 3 [c6] = some y6 := by simpa [cells3] using hf 6 _ rfl
  obtain ⟨⟨m6, q6⟩, p6, r6⟩ := trod_int_any Tryz.underlying3 g6
  obtain rfl := (List.cons.inj q6).1
  have g7 : DataW.trod enc Tryz.prog w base sp held n 3 [c7] = some y7 := by simpa [cells3] using hf 7 _ rfl
  obtain ⟨⟨m7, q7⟩, p7, r7⟩ := trod_int_any Tryz.underlying3 g7
  obtain rfl := (List.cons.inj q7).1
  have g8 : DataW.trod enc Tryz.prog w base sp held n 3 [c8] = some y8 := by simpa [cells3] using hf 8 _ rfl
  obtain ⟨⟨m8, q8⟩, p8, r8⟩ := trod_int_any Tryz.underlying3 g8
  obtain rfl := (List.cons.inj q8).1
  have g9 : DataW.trod enc Tryz.prog w base sp held n 9 [c9] = some y9 := by simpa [cells9] using hf 9 _ rfl
  obtain ⟨⟨s, q9⟩, p9, r9⟩ := trod_str_any Tryz.underlying9 g9
  obtain rfl := (List.cons.inj q9).1
  exact ⟨⟨m0, m1, m2, m3, m4, m5, m6, m7, m8, s, rfl⟩, by simp [p0, p1, p2, p3, p4, p5, p6, p7, p8, p9], fun w' base' sp' held' => trod_struct_mk (xs := [y0, y1, y2, y3, y4, y5, y6, y7, y8, y9]) Tryz.underlying23 hl (by simp [cells3, cells9, r0, r1, r2, r3, r4, r5, r6, r7, r8, r9])⟩
theorem walk (m0 m1 m2 m3 m4 m5 m6 m7 m8 n : Int) (s : ByteArray) (w : World) : Calls Tryz.prog 3 #[.agg #[.int .i64 m0, .int .i64 m1, .int .i64 m2, .int .i64 m3, .int .i64 m4, .int .i64 m5, .int .i64 m6, .int .i64 m7, .int .i64 m8, .string s], .int .i64 n] w fun e w' => e = .returned (.bool true) ∧ Below w.heap.size w w' :=
  Go.Fx.calls_of_chkD (vs := [.agg #[.int .i64 m0, .int .i64 m1, .int .i64 m2, .int .i64 m3, .int .i64 m4, .int .i64 m5, .int .i64 m6, .int .i64 m7, .int .i64 m8, .string s], .int .i64 n]) (Go.Fx.run_nodeNobody m0 m1 m2 m3 m4 m5 m6 m7 m8 n _) (.cons (.agg (.cons (.int _ _) (.cons (.int _ _) (.cons (.int _ _) (.cons (.int _ _) (.cons (.int _ _) (.cons (.int _ _) (.cons (.int _ _) (.cons (.int _ _) (.cons (.int _ _) (.cons (.str rfl) .nil))))))))))) (.cons (.int _ _) .nil)) (Go.Fx.known Tryz.func3 (by kernel_rfl) (by kernel_rfl))

set_option maxRecDepth 100000 in
theorem lifted (os : Os) (started : os.Started) (H : Type) (enc : TypeId × Value → H) :
    ReturnsInHanded {} Tryz.checked os 3 .any (fun w args => (Rows.nodeNobodySpec.pre enc Tryz.prog Tryz.f3 [] false w args ∧ laidMetH Tryz.prog Rows.nodeNobodyRow.laid w) ∧ sizedMet enc Tryz.prog Tryz.f3 (OpenSpec.ofChange Rows.nodeNobodySpec) false w args)
      (Rows.nodeNobodySpec.post enc Tryz.prog Tryz.f3 false true false false) := by
  refine returnsInHanded_of_change_and (C := Tryz.checked) (X := fun w _ => laidMetH Tryz.prog Rows.nodeNobodyRow.laid w) (fun _ _ _ hh h => h.of_heap hh) own started (by kernel_rfl) Tryz.func3
    (ChangeSpec.witness_shaped (enc := enc) (C := Tryz.checked) (os := os) (X := fun w _ => laidMetH Tryz.prog Rows.nodeNobodyRow.laid w) false (World.doorLaid Tryz.prog 400 os) #[.agg #[.int .i64 0, .int .i64 0, .int .i64 0, .int .i64 0, .int .i64 0, .int .i64 0, .int .i64 0, .int .i64 0, .int .i64 0, .string .empty], .int .i64 0] 8 rfl (World.shaped_of_RefB (by kernel_rfl) (by kernel_rfl)) (by kernel_rfl) (by kernel_rfl) (by kernel_rfl) (door_met os _)) ?_
  intro W base args ds gs before hval0 hW _ _ hL _
  have hval : ∀ (j : Nat) t v, Tryz.f3.params[j]? = some t → args[j]? = some v → Value.okWide Tryz.prog W .any base t v := hval0
  have hW' := hW
  obtain ⟨p, q, hA0, hV0, rfl, hfz, hnd⟩ := hW
  have hA : DataW.TrodAll enc Tryz.prog W 0 (fun _ => true) true Tryz.f3.params.toList args.toList ds p := hA0
  rw [Tryz.params3] at hA hval
  obtain ⟨v0, v1, d0, d1, p0, p1, rfl, rfl, rfl, h0, h1⟩ := trodAll_two hA
  obtain ⟨n, rfl, rfl, rfl, hwn⟩ := open_int Tryz.underlying3 (hval 1 3 v1 rfl rfl) h1
  obtain ⟨cs0, rfl, _⟩ := okWide_struct Tryz.underlying23 (hval 0 23 v0 rfl rfl)
  obtain ⟨fuel, h0⟩ := h0
  obtain ⟨⟨m0, m1, m2, m3, m4, m5, m6, m7, m8, s, hcs⟩, hp0, h0'⟩ := open_msg h0
  have hp0 : p0 = [] := hp0
  subst hp0
  have hcs0 : cs0 = #[.int .i64 m0, .int .i64 m1, .int .i64 m2, .int .i64 m3, .int .i64 m4, .int .i64 m5, .int .i64 m6, .int .i64 m7, .int .i64 m8, .string s] := Array.ext' hcs
  subst hcs0
  have hV : DataW.TrodVars enc Tryz.prog W (fun _ => true) [] gs q := hV0
  obtain ⟨rfl, rfl⟩ : gs = [] ∧ q = [] := by
    cases gs with
    | nil => exact ⟨rfl, hV⟩
    | cons g r => exact absurd hV (by intro h; cases h)
  have e1 : Rows.nodeNobodySpec.fn H ([d0, .lit (.int .i64 n)] ++ []) = { results := [.lit (.bool true)], args := [d0, .lit (.int .i64 n)] } := by simp [Rows.nodeNobodySpec]
  refine (walk m0 m1 m2 m3 m4 m5 m6 m7 m8 n s W).mono fun e W' ⟨he, hb⟩ => ?_
  subst he
  refine ⟨_, rfl, _, _, _, [], [], [], hW', ?_, ?_, ?_, hb.frame _, fun h => by cases h⟩
  · rw [e1]; exact trodAll_mk1 (shut_bool Tryz.underlying4 true)
  · rw [e1]; exact trodAll_mk2 ⟨fuel, h0' _ _ _ _⟩ (shut_int Tryz.underlying3 hwn)
  · rw [e1]; rfl

end Go.Proofs.YtaaibffnehmaiaaGreatDoor
