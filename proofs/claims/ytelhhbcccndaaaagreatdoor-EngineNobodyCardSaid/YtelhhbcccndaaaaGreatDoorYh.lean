import Derived.Test.YtelhhbcccndaaaaGreatDoorYg
/-! Functions that are summed up: a disk's Sync. -/
namespace Go.Fx
open Go.RowKit Go.ChangeMaps
set_option linter.unusedVariables false
set_option linter.unusedSimpArgs false

def freshK (k : Nat) : List (AV × AV × Nat) → Bool
  | [] => true
  | (.int _ (.ofNat j), _, _) :: l => !(Nat.beq j k) && freshK k l
  | _ => false
/-- entries of numbers below n and texts, no number twice, the stamps rising -/
def okEs (n clock : Nat) : List (AV × AV × Nat) → Nat → Bool
  | [], _ => true
  | (.int .i64 (.ofNat k), .str _, b) :: l, lo => Nat.blt k n && (Nat.ble lo b && (Nat.blt b clock && (freshK k l && okEs n clock l (b + 1))))
  | _, _ => false
/-- a row behind the entries -/
noncomputable def putEs : List (AV × AV × Nat) → VT → VT
  | [], t => t
  | (.int _ (.ofNat k), v, _) :: l, t => putEs l (setN (some v) (nat_lit 24) t k)
  | _ :: l, t => putEs l t
noncomputable def xSync (l : List AV) (H : Hp) : Option (Prod AV Hp) := match l with
  | [.ptr i 0] => match H.get i with
    | some (.cells m _ _ _) => match getN m 0, getN m 1, getN m 2, getN m 3, getN m 5 with
      | some (.slice j 0 (n + 1) _), some (.map r), some (.bool true), some (.int .i64 (.negSucc _)), some (.int .i64 (.ofNat a)) => (Fx.storeAt H i 5 [.int .i64 (.ofNat (a + 1))]).bind fun H1 => match H1.get r, H1.get j with
        | some (.map es clock), some (.cells mj ej (some 0) szj) => match getN mj n, (H1.put j (.cells (putEs es mj) ej (some 0) szj)).get r with
          | some _, some _ => cond (okEs (n + 1) clock es 0 && (Nat.ble a 1000000000000 && (!(Nat.beq i j) && (!(Nat.beq i r) && !(Nat.beq j r)))))
            (some (.int .i64 (.ofNat 0), (H1.put j (.cells (putEs es mj) ej (some 0) szj)).put r (.map [] clock))) none
          | _, _ => none
        | _, _ => none
      | _, _, _, _, _ => none
    | _ => none
  | _ => none

/-- what is shown of Sync by a walk -/
def SyncSays (P : Program) (g : FuncId) : Prop := ∀ (bd bj bm n cap : Nat) (f a : Int) (es : Array MapEntry) (clock : Nat) (c0 : Array Value) (et : TypeId) (fr : Nat × Nat) (w : World)
    (h0 : w.cell? ⟨bd, 0, none⟩ = some (.slice (some ⟨bj, 0, none⟩) n cap)) (h1 : w.cell? ⟨bd, 1, none⟩ = some (.map (some bm))) (h2 : w.cell? ⟨bd, 2, none⟩ = some (.bool true)) (h3 : w.cell? ⟨bd, 3, none⟩ = some (.int .i64 f)) (hf : f < 0)
    (h5 : w.cell? ⟨bd, 5, none⟩ = some (.int .i64 a)) (ha : 0 ≤ a) (ha2 : a ≤ 1000000000000) (hfz : w.frozen? ⟨bd, 5, none⟩ = false) (hn0 : 0 < n) (hn : n ≤ c0.size)
    (hm : w.heap[bm]? = some (.map es clock)) (hj : w.heap[bj]? = some (.cells c0 et fr)) (hfr : fr.2 = 0) (hdj : bd ≠ bj) (hdm : bd ≠ bm) (hjm : bj ≠ bm)
    (hborn : ∀ x ∈ es.toList, x.born < clock) (hnd : (es.toList.map (·.born)).Nodup) (hkv : ∀ x ∈ es.toList, ∃ (k : Nat) (s : ByteArray), x.key = .int .i64 k ∧ x.val = .string s) (hkn : ∀ x ∈ es.toList, ∀ k : Nat, x.key = .int .i64 k → k < n)
    (hkd : ∀ x ∈ es.toList, ∀ y ∈ es.toList, x.key = y.key → x = y),
    Calls P g #[.pointer (some ⟨bd, 0, none⟩)] w fun e w' => e = .returned (.int .i64 0) ∧ SyncPost w bd bj bm a es clock et fr c0 w'

section
variable {P : Program} {φ : Nat → Option (Nat × Nat)} {H : Hp} {w : World}

theorem RelE.mem {l : List (AV × AV × Nat)} {es : List MapEntry} (h : RelE φ l es) : ∀ x ∈ l, ∃ y ∈ es, Rel φ x.1 y.key ∧ Rel φ x.2.1 y.val ∧ y.born = x.2.2 := by
  induction h with
  | nil => intro x hx; cases hx
  | cons a b _ ih =>
    intro x hx
    rcases List.mem_cons.1 hx with rfl | hx
    · exact ⟨_, List.mem_cons_self, a, b, rfl⟩
    · obtain ⟨y, h1, h2⟩ := ih x hx; exact ⟨y, List.mem_cons_of_mem _ h1, h2⟩
theorem RelE.mem' {l : List (AV × AV × Nat)} {es : List MapEntry} (h : RelE φ l es) : ∀ y ∈ es, ∃ x ∈ l, Rel φ x.1 y.key ∧ Rel φ x.2.1 y.val ∧ y.born = x.2.2 := by
  induction h with
  | nil => intro x hx; cases hx
  | cons a b _ ih =>
    intro y hy
    rcases List.mem_cons.1 hy with rfl | hy
    · exact ⟨_, List.mem_cons_self, a, b, rfl⟩
    · obtain ⟨x, h1, h2⟩ := ih y hy; exact ⟨x, List.mem_cons_of_mem _ h1, h2⟩

theorem freshK_mem {k : Nat} : ∀ {l : List (AV × AV × Nat)}, freshK k l = true → ∀ x ∈ l, ∃ (kd : IntKind) (j : Nat), x.1 = .int kd (.ofNat j) ∧ j ≠ k
  | [], _, x, hx => by cases hx
  | (.int kd (.ofNat j), v, b) :: l, h, x, hx => by
    unfold freshK at h
    rw [Bool.and_eq_true] at h
    rcases List.mem_cons.1 hx with rfl | hx
    · refine ⟨kd, j, rfl, ?_⟩
      rintro rfl
      simp at h
    · exact freshK_mem h.2 x hx
  | (.int _ (.negSucc _), _, _) :: _, h, _, _ => by cases h
  | (.nil, _, _) :: _, h, _, _ => by cases h
  | (.cons _ _, _, _) :: _, h, _, _ => by cases h
  | (.tuple _, _, _) :: _, h, _, _ => by cases h
  | (.agg _, _, _) :: _, h, _, _ => by cases h
  | (.func _ _ _, _, _) :: _, h, _, _ => by cases h
  | (.iface _ _, _, _) :: _, h, _, _ => by cases h
  | (.map _, _, _) :: _, h, _, _ => by cases h
  | (.nul _, _, _) :: _, h, _, _ => by cases h
  | (.str _, _, _) :: _, h, _, _ => by cases h
  | (.slice _ _ _ _, _, _) :: _, h, _, _ => by cases h
  | (.bool _, _, _) :: _, h, _, _ => by cases h
  | (.ptr _ _, _, _) :: _, h, _, _ => by cases h

/-- what okEs tells -/
inductive Ok (n clock : Nat) : List (AV × AV × Nat) → Nat → Prop where
  | nil {lo : Nat} : Ok n clock [] lo
  | cons {k b lo : Nat} {s : List Nat} {l : List (AV × AV × Nat)} : k < n → lo ≤ b → b < clock → (∀ x ∈ l, ∃ (kd : IntKind) (j : Nat), x.1 = .int kd (.ofNat j) ∧ j ≠ k) → Ok n clock l (b + 1) → Ok n clock ((.int .i64 (.ofNat k), .str s, b) :: l) lo
theorem ok_of {n clock : Nat} : ∀ {l : List (AV × AV × Nat)} {lo : Nat}, okEs n clock l lo = true → Ok n clock l lo
  | [], _, _ => .nil
  | (x, v, b) :: l, lo, h => by
    unfold okEs at h
    split at h
    · rename_i e; cases e
    · rename_i k s b' l' lo' e
      cases e
      rw [Bool.and_eq_true, Bool.and_eq_true, Bool.and_eq_true, Bool.and_eq_true, ble_iff] at h
      obtain ⟨h1, h2, h3, h4, h5⟩ := h
      exact .cons (by simp [Nat.blt] at h1; omega) h2 (by simp [Nat.blt] at h3; omega) (freshK_mem h4) (ok_of h5)
    · cases h
theorem Ok.mem {n clock : Nat} {l : List (AV × AV × Nat)} {lo : Nat} (h : Ok n clock l lo) : ∀ x ∈ l, ∃ (k : Nat) (s : List Nat), x.1 = .int .i64 (.ofNat k) ∧ x.2.1 = .str s ∧ k < n ∧ lo ≤ x.2.2 ∧ x.2.2 < clock := by
  induction h with
  | nil => intro x hx; cases hx
  | cons a b c d _ ih =>
    intro x hx
    rcases List.mem_cons.1 hx with rfl | hx
    · exact ⟨_, _, rfl, rfl, a, b, c⟩
    · obtain ⟨k, s, h1, h2, h3, h4, h5⟩ := ih x hx
      exact ⟨k, s, h1, h2, h3, by omega, h5⟩
theorem Ok.born {n clock : Nat} {l : List (AV × AV × Nat)} {lo : Nat} (h : Ok n clock l lo) {es : List MapEntry} (r : RelE φ l es) : (es.map (·.born)).Nodup := by
  induction h generalizing es with
  | nil => cases r; exact List.nodup_nil
  | cons a b c d h ih =>
    cases r; rename_i r1 r2 r3
    rw [List.map_cons, List.nodup_cons]
    refine ⟨fun hm => ?_, ih r3⟩
    obtain ⟨y, hy, e⟩ := List.mem_map.1 hm
    obtain ⟨x, hx, _, _, e'⟩ := r3.mem' y hy
    obtain ⟨_, _, _, _, _, h4, _⟩ := h.mem x hx
    simp only at e
    omega
theorem Ok.keys {n clock : Nat} {l : List (AV × AV × Nat)} {lo : Nat} (h : Ok n clock l lo) {es : List MapEntry} (r : RelE φ l es) : es.Pairwise (fun x y => x.key ≠ y.key) := by
  induction h generalizing es with
  | nil => cases r; exact .nil
  | cons a b c d h ih =>
    cases r; rename_i r1 r2 r3
    refine .cons (fun y hy e => ?_) (ih r3)
    obtain ⟨x, hx, g1, _, _⟩ := r3.mem' y hy
    obtain ⟨kd, j, hj, hne⟩ := d x hx
    cases r1
    rw [hj] at g1
    have e : Value.int .i64 _ = y.key := e
    rw [← e] at g1
    cases g1
    exact hne rfl
theorem putEs_get {n clock : Nat} : ∀ {l : List (AV × AV × Nat)} {lo : Nat}, Ok n clock l lo → ∀ {t : VT} {o : Nat} {v : AV}, getN (putEs l t) o = some v → (∃ x ∈ l, x.1 = .int .i64 (.ofNat o) ∧ x.2.1 = v) ∨ (getN t o = some v ∧ ∀ x ∈ l, x.1 ≠ .int .i64 (.ofNat o))
  | _, _, .nil, t, o, v, h => .inr ⟨h, fun x hx => by cases hx⟩
  | (.int .i64 (.ofNat k), .str s, b) :: l, lo, .cons a1 a2 a3 a4 hk, t, o, v, h => by
    rcases putEs_get hk (show getN (putEs l (setN (some (.str s)) (nat_lit 24) t k)) o = some v from h) with ⟨x, h1, h2⟩ | ⟨h1, h2⟩
    · exact .inl ⟨x, List.mem_cons_of_mem _ h1, h2⟩
    · rcases getN_setN _ _ _ _ _ _ h1 with ⟨g1, g2⟩ | ⟨g1, g2⟩
      · subst g1
        exact .inl ⟨_, List.mem_cons_self, rfl, Option.some.inj g2⟩
      · refine .inr ⟨g2, fun x hx => ?_⟩
        rcases List.mem_cons.1 hx with rfl | hx
        · intro e
          have e : AV.int .i64 (.ofNat k) = AV.int .i64 (.ofNat o) := e
          injection e with _ e; injection e with e; exact g1 e.symm
        · exact h2 x hx

theorem storeAt_put {i off : Nat} {l : List AV} {H1 : Hp} {m : VT} {e : Nat} {fz : Option Nat} {sz : Nat} (h : Fx.storeAt H i off l = some H1) (hg : H.get i = some (.cells m e fz sz)) : H1 = H.put i (.cells (storeL m off l) e fz sz) := by
  unfold Fx.storeAt at h
  rw [hg] at h
  simp only at h
  cases hc : (fzOk fz off && allIn m (lenL l) off && allVal l) with
  | true => rw [hc] at h; exact (Option.some.inj h).symm
  | false => rw [hc] at h; cases h

theorem sync_came {f : FuncId} (hs : SyncSays P f) (K : Known P f) : ∀ args H v H', xSync args H = some (v, H') → ∀ φ w vs, HR φ H w → RelL φ args vs → Came P φ H w f vs v H' := by
  intro args H v H' h φ w vs hH hr
  obtain ⟨fn, k1, k2, k3⟩ := K.there
  unfold xSync at h
  split at h
  case h_2 => cases h
  rename_i i
  cases hr with | cons r1 hr => cases hr with | nil =>
  cases r1; rename_i bd q hp
  split at h
  case h_2 => cases h
  rename_i m e fz sz hg
  split at h
  case h_2 => cases h
  rename_i j n cap r ng a g0 g1 g2 g3 g5
  obtain ⟨H1, hst, h⟩ := bind_some h
  split at h
  case h_2 => cases h
  rename_i es clock mj ej szj hgr1 hgj1
  split at h
  case h_2 => cases h
  rename_i u or hu hor
  cases hc : (okEs (n + 1) clock es 0 && (Nat.ble a 1000000000000 && (!(Nat.beq i j) && (!(Nat.beq i r) && !(Nat.beq j r))))) with
  | false => rw [hc] at h; cases h
  | true =>
  rw [hc] at h
  rw [Bool.and_eq_true, Bool.and_eq_true, Bool.and_eq_true, Bool.and_eq_true, ble_iff] at hc
  obtain ⟨hok, ha, hij, hir, hjr⟩ := hc
  have hij : i ≠ j := by rintro rfl; simp at hij
  have hir : i ≠ r := by rintro rfl; simp at hir
  have hjr : j ≠ r := by rintro rfl; simp at hjr
  have hok := ok_of hok
  obtain ⟨rfl, rfl⟩ := Prod.mk.inj (Option.some.inj h)
  have hH1 := storeAt_put hst hg
  have hgr : H.get r = some (.map es clock) := by
    rw [hH1] at hgr1
    rcases get_put hgr1 with ⟨e1, _⟩ | ⟨_, e1⟩
    · exact absurd e1.symm hir
    · exact e1
  have hgj : H.get j = some (.cells mj ej (some 0) szj) := by
    rw [hH1] at hgj1
    rcases get_put hgj1 with ⟨e1, _⟩ | ⟨_, e1⟩
    · exact absurd e1.symm hij
    · exact e1
  have hcell : ∀ o v, getN m o = some v → ∃ cv, w.cell? ⟨bd, o, none⟩ = some cv ∧ Rel φ v cv := fun o v ho => cell_of hH hp (show cellAt H i o = some v by unfold cellAt; rw [hg]; exact ho)
  obtain ⟨cv0, c0, x0⟩ := hcell _ _ g0
  obtain ⟨cv1, c1, x1⟩ := hcell _ _ g1
  obtain ⟨cv2, c2, x2⟩ := hcell _ _ g2
  obtain ⟨cv3, c3, x3⟩ := hcell _ _ g3
  obtain ⟨cv5, c5, x5⟩ := hcell _ _ g5
  cases x0; rename_i bj qj cc hpj _ _ _
  cases x1; rename_i bm qm hpr
  cases x2; cases x3; cases x5
  obtain ⟨es', hm, hre⟩ := map_obj hH hpr hgr
  obtain ⟨co, o1, o2⟩ := hH.obj j _ bj qj hgj hpj
  cases co <;> simp only [RelO] at o2
  rename_i cs e'' fr
  obtain ⟨rfl, hcs, hfz, hsz⟩ := o2
  have hfr : fr.2 = 0 := Nat.le_zero.1 (hfz 0 rfl)
  obtain ⟨cu, u1, _⟩ := hcs _ _ hu
  have hroom := (Array.getElem?_eq_some_iff.1 u1).1
  have hdj : bd ≠ bj := fun e => hij (hH.inj i j _ _ bd q qj hg hgj hp (e ▸ hpj))
  have hdm : bd ≠ bm := fun e => hir (hH.inj i r _ _ bd q qm hg hgr hp (e ▸ hpr))
  have hjm : bj ≠ bm := fun e => hjr (hH.inj j r _ _ bj qj qm hgj hgr hpj (e ▸ hpr))
  obtain ⟨_, s2, s3, s4⟩ := store1_world (v := .int .i64 ((a : Int) + 1)) hH hp hst (.int _ _)
  have hw := hs bd bj bm (n + 1) cc (Int.negSucc ng) a es' clock cs e'' fr w c0 c1 c2 c3 (by omega) c5 (by omega) (by omega) s2 (by omega) (by omega) hm o1 hfr hdj hdm hjm
    (fun x hx => by obtain ⟨y, hy, _, _, e⟩ := hre.mem' x hx; obtain ⟨_, _, _, _, _, _, h5⟩ := hok.mem y hy; omega)
    (hok.born hre)
    (fun x hx => by
      obtain ⟨y, hy, e1, e2, _⟩ := hre.mem' x hx
      obtain ⟨k, s, f1, f2, _⟩ := hok.mem y hy
      rw [f1] at e1; rw [f2] at e2
      generalize x.key = xk at e1
      generalize x.val = xv at e2
      cases e1; cases e2
      exact ⟨k, _, rfl, rfl⟩)
    (fun x hx k hk => by
      obtain ⟨y, hy, e1, e2, _⟩ := hre.mem' x hx
      obtain ⟨k', s, f1, f2, f3, _⟩ := hok.mem y hy
      rw [f1, hk] at e1
      cases e1
      exact f3)
    (fun x hx y hy e => Go.entry_eq_of_key (hok.keys hre) hx hy e)
  refine came_calls k1 k2 k3 (hw.mono fun e w' he => ?_)
  obtain ⟨rfl, hpost⟩ := he
  obtain ⟨⟨c, p1, p2, p3, p4⟩, p5, p6, p7, p8, p9, p10, p11⟩ := hpost
  generalize hW : w.setCell ⟨bd, 5, none⟩ (.int .i64 ((a : Int) + 1)) = W at s3 s4 p6
  have hWs : W.heap.size = w.heap.size := by rw [← hW]; simp [World.setCell]
  have hWo : ∀ i, i ≠ bd → W.heap[i]? = w.heap[i]? := fun i hi => by rw [← hW]; exact setCell_other (a := ⟨bd, 5, none⟩) hi
  have hWj : W.heap[bj]? = some (.cells cs e'' fr) := (hWo bj fun e => hdj e.symm).trans o1
  have hsetj := MapKept.heap_set (o' := .cells c e'' fr) hWj
  obtain ⟨t1, t2⟩ := s3.turn (w' := setBlock W bj (.cells c e'' fr)) hgj1 hpj (by simp [setBlock]) hsetj.1 hsetj.2 ⟨rfl, rfl, rfl⟩ (o' := .cells (putEs es mj) e'' (some 0) szj) ⟨rfl, fun o v ho => by
      rcases putEs_get hok ho with ⟨x, hx, f1, f2⟩ | ⟨f1, f2⟩
      · obtain ⟨y, hy, r1, r2, _⟩ := hre.mem x hx
        rw [f1] at r1; rw [f2] at r2
        refine ⟨y.val, p3 y hy o ?_, r2⟩
        generalize y.key = yk at r1
        cases r1; rfl
      · obtain ⟨cv, v1, v2⟩ := hcs o v f1
        refine ⟨cv, ?_, v2⟩
        rw [p4 o fun y hy e => ?_]; exact v1
        obtain ⟨x, hx, r1, _, _⟩ := hre.mem' y hy
        obtain ⟨k, s, g1, _⟩ := hok.mem x hx
        rw [g1, e] at r1
        refine f2 x hx ?_
        rw [g1]
        cases r1; rfl, hfz, fun hz => by rw [p2]; exact hsz hz⟩
  have hr1 : (H1.put j (.cells (putEs es mj) e'' (some 0) szj)).get r = some (.map es clock) := by
    rcases get_put hor with ⟨e1, _⟩ | ⟨_, e1⟩
    · exact absurd e1.symm hjr
    · rw [hor]; rw [hgr1] at e1; exact e1.symm
  have hWm : (setBlock W bj (.cells c e'' fr)).heap[bm]? = some (.map es' clock) := (hsetj.2 bm fun e => hjm e.symm).trans ((hWo bm fun e => hdm e.symm).trans hm)
  have hsetm := MapKept.heap_set (o' := .map #[] clock) hWm
  obtain ⟨t3, t4⟩ := t1.turn (w' := setBlock (setBlock W bj (.cells c e'' fr)) bm (.map #[] clock)) hr1 hpr (by simp [setBlock]) hsetm.1 hsetm.2 ⟨rfl, rfl, rfl⟩ (o' := .map [] clock) ⟨rfl, by simpa using RelE.nil⟩
  have hb : Below (setBlock (setBlock W bj (.cells c e'' fr)) bm (.map #[] clock)).heap.size (setBlock (setBlock W bj (.cells c e'' fr)) bm (.map #[] clock)) w' := by
    have hz : (setBlock (setBlock W bj (.cells c e'' fr)) bm (.map #[] clock)).heap.size = w.heap.size := by simp [setBlock, hWs]
    refine ⟨?_, ?_, ?_, by rw [hz]; exact p7, fun i hi => ?_⟩
    · rw [p9, ← hW]; rfl
    · rw [p10, ← hW]; rfl
    · rw [p11, ← hW]; rfl
    · rw [hz] at hi
      by_cases i1 : i = bm
      · subst i1; exact p5.trans hsetm.1.symm
      · by_cases i2 : i = bj
        · subst i2; exact p1.trans ((hsetm.2 i i1).trans hsetj.1).symm
        · by_cases i3 : i = bd
          · subst i3; exact p6.trans ((hsetm.2 i i1).trans (hsetj.2 i i2)).symm
          · exact (p8 i hi i2 i1 i3).trans ((hsetm.2 i i1).trans ((hsetj.2 i i2).trans (hWo i i3))).symm
  obtain ⟨t5, t6⟩ := t3.below hb
  exact ⟨_, φ, rfl, .int _ _, t5, ((s4.trans t2).trans t4).trans t6⟩
end
end Go.Fx
