import Derived.Test.YtaaibffnehmaiaaGreatDoorXa
/-! The fast twin: closures over a region's own stack, for the kernel. -/
namespace Go.Fx
set_option linter.unusedVariables false

/-- where an operand is: in the region's stack, in a slot, or a constant -/
inductive CO where
  | loc (i : Nat) | var (p : Pos) | cst (v : AV) | bad

inductive XR where
  | fail | norm (ts : VT) (H : Hp) | exit (id : Nat) (ts : VT) (H : Hp) | ret (ts : VT) (H : Hp)
abbrev CallT := Nat → List AV → Hp → Option (Prod AV Hp)
abbrev K := AV → Hp → XR
abbrev COp := CallT → List AV → VT → Hp → K → XR

/-! what is compiled stands in boxes, so that the kernel opens each once -/
inductive BOp where
  | mk (f : COp)
abbrev Rg := CallT → List AV → VT → Hp → (VT → Hp → XR) → XR
inductive BRg where
  | mk (f : Rg)
abbrev XOp := CallT → VT → Hp → (VT → Hp → XR) → XR
inductive BX where
  | mk (f : XOp)

noncomputable section
def runO (b : BOp) : COp := fun call stk ts H c => BOp.rec (motive := fun _ => XR) (fun f => f call stk ts H c) b
def runR (b : BRg) : Rg := fun call stk ts H k => BRg.rec (motive := fun _ => XR) (fun f => f call stk ts H k) b
def runX (b : BX) : XOp := fun call ts H k => BX.rec (motive := fun _ => XR) (fun f => f call ts H k) b
def nthK (i : Nat) : List AV → (AV → XR) → XR :=
  Nat.rec (motive := fun _ => List AV → (AV → XR) → XR)
    (fun l k => List.rec (motive := fun _ => XR) .fail (fun v _ _ => k v) l)
    (fun _ ih l k => List.rec (motive := fun _ => XR) .fail (fun _ l' _ => ih l' k) l) i
def optK {α : Type} (x : Option α) (k : α → XR) : XR := Option.rec (motive := fun _ => XR) .fail k x
def evK (c : CO) (stk : List AV) (ts : VT) (k : AV → XR) : XR :=
  CO.rec (motive := fun _ => XR) (fun i => nthK i stk k) (fun p => optK (getP p ts) k) k .fail c

def asInt (v : AV) (k : IntKind → Int → XR) : XR := AV.rec (motive := fun _ => XR) .fail (fun _ _ _ _ => .fail) (fun _ _ => .fail) (fun _ _ => .fail) (fun _ _ _ _ _ => .fail) (fun _ _ _ => .fail) (fun _ => .fail) (fun _ => .fail) (fun _ => .fail) (fun _ _ _ _ => .fail) (fun _ => .fail) (fun _ _ => .fail) k v
def asBool (v : AV) (k : Bool → XR) : XR := AV.rec (motive := fun _ => XR) .fail (fun _ _ _ _ => .fail) (fun _ _ => .fail) (fun _ _ => .fail) (fun _ _ _ _ _ => .fail) (fun _ _ _ => .fail) (fun _ => .fail) (fun _ => .fail) (fun _ => .fail) (fun _ _ _ _ => .fail) k (fun _ _ => .fail) (fun _ _ => .fail) v
def asPtr (v : AV) (k : Nat → Nat → XR) : XR := AV.rec (motive := fun _ => XR) .fail (fun _ _ _ _ => .fail) (fun _ _ => .fail) (fun _ _ => .fail) (fun _ _ _ _ _ => .fail) (fun _ _ _ => .fail) (fun _ => .fail) (fun _ => .fail) (fun _ => .fail) (fun _ _ _ _ => .fail) (fun _ => .fail) k (fun _ _ => .fail) v
def asStr (v : AV) (k : List Nat → XR) : XR := AV.rec (motive := fun _ => XR) .fail (fun _ _ _ _ => .fail) (fun _ _ => .fail) (fun _ _ => .fail) (fun _ _ _ _ _ => .fail) (fun _ _ _ => .fail) (fun _ => .fail) (fun _ => .fail) k (fun _ _ _ _ => .fail) (fun _ => .fail) (fun _ _ => .fail) (fun _ _ => .fail) v
def asSlice (v : AV) (k : Nat → Nat → Nat → Cp → XR) : XR := AV.rec (motive := fun _ => XR) .fail (fun _ _ _ _ => .fail) (fun _ _ => .fail) (fun _ _ => .fail) (fun _ _ _ _ _ => .fail) (fun _ _ _ => .fail) (fun _ => .fail) (fun _ => .fail) (fun _ => .fail) k (fun _ => .fail) (fun _ _ => .fail) (fun _ _ => .fail) v
def asNat (v : AV) (k : Nat → XR) : XR := asInt v fun _ n => Int.rec (motive := fun _ => XR) k (fun _ => .fail) n
def ifK (b : Bool) (t : XR) : XR := Bool.rec (motive := fun _ => XR) .fail t b

def wrapK (k : IntKind) (n : Int) (c : Int → XR) : XR :=
  Int.rec (motive := fun _ => XR) (fun a => Bool.rec (motive := fun _ => XR) (c (k.wrap (.ofNat a))) (c (.ofNat a)) (Nat.blt a (half k))) (fun a => c (k.wrap (.negSucc a))) n
def twoInts (x y : CO) (stk : List AV) (ts : VT) (c : IntKind → Int → Int → XR) : XR :=
  evK x stk ts fun a => evK y stk ts fun b => asInt a fun k m => asInt b fun k' n => ifK (Nat.beq (kn k) (kn k')) (c k m n)

def lssK (x y : CO) : COp := fun _ stk ts H c => twoInts x y stk ts fun _ m n => c (.bool (intLt m n)) H
def gtrK (x y : CO) : COp := fun _ stk ts H c => twoInts x y stk ts fun _ m n => c (.bool (not (or (intLt m n) (intEq m n)))) H
def leqK (x y : CO) : COp := fun _ stk ts H c => twoInts x y stk ts fun _ m n => c (.bool (or (intLt m n) (intEq m n))) H
def geqK (x y : CO) : COp := fun _ stk ts H c => twoInts x y stk ts fun _ m n => c (.bool (not (intLt m n))) H
def eqlK (x y : CO) : COp := fun _ stk ts H c => twoInts x y stk ts fun _ m n => c (.bool (intEq m n)) H
def neqK (x y : CO) : COp := fun _ stk ts H c => twoInts x y stk ts fun _ m n => c (.bool (not (intEq m n))) H
def addK (x y : CO) : COp := fun _ stk ts H c => twoInts x y stk ts fun k m n => wrapK k (Int.add m n) fun r => c (.int k r) H
def subK (x y : CO) : COp := fun _ stk ts H c => twoInts x y stk ts fun k m n => wrapK k (Int.sub m n) fun r => c (.int k r) H
def mulK (x y : CO) : COp := fun _ stk ts H c => twoInts x y stk ts fun k m n => wrapK k (Int.mul m n) fun r => c (.int k r) H
def convK (d : IntKind) (x : CO) : COp := fun _ stk ts H c => evK x stk ts fun a => asInt a fun _ m => wrapK d m fun r => c (.int d r) H
def pickK (q x y : CO) : COp := fun _ stk ts H c => evK q stk ts fun a => asBool a fun b =>
  evK (Bool.rec (motive := fun _ => CO) y x b) stk ts fun v => c v H
def mvK (x : CO) : COp := fun _ stk ts H c => evK x stk ts fun a => c a H
def nilCheckK (x : CO) : COp := fun _ stk ts H c => evK x stk ts fun a => asPtr a fun i o => c a H
def fieldAddrK (d : Nat) (x : CO) : COp := fun _ stk ts H c => evK x stk ts fun a => asPtr a fun i o => c (.ptr i (Nat.add o d)) H
def hget (H : Hp) (i : Nat) (k : AObj → XR) : XR :=
  Hp.rec (motive := fun _ => XR) (fun _ objs => Option.rec (motive := fun _ => XR) .fail k (getH objs i)) H
def asCells (o : AObj) (k : VT → Nat → Option Nat → Nat → XR) : XR := AObj.rec (motive := fun _ => XR) k (fun _ _ => .fail) (fun _ _ _ _ => .fail) o
def load1K (x : CO) : COp := fun _ stk ts H c => evK x stk ts fun a => asPtr a fun i o => hget H i fun ob => asCells ob fun m _ _ _ => optK (getN m o) fun v => c v H
def fzOkK (fz : Option Nat) (o : Nat) : Bool := Option.rec (motive := fun _ => Bool) false (fun h => Nat.ble h o) fz
def isSomeK (x : Option AV) : Bool := Option.rec (motive := fun _ => Bool) false (fun _ => true) x
def hputK (H : Hp) (i : Nat) (o : AObj) : Hp := Hp.rec (motive := fun _ => Hp) (fun n objs => .mk n (setH (some o) (nat_lit 24) objs i)) H
def notAgg (v : AV) (k : XR) : XR := AV.rec (motive := fun _ => XR) .fail (fun _ _ _ _ => .fail) (fun _ _ => .fail) (fun _ _ => .fail) (fun _ _ _ _ _ => k) (fun _ _ _ => k) (fun _ => k) (fun _ => k) (fun _ => k) (fun _ _ _ _ => k) (fun _ => k) (fun _ _ => k) (fun _ _ => k) v
def store1K (a x : CO) : COp := fun _ stk ts H c => evK a stk ts fun p => asPtr p fun i o => evK x stk ts fun v => notAgg v (hget H i fun ob => asCells ob fun m e fz sz =>
  ifK (fzOkK fz o) (ifK (isSomeK (getN m o)) (c undefA (hputK H i (.cells (setN (some v) (nat_lit 24) m o) e fz sz)))))
def idxArrK (len s : Nat) (x ix : CO) : COp := fun _ stk ts H c => evK x stk ts fun p => evK ix stk ts fun a => asPtr p fun i o => asNat a fun n => ifK (Nat.blt n len) (c (.ptr i (Nat.add o (Nat.mul n s))) H)
def idxSlK (s : Nat) (x ix : CO) : COp := fun _ stk ts H c => evK x stk ts fun p => evK ix stk ts fun a => asSlice p fun i o len _ => asNat a fun n => ifK (Nat.blt n len) (c (.ptr i (Nat.add o (Nat.mul n s))) H)
def natNth (i : Nat) : List Nat → Option Nat :=
  Nat.rec (motive := fun _ => List Nat → Option Nat) (fun l => List.rec (motive := fun _ => Option Nat) none (fun v _ _ => some v) l)
    (fun _ ih l => List.rec (motive := fun _ => Option Nat) none (fun _ l' _ => ih l') l) i
def idxStrK (x ix : CO) : COp := fun _ stk ts H c => evK x stk ts fun p => evK ix stk ts fun a => asStr p fun s => asNat a fun n => optK (natNth n s) fun b => c (.int .u8 (.ofNat b)) H

def callBack (r : Option (Prod AV Hp)) (c : K) : XR := Option.rec (motive := fun _ => XR) .fail (fun r => Prod.rec (motive := fun _ => XR) c r) r
def evArgs (args : List CO) (stk : List AV) (ts : VT) : (List AV → XR) → XR :=
  List.rec (motive := fun _ => (List AV → XR) → XR) (fun k => k []) (fun x _ ih k => evK x stk ts fun v => ih fun l => k (v :: l)) args
def callK (f : Nat) (args : List CO) : COp := fun call stk ts H c => evArgs args stk ts fun l => callBack (call f l H) c

/-! any operation, by its function -/
def afterR (r : Option R) (call : CallT) (c : K) : XR :=
  optK r fun r => R.rec (motive := fun _ => XR) c (fun f args H => callBack (call f args H) c) r
def p1K (f : AV → Option AV) (x : CO) : COp := fun _ stk ts H c => evK x stk ts fun a => optK (f a) fun v => c v H
def p2K (f : AV → AV → Option AV) (x y : CO) : COp := fun _ stk ts H c => evK x stk ts fun a => evK y stk ts fun b => optK (f a b) fun v => c v H
def plK (f : List AV → Option AV) (xs : List CO) : COp := fun _ stk ts H c => evArgs xs stk ts fun l => optK (f l) fun v => c v H
def l1K (f : AV → Hp → Option AV) (x : CO) : COp := fun _ stk ts H c => evK x stk ts fun a => optK (f a H) fun v => c v H
def l2K (f : AV → AV → Hp → Option AV) (x y : CO) : COp := fun _ stk ts H c => evK x stk ts fun a => evK y stk ts fun b => optK (f a b H) fun v => c v H
def h0K (f : Hp → Option R) : COp := fun call stk ts H c => afterR (f H) call c
def h1K (f : AV → Hp → Option R) (x : CO) : COp := fun call stk ts H c => evK x stk ts fun a => afterR (f a H) call c
def h2K (f : AV → AV → Hp → Option R) (x y : CO) : COp := fun call stk ts H c => evK x stk ts fun a => evK y stk ts fun b => afterR (f a b H) call c
def h3K (f : AV → AV → AV → Hp → Option R) (x y z : CO) : COp := fun call stk ts H c => evK x stk ts fun a => evK y stk ts fun b => evK z stk ts fun d => afterR (f a b d H) call c
def hlK (f : List AV → Hp → Option R) (xs : List CO) : COp := fun call stk ts H c => evArgs xs stk ts fun l => afterR (f l H) call c
def badK : COp := fun _ _ _ _ _ => .fail

def boolAll (v : AV) (k : Bool → XR) (d : XR) : XR := AV.rec (motive := fun _ => XR) d (fun _ _ _ _ => d) (fun _ _ => d) (fun _ _ => d) (fun _ _ _ _ _ => d) (fun _ _ _ => d) (fun _ => d) (fun _ => d) (fun _ => d) (fun _ _ _ _ => d) k (fun _ _ => d) (fun _ _ => d) v
/-- a guarded operation -/
def guardK (q : CO) (want : Bool) (o : BOp) : COp := fun call stk ts H c =>
  evK q stk ts fun a => boolAll a (fun b => Bool.rec (motive := fun _ => XR) (Bool.rec (motive := fun _ => XR) (runO o call stk ts H c) (c undefA H) want) (Bool.rec (motive := fun _ => XR) (c undefA H) (runO o call stk ts H c) want) b) (c undefA H)

def flushK (fl : List (Prod Pos CO)) (stk : List AV) : VT → VT → (VT → XR) → XR :=
  List.rec (motive := fun _ => VT → VT → (VT → XR) → XR) (fun _ ts k => k ts)
    (fun pc _ ih ts0 ts k => Prod.rec (motive := fun _ => XR) (fun p c => evK c stk ts0 fun v => ih ts0 (setP p (some v) ts) k) pc) fl
def chainK (o : BOp) (rest : BRg) : Rg := fun call stk ts H k => runO o call stk ts H fun v H' => runR rest call (v :: stk) ts H' k
def endK (fl : List (Prod Pos CO)) : Rg := fun _ stk ts H k => flushK fl stk ts ts fun ts' => k ts' H
def skipX : XOp := fun _ ts H k => k ts H
def regX (r : BRg) : XOp := fun call ts H k => runR r call [] ts H k
def seqX (a b : BX) : XOp := fun call ts H k => runX a call ts H fun ts' H' => runX b call ts' H' k
def condX (x : CO) (a b : BX) : XOp := fun call ts H k => evK x [] ts fun v => asBool v fun t => Bool.rec (motive := fun _ => XR) (runX b call ts H k) (runX a call ts H k) t
def blockR (id : Nat) (r : XR) (k : VT → Hp → XR) : XR := XR.rec (motive := fun _ => XR) .fail k (fun i ts H => Bool.rec (motive := fun _ => XR) (.exit i ts H) (k ts H) (Nat.beq i id)) (fun ts H => .ret ts H) r
def blockX (id : Nat) (a : BX) : XOp := fun call ts H k => blockR id (runX a call ts H .norm) k
/-- loops' rounds, at most -/
def FUEL : Nat := nat_lit 100000
def loopR (a : BX) (call : CallT) (n : Nat) : VT → Hp → XR := Nat.rec (motive := fun _ => VT → Hp → XR) (fun _ _ => .fail) (fun _ ih ts H => runX a call ts H ih) n
def loopX (a : BX) : XOp := fun call ts H _ => loopR a call FUEL ts H
def exitX (id : Nat) : XOp := fun _ ts H _ => .exit id ts H
def retX : XOp := fun _ ts H _ => .ret ts H
def badX : XOp := fun _ _ _ _ => .fail
end

/-! ## Compiling -/

/-- where a slot's value is: at a height of the stack, or as an operand of the region's beginning -/
inductive CA where
  | abs (n : Nat) | co (c : CO)

def lookE (t : Nat) : List (Nat × CA) → Option CA
  | [] => none
  | e :: l => cond (Nat.beq e.1 t) (some e.2) (lookE t l)
def coOf (n : Nat) : CA → CO
  | .abs k => .loc (n - 1 - k)
  | .co c => c
/-- a slot that is kept from region to region -/
noncomputable def varT (N mask t : Nat) : CO := cond (Nat.blt t N && Nat.testBit mask t) (.var (posOf 24 t)) .bad
/-- the operand at a stack of n values -/
noncomputable def resT (N mask : Nat) (env : List (Nat × CA)) (n t : Nat) : CO := match lookE t env with
  | some a => coOf n a
  | none => varT N mask t
noncomputable def resO (N mask : Nat) (env : List (Nat × CA)) (n : Nat) : Operand → CO
  | .tmp t => resT N mask env n t
  | .const v => match ofConst v with
    | some a => .cst a
    | none => .bad
  | .func f => .cst (.func (.func f) .nil .nil)
  | .global _ => .bad
/-- what an alias stands for -/
noncomputable def aliasO (N mask : Nat) (env : List (Nat × CA)) : Operand → Option CA
  | .tmp t => match lookE t env with
    | some a => some a
    | none => some (.co (varT N mask t))
  | .const v => (ofConst v).map fun a => .co (.cst a)
  | .func f => some (.co (.cst (.func (.func f) .nil .nil)))
  | .global _ => none

section
variable (P : Program)
noncomputable def specK (res : Operand → CO) : Spec → BOp
  | .p1 x f => .mk (p1K f (res x))
  | .p2 x y f => .mk (p2K f (res x) (res y))
  | .pl xs f => .mk (plK f (xs.map res))
  | .l1 x f => .mk (l1K f (res x))
  | .l2 x y f => .mk (l2K f (res x) (res y))
  | .h0 f => .mk (h0K f)
  | .h1 x f => .mk (h1K f (res x))
  | .h2 x y f => .mk (h2K f (res x) (res y))
  | .h3 x y z f => .mk (h3K f (res x) (res y) (res z))
  | .hl xs f => .mk (hlK f (xs.map res))
  | .pick c a b => .mk (pickK (res c) (res a) (res b))
  | .bad => .mk badK
noncomputable def intK (op : BinOp) (x y : CO) (d : BOp) : BOp := match op with
  | .lss => .mk (lssK x y)
  | .gtr => .mk (gtrK x y)
  | .leq => .mk (leqK x y)
  | .geq => .mk (geqK x y)
  | .eql => .mk (eqlK x y)
  | .neq => .mk (neqK x y)
  | .add => .mk (addK x y)
  | .sub => .mk (subK x y)
  | .mul => .mk (mulK x y)
  | _ => d
noncomputable def opK (res : Operand → CO) (o : Oper) : BOp := match o.op with
  | .move x => .mk (mvK (res x))
  | .assign x => .mk (mvK (res x))
  | .binOp op t x y _ => match undF P t with
    | some (.int _) => intK op (res x) (res y) (specK res (spec P o))
    | _ => specK res (spec P o)
  | .nilCheck x => .mk (nilCheckK (res x))
  | .fieldAddr t x f => match fieldT P t f with
    | some g => cond (Nat.beq g.2.1 0) (.mk badK) (.mk (fieldAddrK g.1 (res x)))
    | none => .mk (badK)
  | .load t a => match isAggT P t with
    | some false => .mk (load1K (res a))
    | _ => specK res (spec P o)
  | .store t a x => match sizeT P t with
    | some 1 => match isAggT P t with
      | some false => .mk (store1K (res a) (res x))
      | _ => specK res (spec P o)
    | _ => specK res (spec P o)
  | .indexAddr t x ix => match undF P t with
    | some (.slice e) => match sizeT P e with
      | some s => .mk (idxSlK s (res x) (res ix))
      | none => .mk (badK)
    | some (.array len e) => match sizeT P e with
      | some s => .mk (idxArrK len s (res x) (res ix))
      | none => .mk (badK)
    | _ => .mk (badK)
  | .index t x ix => match undF P t with
    | some .string => .mk (idxStrK (res x) (res ix))
    | _ => specK res (spec P o)
  | .convert s d x => match undF P s, undF P d with
    | some (.int _), some (.int k) => .mk (convK k (res x))
    | _, _ => specK res (spec P o)
  | .call c => match c.callee with
    | .value (.func f) => .mk (callK f (c.args.toList.map res))
    | _ => specK res (spec P o)
  | _ => specK res (spec P o)

/-- the slot of a guard's operation -/
def guardT (all : List Oper) (j : Nat) : Option Nat := (all[j]?).bind (·.dst)
def bitOr (m : Nat) (t : Nat) : Nat := Nat.lor m (Nat.shiftLeft 1 t)
/-- what is kept of a region's slots: the newest of each -/
noncomputable def flushOf (mask n : Nat) : List (Nat × CA) → Nat → List (Pos × CO)
  | [], _ => []
  | (t, a) :: l, seen => cond (Nat.testBit mask t && not (Nat.testBit seen t)) ((posOf 24 t, coOf n a) :: flushOf mask n l (bitOr seen t)) (flushOf mask n l seen)
/-- a region: the operations that are left, where the slots are, how many values there are -/
noncomputable def regK (N mask : Nat) (all : List Oper) : List Oper → List (Nat × CA) → Nat → Option BRg
  | [], env, n => some (.mk (endK (flushOf mask n env 0)))
  | o :: rest, env, n =>
    match o.guard with
    | none => match o.op, o.dst with
      | .move x, some d | .assign x, some d => match aliasO N mask env x with
        | some a => cond (Nat.blt d N) (regK N mask all rest ((d, a) :: env) n) none
        | none => none
      | _, some d => cond (Nat.blt d N) ((regK N mask all rest ((d, .abs n) :: env) (n + 1)).map fun r => .mk (chainK (opK P (resO N mask env n) o) r)) none
      | _, none => (regK N mask all rest env (n + 1)).map fun r => .mk (chainK (opK P (resO N mask env n) o) r)
    | some (j, want) => match guardT all j with
      | none => none
      | some g => match o.dst with
        | some d => cond (Nat.blt d N) ((regK N mask all rest ((d, .abs n) :: env) (n + 1)).map fun r => .mk (chainK (.mk (guardK (resT N mask env n g) want (opK P (resO N mask env n) o))) r)) none
        | none => (regK N mask all rest env (n + 1)).map fun r => .mk (chainK (.mk (guardK (resT N mask env n g) want (opK P (resO N mask env n) o))) r)

/-! ## Regions that draw their order -/
noncomputable def aeq : AV → AV → Bool
  | .nil, .nil => true
  | .cons a b, .cons c d => aeq a c && aeq b d
  | .tuple a, .tuple b => aeq a b
  | .agg a, .agg b => aeq a b
  | .func (.func f) a b, .func (.func g) c d => Nat.beq f g && (aeq a c && aeq b d)
  | .iface t a, .iface u b => Nat.beq t u && aeq a b
  | .map a, .map b => Nat.beq a b
  | .nul .ptr, .nul .ptr => true
  | .nul .slice, .nul .slice => true
  | .nul .empty, .nul .empty => true
  | .nul .map, .nul .map => true
  | .nul .func, .nul .func => true
  | .nul .iface, .nul .iface => true
  | .str a, .str b => bytesEq a b
  | .slice i o n c, .slice j p m d => Nat.beq i j && Nat.beq o p && Nat.beq n m && (match c, d with
    | .own x, .own y => Nat.beq x y
    | .known x, .known y => Nat.beq x y
    | _, _ => false)
  | .bool a, .bool b => a == b
  | .ptr i o, .ptr j p => Nat.beq i j && Nat.beq o p
  | .int k m, .int k' n => Nat.beq (kn k) (kn k') && (match m, n with
    | .ofNat x, .ofNat y => Nat.beq x y
    | .negSucc x, .negSucc y => Nat.beq x y
    | _, _ => false)
  | _, _ => false
noncomputable section
def exX (b : BOp) (p : Option Pos) (rest : BX) : XOp := fun call ts H k => runO b call [] ts H fun v H' => runX rest call (Option.rec (motive := fun _ => VT) ts (fun p => setP p (some v) ts) p) H' k
def ckX (b : BOp) (p : Pos) (rest : BX) : XOp := fun call ts H k => runO b call [] ts H fun v H' => optK (getP p ts) fun u => ifK (aeq v u) (runX rest call ts H k)
end
/-- an item of a plan: an operation's turn, or its look once more -/
inductive It where
  | ex (i : Nat) | ck (i : Nat)
/-- 0: a look or less; 1: it makes an object; 2: any other -/
noncomputable def clsO (o : Oper) : Nat := match o.guard, o.op with
  | none, .alloc _ => 1
  | none, .makeSlice _ _ _ => 1
  | _, _ => match spec P o with
    | .p1 _ _ | .p2 _ _ _ | .pl _ _ | .l1 _ _ | .l2 _ _ _ | .pick _ _ _ => 0
    | _ => 2
/-- the operations that an operation's edges name -/
def predsO : List Edge → List Nat
  | [] => []
  | e :: l => cond (Region.binds .any e) (e.on :: predsO l) (predsO l)
def bitsOf : List Nat → Nat
  | [] => 0
  | i :: l => bitOr (bitsOf l) i
/-- what lies ahead of the operations, by the operations' numbers -/
def ancOf (ancs : List Nat) : List Nat → Option Nat
  | [] => some 0
  | j :: l => match ancs[j]?, ancOf ancs l with
    | some a, some m => some (Nat.lor (bitOr a j) m)
    | _, _ => none
def ancsOf : List Oper → List Nat → Option (List Nat)
  | [], ancs => some ancs
  | o :: l, ancs => match ancOf ancs (predsO o.after.toList) with
    | some a => ancsOf l (ancs ++ [a])
    | none => none
def writersOf : List Oper → Nat → List (Nat × Nat)
  | [], _ => []
  | o :: l, i => match o.dst with
    | some d => (d, i) :: writersOf l (i + 1)
    | none => writersOf l (i + 1)
def lookW (t : Nat) : List (Nat × Nat) → Option Nat
  | [] => none
  | e :: l => cond (Nat.beq e.1 t) (some e.2) (lookW t l)
def onceW (N : Nat) : List (Nat × Nat) → Bool
  | [] => true
  | e :: l => Nat.blt e.1 N && (match lookW e.1 l with | some _ => false | none => true) && onceW N l
def subM (a b : Nat) : Bool := Nat.beq (Nat.land a b) a
noncomputable def resD (N mask anc : Nat) (wr : List (Nat × Nat)) : Operand → CO
  | .tmp t => match lookW t wr with
    | some j => cond (Nat.testBit anc j) (.var (posOf 24 t)) .bad
    | none => varT N mask t
  | .const v => match ofConst v with
    | some a => .cst a
    | none => .bad
  | .func f => .cst (.func (.func f) .nil .nil)
  | .global _ => .bad
/-- an operation of such a region -/
noncomputable def opD (N mask : Nat) (all : List Oper) (wr : List (Nat × Nat)) (anc : Nat) (o : Oper) : BOp := match o.guard with
  | none => opK P (resD N mask anc wr) o
  | some (j, want) => match guardT all j with
    | none => .mk badK
    | some g => .mk (guardK (resD N mask anc wr (.tmp g)) want (opK P (resD N mask anc wr) o))
def diffM (a b : Nat) : Nat := Nat.xor a (Nat.land a b)
/-- a plan, if it stands -/
noncomputable def planK (N mask : Nat) (fin : BX) (all : List Oper) (wr : List (Nat × Nat)) (ancs : List Nat) : List It → (done opn fresh eff : Nat) → Option BX
  | [], done, opn, fresh, _ => cond (Nat.beq done (Nat.sub (Nat.shiftLeft 1 all.length) 1) && subM opn fresh) (some fin) none
  | .ex i :: l, done, opn, fresh, eff => match all[i]?, ancs[i]? with
    | some o, some anc => cond (not (Nat.testBit done i) && subM anc done && subM eff anc)
      ((match clsO P o with
        | 0 => planK N mask fin all wr ancs l (bitOr done i) (bitOr opn i) (bitOr fresh i) eff
        | 1 => planK N mask fin all wr ancs l (bitOr done i) opn 0 eff
        | _ => cond (subM opn fresh) (planK N mask fin all wr ancs l (bitOr done i) (diffM opn anc) 0 (bitOr eff i)) none).map fun r => .mk (exX (opD P N mask all wr anc o) (o.dst.map (posOf 24)) r)) none
    | _, _ => none
  | .ck i :: l, done, opn, fresh, eff => match all[i]?, ancs[i]? with
    | some o, some anc => match clsO P o, o.dst with
      | 0, some d => cond (Nat.testBit done i && subM anc done) ((planK N mask fin all wr ancs l done opn (bitOr fresh i) eff).map fun r => .mk (ckX (opD P N mask all wr anc o) (posOf 24 d) r)) none
      | _, _ => none
    | _, _ => none
/-- a plan -/
noncomputable def firstR (ancs : List Nat) (done : Nat) (look : Bool) : List Oper → Nat → Option (Nat × Nat)
  | [], _ => none
  | o :: l, i => match ancs[i]? with
    | some anc => cond (not (Nat.testBit done i) && subM anc done && (cond look (not (Nat.beq (clsO P o) 2)) (Nat.beq (clsO P o) 2))) (some (i, clsO P o)) (firstR ancs done look l (i + 1))
    | none => none
def cksOf (m : Nat) : Nat → List It
  | 0 => []
  | n + 1 => cond (Nat.testBit m n) (.ck n :: cksOf m n) (cksOf m n)
noncomputable def planOf (all : List Oper) (ancs : List Nat) (n : Nat) : Nat → (done opn fresh : Nat) → List It
  | 0, _, opn, fresh => cksOf (diffM opn fresh) n
  | f + 1, done, opn, fresh => match firstR P ancs done true all 0 with
    | some (i, c) => .ex i :: cond (Nat.beq c 0) (planOf all ancs n f (bitOr done i) (bitOr opn i) (bitOr fresh i)) (planOf all ancs n f (bitOr done i) opn 0)
    | none => match firstR P ancs done false all 0 with
      | some (i, _) => cksOf (diffM opn fresh) n ++ .ex i :: planOf all ancs n f (bitOr done i) (diffM opn ((ancs[i]?).getD 0)) 0
      | none => cksOf (diffM opn fresh) n
/-- all operations but the last, which comes last in every order; and the last -/
def splitL : List Oper → Option (List Oper × Oper)
  | [] => none
  | [o] => some ([], o)
  | o :: l => (splitL l).map fun p => (o :: p.1, p.2)
def allBits (n : Nat) : Nat := Nat.sub (Nat.shiftLeft 1 n) 1
noncomputable def drawK (N mask : Nat) (all : List Oper) : Option BX := match ancsOf all [], splitL all with
  | some ancs, some (pre, last) => match ancs[pre.length]? with
    | some a => cond (Nat.beq a (allBits pre.length))
      (cond (onceW N (writersOf pre 0) && (match last.dst with | some d => Nat.blt d N | none => true)) (planK P N mask (.mk (exX (opD P N mask pre (writersOf pre 0) a last) (last.dst.map (posOf 24)) (.mk skipX))) pre (writersOf pre 0) ancs (planOf P pre ancs pre.length pre.length 0 0 0) 0 0 0 0) none)
      (cond (onceW N (writersOf all 0)) (planK P N mask (.mk skipX) all (writersOf all 0) ancs (planOf P all ancs all.length all.length 0 0 0) 0 0 0 0) none)
    | none => none
  | _, _ => none

def tmpsOf : List Operand → List Nat
  | [] => []
  | .tmp t :: l => t :: tmpsOf l
  | _ :: l => tmpsOf l
def readsOf (all : List Oper) (o : Oper) : List Nat := (match o.guard with
  | some (j, _) => match guardT all j with
    | some t => [t]
    | none => []
  | none => []) ++ tmpsOf o.op.operands.toList
def orAll (d : Nat) : List Nat → Nat → Nat
  | [], m => m
  | t :: l, m => orAll d l (cond (Nat.testBit d t) m (bitOr m t))
def upReads (all : List Oper) : List Oper → Nat → Nat → Nat
  | [], _, m => m
  | o :: rest, d, m => upReads all rest (match o.dst with | some t => bitOr d t | none => d) (orAll d (readsOf all o) m)
/-- the slots that are read outside the region that writes them -/
def crossC : Code → Nat → Nat
  | .region _ ops _, m => upReads ops.toList ops.toList 0 m
  | .seq a b, m => crossC b (crossC a m)
  | .cond c a b, m => crossC b (crossC a (match c with | .tmp t => bitOr m t | _ => m))
  | .block _ a, m => crossC a m
  | .loop a, m => crossC a m
  | _, m => m
def crossR : List ResultVar → Nat → Nat
  | [], m => m
  | .tmp t :: l, m => crossR l (bitOr m t)
  | .cell t _ :: l, m => crossR l (bitOr m t)

noncomputable def compC (N mask : Nat) : Code → BX
  | .skip => .mk skipX
  | .region _ ops false => match regK P N mask ops.toList ops.toList [] 0 with
    | some r => .mk (regX r)
    | none => .mk badX
  | .region _ ops true => match drawK P N mask ops.toList with
    | some r => r
    | none => .mk badX
  | .seq a b => .mk (seqX (compC N mask a) (compC N mask b))
  | .cond c a b => .mk (condX (resO N mask [] 0 c) (compC N mask a) (compC N mask b))
  | .block id a => .mk (blockX id (compC N mask a))
  | .loop a => .mk (loopX (compC N mask a))
  | .exit id => .mk (exitX id)
  | .ret => .mk retX
  | _ => .mk badX

noncomputable section
def slotT (N mask t : Nat) (ts : VT) : Option AV := cond (Nat.blt t N && Nat.testBit mask t) (getP (posOf 24 t) ts) none
def resultsK (N mask : Nat) (ts : VT) (H : Hp) : List ResultVar → Option (List AV)
  | [] => some []
  | .tmp t :: l => (slotT N mask t ts).bind fun v => (resultsK N mask ts H l).map (v :: ·)
  | .cell a t :: l => (slotT N mask a ts).bind fun p => (match isAggT P t, sizeT P t with
    | some false, _ => loadF1 p H
    | some true, some n => loadFN n p H
    | _, _ => none).bind fun v => (resultsK N mask ts H l).map (v :: ·)
def oneOf : List AV → AV
  | [v] => v
  | l => .tuple (chain l)
def maskF (fn : Func) : Nat := match fn.body with
  | some c => crossR fn.results.toList (crossC c 0)
  | none => 0
def finK (fn : Func) (r : XR) : Option (Prod AV Hp) := match r with
  | .norm ts H | .ret ts H => (resultsK P fn.ntmps (maskF fn) ts H fn.results.toList).map fun l => (oneOf l, H)
  | _ => none
def argsK : List AV → Nat → VT → VT
  | [], _, ts => ts
  | v :: l, i, ts => argsK l (i + 1) (setP (posOf 24 i) (some v) ts)
def codeK (fn : Func) : BX := match fn.body with
  | some c => cond (Nat.ble fn.ntmps 65536) (compC P fn.ntmps (maskF fn) c) (.mk badX)
  | none => .mk badX
def callF (ext : Nat → Option (List AV → Hp → Option (Prod AV Hp))) (n : Nat) : CallT :=
  Nat.rec (motive := fun _ => CallT) (fun _ _ _ => none) (fun _ ih f args H =>
    Option.rec (motive := fun _ => Option (Prod AV Hp))
      (Option.rec (motive := fun _ => Option (Prod AV Hp)) none (fun fn => finK P fn (runX (codeK P fn) ih (argsK args (nat_lit 0) .E) H .norm)) (fnF P f))
      (fun g => g args H) (ext f)) n
end
end
end Go.Fx

/-! The functions that are summed up: what they come to, for the kernel. -/
namespace Go.Fx
set_option linter.unusedVariables false

noncomputable def evC (c : CO) (stk : List AV) (ts : VT) : Option AV := match c with
  | .loc i => stk[i]?
  | .var p => getP p ts
  | .cst v => some v
  | .bad => none
noncomputable def xCmp (l : List AV) (H : Hp) : Option (Prod AV Hp) := match l with
  | [.str a, .str b] => some (.int .i64 (cond (bytesLess a b) (-1) (cond (bytesLess b a) 1 0)), H)
  | _ => none
noncomputable def xRepeat (l : List AV) (H : Hp) : Option (Prod AV Hp) := match l with
  | [.str s, .int .i64 (.ofNat n)] => cond (Nat.ble (Nat.mul (lenL s) n) 140737488355328 && Nat.ble n 9223372036854775807) (some (.str (List.replicate n s).flatten, H)) none
  | _ => none
/-- a row of which the place is known -/
def isZ (fz : Option Nat) : Bool := match fz with
  | some h => Nat.beq h 0
  | none => false
noncomputable def xCopyCheck (T : Nat) (l : List AV) (H : Hp) : Option (Prod AV Hp) := match l with
  | [.ptr i o] => cond (Nat.beq o 0) (match H.get i with
    | some (.cells m e fz _) => match getN m 0, getN m 1 with
      | some (.nul .ptr), some _ => cond (Nat.beq e T && isZ fz) ((Fx.storeAt H i 0 [.ptr i 0]).map fun H' => (undefA, H')) none
      | some (.ptr j p), _ => cond (Nat.beq i j && Nat.beq p 0 && isZ fz) (some (undefA, H)) none
      | _, _ => none
    | _ => none) none
  | _ => none
/-- what is known to be frozen of a row goes up -/
def freezeTo (fz : Option Nat) (h : Nat) : Option Nat := match fz with
  | some a => some (cond (Nat.ble a h) h a)
  | none => none
noncomputable def xString (T : Nat) (l : List AV) (H : Hp) : Option (Prod AV Hp) := match l with
  | [.ptr i 0] => match H.get i with
    | some (.cells m _ fz1 _) => cond (isZ fz1) (match getN m 1 with
      | some (.nul .slice) => some (.str [], H)
      | some (.slice j 0 (n + 1) _) => match H.get j with
        | some (.cells m' e fz sz) => cond (Nat.beq e T && Nat.ble n 9223372036854775806 && isZ fz) ((loadL m' (n + 1) 0).bind fun l => (ofCells l).map fun s => (.str s, H.put j (.cells m' e (freezeTo fz (n + 1)) sz))) none
        | _ => none
      | _ => none) none
    | _ => none
  | _ => none
def freshK (k : Nat) : List (AV × AV × Nat) → Bool
  | [] => true
  | (.int _ (.ofNat j), _, _) :: l => !(Nat.beq j k) && freshK k l
  | _ => false
/-- entries of numbers below n and texts, no number twice, the stamps rising -/
def okEs (n clock : Nat) : List (AV × AV × Nat) → Nat → Bool
  | [], _ => true
  | (.int .i64 (.ofNat k), .str _, b) :: l, lo => Nat.blt k n && (Nat.ble lo b && (Nat.blt b clock && (freshK k l && okEs n clock l (b + 1))))
  | _, _ => false
/-- a row behind the entries -/
noncomputable def putEs : List (AV × AV × Nat) → VT → VT
  | [], t => t
  | (.int _ (.ofNat k), v, _) :: l, t => putEs l (setN (some v) (nat_lit 24) t k)
  | _ :: l, t => putEs l t
noncomputable def xSync (l : List AV) (H : Hp) : Option (Prod AV Hp) := match l with
  | [.ptr i 0] => match H.get i with
    | some (.cells m _ (some 0) _) => match getN m 0, getN m 1, getN m 2, getN m 3, getN m 5 with
      | some (.slice j 0 (n + 1) _), some (.map r), some (.bool true), some (.int .i64 (.negSucc _)), some (.int .i64 (.ofNat a)) => (Fx.storeAt H i 5 [.int .i64 (.ofNat (a + 1))]).bind fun H1 => match H1.get r, H1.get j with
        | some (.map es clock), some (.cells mj ej (some 0) szj) => match getN mj n, (H1.put j (.cells (putEs es mj) ej (some 0) szj)).get r with
          | some _, some _ => cond (okEs (n + 1) clock es 0 && (Nat.ble a 1000000000000 && (!(Nat.beq i j) && (!(Nat.beq i r) && !(Nat.beq j r)))))
            (some (.int .i64 (.ofNat 0), (H1.put j (.cells (putEs es mj) ej (some 0) szj)).put r (.map [] clock))) none
          | _, _ => none
        | _, _ => none
      | _, _, _, _, _ => none
    | _ => none
  | _ => none
noncomputable def xSorted (gs : List Nat) (l : List AV) (H : Hp) : Option (Prod AV Hp) := match l with
  | [.func (.func g) .nil (.cons (.ptr i 0) .nil)] => cond (anyEq g gs) (match H.get i with
    | some (.cells m _ (some 0) _) => match getN m 0 with
      | some (.nul .map) => some (.nul .slice, H)
      | some (.map r) => match H.get r with
        | some (.map [] _) => some (.nul .slice, H)
        | _ => none
      | _ => none
    | _ => none) none
  | _ => none
/-- the table, one number behind the other -/
def tabBig : Nat := 12749536319551302420830055290731983042906869231766370170184255228463894984119587222357463453493748006886229547019502462691509165827871124329361635492757504
def tabN (k : Nat) : Nat := Nat.land (Nat.shiftRight tabBig (Nat.mul 32 k)) 4294967295
def rndN (x : Nat) : Nat := Nat.xor (Nat.div x 16) (tabN (Nat.land x 15))
def stepN (c b : Nat) : Nat := rndN (rndN (Nat.xor c b))
def sumL (c : Nat) : List Nat → Nat
  | [] => c
  | b :: l => sumL (stepN c b) l
noncomputable def forceN (n : Nat) (k : Nat → Nat) : Nat := Nat.rec (motive := fun _ => Nat) (k 0) (fun m _ => k (Nat.succ m)) n
/-- a sum, for the kernel -/
noncomputable def crcR (l : List Nat) : Nat → Nat := List.rec (motive := fun _ => Nat → Nat) (fun c => c) (fun b _ ih c => forceN (stepN c b) ih) l
noncomputable def xSum (l : List AV) (H : Hp) : Option (Prod AV Hp) := match l with
  | [.str s] => cond (Nat.ble (lenL s) 1000000) (some (.int .i64 (.ofNat (Nat.xor (crcR s 4294967295) 4294967295)), H)) none
  | _ => none
/-- the deferred call: a slot, an operand, a function -/
inductive Dc where
  | mk (t : Nat) (x : Operand) (g : Nat)
def defOf : List Oper → Option Dc
  | [o1, o2] => match o1.guard, o1.dst, o1.op, o2.guard, o2.dst, o2.op with
    | none, some t, .move x, none, none, .defer c => match c.callee, c.args.toList with
      | .value (.func g), [.tmp t'] => cond (Nat.beq t t') (some (.mk t x g)) none
      | _, _ => none
    | _, _, _, _, _, _ => none
  | _ => none
/-- what comes ahead of the deferring, the call, what comes behind -/
def splitD : Code → Option (Code × Dc × Code)
  | .region _ ops false => (defOf ops.toList).map fun d => (.skip, d, .skip)
  | .seq a b => match splitD a with
    | some (p, d, q) => some (p, d, .seq q b)
    | none => match splitD b with
      | some (p, d, q) => some (.seq a p, d, q)
      | none => none
  | _ => none
/-- what is left of a function's run when a call was deferred -/
noncomputable def finD {P : Program} (fn : Func) (call : CallT) (g : Nat) (v : AV) (r : XR) : Option (Prod AV Hp) := match r with
  | .norm ts H | .ret ts H => match fnF P g with
    | some gn => match finK P gn (runX (codeK P gn) call (argsK [v] 0 .E) H .norm) with
      | some (_, H') => (resultsK P fn.ntmps (maskF fn) ts H' fn.results.toList).map fun l => (oneOf l, H')
      | none => none
    | none => none
  | _ => none
/-- the run of a function that defers a call -/
noncomputable def runD (P : Program) (call : CallT) (f : Nat) (args : List AV) (H : Hp) : Option (Prod AV Hp) := match fnF P f with
  | some fn => match fn.body with
    | some c => match splitD c with
      | some (p, .mk t x g, q) => cond (Nat.ble fn.ntmps 65536 && (Nat.blt t fn.ntmps && !(Nat.testBit (maskF fn) t)))
        (match runX (compC P fn.ntmps (maskF fn) p) call (argsK args 0 .E) H .norm with
          | .ret ts H' => finK P fn (.ret ts H')
          | .norm ts H' => match evC (resO fn.ntmps (maskF fn) [] 0 x) [] ts with
            | some v => finD (P := P) fn call g v (runX (compC P fn.ntmps (maskF fn) q) call ts H' .norm)
            | none => none
          | _ => none) none
      | none => none
    | none => none
  | none => none
end Go.Fx
