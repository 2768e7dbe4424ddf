/- A checked executor: code, calls, regions. Definitions. -/
import Derived.Test.YtbjecfbfcpiilaaGreatDoorExA
namespace Go.Proofs.YtbjecfbfcpiilaaGreatDoor
open Go
noncomputable section

structure St where
  S : SW
  tr : Tr Value
  nt : Nat
  ds : List Deferred
  rd : Bool
inductive SExit where
  | normal
  | exit (id : Nat)
  | goto (l : Nat)
  | ret
  | panic (v : Value)
def evS (tr : Tr Value) (x : Operand) : Value :=
  Operand.rec (motive := fun _ => Tr Value → Value) (tmp := fun t tr => Option.rec undef (fun v => v) (tr.get t)) (const := fun v _ => v) (global := fun g _ => .pointer (some ⟨g, 0, none⟩)) (func := fun f _ => .func (.func f) #[] #[]) x tr
/-- G: so many globals there are. -/
def okX (G : Nat) : Operand → Bool
  | .const v => plainV PD v
  | .global g => Nat.blt g G
  | _ => true
def St.put (st : St) (d : Option Tmp) (v : Value) : Option St :=
  match st, d with
  | st, none => some st
  | ⟨S, tr, nt, ds, rd⟩, some d => bif Nat.blt d nt then seqV v fun v => tr.putK d (some v) fun tr => some ⟨S, tr, nt, ds, rd⟩ else none
def opL : Op → List Operand
  | .move x | .assign x | .box _ x | .load _ x | .nilCheck x | .unOp _ _ x | .convert _ _ x | .sliceToArrayPointer _ x | .makeInterface _ x
  | .makeChan _ x | .fieldAddr _ x _ | .field _ x _ | .range _ x | .next x _ | .entry x | .typeAssert x _ _ _ | .extract x _ | .panic x | .recv _ x _ => [x]
  | .store _ a v | .binOp _ _ a v _ | .makeSlice _ a v | .indexAddr _ a v | .index _ a v | .lookup _ a v _ | .mapEntry _ a v | .send a v => [a, v]
  | o => o.operands.toList
def yieldS (ops : Array Oper) (tr : Tr Value) (j : Nat) : Option Bool :=
  match ops[j]? with
  | some o => match o.dst with
    | some d => match evS tr (.tmp d) with
      | .bool b => some b
      | _ => none
    | none => none
  | none => none
def wantS (ops : Array Oper) (tr : Tr Value) (o : Oper) : Bool :=
  match o.guard with
  | none => true
  | some (j, want) => match yieldS ops tr j with
    | some true => want
    | some false => !want
    | none => false
/-- One operation that is no call. -/
def plainS (P : Program) (S : SW) (ρ : Operand → Value) (o : Oper) : Option (ONext × SW) :=
  bif allL (fun x => plainV PD (ρ x)) (opL o.op) then
    match goPlain P ρ o with
    | some x => some (x, S)
    | none => none
  else none
def stepS (P : Program) (G : Nat) (S : SW) (tr : Tr Value) (o : Oper) : Option (ONext × SW) :=
  Bool.rec none (Option.rec (plainS P S (evS tr) o) (fun r => some r) (opS P S (evS tr) o)) (allL (okX G) (opL o.op))
inductive SEnd where
  | ret (v : Value)
  | panic (v : Value)
abbrev Run := St → Code → Option (SExit × St)
def fromG (l : List Value) : Nat → Tr Value → Tr Value :=
  List.rec (fun _ t => t) (fun v _ go i t => seqV v fun v => t.putK i (some v) fun t => go (i + 1) t) l
def fromL (l : List Value) : Tr Value := fromG l 0 .leaf
def resS (P : Program) (S : SW) (tr : Tr Value) : List ResultVar → Option (List Value)
  | [] => some []
  | .tmp t :: l => match resS P S tr l with
    | some r => some (evS tr (.tmp t) :: r)
    | none => none
  | .cell a t :: l => match evS tr (.tmp a) with
    | .pointer (some a) => match S.loadVar P t a, resS P S tr l with
      | some v, some r => some (v :: r)
      | _, _ => none
    | _ => none
def resV : List Value → Value
  | [v] => v
  | l => .tuple l.toArray
def isRecover (o : Oper) : Bool :=
  match o.op with
  | .call ⟨.builtin .recover, _, _⟩ => true
  | _ => false
/-- An operation beside a recover: recover looks at what unwinds. -/
def operR (P : Program) (G : Nat) (ops : Array Oper) (st : St) (u : Option (Value × Bool)) (o : Oper) : Option (St × Option (Value × Bool)) :=
  match wantS ops st.tr o with
  | false => match st.put o.dst undef with
    | some st' => some (st', u)
    | none => none
  | true =>
    match stepS P G st.S st.tr o with
    | some (.val v, S') => match (⟨S', st.tr, st.nt, st.ds, st.rd⟩ : St).put o.dst v with
      | some st' => some (st', u)
      | none => none
    | some (.skip, S') => match (⟨S', st.tr, st.nt, st.ds, st.rd⟩ : St).put o.dst undef with
      | some st' => some (st', u)
      | none => none
    | some (.recover, S') =>
      match u with
      | some (v, false) => match (⟨S', st.tr, st.nt, st.ds, st.rd⟩ : St).put o.dst v with
        | some st' => some (st', some (v, true))
        | none => none
      | _ => match (⟨S', st.tr, st.nt, st.ds, st.rd⟩ : St).put o.dst .nilIface with
        | some st' => some (st', u)
        | none => none
    | _ => none
def opsR (P : Program) (G : Nat) (ops : Array Oper) : List Oper → St → Option (Value × Bool) → Option (St × Option (Value × Bool))
  | [], st, u => some (st, u)
  | o :: l, st, u => match operR P G ops st u o with
    | some (st', u') => opsR P G ops l st' u'
    | none => none
def codeR (P : Program) (G : Nat) (ih : Run) : Code → St → Option (Value × Bool) → Option (SExit × St × Option (Value × Bool))
  | .seq a b, st, u => match codeR P G ih a st u with
    | some (.normal, st', u') => codeR P G ih b st' u'
    | r => r
  | .region id ops d, st, u =>
    bif !d && ops.toList.any isRecover then
      match opsR P G ops ops.toList st u with
      | some (st', u') => some (.normal, st', u')
      | none => none
    else match ih st (.region id ops d) with
      | some (e, st') => some (e, st', u)
      | none => none
  | c, st, u => match ih st c with
    | some (e, st') => some (e, st', u)
    | none => none
def settleS : Option (Value × Bool) → Option (Value × Bool)
  | some (_, true) => none
  | u => u
def endR (P : Program) (fn : Func) (e : SExit) (st : St) (u : Option (Value × Bool)) : Option (SW × Option (Value × Bool)) :=
  match e with
  | .normal | .ret =>
    match st.ds, resS P st.S st.tr fn.results.toList with
    | [], some _ => some (st.S, settleS u)
    | _, _ => none
  | _ => none
def deferFn (P : Program) (G : Nat) (ih : Run) (f : FuncId) (args : List Value) (S : SW) (u : Option (Value × Bool)) : Option (SW × Option (Value × Bool)) :=
  match enterS P f args, P.funcs[f]? with
  | some _, some fn =>
    match fn.body with
    | none => none
    | some c => match codeR P G ih c ⟨S, fromL args, Nat.max fn.ntmps args.length, [], false⟩ u with
      | some (e, st, u') => endR P fn e st u'
      | none => none
  | _, _ => none
/-- The deferred calls, one behind the other. -/
def defersE (P : Program) (G : Nat) (ih : Run) : List Deferred → SW → Option (Value × Bool) → Option (SW × Option (Value × Bool))
  | [], S, u => some (S, u)
  | d :: ds, S, u =>
    match d.target with
    | .collected r =>
      match S.h.get r with
      | some .dfr => defersE P G ih ds (S.del r) u
      | _ => none
    | .fn (.func f) cap =>
      match deferFn P G ih f (d.args.toList ++ cap.toList) S u with
      | some (S', u') => defersE P G ih ds S' u'
      | none => none
    | _ => none
def outE : SExit → St → Option (St × Option (Value × Bool))
  | .normal, st => some (st, none)
  | .ret, st => some (st, none)
  | .panic v, st => some (st, some (v, false))
  | _, _ => none
def endE (P : Program) (fn : Func) (tr : Tr Value) : SW × Option (Value × Bool) → Option (SEnd × SW)
  | (S, none) => match resS P S tr fn.results.toList with
    | some l => some (.ret (resV l), S)
    | none => none
  | (S, some (v, false)) => some (.panic v, S)
  | (_, some (_, true)) => none
def callB (P : Program) (G : Nat) (ih : Run) (S : SW) (fn : Func) (c : Code) (args : List Value) : Option (SEnd × SW) :=
  match ih ⟨S, fromL args, Nat.max fn.ntmps args.length, [], false⟩ c with
  | none => none
  | some (e, st) =>
  match outE e st with
  | none => none
  | some (st, u) =>
  match defersE P G ih st.ds st.S u with
  | none => none
  | some p => endE P fn st.tr p

/-! ### Calls that are known -/
def listEq {α : Type} (p : α → α → Bool) (l : List α) : List α → Bool :=
  List.rec (fun m => List.rec true (fun _ _ _ => false) m) (fun x _ ih m => List.rec false (fun y m _ => Bool.rec false (ih m) (p x y)) m) l
def optNatEq : Option Nat → Option Nat → Bool
  | none, none => true
  | some a, some b => Nat.beq a b
  | _, _ => false
def addrEq (a b : Addr) : Bool := Nat.beq a.block b.block && Nat.beq a.off b.off && optNatEq a.spot b.spot
def optAddrEq : Option Addr → Option Addr → Bool
  | none, none => true
  | some a, some b => addrEq a b
  | _, _ => false
def byteEq (a b : UInt8) : Bool := Nat.beq a.toNat b.toNat
def fkEq : FloatKind → FloatKind → Bool
  | .f32, .f32 | .f64, .f64 => true
  | _, _ => false
def fnEq : Fn → Fn → Bool
  | .func a, .func b => Nat.beq a b
  | _, _ => false
def valEq1 (ih : Value → Value → Bool) (v w : Value) : Bool :=
  match v, w with
  | .bool a, .bool b => a == b
  | .int k a, .int j b => kindEq k j && intEq a b
  | .float k a, .float j b => fkEq k j && Nat.beq a b
  | .complex k a c, .complex j b d => fkEq k j && Nat.beq a b && Nat.beq c d
  | .string a, .string b => listEq byteEq a.data.toList b.data.toList
  | .pointer a, .pointer b => optAddrEq a b
  | .slice a l c, .slice b m d => optAddrEq a b && Nat.beq l m && Nat.beq c d
  | .map a, .map b => optNatEq a b
  | .func f a b, .func g c d => fnEq f g && listEq ih a.toList c.toList && listEq ih b.toList d.toList
  | .nilFunc, .nilFunc => true
  | .iface t a, .iface u b => Nat.beq t u && ih a b
  | .nilIface, .nilIface => true
  | .agg a, .agg b => listEq ih a.toList b.toList
  | .tuple a, .tuple b => listEq ih a.toList b.toList
  | _, _ => false
def valEq (n : Nat) : Value → Value → Bool := Nat.rec (fun _ _ => false) (fun _ ih v w => valEq1 ih v w) n
def objEq (a b : SObj) : Bool :=
  match a, b with
  | .cells cs t x, .cells ds u y => listEq (valEq PD) cs ds && Nat.beq t u && (x == y)
  | .map es c, .map fs d => listEq (fun e f => valEq PD e.key f.key && valEq PD e.val f.val && Nat.beq e.born f.born) es fs && Nat.beq c d
  | _, _ => false
structure HookE where
  f : FuncId
  args : List Value
  n : Nat
  pre : List (Nat × SObj)
  ret : Value
  m : Nat
  post : List (Nat × SObj)
def hasObj (S : SW) (p : Nat × SObj) : Bool :=
  match S.h.get p.1 with
  | some o => objEq o p.2
  | none => false
def delAll (l : List (Nat × SObj)) (t : Tr SObj) : Tr SObj := List.rec t (fun p _ ih => ih.putK p.1 none fun h => h) l
def putAll (l : List (Nat × SObj)) (t : Tr SObj) : Tr SObj := List.rec t (fun p _ ih => ih.putK p.1 (some p.2) fun h => h) l
def hookE (H : List HookE) (f : FuncId) (args : List Value) (S : SW) : Option (SEnd × SW) :=
  List.rec none (fun h _ ih => bif Nat.beq h.f f && Nat.beq h.n S.n then
    bif listEq (valEq PD) args h.args && allL (hasObj S) h.pre then some (.ret h.ret, ⟨h.m, putAll h.post (delAll h.pre S.h)⟩) else ih else ih) H

/-! ### Regions -/
abbrev NextF := List HookE → SW → Program → Nat → Run → St → Oper → Option (SExit × St)
def finE (st : St) (o : Oper) (v : Value) : Option (SExit × St) := Option.rec none (fun st' => some (.normal, st')) (st.put o.dst v)
def onVal (v : Value) : NextF := fun _ S _ _ _ st o => finE ⟨S, st.tr, st.nt, st.ds, st.rd⟩ o v
def onSkip : NextF := fun _ S _ _ _ st o => finE ⟨S, st.tr, st.nt, st.ds, st.rd⟩ o undef
def onEnd (e : SEnd) : SW → St → Oper → Option (SExit × St) :=
  match e with
  | .ret v => fun S st o => finE ⟨S, st.tr, st.nt, st.ds, st.rd⟩ o v
  | .panic v => fun S st _ => some (.panic v, ⟨S, st.tr, st.nt, st.ds, st.rd⟩)
def callF (H : List HookE) (P : Program) (G : Nat) (ih : Run) (S : SW) (f : FuncId) (args : List Value) : Option (SEnd × SW) :=
  match hookE H f args S with
  | some r => some r
  | none =>
  match P.funcs[f]? with
  | none => none
  | some fn => match fn.body with
    | none => none
    | some c => callB P G ih S fn c args
def onEnter (f : FuncId) (args : List Value) : NextF := fun H S P G ih st o => Option.rec none (fun p => onEnd p.1 p.2 st o) (callF H P G ih S f args)
def putPs (ps : List Tmp) : List Value → Nat → Tr Value → Option (Tr Value) :=
  List.rec (fun vs _ t => List.rec (some t) (fun _ _ _ => none) vs) (fun p _ go vs nt t => List.rec none (fun v vs _ => bif Nat.blt p nt then go vs nt (t.put p (some v)) else none) vs) ps
def jumpE : SExit → Option (Option Code)
  | .normal => some none
  | .ret => some (some .ret)
  | .exit i => some (some (.exit i))
  | .goto l => some (some (.goto l))
  | .panic _ => none
def isReady : LoopState → Bool
  | .ready => true
  | _ => false
def isBusy : LoopState → Bool
  | .busy => true
  | _ => false
/-- One round of a range over a function. -/
def roundE (ih : Run) (S : SW) (l : Nat) (args : List Value) : Option (Value × SW) :=
  match S.h.get l with
  | some (.loop s0 _ tr nt ps as_ body) =>
    bif isReady s0 then
      match putPs ps args nt tr with
      | none => none
      | some tr' =>
        match ih ⟨S, tr', nt, [], true⟩ as_ with
        | some (.normal, st1) =>
          match st1.S.h.get l with
          | some (.loop s1 p1 tr1 nt1 ps1 as1 body1) =>
            bif isReady s1 then
              match ih ⟨st1.S.set l (.loop .busy p1 tr1 nt1 ps1 as1 body1), st1.tr, st1.nt, st1.ds, st1.rd⟩ body with
              | some (e, st2) =>
                match jumpE e, st2.S.h.get l with
                | some j, some (.loop _ _ tr2 nt2 ps2 as2 body2) =>
                  some (.bool j.isNone, st2.S.set l (.loop (bif j.isNone then .ready else .done) j tr2 nt2 ps2 as2 body2))
                | _, _ => none
              | none => none
            else none
          | _ => none
        | _ => none
    else none
  | _ => none
def onRound (l : Nat) (args : List Value) : NextF := fun _ S _ _ ih st o => Option.rec none (fun p => finE ⟨p.2, st.tr, st.nt, st.ds, st.rd⟩ o p.1) (roundE ih S l args)
def onDefer (d : Deferred) : NextF := fun _ S _ _ _ st o => bif st.rd then none else finE ⟨S, st.tr, st.nt, d :: st.ds, st.rd⟩ o undef
def onPanic (v : Value) : NextF := fun _ S _ _ _ st _ => some (.panic v, ⟨S, st.tr, st.nt, st.ds, st.rd⟩)
def onNone : NextF := fun _ _ _ _ _ _ _ => none
def onNext (x : ONext) : NextF :=
  ONext.rec (motive := fun _ => NextF) (val := fun v => onVal v) (skip := onSkip) (enter := fun f args => onEnter f args) (round := fun l args => onRound l args) (defer := fun d => onDefer d) (recover := onNone) (panic := fun v => onPanic v) x
def isDefer : Op → Bool
  | .defer _ => true
  | _ => false
/-- One operation, calls too. -/
def operE1 (H : List HookE) (P : Program) (G : Nat) (ih : Run) (ops : Array Oper) (st : St) (o : Oper) : Option (SExit × St) :=
  Bool.rec (finE st o undef) (Option.rec none (fun p => onNext p.1 H p.2 P G ih st o) (stepS P G st.S st.tr o)) (wantS ops st.tr o)
def operE (H : List HookE) (P : Program) (G : Nat) (ih : Run) (ops : Array Oper) (st : St) (o : Oper) : Option (SExit × St) :=
  Bool.rec (operE1 H P G ih ops st o) (Bool.rec (operE1 H P G ih ops st o) none (isDefer o.op)) st.rd
def onward (go : St → Option (SExit × St)) (e : SExit) (st : St) : Option (SExit × St) :=
  SExit.rec (motive := fun _ => Option (SExit × St)) (normal := go st) (exit := fun i => some (.exit i, st)) (goto := fun l => some (.goto l, st)) (ret := some (.ret, st)) (panic := fun v => some (.panic v, st)) e
def opsE (H : List HookE) (P : Program) (G : Nat) (ih : Run) (ops : Array Oper) (l : List Oper) : St → Option (SExit × St) :=
  List.rec (fun st => some (.normal, st)) (fun o _ go st => Option.rec none (fun p => onward go p.1 p.2) (operE H P G ih ops st o)) l

/-! ### Regions whose order is drawn -/
/-- What must be done ahead of each operation: bits. -/
def bef1 (acc : List Nat) (es : List Edge) : Nat :=
  List.rec 0 (fun e _ ih => bif Region.binds .any e then Nat.lor (Nat.lor ih (2 ^ e.on)) (acc.getD e.on 0) else ih) es
def befs (l : List Oper) (acc : List Nat) : List Nat := List.rec (fun acc => acc) (fun o _ go acc => go (acc ++ [bef1 acc o.after.toList])) l acc
def edgeOk (i : Nat) (e : Edge) : Bool := !(Region.binds .any e) || Nat.blt e.on i
def edgesOk (l : List Oper) : Bool := l.zipIdx.all fun p => p.1.after.toList.all (edgeOk p.2)
def tmpsOf (o : Op) : List Tmp := (opL o).filterMap fun | .tmp t => some t | _ => none
def looksT (ops : Array Oper) (o : Oper) : List Tmp :=
  tmpsOf o.op ++ (match o.guard with
    | some (g, _) => match ops[g]? with
      | some x => x.dst.toList
      | none => []
    | none => [])
def memN (d : Option Tmp) (l : List Tmp) : Bool :=
  match d with
  | none => false
  | some d => l.any fun t => Nat.beq t d
def sameD : Option Tmp → Option Tmp → Bool
  | some a, some b => Nat.beq a b
  | _, _ => false
structure Pl where
  i : Nat
  o : Oper
  B : Nat
  L : List Tmp
def plan (ops : Array Oper) : List Pl := (ops.toList.zip (befs ops.toList [])).zipIdx.map fun p => ⟨p.2, p.1.1, p.1.2, looksT ops p.1.1⟩
def apartP (a b : Pl) : Bool := !(memN a.o.dst b.L) && !(memN b.o.dst a.L) && !(sameD a.o.dst b.o.dst)
def pairsOk : List Pl → Bool
  | [] => true
  | a :: l => (l.all fun b => Nat.testBit b.B a.i || apartP a b) && pairsOk l
inductive RK where
  | free
  | look
  | lay
  | loud
def kindC (c : Call) : RK :=
  match c.callee with
  | .builtin .len => .look
  | .builtin .cap => .free
  | .builtin .max => .free
  | .builtin .min => .free
  | _ => .loud
def kindB : BinOp → RK
  | .eql => .look
  | .neq => .look
  | _ => .free
def kindO : Op → RK
  | .move _ => .free
  | .assign _ => .free
  | .pick .. => .free
  | .nilCheck _ => .free
  | .unOp .. => .free
  | .makeInterface .. => .free
  | .makeFunc .. => .free
  | .slice .. => .free
  | .fieldAddr .. => .free
  | .field .. => .free
  | .indexAddr .. => .free
  | .index .. => .free
  | .extract .. => .free
  | .typeAssert .. => .free
  | .build .. => .free
  | .binOp op .. => kindB op
  | .load .. => .look
  | .lookup .. => .look
  | .alloc _ => .lay
  | .box .. => .lay
  | .buildSlice .. => .lay
  | .makeMap .. => .lay
  | .makeSlice .. => .lay
  | .call c => kindC c
  | _ => .loud
def isLay (o : Oper) : Bool :=
  match kindO o.op with
  | .lay => true
  | _ => false
structure Lay where
  j : Nat
  id : Nat
  obj : SObj
structure Look where
  p : Pl
  tr : Tr Value
  v : Value
structure Stage where
  S : SW
  inc : Nat
structure DS where
  st : St
  inc : Nat
  hist : List (Nat × Stage)
  lays : List Lay
  looks : List Look
  nx : Nat
  lim : Nat
def layNow (B inc : Nat) (l : Lay) : Bool := Nat.testBit B l.j && !(Nat.testBit inc l.j)
def addLays (lays : List Lay) (B inc : Nat) (S : SW) : SW :=
  List.rec S (fun l _ ih => bif layNow B inc l then ih.set l.id l.obj else ih) lays
def layBits (lays : List Lay) (B inc : Nat) : Nat := List.rec inc (fun l _ ih => bif Nat.testBit B l.j then Nat.lor ih (2 ^ l.j) else ih) lays
/-- Is this what is seen at a stage? -/
def lookAt (P : Program) (G : Nat) (lays : List Lay) (p : Pl) (tr : Tr Value) (g : Stage) : Option Value :=
  match stepS P G (addLays lays p.B g.inc g.S) tr p.o with
  | some (.val v, _) => some v
  | _ => none
def sees (P : Program) (G : Nat) (lays : List Lay) (x : Look) (g : Stage) : Bool :=
  match lookAt P G lays x.p x.tr g with
  | some v => valEq PD v x.v
  | none => false
def DS.now (d : DS) : Stage := ⟨d.st.S, d.inc⟩
/-- What is seen at the stages before, so far as they may be on. -/
def backOk (P : Program) (G : Nat) (lays : List Lay) (x : Look) (hist : List (Nat × Stage)) : Bool :=
  List.rec true (fun h _ ih => Bool.rec (bif sees P G lays x h.2 then ih else false) true (Nat.testBit x.p.B h.1)) hist
def dFree (P : Program) (G : Nat) (p : Pl) (d : DS) : Option DS :=
  match stepS P G d.st.S d.st.tr p.o with
  | some (.val v, _) => match d.st.put p.o.dst v with
    | some st' => some { d with st := st' }
    | none => none
  | _ => none
def dLook (P : Program) (G : Nat) (p : Pl) (d : DS) : Option DS :=
  match lookAt P G d.lays p d.st.tr d.now with
  | none => none
  | some v =>
    bif backOk P G d.lays ⟨p, d.st.tr, v⟩ d.hist then
      match d.st.put p.o.dst v with
      | some st' => some { d with st := st', looks := ⟨p, d.st.tr, v⟩ :: d.looks }
      | none => none
    else none
def dLay (P : Program) (G : Nat) (p : Pl) (d : DS) : Option DS :=
  bif allL (okX G) (opL p.o.op) && Nat.blt d.nx d.lim then
    match allocS P d.nx (evS d.st.tr) p.o with
    | some (v, obj) => match d.st.put p.o.dst v with
      | some st' => some { d with st := st', lays := ⟨p.i, d.nx, obj⟩ :: d.lays, nx := d.nx + 1 }
      | none => none
    | none => none
  else none
def DS.with (d : DS) (B : Nat) : St := ⟨addLays d.lays B d.inc d.st.S, d.st.tr, d.st.nt, d.st.ds, d.st.rd⟩
def dLoud (H : List HookE) (P : Program) (G : Nat) (ih : Run) (ops : Array Oper) (p : Pl) (d : DS) : Option DS :=
  bif allL (fun x => Nat.testBit p.B x.1) d.hist then
    match operE H P G ih ops (d.with p.B) p.o with
    | some (.normal, st') =>
      bif allL (fun x => Nat.testBit p.B x.p.i || sees P G d.lays x ⟨st'.S, layBits d.lays p.B d.inc⟩) d.looks then
        some { d with st := st', inc := layBits d.lays p.B d.inc, hist := (p.i, d.now) :: d.hist }
      else none
    | _ => none
  else none
def dSkip (p : Pl) (d : DS) : Option DS :=
  match d.st.put p.o.dst undef with
  | some st' => some { d with st := st' }
  | none => none
def dOne (H : List HookE) (P : Program) (G : Nat) (ih : Run) (ops : Array Oper) (p : Pl) (d : DS) : Option DS :=
  match wantS ops d.st.tr p.o with
  | false => dSkip p d
  | true => match kindO p.o.op with
    | .free => dFree P G p d
    | .look => dLook P G p d
    | .lay => dLay P G p d
    | .loud => dLoud H P G ih ops p d
def dAll (H : List HookE) (P : Program) (G : Nat) (ih : Run) (ops : Array Oper) (l : List Pl) : DS → Option DS :=
  List.rec (fun d => some d) (fun p _ go d => Option.rec none (fun d => go d) (dOne H P G ih ops p d)) l
def regionOk (ops : Array Oper) : Bool := edgesOk ops.toList && pairsOk (plan ops)
def drawE (H : List HookE) (P : Program) (G : Nat) (ih : Run) (ops : Array Oper) (st : St) : Option (SExit × St) :=
  bif regionOk ops then
    seqN (st.S.n + (ops.toList.filter isLay).length) fun n =>
    match dAll H P G ih ops (plan ops) ⟨⟨⟨n, st.S.h⟩, st.tr, st.nt, st.ds, st.rd⟩, 0, [], [], [], st.S.n, n⟩ with
    | some d => some (.normal, d.with (2 ^ ops.toList.length - 1))
    | none => none
  else none

/-! ### Code -/
def scopeE (ih : Run) (c : Code) (n : Nat) : Run := Nat.rec (fun _ _ => none) (fun _ go st x =>
  match ih st x with
  | some (.goto l, st') => match findLabel c l with
    | some rest => go st' rest
    | none => some (.goto l, st')
  | r => r) n
abbrev CodeF := List HookE → Program → Nat → Run → St → Option (SExit × St)
def cNormal : CodeF := fun _ _ _ _ st => some (.normal, st)
def cExit (e : SExit) : CodeF := fun _ _ _ _ st => some (e, st)
def cRegion (ops : Array Oper) (d : Bool) : CodeF := fun H P G ih st => Bool.rec (opsE H P G ih ops ops.toList st) (drawE H P G ih ops st) d
def cSeq (a b : Code) : CodeF := fun _ _ _ ih st => Option.rec none (fun p => onward (fun st => ih st b) p.1 p.2) (ih st a)
def cCond (c : Operand) (a b : Code) : CodeF := fun _ _ _ ih st =>
  match c, evS st.tr c with
  | .tmp _, .bool t => ih st (Bool.rec b a t)
  | .const _, .bool t => ih st (Bool.rec b a t)
  | _, _ => none
def inB (id : Nat) : SExit → SExit
  | .exit j => bif Nat.beq j id then .normal else .exit j
  | e => e
def cBlock (id : Nat) (c : Code) : CodeF := fun _ _ _ ih st => Option.rec none (fun p => some (inB id p.1, p.2)) (ih st c)
def cLoop (c : Code) : CodeF := fun _ _ _ ih st => Option.rec none (fun p => onward (fun st => ih st (.loop c)) p.1 p.2) (ih st c)
def cScope (c : Code) : CodeF := fun _ _ _ ih st => scopeE ih c 100000 st c
def codeJ : Code → Option SExit
  | .ret => some .ret
  | .exit i => some (.exit i)
  | .goto l => some (.goto l)
  | _ => none
/-- A range over a function, behind its call. -/
def rangeEnd (st : St) (l : Nat) : SEnd × SW → Option (SExit × St)
  | (.ret _, S) => match S.h.get l with
    | some (.loop s p tr nt ps as_ body) => bif isBusy s then none else
      match p with
      | none => some (.normal, ⟨S.set l (.loop .exhausted p tr nt ps as_ body), st.tr, st.nt, st.ds, st.rd⟩)
      | some c => match codeJ c with
        | some e => some (e, ⟨S.set l (.loop .exhausted p tr nt ps as_ body), st.tr, st.nt, st.ds, st.rd⟩)
        | none => none
    | _ => none
  | _ => none
def cRange (f : Operand) (ps : Array Tmp) (as_ body : Code) : CodeF := fun H P G ih st =>
  bif st.rd then none else
  match f, evS st.tr f with
  | .tmp _, .func (.func g) first cap =>
    seqN st.S.n fun n =>
    match enterS P g (first.toList ++ [.func (.yield (n + 1)) #[] #[]] ++ cap.toList) with
    | some (.enter g args) =>
      match callF H P G ih ((st.S.new .dfr).new (.loop .ready none st.tr st.nt ps.toList as_ body)) g args with
      | some p => rangeEnd ⟨st.S, st.tr, st.nt, ⟨.collected n, #[]⟩ :: st.ds, st.rd⟩ (n + 1) p
      | none => none
    | _ => none
  | _, _ => none
def cNone : CodeF := fun _ _ _ _ _ => none
def codeT (c : Code) : CodeF :=
  Code.rec (motive := fun _ => CodeF) (skip := cNormal) (region := fun _ ops d => cRegion ops d) (seq := fun a b _ _ => cSeq a b) (cond := fun c a b _ _ => cCond c a b) (block := fun i c _ => cBlock i c)
    (loop := fun c _ => cLoop c) (rangeFunc := fun f ps a b _ _ => cRange f ps a b) (exit := fun i => cExit (.exit i)) (scope := fun c _ => cScope c) (label := fun _ => cNormal) (goto := fun l => cExit (.goto l)) (ret := cExit .ret) (refuse := fun _ => cNone) c
def codeE (H : List HookE) (P : Program) (G : Nat) (ih : Run) (st : St) (c : Code) : Option (SExit × St) := codeT c H P G ih st
def exec (H : List HookE) (P : Program) (G : Nat) (n : Nat) : Run := Nat.rec (fun _ _ => none) (fun _ ih st c => codeE H P G ih st c) n
def callE (H : List HookE) (P : Program) (G : Nat) (n : Nat) (S : SW) (f : FuncId) (args : List Value) : Option (SEnd × SW) :=
  match P.funcs[f]? with
  | none => none
  | some fn => match fn.body with
    | none => none
    | some c => callB P G (exec H P G n) S fn c args
end
end Go.Proofs.YtbjecfbfcpiilaaGreatDoor
