/- A checked executor: symbolic worlds, whose block numbers are names. Definitions. A checked executor: code, calls, regions. Definitions. -/
import Derived.Calls
import Derived.Orders
import Derived.Tactics
import Derived.RowKit
namespace Go.Proofs.YtaeophaecclnbaaGreatDoor
open Go
noncomputable section

/-- A tree of things by number. -/
inductive Tr (α : Type) where
  | leaf
  | node (v : Option α) (l r : Tr α)
def Tr.get {α : Type} (t : Tr α) : Nat → Option α :=
  Tr.rec (fun _ => none) (fun v _ _ gl gr i => Nat.rec v (fun _ _ => Bool.rec (gr (i / 2 - 1)) (gl (i / 2)) (Nat.beq (i % 2) 1)) i) t
def Tr.setF {α β : Type} (f : Nat) : Tr α → Nat → Option α → (Tr α → β) → β :=
  Nat.rec (fun t _ _ k => k t) (fun _ ih t i v k =>
    Tr.rec (Nat.rec (k (.node v .leaf .leaf)) (fun _ _ => Bool.rec (ih .leaf (i / 2 - 1) v fun r => k (.node none .leaf r)) (ih .leaf (i / 2) v fun l => k (.node none l .leaf)) (Nat.beq (i % 2) 1)) i)
      (fun u l r _ _ => Nat.rec (k (.node v l r)) (fun _ _ => Bool.rec (ih r (i / 2 - 1) v fun r => k (.node u l r)) (ih l (i / 2) v fun l => k (.node u l r)) (Nat.beq (i % 2) 1)) i) t) f
/-- Put, and go on with the tree written out. -/
def Tr.putK {α β : Type} (t : Tr α) (i : Nat) (v : Option α) (k : Tr α → β) : β := t.setF (i + 1) i v k
def Tr.put {α : Type} (t : Tr α) (i : Nat) (v : Option α) : Tr α := t.putK i v id
def allL {α : Type} (p : α → Bool) (l : List α) : Bool := List.rec true (fun a _ ih => Bool.rec false ih (p a)) l
/-- The first n of a list, if there are so many; what stands behind n; other ones put in at n. -/
def takeR {α : Type} (n : Nat) : List α → Option (List α) :=
  Nat.rec (fun _ => some []) (fun _ ih l => List.rec none (fun x l _ => Option.rec none (fun r => some (x :: r)) (ih l)) l) n
def dropR {α : Type} (n : Nat) : List α → Option (List α) := Nat.rec (fun l => some l) (fun _ ih l => List.rec none (fun _ l _ => ih l) l) n
def overR {α : Type} (vs : List α) : List α → Option (List α) :=
  List.rec (fun l => some l) (fun v _ ih l => List.rec none (fun _ l _ => Option.rec none (fun r => some (v :: r)) (ih l)) l) vs
def snocR {α : Type} (x : α) (l : List α) : Option (List α) := List.rec (some [x]) (fun e _ ih => Option.rec none (fun r => some (e :: r)) ih) l
def modR {α : Type} (f : α → α) (n : Nat) : List α → Option (List α) :=
  Nat.rec (fun l => List.rec none (fun x l _ => some (f x :: l)) l) (fun _ ih l => List.rec none (fun x l _ => Option.rec none (fun r => some (x :: r)) (ih l)) l) n
def delR {α : Type} (n : Nat) : List α → Option (List α) :=
  Nat.rec (fun l => List.rec none (fun _ l _ => some l) l) (fun _ ih l => List.rec none (fun x l _ => Option.rec none (fun r => some (x :: r)) (ih l)) l) n
def setR {α : Type} (n : Nat) (vs : List α) : List α → Option (List α) :=
  Nat.rec (fun l => overR vs l) (fun _ ih l => List.rec none (fun x l _ => Option.rec none (fun r => some (x :: r)) (ih l)) l) n

/-- A number written out ahead of going on. -/
def seqN {β : Sort _} (n : Nat) (k : Nat → β) : β :=
  match n with
  | 0 => k 0
  | m + 1 => k (m + 1)
def seqI {β : Sort _} (n : Int) (k : Int → β) : β :=
  match n with
  | .ofNat m => seqN m fun m => k (.ofNat m)
  | .negSucc m => seqN m fun m => k (.negSucc m)
def seqA {β : Sort _} (a : Addr) (k : Addr → β) : β :=
  match a with
  | ⟨b, o, s⟩ => seqN b fun b => seqN o fun o => k ⟨b, o, s⟩
def seqV {β : Sort _} (v : Value) (k : Value → β) : β :=
  match v with
  | .bool true => k (.bool true)
  | .bool false => k (.bool false)
  | .int i n => seqI n fun n => k (.int i n)
  | .pointer (some a) => seqA a fun a => k (.pointer (some a))
  | .slice (some a) l c => seqA a fun a => seqN l fun l => seqN c fun c => k (.slice (some a) l c)
  | v => k v

/-- A value without addresses. -/
def plain1 (ih : Value → Bool) (v : Value) : Bool :=
  match v with
  | .bool _ => true
  | .int _ _ => true
  | .float _ _ => true
  | .complex _ _ _ => true
  | .string _ => true
  | .pointer a => a.isNone
  | .slice a _ _ => a.isNone
  | .map r => r.isNone
  | .chan r => r.isNone
  | .nilFunc => true
  | .nilIface => true
  | .iface _ v => ih v
  | .func fn a b => (match fn with | .yield _ => false | _ => true) && (allL ih a.toList && allL ih b.toList)
  | .agg cs => allL ih cs.toList
  | .tuple cs => allL ih cs.toList
def plainV (n : Nat) : Value → Bool := Nat.rec (fun _ => false) (fun _ ih v => plain1 ih v) n
abbrev PD : Nat := 60
/-- CAPX + z: a capacity that is not known, of a row whose elements have z cells: up to the row's end. -/
abbrev CAPX : Nat := 4611686018427387904

inductive SObj where
  | cells (cs : List Value) (t : TypeId) (x : Bool)
  | map (es : List MapEntry) (clock : Nat)
  | strIter (s : ByteArray) (pos : Nat)
  | mapIter (m : Option Nat) (since : Nat) (seen : List Nat) (stepped : Nat)
  | dfr
  | loop (state : LoopState) (pend : Option Code) (tr : Tr Value) (nt : Nat) (ps : List Tmp) (assign body : Code)
structure SW where
  n : Nat
  h : Tr SObj
def SW.new (S : SW) (o : SObj) : SW := S.h.putK S.n (some o) fun h => ⟨S.n + 1, h⟩
def SW.set (S : SW) (i : Nat) (o : SObj) : SW := S.h.putK i (some o) fun h => ⟨S.n, h⟩
def SW.del (S : SW) (i : Nat) : SW := S.h.putK i none fun h => ⟨S.n, h⟩

/-- What can be done without looking at the world. -/
def prun {α : Type} (P : Program) : Sem α → Option (Except Value α)
  | .pure a => some (.ok a)
  | .program k => prun P (k P)
  | .mark _ k => prun P k
  | .halt (.panic v) => some (.error v)
  | _ => none

inductive ONext where
  | val (v : Value)
  | skip
  | enter (f : FuncId) (args : List Value)
  | round (l : Nat) (args : List Value)
  | defer (d : Deferred)
  | recover
  | panic (v : Value)
def allPlain (l : List Value) : Bool := allL (plainV PD) l
def plainNext : Next → Option ONext
  | .value v => bif plainV PD v then some (.val v) else none
  | .skip => some .skip
  | .enter f args => bif allPlain args.toList then some (.enter f args.toList) else none
  | .defer ⟨.fn (.func f) cap, args⟩ => bif allPlain cap.toList && allPlain args.toList then some (.defer ⟨.fn (.func f) cap, args⟩) else none
  | .recover => some .recover
  | _ => none
def isSelect : Op → Bool
  | .select .. => true
  | _ => false
def goPlain (P : Program) (ρ : Operand → Value) (o : Oper) : Option ONext :=
  bif isSelect o.op then none else
  match prun P (execOp ρ o) with
  | some (.ok x) => plainNext x
  | some (.error v) => bif plainV PD v then some (.panic v) else none
  | none => none

/-- Cells of a row. -/
def SW.cells (S : SW) (a : Addr) (n : Nat) : Option (List Value) :=
  match a.spot, S.h.get a.block with
  | none, some (.cells cs _ _) => match dropR a.off cs with
    | some l => takeR n l
    | none => none
  | _, _ => none
def oneC : Value → Bool
  | .agg _ => false
  | .tuple _ => false
  | _ => true
def SW.store (S : SW) (a : Addr) (vs : List Value) : Option SW :=
  match vs with
  | [] => some S
  | _ => match a.spot, S.h.get a.block with
    | none, some (.cells cs t x) => bif allL oneC vs then (match setR a.off vs cs with
      | some cs' => some (S.set a.block (.cells cs' t x))
      | none => none) else none
    | _, _ => none
def isAggD : TypeDesc → Bool
  | .struct _ | .array _ _ => true
  | _ => false
def SW.loadVar (P : Program) (S : SW) (t : TypeId) (a : Addr) : Option Value :=
  match P.underlying t, P.info? t with
  | some d, some i =>
    match isAggD d with
    | true => match S.cells a i.size with
      | some l => some (.agg l.toArray)
      | none => none
    | false => match S.cells a 1 with
      | some [v] => some v
      | _ => none
  | _, _ => none
def SW.storeVar (P : Program) (S : SW) (t : TypeId) (a : Addr) (v : Value) : Option SW :=
  match P.info? t with
  | some i => bif Nat.beq v.cells.toList.length i.size then S.store a v.cells.toList else none
  | none => none
def SW.newRow (S : SW) (t : TypeId) (cs : List Value) : Value × SW := (.pointer (some ⟨S.n, 0, none⟩), S.new (.cells cs t true))
def zeroOf (P : Program) (t : TypeId) : Option (List Value) :=
  match P.info? t with
  | some i => match i.zero with
    | some v => bif allPlain v.cells.toList then some v.cells.toList else none
    | none => none
  | none => none
def sizeT (P : Program) (t : TypeId) : Option Nat := match P.info? t with | some i => some i.size | none => none
def repL (n : Nat) (l : List Value) : List Value := Nat.rec [] (fun _ ih => l ++ ih) n
/-- The part of an aggregate. -/
def partS (P : Program) (t : TypeId) (cs : List Value) (off : Nat) : Option Value :=
  match P.underlying t, P.info? t with
  | some d, some i =>
    match isAggD d with
    | true => match dropR off cs with
      | some l => match takeR i.size l with
        | some r => some (.agg r.toArray)
        | none => none
      | none => none
    | false => match dropR off cs with
      | some (v :: _) => some v
      | _ => none
  | _, _ => none

def sameP (S : SW) (z : Nat) (a b : Addr) : Option Bool :=
  match S.h.get a.block with
  | some (.cells _ _ true) => match S.h.get b.block with
    | some (.cells _ _ true) => bif Nat.beq z 0 then none else some (Nat.beq a.block b.block && Nat.beq a.off b.off)
    | _ => none
  | _ => none
/-- Are two values the same, where one of them has an address? -/
def eqS (P : Program) (S : SW) (t : TypeId) (x y : Value) : Option Bool :=
  match P.underlying t, x, y with
  | some (.pointer _), .pointer none, .pointer (some _) => some false
  | some (.pointer _), .pointer (some _), .pointer none => some false
  | some (.pointer e), .pointer (some a), .pointer (some b) =>
    match sizeT P e with
    | some z => sameP S z a b
    | none => none
  | some (.slice _), .slice none _ _, .slice (some _) _ _ => some false
  | some (.slice _), .slice (some _) _ _, .slice none _ _ => some false
  | some (.map _ _), .map none, .map (some _) => some false
  | some (.map _ _), .map (some _), .map none => some false
  | some (.func _ _ _), .nilFunc, .func _ _ _ => some false
  | some (.func _ _ _), .func _ _ _, .nilFunc => some false
  | some (.interface _), .nilIface, .iface _ _ => some false
  | some (.interface _), .iface _ _, .nilIface => some false
  | some (.interface _), .iface t _, .iface u _ => bif Nat.beq t u then none else some false
  | _, _, _ => none

def intOf : Value → Option Int
  | .int _ n => some n
  | _ => none
/-- A bound of a slice. -/
def bndS (d : Nat) (y : Nat) : Option Value → Option Nat
  | none => some d
  | some (.int _ (.ofNat n)) => bif Nat.ble n y then some n else none
  | _ => none
def sl3 (z : Nat) (a : Addr) (len cap m : Nat) (lo hi : Option Value) : Option Value :=
  bif Nat.ble m (bif Nat.ble CAPX cap then len else cap) && Nat.blt m CAPX then
    match hi with
    | none => none
    | some hi => match bndS 0 m (some hi) with
      | none => none
      | some h => match bndS 0 h lo with
        | none => none
        | some l => some (.slice (some (bif Nat.beq m l then a else a.add (l * z))) (h - l) (m - l))
  else none
def slX (z : Nat) (a : Addr) (len cap : Nat) (lo hi : Option Value) : Option Value :=
  bif Nat.beq cap (CAPX + z) then
    match bndS len len hi with
    | none => none
    | some h => match bndS 0 h lo with
      | none => none
      | some l => some (.slice (some (a.add (l * z))) (h - l) (CAPX + z))
  else none
def slE (z : Nat) (a : Addr) (len cap : Nat) (lo hi : Option Value) : Option Value :=
  match bndS len cap hi with
  | none => none
  | some h => match bndS 0 h lo with
    | none => none
    | some l => some (.slice (some (bif Nat.beq cap l then a else a.add (l * z))) (h - l) (cap - l))
def sliceS (P : Program) (t : TypeId) (x : Value) (lo hi mx : Option Value) : Option Value :=
  match P.underlying t, x with
  | some (.slice e), .slice (some a) len cap =>
    match sizeT P e with
    | none => none
    | some z =>
    match mx with
    | some (.int _ (.ofNat m)) => sl3 z a len cap m lo hi
    | some _ => none
    | none => bif Nat.ble CAPX cap then slX z a len cap lo hi else slE z a len cap lo hi
  | some (.array n e), .pointer (some a) =>
    match sizeT P e with
    | none => none
    | some z =>
    match mx with
    | some _ => none
    | none => bif Nat.ble CAPX n then none else slE z a n n lo hi
  | _, _ => none
def indexAtS (P : Program) (t : TypeId) (x i : Value) : Option Value :=
  match P.underlying t, x, i with
  | some (.slice e), .slice (some a) len _, .int _ (.ofNat n) =>
    match sizeT P e with
    | some z => bif Nat.blt n len then some (.pointer (some (a.add (n * z)))) else none
    | none => none
  | some (.array len e), .pointer (some a), .int _ (.ofNat n) =>
    match sizeT P e with
    | some z => bif Nat.blt n len then some (.pointer (some (a.add (n * z)))) else none
    | none => none
  | _, _, _ => none
def fieldAtS (P : Program) (t : TypeId) (x : Value) (f : Nat) : Option Value :=
  match P.underlying t, x with
  | some (.struct fs), .pointer (some a) =>
    match fs.toList[f]? with
    | some fd => match sizeT P fd.type with
      | some z => bif Nat.beq z 0 then none else some (.pointer (some (a.add fd.offset)))
      | none => none
    | none => none
  | _, _ => none
def fieldS (P : Program) (t : TypeId) (x : Value) (f : Nat) : Option Value :=
  match P.underlying t, x with
  | some (.struct fs), .agg cs =>
    match fs.toList[f]? with
    | some fd => partS P fd.type cs.toList fd.offset
    | none => none
  | _, _ => none
def indexS (P : Program) (t : TypeId) (x i : Value) : Option Value :=
  match P.underlying t, x, i with
  | some (.array len e), .agg cs, .int _ (.ofNat n) =>
    match sizeT P e with
    | some z => bif Nat.blt n len then partS P e cs.toList (n * z) else none
    | none => none
  | _, _, _ => none

/-- Where a key stands. -/
def keysOnly (es : List MapEntry) : List MapEntry := es.map fun e => { e with val := .nilIface }
def intEq (a b : Int) : Bool :=
  match a, b with
  | .ofNat a, .ofNat b => Nat.beq a b
  | .negSucc a, .negSucc b => Nat.beq a b
  | _, _ => false
def kindEq (a b : IntKind) : Bool :=
  match a, b with
  | .i8, .i8 | .i16, .i16 | .i32, .i32 | .i64, .i64 | .u8, .u8 | .u16, .u16 | .u32, .u32 | .u64, .u64 => true
  | _, _ => false
def isInt (k : IntKind) (n : Int) (v : Value) : Option Bool :=
  match v with
  | .int j m => bif kindEq k j then some (intEq n m) else none
  | _ => none
/-- Where a whole number stands among the keys. -/
def findI (k : IntKind) (n : Int) (es : List MapEntry) : Nat → Option (Option Nat) :=
  List.rec (fun _ => some none) (fun e _ go i => Option.rec none (fun b => Bool.rec (go (i + 1)) (some (some i)) b) (isInt k n e.key)) es
def isIntD : TypeDesc → Bool
  | .int _ => true
  | _ => false
def findG (P : Program) (kt : TypeId) (k : Value) (es : List MapEntry) : Option (Option Nat) :=
  bif plainV PD k && allL (fun e => plainV PD e.key) es then
    match prun P (Instr.checkKey es.isEmpty 10000 kt k), prun P (Instr.checkKey false 10000 kt k) with
    | some (.ok _), some (.ok _) =>
      match prun P (Instr.findKey kt k (keysOnly es)) with
      | some (.ok (some (i, _))) => some (some i)
      | some (.ok none) => some none
      | _ => none
    | _, _ => none
  else none
def findS (P : Program) (kt : TypeId) (k : Value) (es : List MapEntry) : Option (Option Nat) :=
  match P.underlying kt, k with
  | some (.int _), .int i n => findI i n es 0
  | _, _ => findG P kt k es
def entriesS (S : SW) : Value → Option (List MapEntry)
  | .map none => some []
  | .map (some r) => match S.h.get r with
    | some (.map es _) => some es
    | _ => none
  | _ => none
def okV (ok : Bool) (v : Value) (b : Bool) : Value := bif ok then .tuple #[v, .bool b] else v
def zeroP (P : Program) (t : TypeId) : Option Value :=
  match P.info? t with
  | some ti => match ti.zero with
    | some z => bif plainV PD z then some z else none
    | none => none
  | none => none
def lookupS (P : Program) (S : SW) (t : TypeId) (x k : Value) (ok : Bool) : Option Value :=
  match P.underlying t with
  | some (.map kt et) =>
    match entriesS S x with
    | none => none
    | some es =>
    match findS P kt k es with
    | some (some i) => match es[i]? with
      | some e => some (okV ok e.val true)
      | none => none
    | some none => match zeroP P et with
      | some z => some (okV ok z false)
      | none => none
    | none => none
  | _ => none
def setMap (S : SW) (r clock : Nat) (es : Option (List MapEntry)) : Option SW :=
  match es with
  | some es => some (S.set r (.map es clock))
  | none => none
def mapPutS (P : Program) (S : SW) (t : TypeId) (x k v : Value) : Option SW :=
  match P.underlying t, x with
  | some (.map kt _), .map (some r) =>
    match S.h.get r with
    | some (.map es clock) =>
      match findS P kt k es with
      | some (some i) => match es[i]? with
        | some e => bif plainV PD e.key && Instr.sameBits 10000 e.key k then setMap S r clock (modR (fun e => ⟨k, v, e.born⟩) i es) else none
        | none => none
      | some none => setMap S r (clock + 1) (snocR { key := k, val := v, born := clock } es)
      | none => none
    | _ => none
  | _, _ => none
def tupS (x : Value) (st : Nat) : Option SW → Option (Value × SW)
  | some S => some (.tuple #[x, .int .i64 st], S)
  | none => none
def mapEntryS (P : Program) (S : SW) (t : TypeId) (x k : Value) : Option (Value × SW) :=
  match P.underlying t, x with
  | some (.map kt et), .map (some r) =>
    match S.h.get r with
    | some (.map es clock) =>
      match findS P kt k es with
      | some (some i) => match es[i]? with
        | some e => bif plainV PD e.key && Instr.sameBits 10000 e.key k then tupS e.val e.born (setMap S r clock (modR (fun e => ⟨k, e.val, e.born⟩) i es)) else none
        | none => none
      | some none => match zeroP P et with
        | some z => tupS z clock (setMap S r (clock + 1) (snocR { key := k, val := z, born := clock } es))
        | none => none
      | none => none
    | _ => none
  | _, _ => none
def entryPutS (S : SW) (x st v : Value) : Option SW :=
  match x, st with
  | .map (some r), .int _ n =>
    match S.h.get r with
    | some (.map es clock) =>
      match es.findIdx? (fun e => (e.born : Int) == n) with
      | some i => setMap S r clock (modR (fun e => ⟨e.key, v, e.born⟩) i es)
      | none => none
    | _ => none
  | _, _ => none
def delS (P : Program) (S : SW) (t : TypeId) (x k : Value) : Option SW :=
  match P.underlying t, x with
  | some (.map kt _), .map (some r) =>
    match S.h.get r with
    | some (.map es clock) =>
      match findS P kt k es with
      | some (some i) => setMap S r clock (delR i es)
      | some none => some S
      | none => none
    | _ => none
  | _, _ => none

/-- The cells of what is appended or copied. -/
def srcS (S : SW) (z : Nat) (n : Nat) : Value → Option (List Value)
  | .slice none _ _ => bif Nat.beq n 0 then some [] else none
  | .slice (some a) _ _ => bif Nat.beq (n * z) 0 then some [] else S.cells a (n * z)
  | .string s => bif Nat.beq z 1 && Nat.beq n s.size then some ((s.data.toList).map fun b => .int .u8 b.toNat) else none
  | _ => none
def lenS : Value → Option Nat
  | .slice _ n _ => some n
  | .string s => some s.size
  | _ => none
def srcOk (P : Program) (u : TypeId) : Bool :=
  match P.underlying u with
  | some (.slice _) => true
  | some .string => true
  | _ => false
/-- Of the first cells of a row. -/
def headS (S : SW) (a : Addr) (n : Nat) : Option (List Value) := bif Nat.beq n 0 then some [] else S.cells a n
/-- More cells: behind what is known of a row of unknown room. -/
def appX (S : SW) (e : TypeId) (z n : Nat) (a : Addr) (len cap : Nat) (news : List Value) : Option (Value × SW) :=
  bif Nat.beq cap (CAPX + z) then
    match S.h.get a.block with
    | some (.cells cs t _) =>
      bif Nat.ble (a.off + (len + n) * z) cs.length then
        match S.store (a.add (len * z)) news with
        | some S' => some (.slice (some a) (len + n) cap, S')
        | none => none
      else bif Nat.beq t e then
        match headS S a (len * z) with
        | some old => some (.slice (some ⟨S.n, 0, none⟩) (len + n) cap, (S.del a.block).new (.cells (old ++ news) e false))
        | none => none
      else none
    | _ => none
  else none
def appE (S : SW) (e : TypeId) (z n : Nat) (a : Addr) (len cap : Nat) (news : List Value) : Option (Value × SW) :=
  bif Nat.ble (len + n) cap then
    match S.store (a.add (len * z)) news with
    | some S' => some (.slice (some a) (len + n) cap, S')
    | none => none
  else
    match headS S a (len * z) with
    | some old => some (.slice (some ⟨S.n, 0, none⟩) (len + n) (CAPX + z), S.new (.cells (old ++ news) e false))
    | none => none
def appN (S : SW) (e : TypeId) (z n : Nat) (s : Value) (news : List Value) : Option (Value × SW) :=
  match s with
  | .slice none 0 0 => bif Nat.beq n 0 then some (s, S) else some (.slice (some ⟨S.n, 0, none⟩) n (CAPX + z), S.new (.cells news e false))
  | .slice (some a) len cap =>
    bif Nat.beq n 0 then some (s, S) else
    bif Nat.ble CAPX cap then appX S e z n a len cap news else appE S e z n a len cap news
  | _ => none
def zlen (P : Program) (e : TypeId) (z : Nat) : Bool :=
  match zeroOf P e with
  | some l => Nat.beq l.length z
  | none => false
def appendS (P : Program) (S : SW) (ts : List TypeId) (s x : Value) : Option (Value × SW) :=
  match ts with
  | [t, u] =>
    match P.underlying t with
    | some (.slice e) =>
      match P.info? e, lenS x, lenS s with
      | some ie, some n, some len =>
        match srcS S ie.size n x with
        | none => none
        | some news =>
          bif srcOk P u && Nat.blt 0 ie.size && Nat.ble ((len + n) * (ie.bytes + 1)) 1000000000 && zlen P e ie.size && allL oneC news && Nat.beq news.length (n * ie.size) then appN S e ie.size n s news else none
      | _, _, _ => none
    | _ => none
  | _ => none
def copyS (P : Program) (S : SW) (ts : List TypeId) (d x : Value) : Option (Value × SW) :=
  match ts with
  | t :: _ =>
    match P.underlying t, d, lenS x with
    | some (.slice e), .slice b dl _, some xl =>
      match sizeT P e with
      | none => none
      | some z =>
      match srcS S z (Nat.min xl dl) x with
      | none => none
      | some [] => some (.int .i64 (Nat.min xl dl : Nat), S)
      | some news =>
        match b with
        | some a => match S.store a news with
          | some S' => some (.int .i64 (Nat.min xl dl : Nat), S')
          | none => none
        | none => none
    | _, _, _ => none
  | _ => none
def lenBS (P : Program) (S : SW) (ts : List TypeId) (x : Value) : Option Value :=
  match ts with
  | t :: _ =>
    match P.underlying t, x with
    | some (.slice _), .slice _ n _ => some (.int .i64 n)
    | some (.map _ _), .map (some r) => match S.h.get r with
      | some (.map es _) => some (.int .i64 es.length)
      | _ => none
    | some (.pointer a), _ => match P.underlying a with
      | some (.array n _) => some (.int .i64 n)
      | _ => none
    | _, _ => none
  | _ => none
def capBS (P : Program) (ts : List TypeId) (x : Value) : Option Value :=
  match ts with
  | t :: _ =>
    match P.underlying t, x with
    | some (.slice _), .slice (some _) _ c => bif Nat.ble CAPX c then none else some (.int .i64 c)
    | _, _ => none
  | _ => none
def intsOf : List Value → Option (List Int)
  | [] => some []
  | .int .u8 n :: l => match intsOf l with
    | some r => some (n :: r)
    | none => none
  | _ => none
def strOf (ns : List Int) : ByteArray := ⟨(ns.map fun n => UInt8.ofNat n.toNat).toArray⟩
def isU8 (P : Program) (e : TypeId) : Bool :=
  match P.underlying e with
  | some (.int .u8) => true
  | _ => false
def convS (P : Program) (S : SW) (src dst : TypeId) (x : Value) : Option (Value × SW) :=
  match P.underlying src, P.underlying dst, x with
  | some (.slice e), some .string, .slice (some a) len _ =>
    bif isU8 P e then
      match headS S a len with
      | some l => match intsOf l with
        | some ns => some (.string (strOf ns), S)
        | none => none
      | none => none
    else none
  | some .string, some (.slice e), .string s =>
    bif isU8 P e then some (.slice (some ⟨S.n, 0, none⟩) s.size (CAPX + 1), S.new (.cells ((s.data.toList).map fun b => .int .u8 b.toNat) e false)) else none
  | _, _, _ => none
def failV (P : Program) (t : TypeId) (ok : Bool) : Option Value :=
  bif ok then (match zeroP P t with
    | some z => some (.tuple #[z, .bool false])
    | none => none) else none
def assertI (P : Program) (want : Array (String × TypeId)) (t : TypeId) (v : Value) (at_ : TypeId) (ok : Bool) : Option Value :=
  match P.info? t with
  | some i => match Instr.missingMethod want i.methods with
    | none => some (okV ok (.iface t v) true)
    | some _ => failV P at_ ok
  | none => none
def assertS (P : Program) (x : Value) (at_ : TypeId) (ok : Bool) : Option Value :=
  match P.underlying at_, x with
  | some d, .iface t v =>
    match d with
    | .interface want => assertI P want t v at_ ok
    | _ => bif Nat.beq t at_ then some (okV ok v true) else failV P at_ ok
  | _, _ => none
def clearS (P : Program) (S : SW) (t : TypeId) (x : Value) : Option SW :=
  match P.underlying t, x with
  | some (.slice e), .slice (some a) n _ =>
    match zeroOf P e with
    | some z => S.store a (repL n z)
    | none => none
  | _, _ => none
/-- A call of a function whose text is there. -/
def enterS (P : Program) (f : FuncId) (args : List Value) : Option ONext :=
  match P.funcs[f]? with
  | some fn => bif fn.body.isSome && !(fn.name == "runtime.NumGoroutine") then some (.enter f args) else none
  | none => none
def methodS (P : Program) (t : TypeId) (name : String) : Option FuncId :=
  match P.info? t with
  | some i => match i.methods.toList.find? (fun m => m.name == name) with
    | some m => bif m.path.toList.isEmpty then
        match m.func, P.underlying t with
        | some (f, true), some (.pointer _) => some f
        | some (_, false), some (.pointer _) => none
        | some (f, false), some _ => some f
        | _, _ => none
      else none
    | none => none
  | none => none
def callS (P : Program) (S : SW) (ρ : Operand → Value) (c : Call) : Option (ONext × SW) :=
  let args := c.args.toList.map ρ
  match c.callee with
  | .value f =>
    match ρ f with
    | .func (.func g) first cap => match enterS P g (first.toList ++ args ++ cap.toList) with
      | some x => some (x, S)
      | none => none
    | .func (.yield l) first _ => some (.round l (first.toList ++ args), S)
    | _ => none
  | .invoke r name =>
    match ρ r with
    | .iface t v => match methodS P t name with
      | some f => match enterS P f (v :: args) with
        | some x => some (x, S)
        | none => none
      | none => none
    | _ => none
  | .builtin b =>
    match b, args with
    | .append, [s, x] => match appendS P S c.argTypes.toList s x with
      | some (v, S') => some (.val v, S')
      | none => none
    | .copy, [d, x] => match copyS P S c.argTypes.toList d x with
      | some (v, S') => some (.val v, S')
      | none => none
    | .len, [x] => match lenBS P S c.argTypes.toList x with
      | some v => some (.val v, S)
      | none => none
    | .cap, [x] => match capBS P c.argTypes.toList x with
      | some v => some (.val v, S)
      | none => none
    | .clear, [x] => match c.argTypes.toList with
      | t :: _ => match clearS P S t x with
        | some S' => some (.val (.tuple #[]), S')
        | none => none
      | _ => none
    | .delete, [m, k] => match c.argTypes.toList with
      | t :: _ => match delS P S t m k with
        | some S' => some (.val (.tuple #[]), S')
        | none => none
      | _ => none
    | .panic, [.iface t v] => some (.panic (.iface t v), S)
    | _, _ => none
def deferS (ρ : Operand → Value) (c : Call) : Option ONext :=
  match c.callee with
  | .value f =>
    match ρ f with
    | .func (.func g) first cap => some (.defer ⟨.fn (.func g) cap, first ++ c.args.map ρ⟩)
    | _ => none
  | _ => none
def valS (S : SW) : Option Value → Option (ONext × SW)
  | some v => some (.val v, S)
  | none => none
def fillS (place : Nat → Option (Nat × Nat)) (cells : Array Value) (ps : List (Nat × Value)) : Option (Array Value) := Instr.fill place cells ps
def buildS (P : Program) (t : TypeId) (ps : List (Nat × Value)) : Option Value :=
  match zeroOf P t, P.underlying t with
  | some z, some (.struct fs) =>
    match fs.toList.mapM (fun f => match sizeT P f.type with | some n => some (f.offset, n) | none => none) with
    | some places => match fillS (fun i => places[i]?) z.toArray ps with
      | some cs => some (.agg cs)
      | none => none
    | none => none
  | some z, some (.array _ e) =>
    match sizeT P e with
    | some n => match fillS (fun i => some (i * n, n)) z.toArray ps with
      | some cs => some (.agg cs)
      | none => none
    | none => none
  | _, _ => none
def buildSliceS (P : Program) (n : Nat) (t : TypeId) (len : Nat) (ps : List (Nat × Value)) : Option (Value × SObj) :=
  match P.underlying t with
  | some (.slice e) =>
    match zeroOf P e, sizeT P e with
    | some z, some k =>
      bif !(Nat.ble (len * k) 10000) || !(Nat.beq z.length k) || !(Nat.blt len CAPX) then none else
      match fillS (fun i => some (i * k, k)) (repL len z).toArray ps with
      | some cs => some (.slice (some ⟨n, 0, none⟩) len len, .cells cs.toList e true)
      | none => none
    | _, _ => none
  | _ => none
def makeSliceS (P : Program) (n : Nat) (t : TypeId) (l c : Value) : Option (Value × SObj) :=
  match P.underlying t, l, c with
  | some (.slice e), .int _ (.ofNat len), .int _ (.ofNat cap) =>
    match zeroOf P e, P.info? e with
    | some z, some i =>
      bif Nat.ble len cap && Nat.ble (cap * (i.bytes + 1)) 1000000000 && Nat.beq z.length i.size then
        some (.slice (some ⟨n, 0, none⟩) len cap, .cells (repL cap z) e true)
      else none
    | _, _ => none
  | _, _, _ => none
/-- An operation that lays a block (named n) and does nothing else. -/
def allocS (P : Program) (n : Nat) (ρ : Operand → Value) (o : Oper) : Option (Value × SObj) :=
  match o.op with
  | .alloc t => match zeroOf P t with
    | some z => some (.pointer (some ⟨n, 0, none⟩), .cells z t true)
    | none => none
  | .box t x => some (.pointer (some ⟨n, 0, none⟩), .cells (ρ x).cells.toList t true)
  | .buildSlice t k ps => buildSliceS P n t k (ps.toList.map fun p => (p.1, ρ p.2))
  | .makeMap t r => match r with
    | none => some (.map (some n), .map [] 0)
    | some x => match P.underlying t, ρ x with
      | some (.map _ _), .int _ _ => some (.map (some n), .map [] 0)
      | _, _ => none
  | .makeSlice t l c => makeSliceS P n t (ρ l) (ρ c)
  | _ => none
/-- Of two whole numbers. -/
def fastBin (op : BinOp) (x y : Value) : Option Value :=
  match x, y with
  | .int k a, .int j b =>
    match k, j with
    | .i64, .i64 | .u8, .u8 | .u64, .u64 | .i32, .i32 =>
      match op with
      | .add => some (.int k (k.wrap (a + b)))
      | .sub => some (.int k (k.wrap (a - b)))
      | .eql => some (.bool (decide (a = b)))
      | .neq => some (.bool (decide (a ≠ b)))
      | .lss => some (.bool (decide (a < b)))
      | .leq => some (.bool (decide (a ≤ b)))
      | .gtr => some (.bool (decide (b < a)))
      | .geq => some (.bool (decide (b ≤ a)))
      | _ => none
    | _, _ => none
  | _, _ => none
def nextS (S : SW) (it : Value) : Option (Value × SW) :=
  match it with
  | .pointer (some ⟨r, 0, none⟩) =>
    match S.h.get r with
    | some (.strIter s pos) =>
      bif Nat.blt pos s.size then
        match Utf8.decode s pos with
        | (c, w) => some (.tuple #[.bool true, .int .i64 pos, .int .i32 c], S.set r (.strIter s (pos + w)))
      else some (.tuple #[.bool false], S)
    | _ => none
  | _ => none
/-- The entries that are left to an iterator. -/
def leftS (seen : List Nat) (es : List MapEntry) : List MapEntry := es.filter fun e => !(seen.contains e.born)
/-- A step over a map, if there is but one that may come. -/
def nextMapS (S : SW) (it : Value) : Option (Value × SW) :=
  match it with
  | .pointer (some ⟨r, 0, none⟩) =>
    match S.h.get r with
    | some (.mapIter none _ _ _) => some (.tuple #[.bool false], S)
    | some (.mapIter (some m) since seen last) =>
      match S.h.get m with
      | some (.map es clock) =>
        bif !seen.isEmpty && !es.isEmpty && es.all (fun e => decide (last ≤ e.born)) then none else
        match leftS seen es with
        | [] => some (.tuple #[.bool false], S)
        | [e] => bif decide (e.born < since) then some (.tuple #[.bool true, e.key, e.val], S.set r (.mapIter (some m) since (seen ++ [e.born]) clock)) else none
        | _ => none
      | _ => none
    | _ => none
  | _ => none
/-- The entry of the last step. -/
def entryS (S : SW) (it : Value) : Option Value :=
  match it with
  | .pointer (some ⟨r, 0, none⟩) =>
    match S.h.get r with
    | some (.mapIter (some m) _ seen stepped) =>
      match S.h.get m, seen.getLast? with
      | some (.map es clock), some b =>
        bif decide (clock = stepped) then
          match es.find? (fun e => e.born == b) with
          | some e => some (.tuple #[e.key, e.val])
          | none => none
        else none
      | _, _ => none
    | _ => none
  | _ => none
def rangeMapS (S : SW) (x : Value) : Option (Value × SObj) :=
  match x with
  | .map none => some (.pointer (some ⟨S.n, 0, none⟩), .mapIter none 0 [] 0)
  | .map (some r) => match S.h.get r with
    | some (.map _ clock) => some (.pointer (some ⟨S.n, 0, none⟩), .mapIter (some r) clock [] clock)
    | _ => none
  | _ => none
def allocV (S : SW) : Option (Value × SObj) → Option (ONext × SW)
  | some (v, o) => some (.val v, S.new o)
  | none => none
def setV : Option (Value × SW) → Option (ONext × SW)
  | some (v, S) => some (.val v, S)
  | none => none
def skipV : Option SW → Option (ONext × SW)
  | some S => some (.skip, S)
  | none => none
def boolV (S : SW) : Option Bool → Option (ONext × SW)
  | some b => some (.val (.bool b), S)
  | none => none
abbrev OpF := Program → SW → (Operand → Value) → Oper → Option (ONext × SW)
def opMove (x : Operand) : OpF := fun _ S ρ _ => some (.val (ρ x), S)
def opPick (c a b : Operand) : OpF := fun _ S ρ _ =>
  match ρ c with
  | .bool true => some (.val (ρ a), S)
  | .bool false => some (.val (ρ b), S)
  | _ => none
def opAlloc : OpF := fun P S ρ o => allocV S (allocS P S.n ρ o)
def opBuild (t : TypeId) (ps : Array (Nat × Operand)) : OpF := fun P S ρ _ => valS S (buildS P t (ps.toList.map fun p => (p.1, ρ p.2)))
def opLoad (t : TypeId) (a : Operand) : OpF := fun P S ρ _ =>
  match ρ a with
  | .pointer (some a) => valS S (S.loadVar P t a)
  | _ => none
def opStore (t : TypeId) (a x : Operand) : OpF := fun P S ρ _ =>
  match ρ a with
  | .pointer (some a) => skipV (S.storeVar P t a (ρ x))
  | _ => none
def opNilCheck (x : Operand) : OpF := fun _ S ρ _ =>
  match ρ x with
  | .pointer (some a) => some (.val (.pointer (some a)), S)
  | .func (.func f) a b => some (.val (.func (.func f) a b), S)
  | .iface t v => some (.val (.iface t v), S)
  | _ => none
def opEq (op : BinOp) (t : TypeId) (x y : Operand) : OpF := fun P S ρ _ =>
  match op with
  | .eql => boolV S (eqS P S t (ρ x) (ρ y))
  | .neq => boolV S (match eqS P S t (ρ x) (ρ y) with | some b => some (!b) | none => none)
  | _ => none
def opBin (op : BinOp) (t : TypeId) (x y : Operand) : OpF := fun P S ρ o =>
  match fastBin op (ρ x) (ρ y) with
  | some v => some (.val v, S)
  | none => opEq op t x y P S ρ o
def opConvert (src dst : TypeId) (x : Operand) : OpF := fun P S ρ _ => setV (convS P S src dst (ρ x))
def opIface (t : TypeId) (x : Operand) : OpF := fun P S ρ _ =>
  match P.underlying t with
  | some d => match d with
    | .interface _ => none
    | _ => some (.val (.iface t (ρ x)), S)
  | none => none
def isYield : Fn → Bool
  | .yield _ => true
  | _ => false
def opFunc (fn : Fn) (first cap : Array Operand) : OpF := fun _ S ρ _ => bif isYield fn then none else some (.val (.func fn (first.map ρ) (cap.map ρ)), S)
def opSlice (t : TypeId) (x : Operand) (lo hi mx : Option Operand) : OpF := fun P S ρ _ => valS S (sliceS P t (ρ x) (lo.map ρ) (hi.map ρ) (mx.map ρ))
def opFieldAddr (t : TypeId) (x : Operand) (f : Nat) : OpF := fun P S ρ _ => valS S (fieldAtS P t (ρ x) f)
def opField (t : TypeId) (x : Operand) (f : Nat) : OpF := fun P S ρ _ => valS S (fieldS P t (ρ x) f)
def opIndexAddr (t : TypeId) (x i : Operand) : OpF := fun P S ρ _ => valS S (indexAtS P t (ρ x) (ρ i))
def opIndex (t : TypeId) (x i : Operand) : OpF := fun P S ρ _ => valS S (indexS P t (ρ x) (ρ i))
def opLookup (t : TypeId) (x i : Operand) (ok : Bool) : OpF := fun P S ρ _ => valS S (lookupS P S t (ρ x) (ρ i) ok)
def opMapPut (t : TypeId) (m k v : Operand) : OpF := fun P S ρ _ => skipV (mapPutS P S t (ρ m) (ρ k) (ρ v))
def opMapEntry (t : TypeId) (m k : Operand) : OpF := fun P S ρ _ => setV (mapEntryS P S t (ρ m) (ρ k))
def opEntryStore (m s v : Operand) : OpF := fun _ S ρ _ => skipV (entryPutS S (ρ m) (ρ s) (ρ v))
def opRange (t : TypeId) (x : Operand) : OpF := fun P S ρ _ =>
  match P.underlying t, ρ x with
  | some .string, .string s => some (.val (.pointer (some ⟨S.n, 0, none⟩)), S.new (.strIter s 0))
  | some (.map _ _), x => allocV S (rangeMapS S x)
  | _, _ => none
def opNext (it : Operand) (b : Bool) : OpF := fun _ S ρ _ => bif b then setV (nextS S (ρ it)) else setV (nextMapS S (ρ it))
def opEntry (it : Operand) : OpF := fun _ S ρ _ => valS S (entryS S (ρ it))
def opAssert (x : Operand) (at_ : TypeId) (ok : Bool) : OpF := fun P S ρ _ => valS S (assertS P (ρ x) at_ ok)
def opExtract (t : Operand) (i : Nat) : OpF := fun _ S ρ _ =>
  match ρ t with
  | .tuple vs => valS S (vs.toList[i]?)
  | _ => none
def opCall (c : Call) : OpF := fun P S ρ _ => callS P S ρ c
def opDefer (c : Call) : OpF := fun _ S ρ _ =>
  match deferS ρ c with
  | some x => some (x, S)
  | none => none
def opPanic (x : Operand) : OpF := fun _ S ρ _ =>
  match ρ x with
  | .iface t v => some (.panic (.iface t v), S)
  | _ => none
def opNone : OpF := fun _ _ _ _ => none
def opT (op : Op) : OpF :=
  Op.rec (motive := fun _ => OpF) (move := fun x => opMove x) (assign := fun x => opMove x) (pick := fun c a b => opPick c a b) (alloc := fun _ => opAlloc) (box := fun _ _ => opAlloc)
    (build := fun t ps => opBuild t ps) (buildSlice := fun _ _ _ => opAlloc) (insert := fun t m k v => opMapPut t m k v) (load := fun t a => opLoad t a) (store := fun t a x => opStore t a x)
    (ready := fun _ => opNone) (waits := fun _ => opNone) (nilCheck := fun x => opNilCheck x) (binOp := fun op t x y _ => opBin op t x y) (unOp := fun _ _ _ => opNone) (convert := fun s d x => opConvert s d x)
    (sliceToArrayPointer := fun _ _ => opNone) (makeInterface := fun t x => opIface t x) (makeFunc := fun fn a b => opFunc fn a b) (makeMap := fun _ _ => opAlloc) (makeChan := fun _ _ => opNone)
    (makeSlice := fun _ _ _ => opAlloc) (slice := fun t x lo hi mx => opSlice t x lo hi mx) (fieldAddr := fun t x f => opFieldAddr t x f) (field := fun t x f => opField t x f)
    (indexAddr := fun t x i => opIndexAddr t x i) (index := fun t x i => opIndex t x i) (lookup := fun t x i ok => opLookup t x i ok) (mapUpdate := fun t m k v => opMapPut t m k v)
    (mapEntry := fun t m k => opMapEntry t m k) (entryStore := fun _ m s v => opEntryStore m s v) (range := fun t x => opRange t x) (next := fun it b => opNext it b) (entry := fun it => opEntry it)
    (typeAssert := fun x _ t ok => opAssert x t ok) (extract := fun t i => opExtract t i) (call := fun c => opCall c) (go := fun _ => opNone) (defer := fun c => opDefer c) (panic := fun x => opPanic x)
    (send := fun _ _ => opNone) (recv := fun _ _ _ => opNone) (select := fun _ _ => opNone) op
def opS (P : Program) (S : SW) (ρ : Operand → Value) (o : Oper) : Option (ONext × SW) := opT o.op P S ρ o

end
end Go.Proofs.YtaeophaecclnbaaGreatDoor
namespace Go.Proofs.YtaeophaecclnbaaGreatDoor
open Go
noncomputable section

structure St where
  S : SW
  tr : Tr Value
  nt : Nat
  ds : List Deferred
  rd : Bool
inductive SExit where
  | normal
  | exit (id : Nat)
  | goto (l : Nat)
  | ret
  | panic (v : Value)
def evS (tr : Tr Value) (x : Operand) : Value :=
  Operand.rec (motive := fun _ => Tr Value → Value) (tmp := fun t tr => Option.rec undef (fun v => v) (tr.get t)) (const := fun v _ => v) (global := fun g _ => .pointer (some ⟨g, 0, none⟩)) (func := fun f _ => .func (.func f) #[] #[]) x tr
/-- G: so many globals there are. -/
def okX (G : Nat) : Operand → Bool
  | .const v => plainV PD v
  | .global g => Nat.blt g G
  | _ => true
def St.put (st : St) (d : Option Tmp) (v : Value) : Option St :=
  match st, d with
  | st, none => some st
  | ⟨S, tr, nt, ds, rd⟩, some d => bif Nat.blt d nt then seqV v fun v => tr.putK d (some v) fun tr => some ⟨S, tr, nt, ds, rd⟩ else none
def opL : Op → List Operand
  | .move x | .assign x | .box _ x | .load _ x | .nilCheck x | .unOp _ _ x | .convert _ _ x | .sliceToArrayPointer _ x | .makeInterface _ x
  | .makeChan _ x | .fieldAddr _ x _ | .field _ x _ | .range _ x | .next x _ | .entry x | .typeAssert x _ _ _ | .extract x _ | .panic x | .recv _ x _ => [x]
  | .store _ a v | .binOp _ _ a v _ | .makeSlice _ a v | .indexAddr _ a v | .index _ a v | .lookup _ a v _ | .mapEntry _ a v | .send a v => [a, v]
  | o => o.operands.toList
def yieldS (ops : Array Oper) (tr : Tr Value) (j : Nat) : Option Bool :=
  match ops[j]? with
  | some o => match o.dst with
    | some d => match evS tr (.tmp d) with
      | .bool b => some b
      | _ => none
    | none => none
  | none => none
def wantS (ops : Array Oper) (tr : Tr Value) (o : Oper) : Bool :=
  match o.guard with
  | none => true
  | some (j, want) => match yieldS ops tr j with
    | some true => want
    | some false => !want
    | none => false
/-- One operation that is no call. -/
def plainS (P : Program) (S : SW) (ρ : Operand → Value) (o : Oper) : Option (ONext × SW) :=
  bif allL (fun x => plainV PD (ρ x)) (opL o.op) then
    match goPlain P ρ o with
    | some x => some (x, S)
    | none => none
  else none
def stepS (P : Program) (G : Nat) (S : SW) (tr : Tr Value) (o : Oper) : Option (ONext × SW) :=
  Bool.rec none (Option.rec (plainS P S (evS tr) o) (fun r => some r) (opS P S (evS tr) o)) (allL (okX G) (opL o.op))
inductive SEnd where
  | ret (v : Value)
  | panic (v : Value)
abbrev Run := St → Code → Option (SExit × St)
def fromG (l : List Value) : Nat → Tr Value → Tr Value :=
  List.rec (fun _ t => t) (fun v _ go i t => seqV v fun v => t.putK i (some v) fun t => go (i + 1) t) l
def fromL (l : List Value) : Tr Value := fromG l 0 .leaf
def resS (P : Program) (S : SW) (tr : Tr Value) : List ResultVar → Option (List Value)
  | [] => some []
  | .tmp t :: l => match resS P S tr l with
    | some r => some (evS tr (.tmp t) :: r)
    | none => none
  | .cell a t :: l => match evS tr (.tmp a) with
    | .pointer (some a) => match S.loadVar P t a, resS P S tr l with
      | some v, some r => some (v :: r)
      | _, _ => none
    | _ => none
def resV : List Value → Value
  | [v] => v
  | l => .tuple l.toArray
def isRecover (o : Oper) : Bool :=
  match o.op with
  | .call ⟨.builtin .recover, _, _⟩ => true
  | _ => false
/-- An operation beside a recover: recover looks at what unwinds. -/
def operR (P : Program) (G : Nat) (ops : Array Oper) (st : St) (u : Option (Value × Bool)) (o : Oper) : Option (St × Option (Value × Bool)) :=
  match wantS ops st.tr o with
  | false => match st.put o.dst undef with
    | some st' => some (st', u)
    | none => none
  | true =>
    match stepS P G st.S st.tr o with
    | some (.val v, S') => match (⟨S', st.tr, st.nt, st.ds, st.rd⟩ : St).put o.dst v with
      | some st' => some (st', u)
      | none => none
    | some (.skip, S') => match (⟨S', st.tr, st.nt, st.ds, st.rd⟩ : St).put o.dst undef with
      | some st' => some (st', u)
      | none => none
    | some (.recover, S') =>
      match u with
      | some (v, false) => match (⟨S', st.tr, st.nt, st.ds, st.rd⟩ : St).put o.dst v with
        | some st' => some (st', some (v, true))
        | none => none
      | _ => match (⟨S', st.tr, st.nt, st.ds, st.rd⟩ : St).put o.dst .nilIface with
        | some st' => some (st', u)
        | none => none
    | _ => none
def opsR (P : Program) (G : Nat) (ops : Array Oper) : List Oper → St → Option (Value × Bool) → Option (St × Option (Value × Bool))
  | [], st, u => some (st, u)
  | o :: l, st, u => match operR P G ops st u o with
    | some (st', u') => opsR P G ops l st' u'
    | none => none
def codeR (P : Program) (G : Nat) (ih : Run) : Code → St → Option (Value × Bool) → Option (SExit × St × Option (Value × Bool))
  | .seq a b, st, u => match codeR P G ih a st u with
    | some (.normal, st', u') => codeR P G ih b st' u'
    | r => r
  | .region id ops d, st, u =>
    bif !d && ops.toList.any isRecover then
      match opsR P G ops ops.toList st u with
      | some (st', u') => some (.normal, st', u')
      | none => none
    else match ih st (.region id ops d) with
      | some (e, st') => some (e, st', u)
      | none => none
  | c, st, u => match ih st c with
    | some (e, st') => some (e, st', u)
    | none => none
def settleS : Option (Value × Bool) → Option (Value × Bool)
  | some (_, true) => none
  | u => u
def endR (P : Program) (fn : Func) (e : SExit) (st : St) (u : Option (Value × Bool)) : Option (SW × Option (Value × Bool)) :=
  match e with
  | .normal | .ret =>
    match st.ds, resS P st.S st.tr fn.results.toList with
    | [], some _ => some (st.S, settleS u)
    | _, _ => none
  | _ => none
def deferFn (P : Program) (G : Nat) (ih : Run) (f : FuncId) (args : List Value) (S : SW) (u : Option (Value × Bool)) : Option (SW × Option (Value × Bool)) :=
  match enterS P f args, P.funcs[f]? with
  | some _, some fn =>
    match fn.body with
    | none => none
    | some c => match codeR P G ih c ⟨S, fromL args, Nat.max fn.ntmps args.length, [], false⟩ u with
      | some (e, st, u') => endR P fn e st u'
      | none => none
  | _, _ => none
/-- The deferred calls, one behind the other. -/
def defersE (P : Program) (G : Nat) (ih : Run) : List Deferred → SW → Option (Value × Bool) → Option (SW × Option (Value × Bool))
  | [], S, u => some (S, u)
  | d :: ds, S, u =>
    match d.target with
    | .collected r =>
      match S.h.get r with
      | some .dfr => defersE P G ih ds (S.del r) u
      | _ => none
    | .fn (.func f) cap =>
      match deferFn P G ih f (d.args.toList ++ cap.toList) S u with
      | some (S', u') => defersE P G ih ds S' u'
      | none => none
    | _ => none
def outE : SExit → St → Option (St × Option (Value × Bool))
  | .normal, st => some (st, none)
  | .ret, st => some (st, none)
  | .panic v, st => some (st, some (v, false))
  | _, _ => none
def endE (P : Program) (fn : Func) (tr : Tr Value) : SW × Option (Value × Bool) → Option (SEnd × SW)
  | (S, none) => match resS P S tr fn.results.toList with
    | some l => some (.ret (resV l), S)
    | none => none
  | (S, some (v, false)) => some (.panic v, S)
  | (_, some (_, true)) => none
def callB (P : Program) (G : Nat) (ih : Run) (S : SW) (fn : Func) (c : Code) (args : List Value) : Option (SEnd × SW) :=
  match ih ⟨S, fromL args, Nat.max fn.ntmps args.length, [], false⟩ c with
  | none => none
  | some (e, st) =>
  match outE e st with
  | none => none
  | some (st, u) =>
  match defersE P G ih st.ds st.S u with
  | none => none
  | some p => endE P fn st.tr p

/-! ### Calls that are known -/
def listEq {α : Type} (p : α → α → Bool) (l : List α) : List α → Bool :=
  List.rec (fun m => List.rec true (fun _ _ _ => false) m) (fun x _ ih m => List.rec false (fun y m _ => Bool.rec false (ih m) (p x y)) m) l
def optNatEq : Option Nat → Option Nat → Bool
  | none, none => true
  | some a, some b => Nat.beq a b
  | _, _ => false
def addrEq (a b : Addr) : Bool := Nat.beq a.block b.block && Nat.beq a.off b.off && optNatEq a.spot b.spot
def optAddrEq : Option Addr → Option Addr → Bool
  | none, none => true
  | some a, some b => addrEq a b
  | _, _ => false
def byteEq (a b : UInt8) : Bool := Nat.beq a.toNat b.toNat
def fkEq : FloatKind → FloatKind → Bool
  | .f32, .f32 | .f64, .f64 => true
  | _, _ => false
def fnEq : Fn → Fn → Bool
  | .func a, .func b => Nat.beq a b
  | _, _ => false
def valEq1 (ih : Value → Value → Bool) (v w : Value) : Bool :=
  match v, w with
  | .bool a, .bool b => a == b
  | .int k a, .int j b => kindEq k j && intEq a b
  | .float k a, .float j b => fkEq k j && Nat.beq a b
  | .complex k a c, .complex j b d => fkEq k j && Nat.beq a b && Nat.beq c d
  | .string a, .string b => listEq byteEq a.data.toList b.data.toList
  | .pointer a, .pointer b => optAddrEq a b
  | .slice a l c, .slice b m d => optAddrEq a b && Nat.beq l m && Nat.beq c d
  | .map a, .map b => optNatEq a b
  | .func f a b, .func g c d => fnEq f g && listEq ih a.toList c.toList && listEq ih b.toList d.toList
  | .nilFunc, .nilFunc => true
  | .iface t a, .iface u b => Nat.beq t u && ih a b
  | .nilIface, .nilIface => true
  | .agg a, .agg b => listEq ih a.toList b.toList
  | .tuple a, .tuple b => listEq ih a.toList b.toList
  | _, _ => false
def valEq (n : Nat) : Value → Value → Bool := Nat.rec (fun _ _ => false) (fun _ ih v w => valEq1 ih v w) n
def objEq (a b : SObj) : Bool :=
  match a, b with
  | .cells cs t x, .cells ds u y => listEq (valEq PD) cs ds && Nat.beq t u && (x == y)
  | .map es c, .map fs d => listEq (fun e f => valEq PD e.key f.key && valEq PD e.val f.val && Nat.beq e.born f.born) es fs && Nat.beq c d
  | _, _ => false
structure HookE where
  f : FuncId
  args : List Value
  n : Nat
  pre : List (Nat × SObj)
  ret : Value
  m : Nat
  post : List (Nat × SObj)
def hasObj (S : SW) (p : Nat × SObj) : Bool :=
  match S.h.get p.1 with
  | some o => objEq o p.2
  | none => false
def delAll (l : List (Nat × SObj)) (t : Tr SObj) : Tr SObj := List.rec t (fun p _ ih => ih.putK p.1 none fun h => h) l
def putAll (l : List (Nat × SObj)) (t : Tr SObj) : Tr SObj := List.rec t (fun p _ ih => ih.putK p.1 (some p.2) fun h => h) l
def hookE (H : List HookE) (f : FuncId) (args : List Value) (S : SW) : Option (SEnd × SW) :=
  List.rec none (fun h _ ih => bif Nat.beq h.f f && Nat.beq h.n S.n then
    bif listEq (valEq PD) args h.args && allL (hasObj S) h.pre then some (.ret h.ret, ⟨h.m, putAll h.post (delAll h.pre S.h)⟩) else ih else ih) H

/-! ### Regions -/
abbrev NextF := List HookE → SW → Program → Nat → Run → St → Oper → Option (SExit × St)
def finE (st : St) (o : Oper) (v : Value) : Option (SExit × St) := Option.rec none (fun st' => some (.normal, st')) (st.put o.dst v)
def onVal (v : Value) : NextF := fun _ S _ _ _ st o => finE ⟨S, st.tr, st.nt, st.ds, st.rd⟩ o v
def onSkip : NextF := fun _ S _ _ _ st o => finE ⟨S, st.tr, st.nt, st.ds, st.rd⟩ o undef
def onEnd (e : SEnd) : SW → St → Oper → Option (SExit × St) :=
  match e with
  | .ret v => fun S st o => finE ⟨S, st.tr, st.nt, st.ds, st.rd⟩ o v
  | .panic v => fun S st _ => some (.panic v, ⟨S, st.tr, st.nt, st.ds, st.rd⟩)
def callF (H : List HookE) (P : Program) (G : Nat) (ih : Run) (S : SW) (f : FuncId) (args : List Value) : Option (SEnd × SW) :=
  match hookE H f args S with
  | some r => some r
  | none =>
  match P.funcs[f]? with
  | none => none
  | some fn => match fn.body with
    | none => none
    | some c => callB P G ih S fn c args
def onEnter (f : FuncId) (args : List Value) : NextF := fun H S P G ih st o => Option.rec none (fun p => onEnd p.1 p.2 st o) (callF H P G ih S f args)
def putPs (ps : List Tmp) : List Value → Nat → Tr Value → Option (Tr Value) :=
  List.rec (fun vs _ t => List.rec (some t) (fun _ _ _ => none) vs) (fun p _ go vs nt t => List.rec none (fun v vs _ => bif Nat.blt p nt then go vs nt (t.put p (some v)) else none) vs) ps
def jumpE : SExit → Option (Option Code)
  | .normal => some none
  | .ret => some (some .ret)
  | .exit i => some (some (.exit i))
  | .goto l => some (some (.goto l))
  | .panic _ => none
def isReady : LoopState → Bool
  | .ready => true
  | _ => false
def isBusy : LoopState → Bool
  | .busy => true
  | _ => false
/-- One round of a range over a function. -/
def roundE (ih : Run) (S : SW) (l : Nat) (args : List Value) : Option (Value × SW) :=
  match S.h.get l with
  | some (.loop s0 _ tr nt ps as_ body) =>
    bif isReady s0 then
      match putPs ps args nt tr with
      | none => none
      | some tr' =>
        match ih ⟨S, tr', nt, [], true⟩ as_ with
        | some (.normal, st1) =>
          match st1.S.h.get l with
          | some (.loop s1 p1 tr1 nt1 ps1 as1 body1) =>
            bif isReady s1 then
              match ih ⟨st1.S.set l (.loop .busy p1 tr1 nt1 ps1 as1 body1), st1.tr, st1.nt, st1.ds, st1.rd⟩ body with
              | some (e, st2) =>
                match jumpE e, st2.S.h.get l with
                | some j, some (.loop _ _ tr2 nt2 ps2 as2 body2) =>
                  some (.bool j.isNone, st2.S.set l (.loop (bif j.isNone then .ready else .done) j tr2 nt2 ps2 as2 body2))
                | _, _ => none
              | none => none
            else none
          | _ => none
        | _ => none
    else none
  | _ => none
def onRound (l : Nat) (args : List Value) : NextF := fun _ S _ _ ih st o => Option.rec none (fun p => finE ⟨p.2, st.tr, st.nt, st.ds, st.rd⟩ o p.1) (roundE ih S l args)
def onDefer (d : Deferred) : NextF := fun _ S _ _ _ st o => bif st.rd then none else finE ⟨S, st.tr, st.nt, d :: st.ds, st.rd⟩ o undef
def onPanic (v : Value) : NextF := fun _ S _ _ _ st _ => some (.panic v, ⟨S, st.tr, st.nt, st.ds, st.rd⟩)
def onNone : NextF := fun _ _ _ _ _ _ _ => none
def onNext (x : ONext) : NextF :=
  ONext.rec (motive := fun _ => NextF) (val := fun v => onVal v) (skip := onSkip) (enter := fun f args => onEnter f args) (round := fun l args => onRound l args) (defer := fun d => onDefer d) (recover := onNone) (panic := fun v => onPanic v) x
def isDefer : Op → Bool
  | .defer _ => true
  | _ => false
/-- One operation, calls too. -/
def operE1 (H : List HookE) (P : Program) (G : Nat) (ih : Run) (ops : Array Oper) (st : St) (o : Oper) : Option (SExit × St) :=
  Bool.rec (finE st o undef) (Option.rec none (fun p => onNext p.1 H p.2 P G ih st o) (stepS P G st.S st.tr o)) (wantS ops st.tr o)
def operE (H : List HookE) (P : Program) (G : Nat) (ih : Run) (ops : Array Oper) (st : St) (o : Oper) : Option (SExit × St) :=
  Bool.rec (operE1 H P G ih ops st o) (Bool.rec (operE1 H P G ih ops st o) none (isDefer o.op)) st.rd
def onward (go : St → Option (SExit × St)) (e : SExit) (st : St) : Option (SExit × St) :=
  SExit.rec (motive := fun _ => Option (SExit × St)) (normal := go st) (exit := fun i => some (.exit i, st)) (goto := fun l => some (.goto l, st)) (ret := some (.ret, st)) (panic := fun v => some (.panic v, st)) e
def opsE (H : List HookE) (P : Program) (G : Nat) (ih : Run) (ops : Array Oper) (l : List Oper) : St → Option (SExit × St) :=
  List.rec (fun st => some (.normal, st)) (fun o _ go st => Option.rec none (fun p => onward go p.1 p.2) (operE H P G ih ops st o)) l

/-! ### Regions whose order is drawn -/
/-- What must be done ahead of each operation: bits. -/
def bef1 (acc : List Nat) (es : List Edge) : Nat :=
  List.rec 0 (fun e _ ih => bif Region.binds .any e then Nat.lor (Nat.lor ih (2 ^ e.on)) (acc.getD e.on 0) else ih) es
def befs (l : List Oper) (acc : List Nat) : List Nat := List.rec (fun acc => acc) (fun o _ go acc => go (acc ++ [bef1 acc o.after.toList])) l acc
def edgeOk (i : Nat) (e : Edge) : Bool := !(Region.binds .any e) || Nat.blt e.on i
def edgesOk (l : List Oper) : Bool := l.zipIdx.all fun p => p.1.after.toList.all (edgeOk p.2)
def tmpsOf (o : Op) : List Tmp := (opL o).filterMap fun | .tmp t => some t | _ => none
def looksT (ops : Array Oper) (o : Oper) : List Tmp :=
  tmpsOf o.op ++ (match o.guard with
    | some (g, _) => match ops[g]? with
      | some x => x.dst.toList
      | none => []
    | none => [])
def memN (d : Option Tmp) (l : List Tmp) : Bool :=
  match d with
  | none => false
  | some d => l.any fun t => Nat.beq t d
def sameD : Option Tmp → Option Tmp → Bool
  | some a, some b => Nat.beq a b
  | _, _ => false
structure Pl where
  i : Nat
  o : Oper
  B : Nat
  L : List Tmp
def plan (ops : Array Oper) : List Pl := (ops.toList.zip (befs ops.toList [])).zipIdx.map fun p => ⟨p.2, p.1.1, p.1.2, looksT ops p.1.1⟩
def apartP (a b : Pl) : Bool := !(memN a.o.dst b.L) && !(memN b.o.dst a.L) && !(sameD a.o.dst b.o.dst)
def pairsOk : List Pl → Bool
  | [] => true
  | a :: l => (l.all fun b => Nat.testBit b.B a.i || apartP a b) && pairsOk l
inductive RK where
  | free
  | look
  | lay
  | loud
def kindC (c : Call) : RK :=
  match c.callee with
  | .builtin .len => .look
  | .builtin .cap => .free
  | .builtin .max => .free
  | .builtin .min => .free
  | _ => .loud
def kindB : BinOp → RK
  | .eql => .look
  | .neq => .look
  | _ => .free
def kindO : Op → RK
  | .move _ => .free
  | .assign _ => .free
  | .pick .. => .free
  | .nilCheck _ => .free
  | .unOp .. => .free
  | .makeInterface .. => .free
  | .makeFunc .. => .free
  | .slice .. => .free
  | .fieldAddr .. => .free
  | .field .. => .free
  | .indexAddr .. => .free
  | .index .. => .free
  | .extract .. => .free
  | .typeAssert .. => .free
  | .build .. => .free
  | .binOp op .. => kindB op
  | .load .. => .look
  | .lookup .. => .look
  | .alloc _ => .lay
  | .box .. => .lay
  | .buildSlice .. => .lay
  | .makeMap .. => .lay
  | .makeSlice .. => .lay
  | .call c => kindC c
  | _ => .loud
def isLay (o : Oper) : Bool :=
  match kindO o.op with
  | .lay => true
  | _ => false
structure Lay where
  j : Nat
  id : Nat
  obj : SObj
structure Look where
  p : Pl
  tr : Tr Value
  v : Value
structure Stage where
  S : SW
  inc : Nat
structure DS where
  st : St
  inc : Nat
  hist : List (Nat × Stage)
  lays : List Lay
  looks : List Look
  nx : Nat
  lim : Nat
def layNow (B inc : Nat) (l : Lay) : Bool := Nat.testBit B l.j && !(Nat.testBit inc l.j)
def addLays (lays : List Lay) (B inc : Nat) (S : SW) : SW :=
  List.rec S (fun l _ ih => bif layNow B inc l then ih.set l.id l.obj else ih) lays
def layBits (lays : List Lay) (B inc : Nat) : Nat := List.rec inc (fun l _ ih => bif Nat.testBit B l.j then Nat.lor ih (2 ^ l.j) else ih) lays
/-- Is this what is seen at a stage? -/
def lookAt (P : Program) (G : Nat) (lays : List Lay) (p : Pl) (tr : Tr Value) (g : Stage) : Option Value :=
  match stepS P G (addLays lays p.B g.inc g.S) tr p.o with
  | some (.val v, _) => some v
  | _ => none
def sees (P : Program) (G : Nat) (lays : List Lay) (x : Look) (g : Stage) : Bool :=
  match lookAt P G lays x.p x.tr g with
  | some v => valEq PD v x.v
  | none => false
def DS.now (d : DS) : Stage := ⟨d.st.S, d.inc⟩
/-- What is seen at the stages before, so far as they may be on. -/
def backOk (P : Program) (G : Nat) (lays : List Lay) (x : Look) (hist : List (Nat × Stage)) : Bool :=
  List.rec true (fun h _ ih => Bool.rec (bif sees P G lays x h.2 then ih else false) true (Nat.testBit x.p.B h.1)) hist
def dFree (P : Program) (G : Nat) (p : Pl) (d : DS) : Option DS :=
  match stepS P G d.st.S d.st.tr p.o with
  | some (.val v, _) => match d.st.put p.o.dst v with
    | some st' => some { d with st := st' }
    | none => none
  | _ => none
def dLook (P : Program) (G : Nat) (p : Pl) (d : DS) : Option DS :=
  match lookAt P G d.lays p d.st.tr d.now with
  | none => none
  | some v =>
    bif backOk P G d.lays ⟨p, d.st.tr, v⟩ d.hist then
      match d.st.put p.o.dst v with
      | some st' => some { d with st := st', looks := ⟨p, d.st.tr, v⟩ :: d.looks }
      | none => none
    else none
def dLay (P : Program) (G : Nat) (p : Pl) (d : DS) : Option DS :=
  bif allL (okX G) (opL p.o.op) && Nat.blt d.nx d.lim then
    match allocS P d.nx (evS d.st.tr) p.o with
    | some (v, obj) => match d.st.put p.o.dst v with
      | some st' => some { d with st := st', lays := ⟨p.i, d.nx, obj⟩ :: d.lays, nx := d.nx + 1 }
      | none => none
    | none => none
  else none
def DS.with (d : DS) (B : Nat) : St := ⟨addLays d.lays B d.inc d.st.S, d.st.tr, d.st.nt, d.st.ds, d.st.rd⟩
def dLoud (H : List HookE) (P : Program) (G : Nat) (ih : Run) (ops : Array Oper) (p : Pl) (d : DS) : Option DS :=
  bif allL (fun x => Nat.testBit p.B x.1) d.hist then
    match operE H P G ih ops (d.with p.B) p.o with
    | some (.normal, st') =>
      bif allL (fun x => Nat.testBit p.B x.p.i || sees P G d.lays x ⟨st'.S, layBits d.lays p.B d.inc⟩) d.looks then
        some { d with st := st', inc := layBits d.lays p.B d.inc, hist := (p.i, d.now) :: d.hist }
      else none
    | _ => none
  else none
def dSkip (p : Pl) (d : DS) : Option DS :=
  match d.st.put p.o.dst undef with
  | some st' => some { d with st := st' }
  | none => none
def dOne (H : List HookE) (P : Program) (G : Nat) (ih : Run) (ops : Array Oper) (p : Pl) (d : DS) : Option DS :=
  match wantS ops d.st.tr p.o with
  | false => dSkip p d
  | true => match kindO p.o.op with
    | .free => dFree P G p d
    | .look => dLook P G p d
    | .lay => dLay P G p d
    | .loud => dLoud H P G ih ops p d
def dAll (H : List HookE) (P : Program) (G : Nat) (ih : Run) (ops : Array Oper) (l : List Pl) : DS → Option DS :=
  List.rec (fun d => some d) (fun p _ go d => Option.rec none (fun d => go d) (dOne H P G ih ops p d)) l
def regionOk (ops : Array Oper) : Bool := edgesOk ops.toList && pairsOk (plan ops)
def drawE (H : List HookE) (P : Program) (G : Nat) (ih : Run) (ops : Array Oper) (st : St) : Option (SExit × St) :=
  bif regionOk ops then
    seqN (st.S.n + (ops.toList.filter isLay).length) fun n =>
    match dAll H P G ih ops (plan ops) ⟨⟨⟨n, st.S.h⟩, st.tr, st.nt, st.ds, st.rd⟩, 0, [], [], [], st.S.n, n⟩ with
    | some d => some (.normal, d.with (2 ^ ops.toList.length - 1))
    | none => none
  else none

/-! ### Code -/
def scopeE (ih : Run) (c : Code) (n : Nat) : Run := Nat.rec (fun _ _ => none) (fun _ go st x =>
  match ih st x with
  | some (.goto l, st') => match findLabel c l with
    | some rest => go st' rest
    | none => some (.goto l, st')
  | r => r) n
abbrev CodeF := List HookE → Program → Nat → Run → St → Option (SExit × St)
def cNormal : CodeF := fun _ _ _ _ st => some (.normal, st)
def cExit (e : SExit) : CodeF := fun _ _ _ _ st => some (e, st)
def cRegion (ops : Array Oper) (d : Bool) : CodeF := fun H P G ih st => Bool.rec (opsE H P G ih ops ops.toList st) (drawE H P G ih ops st) d
def cSeq (a b : Code) : CodeF := fun _ _ _ ih st => Option.rec none (fun p => onward (fun st => ih st b) p.1 p.2) (ih st a)
def cCond (c : Operand) (a b : Code) : CodeF := fun _ _ _ ih st =>
  match c, evS st.tr c with
  | .tmp _, .bool t => ih st (Bool.rec b a t)
  | .const _, .bool t => ih st (Bool.rec b a t)
  | _, _ => none
def inB (id : Nat) : SExit → SExit
  | .exit j => bif Nat.beq j id then .normal else .exit j
  | e => e
def cBlock (id : Nat) (c : Code) : CodeF := fun _ _ _ ih st => Option.rec none (fun p => some (inB id p.1, p.2)) (ih st c)
def cLoop (c : Code) : CodeF := fun _ _ _ ih st => Option.rec none (fun p => onward (fun st => ih st (.loop c)) p.1 p.2) (ih st c)
def cScope (c : Code) : CodeF := fun _ _ _ ih st => scopeE ih c 100000 st c
def codeJ : Code → Option SExit
  | .ret => some .ret
  | .exit i => some (.exit i)
  | .goto l => some (.goto l)
  | _ => none
/-- A range over a function, behind its call. -/
def rangeEnd (st : St) (l : Nat) : SEnd × SW → Option (SExit × St)
  | (.ret _, S) => match S.h.get l with
    | some (.loop s p tr nt ps as_ body) => bif isBusy s then none else
      match p with
      | none => some (.normal, ⟨S.set l (.loop .exhausted p tr nt ps as_ body), st.tr, st.nt, st.ds, st.rd⟩)
      | some c => match codeJ c with
        | some e => some (e, ⟨S.set l (.loop .exhausted p tr nt ps as_ body), st.tr, st.nt, st.ds, st.rd⟩)
        | none => none
    | _ => none
  | _ => none
def cRange (f : Operand) (ps : Array Tmp) (as_ body : Code) : CodeF := fun H P G ih st =>
  bif st.rd then none else
  match f, evS st.tr f with
  | .tmp _, .func (.func g) first cap =>
    seqN st.S.n fun n =>
    match enterS P g (first.toList ++ [.func (.yield (n + 1)) #[] #[]] ++ cap.toList) with
    | some (.enter g args) =>
      match callF H P G ih ((st.S.new .dfr).new (.loop .ready none st.tr st.nt ps.toList as_ body)) g args with
      | some p => rangeEnd ⟨st.S, st.tr, st.nt, ⟨.collected n, #[]⟩ :: st.ds, st.rd⟩ (n + 1) p
      | none => none
    | _ => none
  | _, _ => none
def cNone : CodeF := fun _ _ _ _ _ => none
def codeT (c : Code) : CodeF :=
  Code.rec (motive := fun _ => CodeF) (skip := cNormal) (region := fun _ ops d => cRegion ops d) (seq := fun a b _ _ => cSeq a b) (cond := fun c a b _ _ => cCond c a b) (block := fun i c _ => cBlock i c)
    (loop := fun c _ => cLoop c) (rangeFunc := fun f ps a b _ _ => cRange f ps a b) (exit := fun i => cExit (.exit i)) (scope := fun c _ => cScope c) (label := fun _ => cNormal) (goto := fun l => cExit (.goto l)) (ret := cExit .ret) (refuse := fun _ => cNone) c
def codeE (H : List HookE) (P : Program) (G : Nat) (ih : Run) (st : St) (c : Code) : Option (SExit × St) := codeT c H P G ih st
def exec (H : List HookE) (P : Program) (G : Nat) (n : Nat) : Run := Nat.rec (fun _ _ => none) (fun _ ih st c => codeE H P G ih st c) n
def callE (H : List HookE) (P : Program) (G : Nat) (n : Nat) (S : SW) (f : FuncId) (args : List Value) : Option (SEnd × SW) :=
  match P.funcs[f]? with
  | none => none
  | some fn => match fn.body with
    | none => none
    | some c => callB P G (exec H P G n) S fn c args
end
end Go.Proofs.YtaeophaecclnbaaGreatDoor
