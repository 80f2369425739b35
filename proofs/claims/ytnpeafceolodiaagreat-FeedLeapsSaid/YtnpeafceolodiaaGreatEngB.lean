/- The engine, part B: the interpreter. -/
import Derived.Test.YtnpeafceolodiaaGreatEngA
namespace Go.Eng

def Loc.beq : Loc → Loc → Bool
  | .tmp a, .tmp b => Nat.beq a b
  | .obj a, .obj b => Nat.beq a b
  | _, _ => false

/-- What an operation asks of a state. -/
inductive Rd (α : Type) : Type 1 where
  | ret (a : α)
  | fail
  | get (l : Loc) (k : V → Rd α)
  | shp (m : Nat) (k : V → Rd α)
  | opt {β : Type} (o : Option β) (k : β → Rd α)
  | alt {β : Type} (o : Option β) (n : Rd α) (k : β → Rd α)

/-- What of an object stays when it is written: a variable's type, a row's type and length. -/
def shapeV : V → V
  | .obj t _ => .obj t .undef
  | .arrc _ t l => .obj t (.int .i64 (l.length : Nat))
  | _ => .undef
/-- Where it is noted that a shape was looked at. -/
def shpName : Nat := 1000000

namespace Rd
def bind {α β : Type} : Rd α → (α → Rd β) → Rd β
  | .ret a, f => f a
  | .fail, _ => .fail
  | .get l k, f => .get l fun v => (k v).bind f
  | .shp m k, f => .shp m fun v => (k v).bind f
  | .opt o k, f => .opt o fun x => (k x).bind f
  | .alt o n k, f => .alt o (n.bind f) fun x => (k x).bind f
def guard {α : Type} (b : Bool) (k : Rd α) : Rd α := match b with | true => k | false => .fail
def need {α : Type} (b : Bool) (k : Rd α) : Rd α := .opt (bif b then some () else none) fun _ => k
end Rd

def St.set (S : St) (l : Loc) (v : V) : St := fun l' => bif Loc.beq l' l then v else S l'

def Rd.runK {α ω : Type} : Rd α → St → List Loc → (α → List Loc → Option ω) → Option ω
  | .ret a, _, rs, K => K a rs
  | .fail, _, _, _ => none
  | .get l k, S, rs, K => (k (S l)).runK S (l :: rs) K
  | .shp m k, S, rs, K => (k (shapeV (S (.obj m)))).runK S (.obj (shpName + m) :: rs) K
  | .opt o k, S, rs, K => match o with | some x => (k x).runK S rs K | none => none
  | .alt o n k, S, rs, K => match o with | some x => (k x).runK S rs K | none => n.runK S rs K

def St.apply : List (Loc × V) → St → St
  | [], S => S
  | (l, v) :: δ, S => (St.apply δ S).set l v

/-- Does a datum of this type lead nowhere? -/
def Ty.flat : Ty → Bool
  | .sl _ _ => false
  | .prod a b => a.flat && b.flat
  | _ => true

/-- A datum that is taken out of a state: its own rows, the rows that are looked at, and whether all that it leads to is new. -/
structure Tk (α : Type) where
  x : α
  own : List Nat
  bor : List (Nat × V)
  vars : List Nat
  fr : Bool

def look (f : Bool) : V → List Nat → Rd V
  | v, [] => .ret v
  | .node vs, i :: p => match vs[i]? with
    | some u => look f u p
    | none => .fail
  | .arr _ k l, [i] => .opt (l[i]?) fun x => .ret (.int k x)
  | _, _ => .fail

def putAt : V → List Nat → V → Option V
  | _, [], u => some u
  | .node vs, i :: p, u => match vs[i]? with
    | some v => (putAt v p u).map fun v' => .node (vs.set i v')
    | none => none
  | .arr n k l, [i], .int k' x => if k' = k then some (.arr n k (l.set i x)) else none
  | _, _, _ => none

def cut {α : Type} (l : List α) (lo hi : Nat) : List α := (l.take hi).drop lo

def takeSl (md : Md) (t : Ty) : V → Rd (Tk (List t.den))
  | .nils => .ret ⟨[], [], [], [], true⟩
  | .sl f t' l => if h : t' = t then
      match md with
      | .ro => .ret ⟨castL h l, [], [], [], f⟩
      | .fr => Rd.guard f (.ret ⟨castL h l, [], [], [], true⟩)
      | _ => .fail
    else .fail
  | .own m => .get (.obj m) fun c => match c with
    | .frzc f t' l => if h : t' = t then
        match md with
        | .ro => .ret ⟨castL h l, [], [], [], f⟩
        | .fr => Rd.guard f (.ret ⟨castL h l, [], [], [], true⟩)
        | _ => .fail
      else .fail
    | .arrc f t' l => if h : t' = t then
        match md with
        | .ro => .ret ⟨castL h l, [], [(m, .frzc f t' l)], [], f⟩
        | .fr => Rd.guard f (.ret ⟨castL h l, [], [(m, .frzc f t' l)], [], true⟩)
        | .own => Rd.guard f (.ret ⟨castL h l, [m], [], [], true⟩)
        | .ownx => .ret ⟨castL h l, [m], [], [], f⟩
      else .fail
    | _ => .fail
  | .vsl m p lo hi => match md, t with
    | .ro, .int k => .get (.obj m) fun c => match c with
      | .obj _ v => (look true v p).bind fun u => match u with
        | .arr _ k' l => if k' = k then .ret ⟨cut l lo hi, [], [], [m], false⟩ else .fail
        | _ => .fail
      | _ => .fail
    | _, _ => .fail
  | _ => .fail

def takeUnit : V → Rd (Tk Unit)
  | .node vs => match vs with
    | [] => .ret ⟨(), [], [], [], true⟩
    | _ :: _ => .fail
  | _ => .fail
def takeInt (k : IntKind) : V → Rd (Tk Int)
  | .int k' n => if k' = k then .ret ⟨n, [], [], [], true⟩ else .fail
  | _ => .fail
def takeBool : V → Rd (Tk Bool)
  | .bool b => .ret ⟨b, [], [], [], true⟩
  | _ => .fail
def takeStr : V → Rd (Tk ByteArray)
  | .str s => .ret ⟨s, [], [], [], true⟩
  | _ => .fail
def takeArr (n : Nat) (k : IntKind) : V → Rd (Tk (List Int))
  | .arr n' k' l => if n' = n ∧ k' = k then .ret ⟨l, [], [], [], true⟩ else .fail
  | _ => .fail
def onNode {α : Type} (f : V → List V → Rd α) : V → Rd α
  | .node vs => match vs with
    | v :: vs => f v vs
    | [] => .fail
  | _ => .fail
def takeV : (t : Ty) → V → Rd (Tk t.den)
  | .unit => takeUnit
  | .int k => takeInt k
  | .bool => takeBool
  | .str => takeStr
  | .arr n k => takeArr n k
  | .sl md t => takeSl md t
  | .prod a b => onNode fun v vs => (takeV a v).bind fun x => (takeV b (.node vs)).bind fun y =>
      .ret ⟨(x.x, y.x), x.own ++ y.own, x.bor ++ y.bor, x.vars ++ y.vars, x.fr && y.fr⟩
  | .opq => fun _ => .fail
  | .ifc => fun _ => .fail

/-- A datum put into a state: own rows come under the names from `base` on. -/
def putV : (t : Ty) → t.den → Nat → V × List (Loc × V) × Nat
  | .unit, _, m => (.node [], [], m)
  | .int k, n, m => (.int k n, [], m)
  | .bool, b, m => (.bool b, [], m)
  | .str, s, m => (.str s, [], m)
  | .arr n k, l, m => (.arr n k l, [], m)
  | .sl .ro t, l, m => (.sl false t l, [], m)
  | .sl .fr t, l, m => (.sl true t l, [], m)
  | .sl .own t, l, m => (.own m, [(.obj m, .arrc true t l)], m + 1)
  | .sl .ownx t, l, m => (.own m, [(.obj m, .arrc false t l)], m + 1)
  | .prod a b, x, m => match putV a x.1 m with
    | (v, d1, m1) => match putV b x.2 m1 with
      | (u, d2, m2) => (consN v u, d1 ++ d2, m2)
  | .opq, x, _ => nomatch x
  | .ifc, x, _ => nomatch x

/-- The type without modes. -/
def Ty.plain : Ty → Ty
  | .sl _ t => .sl .ro t
  | .prod a b => .prod a.plain b.plain
  | t => t

/-- Parameters: a datum; what a pointer leads to, looked at alone; what it leads to, written; a row that is written. -/
inductive PK where
  | val (t : Ty)
  | rptr (t : Ty)
  | ptr (t : Ty)
  | mut (t : Ty)
/-- Results: a datum; a pointer to something new, or nil; what is not looked at. -/
inductive RK where
  | val (t : Ty)
  | box (t : Ty)
  | drop

def PK.den : PK → Type
  | .val t | .rptr t | .ptr t => t.den
  | .mut t => List t.den
def DP : List PK → Type
  | [] => Unit
  | k :: ks => k.den × DP ks
def DO : List PK → Type
  | [] => Unit
  | .ptr t :: ks => t.den × DO ks
  | .mut t :: ks => List t.den × DO ks
  | _ :: ks => DO ks
def RK.den : RK → Type
  | .val t => t.den
  | .box t => Option t.den
  | .drop => Unit
def DR : List RK → Type
  | [] => Unit
  | k :: ks => k.den × DR ks

structure Callee where
  ps : List PK
  rs : List RK
  F : DP ps → Option (DO ps × DR rs)

inductive Slot where
  | tmp (i : Nat) (t : Ty)
  | ept (i : Nat) (f : Bool) (t : Ty)
  | fix (i m : Nat) (p : List Nat)
  | fixo (i m : Nat)
  | obj (m : Nat) (t : Ty)
  | row (m : Nat) (t : Ty)

def DS : List Slot → Type
  | [] => Unit
  | .tmp _ t :: s => t.den × DS s
  | .ept _ _ t :: s => t.den × DS s
  | .fix _ _ _ :: s => DS s
  | .fixo _ _ :: s => DS s
  | .obj _ t :: s => t.den × DS s
  | .row _ t :: s => List t.den × DS s

structure Env where
  tab : TypeId → Option Ty
  call : FuncId → Option Callee
  slots : Nat → List Slot
  nt : Nat
  /-- The names of what parameters lead to. -/
  pars : List Nat

def rd (l : Loc) : Rd V := .get l .ret

def constV : Value → Option V
  | .int k n => if k.wrap n = n then some (.int k n) else none
  | .bool b => some (.bool b)
  | .string s => if s.size ≤ maxLen then some (.str s) else none
  | .pointer none => some .nilp
  | .slice none 0 0 => some .nils
  | .nilIface => some .nilif
  | _ => none

def ev : Operand → Rd V
  | .tmp t => rd (.tmp t)
  | .const v => match constV v with
    | some u => .ret u
    | none => .fail
  | .func f => .ret (.fn f)
  | .global _ => .fail

def evs : List Operand → Rd (List V)
  | [] => .ret []
  | o :: os => (ev o).bind fun v => (evs os).bind fun vs => .ret (v :: vs)

def zeroV : Ty → V
  | .unit => .node []
  | .int k => .int k 0
  | .bool => .bool false
  | .str => .str .empty
  | .arr n k => .arr n k (List.replicate n 0)
  | .sl _ _ => .nils
  | .prod a b => consN (zeroV a) (zeroV b)
  | .opq => .nilp
  | .ifc => .nilif

def zeroD : (t : Ty) → Option t.den
  | .unit => some ()
  | .int _ => some (show Int from 0)
  | .bool => some false
  | .str => some .empty
  | .arr n _ => some (List.replicate n 0)
  | .sl _ _ => some []
  | .prod a b => (zeroD a).bind fun x => (zeroD b).map fun y => (x, y)
  | .opq => none
  | .ifc => none

def Ty.beq' : (t : Ty) → t.den → t.den → Bool
  | .unit, _, _ => true
  | .int _, a, b => (show Int from a) == (show Int from b)
  | .bool, a, b => (show Bool from a) == (show Bool from b)
  | .str, a, b => (show ByteArray from a).toList == (show ByteArray from b).toList
  | .arr _ _, a, b => (show List Int from a) == (show List Int from b)
  | .prod a b, x, y => a.beq' x.1 y.1 && b.beq' x.2 y.2
  | .sl _ _, _, _ => false
  | .opq, x, _ => nomatch x
  | .ifc, x, _ => nomatch x

def getI {α : Type} (l : List α) : Int → Option α
  | .ofNat n => l[n]?
  | .negSucc _ => none

def inI (i : Int) (n : Nat) : Bool := decide (0 ≤ i) && decide (i < n)
def inS (i n : Int) : Bool := decide (0 ≤ i) && decide (i < n)

def set? (d : Option Tmp) (v : V) : List (Loc × V) :=
  match d with
  | some t => [(.tmp t, v)]
  | none => []

def kills (l : List Nat) : List (Loc × V) := l.map fun m => (.obj m, .dead)
def frzs (l : List (Nat × V)) : List (Loc × V) := l.map fun q => (.obj q.1, q.2)

/-- The name is new. -/
def newN {α : Type} (m : Nat) (k : Rd α) : Rd α := .get (.obj m) fun c => match c with
  | .undef => k
  | _ => .fail
def newNs {α : Type} : List (Loc × V) → Rd α → Rd α
  | [], k => k
  | (.obj m, _) :: δ, k => newN m (newNs δ k)
  | _ :: _, _ => .fail

/-- Of a struct: the part i. -/
def projE (f : Bool) : (t : Ty) → t.den → Nat → Option V
  | .prod a _, x, 0 => some (.eptr f a x.1)
  | .prod _ b, x, i + 1 => projE f b x.2 i
  | _, _, _ => none

def intOp (op : BinOp) (k : IntKind) (a b : Int) : Rd V :=
  match op with
  | .add => .ret (.int k (k.wrap (a + b)))
  | .sub => .ret (.int k (k.wrap (a - b)))
  | .mul => .ret (.int k (k.wrap (a * b)))
  | .quo => Rd.need (b != 0) (.ret (.int k (k.wrap (a.tdiv b))))
  | .rem => Rd.need (b != 0) (.ret (.int k (a.tmod b)))
  | .and => .ret (.int k (k.wrap (BitVec.ofInt k.bits a &&& BitVec.ofInt k.bits b).toNat))
  | .or => .ret (.int k (k.wrap (BitVec.ofInt k.bits a ||| BitVec.ofInt k.bits b).toNat))
  | .xor => .ret (.int k (k.wrap (BitVec.ofInt k.bits a ^^^ BitVec.ofInt k.bits b).toNat))
  | .andNot => .ret (.int k (k.wrap (BitVec.ofInt k.bits a &&& ~~~ BitVec.ofInt k.bits b).toNat))
  | .eql => .ret (.bool (a == b))
  | .neq => .ret (.bool (a != b))
  | .lss => .ret (.bool (decide (a < b)))
  | .leq => .ret (.bool (decide (a ≤ b)))
  | .gtr => .ret (.bool (decide (a > b)))
  | .geq => .ret (.bool (decide (a ≥ b)))
  | _ => .fail

def shiftOp (op : BinOp) (k : IntKind) (a b : Int) : Rd V :=
  Rd.need (decide (0 ≤ b)) <|
    match op with
    | .shl => .ret (.int k (k.wrap (a * 2 ^ (min b.toNat k.bits))))
    | .shr => .ret (.int k (a.fdiv (2 ^ (min b.toNat k.bits))))
    | _ => .fail

def strOp (op : BinOp) (a b : ByteArray) : Rd V :=
  match op with
  | .add => Rd.need (decide (a.size + b.size ≤ maxLen)) (.ret (.str (a ++ b)))
  | .eql => .ret (.bool (a.toList == b.toList))
  | .neq => .ret (.bool !(a.toList == b.toList))
  | _ => .fail

def isShift : BinOp → Bool
  | .shl | .shr => true
  | _ => false

def eqOp (op : BinOp) (b : Bool) : Rd V :=
  match op with
  | .eql => .ret (.bool b)
  | .neq => .ret (.bool !b)
  | _ => .fail

def binV (E : Env) (op : BinOp) (T : TypeId) (x y : V) : Rd V :=
  match x, y with
  | .int k a, .int k' b => if isShift op then shiftOp op k a b else if k' = k then intOp op k a b else .fail
  | .str a, .str b => strOp op a b
  | .bool a, .bool b => match E.tab T with
    | some .bool => eqOp op (a == b)
    | _ => .fail
  | .nilp, .nilp => match E.tab T with
    | some .opq => eqOp op true
    | _ => .fail
  | .ptr _ _, .nilp => match E.tab T with
    | some .opq => eqOp op false
    | _ => .fail
  | .iface _ _, .nilif => match E.tab T with
    | some .ifc => eqOp op false
    | _ => .fail
  | .node _, .node _ | .arr _ _ _, .arr _ _ _ => match E.tab T with
    | some t => match gather t x, gather t y with
      | some a, some b => Rd.guard t.flat (eqOp op (t.beq' a b))
      | _, _ => .fail
    | none => .fail
  | _, _ => .fail

def unV (op : UnOp) (x : V) : Rd V :=
  match op, x with
  | .neg, .int k n => .ret (.int k (k.wrap (0 - n)))
  | .xor, .int k n => .ret (.int k (k.wrap (BitVec.ofInt k.bits (if k.signed then -1 else k.max) ^^^ BitVec.ofInt k.bits n).toNat))
  | .not, .bool b => .ret (.bool !b)
  | _, _ => .fail

def asI : V → Rd Int
  | .int _ n => .ret n
  | _ => .fail

def bound (d : Int) : Option Operand → Rd Int
  | none => .ret d
  | some o => (ev o).bind asI

/-- 0 ≤ lo ≤ hi ≤ n? -/
def okCut (lo hi : Int) (n : Nat) : Bool := decide (0 ≤ lo) && decide (lo ≤ hi) && decide (hi ≤ n)

def isSl (E : Env) (T : TypeId) (t : Ty) : Bool := match E.tab T with
  | some (.sl _ t') => decide (t' = t)
  | _ => false
def isSl1 (E : Env) (T : TypeId) : Bool := match E.tab T with
  | some (.sl _ t') => Nat.beq t'.size 1
  | _ => false
def isTy (E : Env) (T : TypeId) (t : Ty) : Bool := match E.tab T with
  | some t' => decide (t' = t)
  | _ => false

/-- How many elements: an int. -/
def isAnySl (E : Env) (T : TypeId) : Bool := match E.tab T with
  | some (.sl _ _) => true
  | _ => false
def lenV (E : Env) (T : TypeId) (x : V) : Rd Int :=
  match x with
  | .str s => Rd.guard (isTy E T .str) (.ret s.size)
  | .nils => Rd.guard (isAnySl E T) (.ret 0)
  | .sl _ _ l => Rd.guard (isAnySl E T) (.ret l.length)
  | .own m => Rd.guard (isAnySl E T) <| .shp m fun c => match c with
    | .obj _ sv => match sv with
      | .int _ n => .ret n
      | _ => .fail
    | _ => .get (.obj m) fun c => match c with
      | .frzc _ _ l => .ret l.length
      | _ => .fail
  | .vsl m _ lo hi => Rd.guard (isAnySl E T) <| .get (.obj m) fun c => match c with
    | .obj _ _ => Rd.need (decide (hi - lo ≤ 65536)) (.ret ((hi - lo : Nat) : Int))
    | _ => .fail
  | _ => .fail

def indexV (E : Env) (T : TypeId) (x : V) (n : Int) : Rd V :=
  match x with
  | .arr k kk l => Rd.guard (isTy E T (.arr k kk)) (.opt (getI l n) fun e => .ret (.int kk e))
  | .str s => Rd.guard (isTy E T .str) (.opt (getI s.data.toList n) fun e => .ret (.int .u8 e.toNat))
  | _ => .fail

def arrayPtrV (E : Env) (d : Nat) (T : TypeId) (x : V) : Rd (List (Loc × V)) :=
  match E.tab T with
  | some (.arr n k) => match x with
    | .sl f t l => if h : t = .int k then Rd.guard (Nat.blt 0 n) (Rd.need (decide (n ≤ l.length)) (.ret [(.tmp d, .eptr f (.arr n k) ((castL h l : List Int).take n))])) else .fail
    | .vsl m p lo hi => Rd.guard (Nat.blt 0 n) (Rd.need (decide (n ≤ hi - lo)) (.get (.obj m) fun c => match c with
      | .obj t _ => match t.tyAt p with
        | some (.arr _ _) => .ret [(.tmp d, .vap m p lo n)]
        | _ => .fail
      | _ => .fail))
    | .own m => .get (.obj m) fun c => match c with
      | .arrc _ t l | .frzc _ t l => if t = .int k then Rd.guard (Nat.blt 0 n) (Rd.need (decide (n ≤ l.length)) (.ret [(.tmp d, .vap m [] 0 n)])) else .fail
      | _ => .fail
    | _ => .fail
  | _ => .fail

def cutOf {α : Type} (l : List α) (lo hi : Option Operand) (k : List α → V) (d : Nat) (δ : List (Loc × V)) : Rd (List (Loc × V)) :=
  (bound 0 lo).bind fun a => (bound l.length hi).bind fun b => Rd.need (okCut a b l.length) (.ret ((.tmp d, k (cut l a.toNat b.toNat)) :: δ))

def sliceV (E : Env) (d : Nat) (T : TypeId) (x : V) (lo hi : Option Operand) : Rd (List (Loc × V)) :=
  match x with
  | .sl f t l => Rd.guard (isSl E T t) (cutOf l lo hi (.sl f t) d [])
  | .own m => .get (.obj m) fun c => match c with
    | .arrc f t l => Rd.guard (isSl E T t) (cutOf l lo hi (.sl f t) d [(.obj m, .frzc f t l)])
    | .frzc f t l => Rd.guard (isSl E T t) (cutOf l lo hi (.sl f t) d [])
    | _ => .fail
  | .str s => Rd.guard (isTy E T .str) ((bound 0 lo).bind fun a => (bound s.size hi).bind fun b => Rd.need (okCut a b s.size) (.ret [(.tmp d, .str (s.extract a.toNat b.toNat))]))
  | .vsl m p l0 h0 => Rd.guard (isSl1 E T) <| .get (.obj m) fun c => match c with
    | .obj _ _ => ((bound 0 lo).bind fun a => (bound ((h0 - l0 : Nat) : Int) hi).bind fun b => Rd.need (okCut a b (h0 - l0)) (.ret [(.tmp d, .vsl m p (l0 + a.toNat) (l0 + b.toNat))]))
    | _ => .fail
  | .ptr m p => match E.tab T with
    | some (.arr n k) => .get (.obj m) fun c => match c with
      | .obj t _ => match t.tyAt p with
        | some (.arr n' _) => Rd.guard (Nat.beq n' n) ((bound 0 lo).bind fun a => (bound n hi).bind fun b => Rd.need (okCut a b n) (.ret [(.tmp d, .vsl m p a.toNat b.toNat)]))
        | _ => .fail
      | _ => .fail
    | _ => .fail
  | _ => .fail

/-- Nothing of a slice, to be appended to. -/
def emptyV (E : Env) (d : Nat) (T : TypeId) (x : V) : Rd (List (Loc × V)) :=
  match E.tab T with
  | some (.sl _ t) => match x with
    | .nils | .sl _ _ _ | .own _ => newN d (.ret [(.tmp d, .own d), (.obj d, .arrc true t [])])
    | _ => .fail
  | _ => .fail

def indexAddrV (E : Env) (d : Nat) (T : TypeId) (x : V) (i : Int) : Rd (List (Loc × V)) :=
  match x with
  | .sl f t l => Rd.guard (isSl E T t) (.opt (getI l i) fun e => .ret [(.tmp d, .eptr f t e)])
  | .own m => .shp m fun c => match c with
    | .obj t sv => match sv with
      | .int _ n => Rd.guard (isSl E T t) (Rd.need (inS i n) (.ret [(.tmp d, .ptr m [i.toNat])]))
      | _ => .fail
    | _ => .get (.obj m) fun c => match c with
      | .frzc f t l => Rd.guard (isSl E T t) (.opt (getI l i) fun e => .ret [(.tmp d, .eptr f t e)])
      | _ => .fail
  | .vsl m p lo hi => Rd.guard (isSl1 E T) (.get (.obj m) fun c => match c with
    | .obj t _ => match t.tyAt p with
      | some (.arr _ _) => Rd.need (inI i (hi - lo)) (.ret [(.tmp d, .ptr m (p ++ [lo + i.toNat]))])
      | _ => .fail
    | _ => .fail)
  | .ptr m p => match E.tab T with
    | some (.arr n _) => .shp m fun c => match c with
      | .obj t sv => match sv with
        | .int _ _ => match p with
          | j :: q => match t.tyAt q with
            | some (.arr n' _) => Rd.guard (Nat.beq n' n) (Rd.need (inI i n) (.ret [(.tmp d, .ptr m (j :: (q ++ [i.toNat])))]))
            | _ => .fail
          | [] => .fail
        | _ => match t.tyAt p with
          | some (.arr n' _) => Rd.guard (Nat.beq n' n) (Rd.need (inI i n) (.ret [(.tmp d, .ptr m (p ++ [i.toNat]))]))
          | _ => .fail
      | _ => .get (.obj m) fun c => match c with
        | .frzc _ t _ => match p with
          | j :: q => match t.tyAt q with
            | some (.arr n' _) => Rd.guard (Nat.beq n' n) (Rd.need (inI i n) (.ret [(.tmp d, .ptr m (j :: (q ++ [i.toNat])))]))
            | _ => .fail
          | [] => .fail
        | _ => .fail
    | _ => .fail
  | .eptr f (.arr n k) l => Rd.guard (isTy E T (.arr n k)) (Rd.need (inI i n) (.opt (getI (show List Int from l) i) fun e => .ret [(.tmp d, .eptr f (.int k) e)]))
  | _ => .fail

def fieldAddrV (E : Env) (d : Nat) (T : TypeId) (x : V) (i : Nat) : Rd (List (Loc × V)) :=
  match x with
  | .ptr m p => .shp m fun c => match c with
    | .obj t sv => match sv with
      | .int _ _ => match p with
        | j :: q => match t.tyAt q with
          | some u => Rd.guard (isTy E T u) (match u with
            | .arr _ _ => .fail
            | u => match u.at [i] with
              | some (_, r) => Rd.guard (!Nat.beq r.size 0) (.ret [(.tmp d, .ptr m (j :: (q ++ [i])))])
              | none => .fail)
          | none => .fail
        | [] => .fail
      | _ => match t.tyAt p with
        | some u => Rd.guard (isTy E T u) (match u with
          | .arr _ _ => .fail
          | u => match u.at [i] with
            | some (_, r) => Rd.guard (!Nat.beq r.size 0) (.ret [(.tmp d, .ptr m (p ++ [i]))])
            | none => .fail)
        | none => .fail
    | _ => .get (.obj m) fun c => match c with
      | .frzc _ t _ => match p with
        | j :: q => match t.tyAt q with
          | some u => Rd.guard (isTy E T u) (match u with
            | .arr _ _ => .fail
            | u => match u.at [i] with
              | some (_, r) => Rd.guard (!Nat.beq r.size 0) (.ret [(.tmp d, .ptr m (j :: (q ++ [i])))])
              | none => .fail)
          | none => .fail
        | [] => .fail
      | _ => .fail
  | .eptr f t e => Rd.guard (isTy E T t) (match t.at [i], projE f t e i with
    | some (_, r), some u => Rd.guard (!Nat.beq r.size 0) (.ret [(.tmp d, u)])
    | _, _ => .fail)
  | _ => .fail

/-- What stands where a pointer leads, with its type. -/
def derefV (m : Nat) (p : List Nat) : Rd (Ty × V) :=
  .get (.obj m) fun c => match c with
    | .obj t v => match t.tyAt p with
      | some u => (look true v p).bind fun x => .ret (u, x)
      | none => .fail
    | .arrc f t l | .frzc f t l => match p with
      | i :: q => match t.tyAt q with
        | some u => .opt (l[i]?) fun e => (look f (expand f t e) q).bind fun x => .ret (u, x)
        | none => .fail
      | [] => .fail
    | _ => .fail

def gatherSl (f : Bool) (t : Ty) : V → Option (List t.den)
  | .sl f' t' l => if h : t' = t then (bif f' || !f then some (castL h l) else none) else none
  | .nils => some []
  | _ => none
def nodeO {α : Type} (k : V → List V → Option α) : V → Option α
  | .node vs => match vs with
    | v :: vs => k v vs
    | [] => none
  | _ => none
def gUnit : V → Option Unit
  | .node vs => match vs with
    | [] => some ()
    | _ :: _ => none
  | _ => none
def gInt (k : IntKind) : V → Option Int
  | .int k' n => if k' = k then some n else none
  | _ => none
def gBool : V → Option Bool
  | .bool b => some b
  | _ => none
def gStr : V → Option ByteArray
  | .str s => some s
  | _ => none
def gArr (n : Nat) (k : IntKind) : V → Option (List Int)
  | .arr n' k' l => if n' = n ∧ k' = k then some l else none
  | _ => none
/-- The datum that a value is; with `f`, all that it leads to is new. -/
def gatherF (f : Bool) : (t : Ty) → V → Option t.den
  | .unit => gUnit
  | .int k => gInt k
  | .bool => gBool
  | .str => gStr
  | .arr n k => gArr n k
  | .sl _ t => gatherSl f t
  | .prod a b => nodeO fun v vs => (gatherF f a v).bind fun x => (gatherF f b (.node vs)).map fun y => (x, y)
  | .opq => fun _ => none
  | .ifc => fun _ => none

/-- The content of object m with v at p (v of the type u there): what changes. -/
def storeV (m : Nat) (p : List Nat) (u : Ty) (v : V) : Rd (List (Loc × V)) :=
  .get (.obj m) fun c => match c with
    | .obj t x => match t.tyAt p with
      | some u' => if u' = u ∧ conf u v = true then
          match putAt x p v with
          | some x' => .ret [(.obj m, .obj t x')]
          | none => .fail
        else .fail
      | none => .fail
    | .arrc f t l => match p with
      | i :: q => match t.tyAt q with
        | some u' => if u' = u then
            (takeV u v).bind fun k => Rd.guard (k.bor.all fun q => !Nat.beq q.1 m) <| match k.own, k.vars with
              | [], [] => .opt (l[i]?) fun e => match putAt (expand (f && k.fr) t e) q (expand (f && k.fr) u k.x) with
                | some y => match gatherF (f && k.fr) t y with
                  | some e' => .ret ((.obj m, .arrc (f && k.fr) t (l.set i e')) :: frzs k.bor)
                  | none => .fail
                | none => .fail
              | _, _ => .fail
          else .fail
        | none => .fail
      | [] => .fail
    | _ => .fail

def loadV (E : Env) (T : TypeId) (x : V) : Rd V :=
  match E.tab T with
  | none => .fail
  | some t => match x with
    | .ptr m p => (derefV m p).bind fun r => if r.1 = t then .ret r.2 else .fail
    | .eptr f u e => if h : u = t then .ret (expand f t (castD h e)) else .fail
    | .vap m p lo n => match t with
      | .arr n' k' => if n' = n then
          .get (.obj m) fun c => match c with
            | .obj _ v => (look true v p).bind fun u => match u with
              | .arr _ k l => if k = k' then .ret (.arr n k (cut l lo (lo + n))) else .fail
              | _ => .fail
            | .arrc _ (.int k) l | .frzc _ (.int k) l => if k = k' then .ret (.arr n k (cut (show List Int from l) lo (lo + n))) else .fail
            | _ => .fail
        else .fail
      | _ => .fail
    | _ => .fail

def elemsV (t : Ty) : List V → Rd (Tk (List t.den))
  | [] => .ret ⟨[], [], [], [], true⟩
  | v :: vs => (takeV t v).bind fun x => (elemsV t vs).bind fun y => .ret ⟨x.x :: y.x, x.own ++ y.own, x.bor ++ y.bor, x.vars ++ y.vars, x.fr && y.fr⟩

/-- Parts of a literal: number i is there? -/
def partsOf (n : Nat) (ps : List (Nat × V)) : List (Option V) := (List.range n).map fun i => (ps.find? fun q => Nat.beq q.1 i).map (·.2)

def evParts : List (Nat × Operand) → Rd (List (Nat × V))
  | [] => .ret []
  | (i, o) :: ps => (ev o).bind fun v => (evParts ps).bind fun vs => .ret ((i, v) :: vs)

/-- Parts put in, one by one. -/
def buildS (t : Ty) : List (Nat × V) → V → Option V
  | [], x => some x
  | (i, v) :: ps, x => match t.at [i] with
    | some (_, u) => match conf u v with
      | true => match putAt x [i] v with
        | some x' => buildS t ps x'
        | none => none
      | false => none
    | none => none

def sizeMax : Nat := 68719476736

def appendV (E : Env) (d : Nat) (T : TypeId) (s x : V) : Rd (List (Loc × V)) :=
  match E.tab T with
  | some (.sl _ t) =>
    let fin (f : Bool) (l : List t.den) (ks : List Nat) : Rd (List (Loc × V)) :=
      (takeSl .ro t x).bind fun y =>
        newN d <| Rd.need (decide (l.length + y.x.length ≤ sizeMax)) (.ret ((.tmp d, .own d) :: (.obj d, .arrc (f && (t.flat || y.fr)) t (l ++ y.x)) :: kills ks))
    match s with
    | .nils => fin true [] []
    | .own m => .get (.obj m) fun c => match c with
      | .arrc f t' l => if h : t' = t then fin f (castL h l) [m] else .fail
      | _ => .fail
    | _ => .fail
  | _ => .fail

/-- What is taken for a call: own rows, rows looked at, variables looked at, places that are written. -/
structure Tp (α : Type) where
  x : α
  own : List Nat
  bor : List (Nat × V)
  vars : List Nat
  places : List (Nat × Ty × Bool)

/-- Variables of a size that fits. -/
def smallVars {α : Type} : List Nat → Rd α → Rd α
  | [], k => k
  | m :: ms, k => .get (.obj m) fun c => match c with
    | .obj t _ => Rd.guard (Nat.ble t.size 65536) (smallVars ms k)
    | _ => .fail

/-- The arguments of a call. -/
def takeP : (ks : List PK) → List V → Rd (Tp (DP ks))
  | [], [] => .ret ⟨(), [], [], [], []⟩
  | .val t :: ks, v :: vs => (takeV t v).bind fun x => smallVars x.vars <| (takeP ks vs).bind fun y => match x.own with
    | [] => .ret ⟨(x.x, y.x), y.own, x.bor ++ y.bor, x.vars ++ y.vars, y.places⟩
    | _ => .fail
  | .rptr t :: ks, v :: vs => match v with
    | .eptr _ t' x => if h : t' = t then (takeP ks vs).bind fun y => .ret ⟨(castD h x, y.x), y.own, y.bor, y.vars, y.places⟩ else .fail
    | .ptr m p => (derefV m p).bind fun r => if r.1 = t then (takeV t r.2).bind fun x => smallVars x.vars <| (takeP ks vs).bind fun y => match x.own with
        | [] => .ret ⟨(x.x, y.x), y.own, x.bor ++ y.bor, m :: x.vars ++ y.vars, y.places⟩
        | _ => .fail
      else .fail
    | _ => .fail
  | .ptr t :: ks, v :: vs => match v with
    | .ptr m [] => .get (.obj m) fun c => match c with
      | .obj t' u => if t' = t.plain then (takeV t u).bind fun x => (takeP ks vs).bind fun y => match x.bor, x.vars with
        | [], [] => .ret ⟨(x.x, y.x), x.own ++ y.own, y.bor, y.vars, (m, t', true) :: y.places⟩
        | _, _ => .fail
        else .fail
      | _ => .fail
    | _ => .fail
  | .mut t :: ks, v :: vs => match v with
    | .own m => .get (.obj m) fun c => match c with
      | .arrc f t' l => if h : t' = t then (takeP ks vs).bind fun y => .ret ⟨(castL h l, y.x), y.own, y.bor, y.vars, (m, t', f) :: y.places⟩ else .fail
      | _ => .fail
    | _ => .fail
  | _, _ => .fail

def Ty.roish : Ty → Bool
  | .sl .ro _ | .sl .ownx _ => true
  | .prod a b => a.roish || b.roish
  | _ => false
def roishP : List PK → Bool
  | [] => false
  | .ptr t :: ks => t.roish || roishP ks
  | .mut t :: ks => !t.flat || roishP ks
  | _ :: ks => roishP ks

/-- What a call wrote. -/
def putO : (ks : List PK) → DO ks → List (Nat × Ty × Bool) → Nat → Option (List (Loc × V) × List (Loc × V))
  | [], _, [], _ => some ([], [])
  | .ptr t :: ks, o, (m, t', _) :: ps, n => match putV t o.1 n with
    | (v, d, n') => if conf t' v = true then (putO ks o.2 ps n').map fun r => ((.obj m, .obj t' v) :: r.1, d ++ r.2) else none
  | .mut t :: ks, o, (m, _, f) :: ps, n => (putO ks o.2 ps n).map fun r => ((.obj m, .arrc (f && t.flat) t o.1) :: r.1, r.2)
  | .val _ :: ks, o, ps, n => putO ks o ps n
  | .rptr _ :: ks, o, ps, n => putO ks o ps n
  | _, _, _, _ => none

/-- What a call answers. -/
def putR : (rs : List RK) → DR rs → Nat → Option (List V × List (Loc × V))
  | [], _, _ => some ([], [])
  | .val t :: rs, r, n => match putV t r.1 n with
    | (v, d, n') => (putR rs r.2 n').map fun q => (v :: q.1, d ++ q.2)
  | .drop :: rs, r, n => (putR rs r.2 n).map fun q => (.undef :: q.1, q.2)
  | .box t :: rs, r, n => match (show Option t.den from r.1) with
    | none => (putR rs r.2 n).map fun q => (.nilp :: q.1, q.2)
    | some x => match putV t x (n + 1) with
      | (v, d, n') => if conf t.plain v = true then (putR rs r.2 n').map fun q => (.ptr n [] :: q.1, (.obj n, .obj t.plain v) :: d ++ q.2) else none

/-- The same, a pointer that may be nil parted. -/
def putRK {α : Type} : (rs : List RK) → DR rs → Nat → (List V → List (Loc × V) → Rd α) → Rd α
  | [], _, _, k => k [] []
  | .val t :: rs, r, n, k => match putV t r.1 n with
    | (v, d, n') => putRK rs r.2 n' fun us e => k (v :: us) (d ++ e)
  | .drop :: rs, r, n, k => putRK rs r.2 n fun us e => k (.undef :: us) e
  | .box t :: rs, r, n, k => .alt (show Option t.den from r.1) (putRK rs r.2 n fun us e => k (.nilp :: us) e) fun x => match putV t x (n + 1) with
      | (v, d, n') => match conf t.plain v with
        | true => putRK rs r.2 n' fun us e => k (.ptr n [] :: us) ((.obj n, .obj t.plain v) :: d ++ e)
        | false => .fail

def oneV : List V → V
  | [v] => v
  | vs => .tup vs

/-- Are the names all unlike? -/
def unlike : List Nat → Bool
  | [] => true
  | x :: l => l.all (fun y => !Nat.beq x y) && unlike l

def Ty.fresh : Ty → Bool
  | .sl .own _ | .sl .fr _ => true
  | .sl _ _ => false
  | .prod a b => a.fresh && b.fresh
  | _ => true
def freshR : List RK → Bool
  | [] => true
  | .val t :: rs | .box t :: rs => t.fresh && freshR rs
  | .drop :: rs => freshR rs
/-- May what is looked at be led to, when the call is over? -/
def Callee.leads (c : Callee) : Bool := roishP c.ps || !freshR c.rs

def callV (c : Callee) (d : Nat) (vs : List V) : Rd (List (Loc × V)) :=
  (takeP c.ps vs).bind fun y =>
    let names := y.own ++ y.places.map (·.1)
    Rd.guard (unlike names && (y.bor.map (·.1) ++ y.vars).all (fun m => !names.any (Nat.beq m))) <|
    Rd.guard (!c.leads || y.vars.isEmpty) <|
    Rd.guard (Nat.blt d 5000) <|
    .opt (c.F y.x) fun r =>
      putRK c.rs r.2 (100000 + 64 * d) fun us d1 =>
        match putO c.ps r.1 y.places (100000 + 64 * d + d1.length) with
        | some (o1, o2) => Rd.guard (Nat.ble (d1.length + o2.length) 1000) (newNs (d1 ++ o2)
          (.ret ((.tmp d, oneV us) :: d1 ++ o1 ++ o2 ++ kills y.own ++ (if c.leads then frzs y.bor else []))))
        | none => .fail

def minI (a b : Int) : Int := if b < a then b else a
def maxI (a b : Int) : Int := if b > a then b else a

def builtinV (E : Env) (d : Nat) (b : Builtin) (Ts : Array TypeId) (vs : List V) : Rd (List (Loc × V)) :=
  match b, vs with
  | .len, [x] => match Ts[0]? with
    | some T => (lenV E T x).bind fun n => .ret [(.tmp d, .int .i64 n)]
    | none => .fail
  | .append, [s, x] => match Ts.toList with
    | [T, T'] => if T' = T then appendV E d T s x else .fail
    | _ => .fail
  | .min, [.int k a, .int k' b] => if k' = k then .ret [(.tmp d, .int k (minI a b))] else .fail
  | .max, [.int k a, .int k' b] => if k' = k then .ret [(.tmp d, .int k (maxI a b))] else .fail
  | _, _ => .fail

/-- One operation with a result, that no call is. -/
def copV (E : Env) (d : Nat) (op : Op) : Rd (List (Loc × V)) :=
  match op with
  | .alloc T => match E.tab T with
    | some t => newN d (.ret [(.tmp d, .ptr d []), (.obj d, .obj t (zeroV t))])
    | none => .fail
  | .box T x => match E.tab T with
    | some t => (ev x).bind fun v => Rd.guard (conf t v) (newN d (.ret [(.tmp d, .ptr d []), (.obj d, .obj t v)]))
    | none => .fail
  | .build T ps => match E.tab T with
    | some t => Rd.guard t.isAgg ((evParts ps.toList).bind fun vs => match buildS t vs (zeroV t) with
      | some v => .ret [(.tmp d, v)]
      | none => .fail)
    | none => .fail
  | .buildSlice T n ps => match E.tab T with
    | some (.sl _ t) => (evParts ps.toList).bind fun vs =>
        if vs.map (·.1) = List.range n ∧ n * t.size ≤ 65536 then
          (elemsV t (vs.map (·.2))).bind fun y => match y.own, y.vars with
            | [], [] => newN d (.ret ((.tmp d, .own d) :: (.obj d, .arrc y.fr t y.x) :: frzs y.bor))
            | _, _ => .fail
        else .fail
    | _ => .fail
  | .load T a => (ev a).bind fun v => (loadV E T v).bind fun u => .ret [(.tmp d, u)]
  | .binOp op T x y _ => (ev x).bind fun a => (ev y).bind fun b => (binV E op T a b).bind fun v => .ret [(.tmp d, v)]
  | .unOp op _ x => (ev x).bind fun a => (unV op a).bind fun v => .ret [(.tmp d, v)]
  | .convert T' T x => (ev x).bind fun a => match a, E.tab T', E.tab T with
    | .int _ n, some (.int _), some (.int k) => .ret [(.tmp d, .int k (k.wrap n))]
    | _, _, _ => .fail
  | .sliceToArrayPointer T x => (ev x).bind fun v => arrayPtrV E d T v
  | .slice T x lo hi none => (ev x).bind fun v => sliceV E d T v lo hi
  | .slice T x lo (some hi) (some mx) => (ev x).bind fun v => (bound 0 lo).bind fun p => (bound 0 (some hi)).bind fun q => (bound 0 (some mx)).bind fun r =>
      Rd.guard (p == 0 && q == 0 && r == 0) (emptyV E d T v)
  | .fieldAddr T x i => (ev x).bind fun v => fieldAddrV E d T v i
  | .indexAddr T x i => (ev x).bind fun v => (ev i).bind fun vi => (asI vi).bind fun n => indexAddrV E d T v n
  | .index T x i => (ev x).bind fun v => (ev i).bind fun vi => (asI vi).bind fun n => (indexV E T v n).bind fun u => .ret [(.tmp d, u)]
  | .extract x i => (ev x).bind fun v => match v with
    | .tup vs => match vs[i]? with
      | some u => .ret [(.tmp d, u)]
      | none => .fail
    | _ => .fail
  | .call c => match c.callee with
    | .value (.func f) => match E.call f with
      | some q => (evs c.args.toList).bind fun vs => callV q d vs
      | none => .fail
    | .builtin b => (evs c.args.toList).bind fun vs => builtinV E d b c.argTypes vs
    | _ => .fail
  | _ => .fail

/-- One operation: what changes. -/
def cop (E : Env) (o : Oper) : Rd (List (Loc × V)) :=
  match o.op with
  | .move x | .assign x => (ev x).bind fun v => .ret (set? o.dst v)
  | .store T a x => (ev a).bind fun va => (ev x).bind fun vx => match va, E.tab T, o.dst with
    | .ptr m p, some t, none => storeV m p t vx
    | _, _, _ => .fail
  | .nilCheck x => (ev x).bind fun v => match v with
    | .ptr _ _ | .eptr _ _ _ => .ret (set? o.dst v)
    | _ => .fail
  | op => match o.dst with
    | none => .fail
    | some d => copV E d op

/-- An operation, without its guard. -/
def runC {ω : Type} (E : Env) (o : Oper) (S : St) (K : List (Loc × V) → St → List Loc → Option ω) : Option ω :=
  match o.op with
  | .pick c a b => match c with
    | .tmp t => match S (.tmp t) with
      | .bool q => match q with
        | true => (ev a).runK (S.set (.tmp t) (.bool true)) [.tmp t] fun v rs => K (set? o.dst v) (S.set (.tmp t) (.bool true)) rs
        | false => (ev b).runK (S.set (.tmp t) (.bool false)) [.tmp t] fun v rs => K (set? o.dst v) (S.set (.tmp t) (.bool false)) rs
      | _ => none
    | _ => none
  | _ => (cop E o).runK S [] fun δ rs => K δ S rs

def dstOk (E : Env) (o : Oper) : Bool := match o.dst with
  | some d => Nat.blt d E.nt
  | none => true

/-- An operation with its guard. -/
def runG {ω : Type} (E : Env) (ops : Array Oper) (o : Oper) (S : St) (K : List (Loc × V) → St → List Loc → Option ω) : Option ω :=
  match dstOk E o with
  | false => none
  | true => match o.guard with
    | none => runC E o S K
    | some (j, want) => match (ops[j]?).bind (·.dst) with
      | some t => match S (.tmp t) with
        | .bool q => match q with
          | true => match want with
            | true => runC E o (S.set (.tmp t) (.bool true)) fun δ S' rs => K δ S' (.tmp t :: rs)
            | false => K (set? o.dst .skip) (S.set (.tmp t) (.bool true)) [.tmp t]
          | false => match want with
            | true => K (set? o.dst .skip) (S.set (.tmp t) (.bool false)) [.tmp t]
            | false => runC E o (S.set (.tmp t) (.bool false)) fun δ S' rs => K δ S' (.tmp t :: rs)
        | .skip => K (set? o.dst .skip) S [.tmp t]
        | _ => none
      | none => none

/-- Operations in the order of the text. -/
def execOps {ω : Type} (E : Env) (ops : Array Oper) : List Oper → St → (St → Option ω) → Option ω
  | [], S, K => K S
  | o :: rest, S, K => runG E ops o S fun δ S' _ => execOps E ops rest (S'.apply δ) K

def meets (a b : List Loc) : Bool := a.any fun x => b.any (Loc.beq x)

/-- What stands ahead of each operation, over however many edges. -/
def edgeBits (acc : List Nat) (o : Oper) : Nat := o.after.toList.foldl (fun s e => bif Region.binds .any e then s ||| 2 ^ e.on ||| acc.getD e.on 0 else s) 0
def bfs : List Oper → List Nat → List Nat
  | [], acc => acc
  | o :: rest, acc => bfs rest (acc ++ [edgeBits acc o])

/-- May two operations, the first ahead in the text, change places? -/
def apart (a b : List Loc × List Loc) : Bool := !(meets a.2 b.1 || meets a.2 b.2 || meets a.1 b.2)
/-- Of operations in the order of the text, with what they looked at and what they wrote: may each order that the edges let have been taken? -/
def freeFrom (bf : List Nat) (i : Nat) (a : List Loc × List Loc) : Nat → List (List Loc × List Loc) → Bool
  | _, [] => true
  | j, b :: rest => ((bf.getD j 0).testBit i || apart a b) && freeFrom bf i a (j + 1) rest
def freeOrder (bf : List Nat) : Nat → List (List Loc × List Loc) → Bool
  | _, [] => true
  | i, a :: rest => freeFrom bf i a (i + 1) rest && freeOrder bf (i + 1) rest

/-- Do all edges lead back? -/
def backs : List Oper → Nat → Bool
  | [], _ => true
  | o :: rest, i => o.after.toList.all (fun e => !Region.binds .any e || Nat.blt e.on i) && backs rest (i + 1)

/-- Whose shape may have changed. -/
def shps : List (Loc × V) → List Loc
  | [] => []
  | (.obj m, _) :: δ => .obj (shpName + m) :: shps δ
  | (.tmp _, _) :: δ => shps δ
/-- What counts as written: a store keeps the shape of what it writes. -/
def wrOf (o : Oper) (δ : List (Loc × V)) : List Loc := δ.map (·.1) ++ (match o.op with
  | .store _ _ _ => shps δ.tail
  | _ => shps δ)

def execDraw {ω : Type} (E : Env) (ops : Array Oper) : List Oper → St → List (List Loc × List Loc) → (St → Option ω) → Option ω
  | [], S, acc, K => match backs ops.toList 0 && freeOrder (bfs ops.toList []) 0 acc.reverse with
    | true => K S
    | false => none
  | o :: rest, S, acc, K => runG E ops o S fun δ S' rs => execDraw E ops rest (S'.apply δ) ((rs, wrOf o δ) :: acc) K

def Tk.and {α β : Type} (x : Tk α) (y : Tk β) : Tk (α × β) := ⟨(x.x, y.x), x.own ++ y.own, x.bor ++ y.bor, x.vars ++ y.vars, x.fr && y.fr⟩

def isPtr (m : Nat) (p : List Nat) : V → Bool
  | .ptr m' p' => Nat.beq m' m && decide (p' = p)
  | _ => false
def isOwn (m : Nat) : V → Bool
  | .own m' => Nat.beq m' m
  | _ => false
def asEpt (f : Bool) (t : Ty) : V → Option t.den
  | .eptr f' t' x => if h : t' = t then (bif f' || !f then some (castD h x) else none) else none
  | _ => none
def takeObj (t : Ty) : V → Rd (Tk t.den)
  | .obj u c => if u = t.plain then takeV t c else .fail
  | _ => .fail
def takeRow (t : Ty) : V → Option (List t.den)
  | .arrc _ t' l => if h : t' = t then some (castL h l) else none
  | _ => none

/-- The values of slots, read. -/
def readS : (ss : List Slot) → Rd (Tk (DS ss))
  | [] => .ret ⟨(), [], [], [], true⟩
  | .tmp i t :: ss => .get (.tmp i) fun v => (takeV t v).bind fun x => (readS ss).bind fun y => .ret (x.and y)
  | .ept i f t :: ss => .get (.tmp i) fun v => match asEpt f t v with
    | some x => (readS ss).bind fun y => .ret (Tk.and ⟨x, [], [], [], true⟩ y)
    | none => .fail
  | .fix i m p :: ss => .get (.tmp i) fun v => Rd.guard (isPtr m p v) (readS ss)
  | .fixo i m :: ss => .get (.tmp i) fun v => Rd.guard (isOwn m v) (readS ss)
  | .obj m t :: ss => .get (.obj m) fun v => (takeObj t v).bind fun x => (readS ss).bind fun y => .ret (x.and y)
  | .row m t :: ss => .get (.obj m) fun v => match takeRow t v with
    | some x => (readS ss).bind fun y => .ret (Tk.and ⟨x, [], [], [], true⟩ y)
    | none => .fail

/-- A state of the slots alone. -/
def mkS : (ss : List Slot) → DS ss → Nat → St
  | [], _, _ => fun _ => .undef
  | .tmp i t :: ss, x, n => match putV t x.1 n with
    | (v, d, n') => ((mkS ss x.2 n').apply d).set (.tmp i) v
  | .ept i f t :: ss, x, n => (mkS ss x.2 n).set (.tmp i) (.eptr f t x.1)
  | .fix i m p :: ss, x, n => (mkS ss x n).set (.tmp i) (.ptr m p)
  | .fixo i m :: ss, x, n => (mkS ss x n).set (.tmp i) (.own m)
  | .obj m t :: ss, x, n => match putV t x.1 n with
    | (v, d, n') => ((mkS ss x.2 n').apply d).set (.obj m) (.obj t.plain v)
  | .row m t :: ss, x, n => (mkS ss x.2 n).set (.obj m) (.arrc false t x.1)

def loopName : Nat := 200000

/-- How many rows of its own a datum of this type has at most. -/
def Ty.owns : Ty → Nat
  | .sl .own _ | .sl .ownx _ => 1
  | .prod a b => a.owns + b.owns
  | _ => 0
def ownsS : List Slot → Nat
  | [] => 0
  | .tmp _ t :: ss | .obj _ t :: ss => t.owns + ownsS ss
  | _ :: ss => ownsS ss
def keepS : List Slot → List Nat
  | [] => []
  | .obj m _ :: ss | .row m _ :: ss => m :: keepS ss
  | _ :: ss => keepS ss
/-- Are the slots well made? -/
def goodS (pars : List Nat) (ss : List Slot) : Bool := pars.all (fun m => (keepS ss).any (Nat.beq m)) && Nat.ble (ownsS ss) 1000 && (keepS ss).all (fun m => Nat.blt m loopName || Nat.ble parName m) && ss.all fun s => match s with
  | .tmp _ t | .obj _ t => t.plain.good
  | .fix _ m _ | .fixo _ m => (keepS ss).any (Nat.beq m)
  | _ => true

/-- To a loop's head: the values of its slots. -/
def atHead {ω : Type} (pars : List Nat) (ss : List Slot) (S : St) (K : DS ss → Option ω) : Option ω :=
  (readS ss).runK S [] fun y _ => match goodS pars ss && unlike (keepS ss ++ y.own) && (y.bor.all fun b => !(keepS ss ++ y.own).any (Nat.beq b.1)) && y.vars.isEmpty with
    | true => K y.x
    | false => none

/-- Rounds, at most so many. -/
def iter {α ω : Type} (step : (α → Option ω) → α → Option ω) : Nat → α → Option ω
  | 0, _ => none
  | n + 1, x => step (iter step n) x

def loopRun {ω : Type} (pars : List Nat) (ss : List Slot) (body : St → (Exit → St → Option ω) → Option ω) (n : Nat) (x : DS ss) (K : Exit → St → Option ω) : Option ω :=
  iter (fun ih x => body (mkS ss x loopName) fun e S => match e with
    | .normal => atHead pars ss S ih
    | e => K e S) n x

theorem loopRun_succ {ω : Type} (pars : List Nat) (ss : List Slot) (body : St → (Exit → St → Option ω) → Option ω) (n : Nat) (x : DS ss) (K : Exit → St → Option ω) :
    loopRun pars ss body (n + 1) x K = body (mkS ss x loopName) fun e S => match e with
      | .normal => atHead pars ss S fun x' => loopRun pars ss body n x' K
      | e => K e S := rfl

/-- `b`: the block that is next around. -/
def exec {ω : Type} (E : Env) (fuel : Nat) : Nat → Code → St → (Exit → St → Option ω) → Option ω
  | _, .skip, S, K => K .normal S
  | _, .region _ ops false, S, K => execOps E ops ops.toList S fun S' => K .normal S'
  | _, .region _ ops true, S, K => execDraw E ops ops.toList S [] fun S' => K .normal S'
  | b, .seq x y, S, K => exec E fuel b x S fun e S' => match e with
    | .normal => exec E fuel b y S' K
    | e => K e S'
  | b, .cond c x y, S, K => match c with
    | .tmp t => match S (.tmp t) with
      | .bool q => match q with
        | true => exec E fuel b x (S.set (.tmp t) (.bool true)) K
        | false => exec E fuel b y (S.set (.tmp t) (.bool false)) K
      | _ => none
    | _ => none
  | _, .block id c, S, K => exec E fuel id c S fun e S' => match e with
    | .exit i => match Nat.beq i id with
      | true => K .normal S'
      | false => K (.exit i) S'
    | e => K e S'
  | b, .loop c, S, K => atHead E.pars (E.slots b) S fun x => loopRun E.pars (E.slots b) (exec E fuel b c) fuel x K
  | _, .exit id, S, K => K (.exit id) S
  | _, .ret, S, K => K .ret S
  | _, _, _, _ => none

/-- The start of a call: parameters in their temporaries. -/
def startS : (ks : List PK) → DP ks → Nat → Nat → St
  | [], _, _, _ => fun _ => .undef
  | .val t :: ks, x, i, n => (startS ks x.2 (i + 1) n).set (.tmp i) (expand false t x.1)
  | .rptr t :: ks, x, i, n => (startS ks x.2 (i + 1) n).set (.tmp i) (.eptr false t x.1)
  | .ptr t :: ks, x, i, n => match putV t x.1 n with
    | (v, d, n') => (((startS ks x.2 (i + 1) n').apply d).set (.tmp i) (.ptr (parName + i) [])).set (.obj (parName + i)) (.obj t.plain v)
  | .mut t :: ks, x, i, n => ((startS ks x.2 (i + 1) n).set (.tmp i) (.own (parName + i))).set (.obj (parName + i)) (.arrc false t x.1)

/-- A result variable's value. -/
def resV (E : Env) : ResultVar → Rd V
  | .tmp t => rd (.tmp t)
  | .cell a T => (rd (.tmp a)).bind fun v => loadV E T v

def resVs (E : Env) : List ResultVar → Rd (List V)
  | [] => .ret []
  | r :: rs => (resV E r).bind fun v => (resVs E rs).bind fun vs => .ret (v :: vs)

def takeBox (t : Ty) : V → Rd (Tk (Option t.den))
  | .nilp => .ret ⟨none, [], [], [], true⟩
  | .ptr m p => match p with
    | [] => Rd.guard (Nat.blt m parName) <| .get (.obj m) fun c => (takeObj t c).bind fun x => .ret ⟨some x.x, m :: x.own, x.bor, x.vars, true⟩
    | _ => .fail
  | _ => .fail
/-- A result, taken. -/
def takeK : (r : RK) → V → Rd (Tk r.den)
  | .val t => fun v => takeV t v
  | .box t => fun v => takeBox t v
  | .drop => fun _ => .ret ⟨(), [], [], [], true⟩
/-- The results, taken. -/
def takeR : (rs : List RK) → List V → Rd (Tk (DR rs))
  | [], [] => .ret ⟨(), [], [], [], true⟩
  | r :: rs, v :: vs => (takeK r v).bind fun x => (takeR rs vs).bind fun y => .ret (x.and y)
  | _, _ => .fail

/-- What parameters' pointers lead to in the end. -/
def takeO : (ks : List PK) → Nat → Rd (Tk (DO ks))
  | [], _ => .ret ⟨(), [], [], [], true⟩
  | .ptr t :: ks, i => .get (.obj (parName + i)) fun c => (takeObj t c).bind fun x => (takeO ks (i + 1)).bind fun y => .ret (x.and y)
  | .mut t :: ks, i => .get (.obj (parName + i)) fun c => match takeRow t c with
    | some l => (takeO ks (i + 1)).bind fun y => .ret (Tk.and ⟨l, [], [], [], true⟩ y)
    | none => .fail
  | .val _ :: ks, i => takeO ks (i + 1)
  | .rptr _ :: ks, i => takeO ks (i + 1)

def parsOf : List PK → Nat → List Nat
  | [], _ => []
  | .ptr _ :: ks, i | .mut _ :: ks, i => (parName + i) :: parsOf ks (i + 1)
  | _ :: ks, i => parsOf ks (i + 1)

def goodR : List RK → Bool
  | [] => true
  | .val t :: rs | .box t :: rs => t.plain.good && goodR rs
  | .drop :: rs => goodR rs
def goodP : List PK → Bool
  | [] => true
  | .val t :: ks | .rptr t :: ks | .ptr t :: ks => t.plain.good && goodP ks
  | .mut t :: ks => t.good && !Nat.beq t.size 0 && goodP ks

/-- What parameters' pointers lead to in the end, under their names; and the rows therein. -/
def endO : (ks : List PK) → DO ks → Nat → Nat → List (Loc × V) × List (Loc × V)
  | [], _, _, _ => ([], [])
  | .ptr t :: ks, o, i, n => ((.obj (parName + i), .obj t.plain (putV t o.1 n).1) :: (endO ks o.2 (i + 1) (putV t o.1 n).2.2).1, (putV t o.1 n).2.1 ++ (endO ks o.2 (i + 1) (putV t o.1 n).2.2).2)
  | .mut t :: ks, o, i, n => ((.obj (parName + i), .arrc false t o.1) :: (endO ks o.2 (i + 1) n).1, (endO ks o.2 (i + 1) n).2)
  | .val _ :: ks, o, i, n => endO ks o (i + 1) n
  | .rptr _ :: ks, o, i, n => endO ks o (i + 1) n

/-- A function's run. -/
def execFn {ω : Type} (E : Env) (fuel : Nat) (fn : Func) (ps : List PK) (rs : List RK) (x : DP ps) (K : DO ps × DR rs → Option ω) : Option ω :=
  match fn.body, Nat.ble ps.length fn.ntmps && goodR rs && goodP ps && Nat.ble ps.length 500 with
  | some c, true => exec { E with nt := fn.ntmps, pars := parsOf ps 0 } fuel 0 c (startS ps x 0 (parName + 1000)) fun e S => match e with
    | .normal | .ret => ((resVs E fn.results.toList).bind fun vs => (takeR rs vs).bind fun r => (takeO ps 0).bind fun o => .ret (r, o)).runK S [] fun q _ =>
        match unlike (parsOf ps 0 ++ (q.1.own ++ q.2.own)) && (q.1.bor ++ q.2.bor).all (fun b => !(parsOf ps 0 ++ (q.1.own ++ q.2.own)).any (Nat.beq b.1)) && (q.1.vars ++ q.2.vars).isEmpty with
        | true => K (q.2.x, q.1.x)
        | false => none
    | _ => none
  | _, _ => none

end Go.Eng
