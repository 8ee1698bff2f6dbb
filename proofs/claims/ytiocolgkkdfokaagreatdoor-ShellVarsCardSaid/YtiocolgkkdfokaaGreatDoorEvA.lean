/-
  An abstract evaluator of the model's Go code: its definitions, and the laws of values and of memory. No condition.
-/
import GoSem.Step
import Derived.Orders
import Derived.Laws.Sem
import Derived.Laws.World
import Derived.Laws.Strings
import Derived.Laws.StructEq
/-! An abstract evaluator of the model's code: values whose addresses are block numbers of its own, slices of unknown capacity. -/
namespace Go.Ab
noncomputable section

inductive Res (α : Type) where
  | ok (a : α)
  | bad (why : String)
  deriving Inhabited

def Res.bind {α β : Type} (x : Res α) (f : α → Res β) : Res β :=
  match x with
  | .ok a => f a
  | .bad s => .bad s

def Res.ofOpt {α : Type} (x : Option α) (why : String) : Res α :=
  match x with
  | some a => .ok a
  | none => .bad why

/-! tries -/
inductive Tr (α : Type) where
  | e
  | n (v : Option α) (l r : Tr α)
  deriving Inhabited

def Tr.get {α : Type} : Tr α → Nat → Option α :=
  @Tr.rec α (fun _ => Nat → Option α) (fun _ => none)
    (fun v _ _ gl gr k => @Nat.rec (fun _ => Option α) v (fun k' _ => @Bool.rec (fun _ => Option α) (gr (Nat.div k' 2)) (gl (Nat.div k' 2)) (Nat.beq (Nat.mod k' 2) 0)) k)

def Tr.put {α : Type} (v : Option α) : Nat → Tr α → Nat → Tr α :=
  @Nat.rec (fun _ => Tr α → Nat → Tr α) (fun _ _ => .e)
    (fun _ ih t k => @Tr.rec α (fun _ => Tr α)
      (@Nat.rec (fun _ => Tr α) (.n v .e .e) (fun k' _ => @Bool.rec (fun _ => Tr α) (.n none .e (ih .e (Nat.div k' 2))) (.n none (ih .e (Nat.div k' 2)) .e) (Nat.beq (Nat.mod k' 2) 0)) k)
      (fun u l r _ _ => @Nat.rec (fun _ => Tr α) (.n v l r) (fun k' _ => @Bool.rec (fun _ => Tr α) (.n u l (ih r (Nat.div k' 2))) (.n u (ih l (Nat.div k' 2)) r) (Nat.beq (Nat.mod k' 2) 0)) k) t)

/-! values -/
inductive AV where
  | bool (b : Bool)
  | int (k : IntKind) (n : Int)
  | str (s : List UInt8)
  | pnil
  | ptr (b o : Nat)
  | snil
  | slice (b o n c : Nat)
  | slicev (b o n k : Nat)   -- capacity: that of the block, less k
  | slice0                   -- no elements, at some address, of some capacity
  | map (r : Option Nat)
  | chan (r : Option Nat)
  | func (fn : Fn) (first captured : List AV)
  | nilFunc
  | iface (t : TypeId) (v : AV)
  | nilIface
  | agg (cs : List AV)
  | tuple (vs : List AV)
  | tslice (b n : Nat)       -- a whole table that is read alone, from an offset that is not known
  | tptr (b o : Nat)         -- within such a table
  deriving Inhabited

def AV.undef : AV := .tuple []

def AV.cells : AV → List AV
  | .agg cs => cs
  | v => [v]

def AV.one : AV → Bool
  | .agg _ | .tuple _ => false
  | _ => true

def absL (f : Value → Option AV) : List Value → Option (List AV)
  | [] => some []
  | v :: vs => match f v with
    | none => none
    | some a => match absL f vs with
      | none => none
      | some l => some (a :: l)

/-- A constant, as a value here. -/
def absV : Nat → Value → Option AV
  | 0, _ => none
  | d + 1, v =>
    match v with
    | .bool b => some (.bool b)
    | .int k n => some (.int k n)
    | .string s => some (.str s.data.toList)
    | .pointer none => some .pnil
    | .slice none 0 0 => some .snil
    | .map none => some (.map none)
    | .chan none => some (.chan none)
    | .func fn a b => match absL (absV d) a.toList with
      | none => none
      | some a => match absL (absV d) b.toList with
        | none => none
        | some b => some (.func fn a b)
    | .nilFunc => some .nilFunc
    | .nilIface => some .nilIface
    | .agg cs => match absL (absV d) cs.toList with
      | none => none
      | some l => some (.agg l)
    | .tuple cs => match absL (absV d) cs.toList with
      | none => none
      | some l => some (.tuple l)
    | _ => none

mutual
/-- The same value, surely. -/
def AV.same : AV → AV → Bool
  | .bool a, .bool b => a == b
  | .int j a, .int k b => decide (j = k) && decide (a = b)
  | .str a, .str b => decide (a = b)
  | .pnil, .pnil => true
  | .ptr a b, .ptr c d => Nat.beq a c && Nat.beq b d
  | .snil, .snil => true
  | .slice a b c d, .slice a' b' c' d' => Nat.beq a a' && Nat.beq b b' && Nat.beq c c' && Nat.beq d d'
  | .slicev a b c d, .slicev a' b' c' d' => Nat.beq a a' && Nat.beq b b' && Nat.beq c c' && Nat.beq d d'
  | .map a, .map b => decide (a = b)
  | .chan a, .chan b => decide (a = b)
  | .func f a b, .func g c d => decide (f = g) && AV.sames a c && AV.sames b d
  | .nilFunc, .nilFunc => true
  | .iface t v, .iface u w => Nat.beq t u && AV.same v w
  | .nilIface, .nilIface => true
  | .agg a, .agg b => AV.sames a b
  | .tuple a, .tuple b => AV.sames a b
  | .tslice a b, .tslice c d => Nat.beq a c && Nat.beq b d
  | .tptr a b, .tptr c d => Nat.beq a c && Nat.beq b d
  | _, _ => false
def AV.sames : List AV → List AV → Bool
  | [], [] => true
  | a :: x, b :: y => AV.same a b && AV.sames x y
  | _, _ => false
end

/-! memory -/
/-- clean: no cell is frozen, nor any beside them · marked: no cell is frozen · ro: not to be written -/
inductive Md where
  | clean | marked | ro
  deriving DecidableEq, Inhabited

inductive AO where
  | cells (cs : List AV) (elem : TypeId) (flex : Option Nat) (m : Md)
  | map (es : List (AV × AV × Nat)) (clock : Nat)
  | chan (cap : Nat) (closed : Bool) (sent received : Nat)   -- an empty one, no timer's
  | siter (s : List UInt8) (pos : Nat)
  | tab (cs : List AV)       -- read alone
  deriving Inhabited

structure St where
  heap : Tr AO
  next : Nat
  deriving Inhabited

def dep : Nat := 24

def St.set (s : St) (b : Nat) (o : AO) : St := { s with heap := s.heap.put (some o) dep b }
def St.drop (s : St) (b : Nat) : St := { s with heap := s.heap.put none dep b }
def St.new (s : St) (o : AO) : St := { heap := s.heap.put (some o) dep s.next, next := s.next + 1 }

/-- What the evaluator is told of the program. -/
structure Ctx where
  globs : Nat
  func : Nat → Option Func
  ext : Nat → Option (Nat × TypeId)   -- which of the known ones, and a type that it needs
  info : Nat → Option TypeInfo
  desc : Nat → Option TypeDesc
  plainEq : TypeId → Bool      -- a struct type that == takes field by field
  hook : Nat → Option (List AV → St → Res (AV × St))

variable (C : Ctx)

def Ctx.sz (t : TypeId) : Res Nat := (Res.ofOpt (C.info t) "info").bind fun i => .ok i.size
def Ctx.under (t : TypeId) : Res TypeDesc := Res.ofOpt (C.desc t) "desc"
def Ctx.agg (t : TypeId) : Res Bool := (C.under t).bind fun
  | .struct _ | .array _ _ => .ok true
  | _ => .ok false
def Ctx.zero (t : TypeId) : Res AV := (Res.ofOpt (C.info t) "info").bind fun i =>
  match i.zero with
  | none => .bad "zero"
  | some z => Res.ofOpt (absV 8 z) "zero: abs"

def lget {α : Type} : List α → Nat → Option α
  | [], _ => none
  | a :: l, n => match n with
    | 0 => some a
    | n + 1 => lget l n

/-- n from o on, all of them -/
def cut {α : Type} (l : List α) (o n : Nat) : Res (List α) :=
  let r := (l.drop o).take n
  cond (Nat.beq r.length n) (.ok r) (.bad "cut")

def splice {α : Type} (l : List α) (o : Nat) (vs : List α) : Res (List α) :=
  cond (Nat.ble (o + vs.length) l.length) (.ok (l.take o ++ vs ++ l.drop (o + vs.length))) (.bad "splice")

def loadN (s : St) (b o n : Nat) : Res (List AV) :=
  match s.heap.get b with
  | some (.cells cs _ _ _) => cut cs o n
  | _ => .bad "load: no cells"

def load1 (s : St) (b o : Nat) : Res AV :=
  match s.heap.get b with
  | some (.cells cs _ _ _) => Res.ofOpt (lget cs o) "load: no cell"
  | _ => .bad "load: no cells"

def loadV (s : St) (t : TypeId) (b o : Nat) : Res AV :=
  (C.agg t).bind fun
  | true => (C.sz t).bind fun n => (loadN s b o n).bind fun l => .ok (.agg l)
  | false => load1 s b o

def loadT (s : St) (t : TypeId) (b o : Nat) : Res AV :=
  match s.heap.get b with
  | some (.tab cs) => (C.agg t).bind fun
    | true => (C.sz t).bind fun n => (cut cs o n).bind fun l => .ok (.agg l)
    | false => Res.ofOpt (lget cs o) "load: no cell"
  | _ => .bad "load: no table"

def storeN (s : St) (b o : Nat) (vs : List AV) : Res St :=
  match s.heap.get b with
  | some (.cells cs e f m) =>
    match m with
    | .ro => .bad "store: read only"
    | m => cond (vs.all AV.one) ((splice cs o vs).bind fun cs => .ok (s.set b (.cells cs e f m))) (.bad "store: no one cell")
  | _ => .bad "store: no cells"

def storeV (s : St) (t : TypeId) (b o : Nat) (v : AV) : Res St :=
  (C.sz t).bind fun n =>
  let vs := v.cells
  cond (Nat.beq vs.length n) (storeN s b o vs) (.bad "store: size")

/-- a new row: its address -/
def newRow (s : St) (e : TypeId) (cs : List AV) : AV × St := (.ptr s.next 0, s.new (.cells cs e none .clean))

def part (t : TypeId) (cs : List AV) (o : Nat) : Res AV :=
  (C.agg t).bind fun
  | true => (C.sz t).bind fun n => (cut cs o n).bind fun l => .ok (.agg l)
  | false => Res.ofOpt (lget cs o) "part"

/-! integers -/
def ile : Int → Int → Bool
  | .ofNat a, .ofNat b => Nat.ble a b
  | .negSucc _, .ofNat _ => true
  | .ofNat _, .negSucc _ => false
  | .negSucc a, .negSucc b => Nat.ble b a

def ieq : Int → Int → Bool
  | .ofNat a, .ofNat b => Nat.beq a b
  | .negSucc a, .negSucc b => Nat.beq a b
  | _, _ => false

def inR (k : IntKind) (n : Int) : Bool :=
  match k, n with
  | .i64, .ofNat a => Nat.ble a 9223372036854775807
  | .i64, .negSucc a => Nat.ble a 9223372036854775807
  | .i32, .ofNat a => Nat.ble a 2147483647
  | .u8, .ofNat a => Nat.ble a 255
  | .u16, .ofNat a => Nat.ble a 65535
  | .u32, .ofNat a => Nat.ble a 4294967295
  | .u64, .ofNat a => Nat.ble a 18446744073709551615
  | _, _ => false

def wrapA (k : IntKind) (n : Int) : Int := cond (inR k n) n (k.wrap n)

def arith (op : BinOp) (k : IntKind) (x y : Int) : Res AV :=
  match op with
  | .add => .ok (.int k (wrapA k (x + y)))
  | .sub => .ok (.int k (wrapA k (x - y)))
  | .mul => .ok (.int k (wrapA k (x * y)))
  | .quo => cond (ieq y 0) (.bad "div by 0") (.ok (.int k (k.wrap (x.tdiv y))))
  | .rem => cond (ieq y 0) (.bad "div by 0") (.ok (.int k (x.tmod y)))
  | .and => .ok (.int k (k.wrap ((BitVec.ofInt k.bits x &&& BitVec.ofInt k.bits y).toNat)))
  | .or => .ok (.int k (k.wrap ((BitVec.ofInt k.bits x ||| BitVec.ofInt k.bits y).toNat)))
  | .xor => .ok (.int k (k.wrap ((BitVec.ofInt k.bits x ^^^ BitVec.ofInt k.bits y).toNat)))
  | .andNot => .ok (.int k (k.wrap ((BitVec.ofInt k.bits x &&& ~~~(BitVec.ofInt k.bits y)).toNat)))
  | .eql => .ok (.bool (ieq x y))
  | .neq => .ok (.bool (!ieq x y))
  | .lss => .ok (.bool (!ile y x))
  | .leq => .ok (.bool (ile x y))
  | .gtr => .ok (.bool (!ile x y))
  | .geq => .ok (.bool (ile y x))
  | _ => .bad "arith"

def shiftA (op : BinOp) (k : IntKind) (x y : Int) : Res AV :=
  cond (ile 0 y) (
    let n := min y.toNat k.bits
    match op with
    | .shl => .ok (.int k (k.wrap (x * 2 ^ n)))
    | .shr => .ok (.int k (x.fdiv (2 ^ n)))
    | _ => .bad "shift") (.bad "shift: negative")

def beq8 : List UInt8 → List UInt8 → Bool
  | [], [] => true
  | a :: x, b :: y => Nat.beq a.toNat b.toNat && beq8 x y
  | _, _ => false

def lss8 : List UInt8 → List UInt8 → Bool
  | _, [] => false
  | [], _ :: _ => true
  | a :: x, b :: y => cond (Nat.beq a.toNat b.toNat) (lss8 x y) (Nat.blt a.toNat b.toNat)

def strA (op : BinOp) (x y : List UInt8) : Res AV :=
  match op with
  | .add => cond (Nat.ble (x.length + y.length) 9223372036854775807) (.ok (.str (x ++ y))) (.bad "string: too long")
  | .eql => .ok (.bool (beq8 x y))
  | .neq => .ok (.bool (!beq8 x y))
  | .lss => .ok (.bool (lss8 x y))
  | .leq => .ok (.bool (lss8 x y || beq8 x y))
  | .gtr => .ok (.bool (!(lss8 x y || beq8 x y)))
  | .geq => .ok (.bool (!lss8 x y))
  | _ => .bad "strings"

def cleanAt (s : St) (b : Nat) : Bool :=
  match s.heap.get b with
  | some (.cells _ _ _ .clean) => true
  | _ => false

/-- == of two values of a type that has one cell, or of a struct of such -/
def eqOne (s : St) (d : TypeDesc) (x y : AV) : Res Bool :=
  match d, x, y with
  | .bool, .bool a, .bool b => .ok (a == b)
  | .int _, .int k a, .int k' b => cond (decide (k = k')) (.ok (ieq a b)) (.bad "==: kinds")
  | .string, .str a, .str b => .ok (beq8 a b)
  | .pointer _, .pnil, .pnil => .ok true
  | .pointer _, .pnil, .ptr _ _ => .ok false
  | .pointer _, .ptr _ _, .pnil => .ok false
  | .pointer e, .ptr a o, .ptr b p =>
    (C.sz e).bind fun n => cond (Nat.beq n 0) (.bad "==: pointers to nothing")
      (cond (Nat.beq a b) (.ok (Nat.beq o p)) (cond (cleanAt s a && cleanAt s b) (.ok false) (.bad "==: pointers")))
  | .interface _, .nilIface, .nilIface => .ok true
  | .interface _, .nilIface, .iface _ _ => .ok false
  | .interface _, .iface _ _, .nilIface => .ok false
  | .slice _, .snil, .snil => .ok true
  | .slice _, .snil, .slice _ _ _ _ => .ok false
  | .slice _, .snil, .slicev _ _ _ _ => .ok false
  | .slice _, .snil, .slice0 => .ok false
  | .slice _, .slice _ _ _ _, .snil => .ok false
  | .slice _, .slicev _ _ _ _, .snil => .ok false
  | .slice _, .slice0, .snil => .ok false
  | .map _ _, .map none, .map b => .ok b.isNone
  | .map _ _, .map (some _), .map none => .ok false
  | .chan _ _, .chan none, .chan b => .ok b.isNone
  | .chan _ _, .chan (some _), .chan none => .ok false
  | .func _ _ _, .nilFunc, .nilFunc => .ok true
  | .func _ _ _, .nilFunc, .func _ _ _ => .ok false
  | .func _ _ _, .func _ _ _, .nilFunc => .ok false
  | _, _, _ => .bad "=="

def single (d : TypeDesc) : Bool :=
  match d with
  | .struct _ | .array _ _ => false
  | _ => true

/-- the parts of a struct without a field named _ , in order -/
def eqFields (s : St) (xs ys : List AV) : List Field → Res Bool
  | [] => .ok true
  | f :: fs =>
    cond (f.name == "_") (eqFields s xs ys fs) <|
    (C.under f.type).bind fun d => cond (single d) (
    (Res.ofOpt (lget xs f.offset) "==: field").bind fun x =>
    (Res.ofOpt (lget ys f.offset) "==: field").bind fun y =>
    (eqOne C s d x y).bind fun
      | true => eqFields s xs ys fs
      | false => .ok false) (.bad "==: a part of several cells")

def eqA (s : St) (t : TypeId) (x y : AV) : Res Bool :=
  (C.under t).bind fun d =>
  match d, x, y with
  | .struct fs, .agg xs, .agg ys => cond (C.plainEq t) (eqFields C s xs ys fs.toList) (.bad "== of structs")
  | d, x, y => eqOne C s d x y

def isConst : Operand → Bool
  | .const _ => true
  | _ => false

def bothNil (x y : AV) : Bool :=
  match x, y with
  | .nilIface, .nilIface => true
  | _, _ => false

/-- == and != of what is neither numbers nor strings -/
def eqB (s : St) (t : TypeId) (ox oy : Operand) (x y : AV) : Res Bool :=
  cond (bothNil x y && !(isConst ox || isConst oy)) (.bad "== of nil interfaces") (eqA C s t x y)

def binA (s : St) (op : BinOp) (t : TypeId) (ox oy : Operand) (x y : AV) : Res AV :=
  match x with
  | .int k a => (match y with
    | .int k' b => (match op with
      | .shl => shiftA .shl k a b
      | .shr => shiftA .shr k a b
      | op => cond (decide (k = k')) (arith op k a b) (.bad "kinds"))
    | _ => .bad "binop")
  | .str a => (match y with
    | .str b => strA op a b
    | _ => .bad "binop")
  | x => (match op with
    | .eql => (eqB C s t ox oy x y).bind fun b => .ok (.bool b)
    | .neq => (eqB C s t ox oy x y).bind fun b => .ok (.bool (!b))
    | _ => .bad "binop")

/-! slices -/
def bnd (x : AV) (y : Nat) : Res Nat :=
  match x with
  | .int _ (.ofNat a) => cond (Nat.ble a y) (.ok a) (.bad "slice bound")
  | _ => .bad "slice bound"

def bndO (x : Option AV) (y dflt : Nat) : Res Nat :=
  match x with
  | none => .ok dflt
  | some v => bnd v y

/-- low, high, max; rb: what they may come to -/
def bounds (lo hi mx : Option AV) (rb len cap : Nat) : Res (Nat × Nat × Nat) :=
  match mx with
  | none => (bndO hi rb len).bind fun h => (bndO lo h 0).bind fun l => .ok (l, h, cap)
  | some m => match hi with
    | none => .bad "slice: max without high"
    | some hi => (bnd m rb).bind fun m => (bnd hi m).bind fun h => (bndO lo h 0).bind fun l => .ok (l, h, m)

/-- how many elements a slice of unknown capacity surely has room for -/
def surely (s : St) (b o n k z : Nat) : Nat :=
  match s.heap.get b with
  | some (.cells cs _ (some z') _) => cond (Nat.beq z z' && Nat.beq o (k * z) && Nat.blt 0 z) (cond (Nat.ble n (Nat.div (cs.length - o) z)) (Nat.div (cs.length - o) z) n) n
  | _ => n

def sliceA (s : St) (t : TypeId) (x : AV) (lo hi mx : Option AV) : Res AV :=
  (C.under t).bind fun d =>
  match d, x with
  | .string, .str s => cond mx.isNone ((bounds lo hi none s.length s.length s.length).bind fun p => .ok (.str ((s.take p.2.1).drop p.1))) (.bad "slice: three of a string")
  | .slice e, .snil => (C.sz e).bind fun _ => (bounds lo hi mx 0 0 0).bind fun _ => .ok .snil
  | .slice e, .slice b o n c => (bounds lo hi mx c n c).bind fun p => (C.sz e).bind fun z =>
    .ok (.slice b (cond (Nat.beq p.2.2 p.1) o (o + p.1 * z)) (p.2.1 - p.1) (p.2.2 - p.1))
  | .slice e, .slicev b o n k => (C.sz e).bind fun z =>
    let r := surely s b o n k z
    (bounds lo hi mx r n 0).bind fun p =>
    match mx with
    | some _ => .ok (.slice b (cond (Nat.beq p.2.2 p.1) o (o + p.1 * z)) (p.2.1 - p.1) (p.2.2 - p.1))
    | none => cond (Nat.beq p.1 0) (.ok (.slicev b o p.2.1 k)) (cond (Nat.blt p.1 r) (.ok (.slicev b (o + p.1 * z) (p.2.1 - p.1) (k + p.1))) (.ok .slice0))
  | .slice e, .slice0 => (C.sz e).bind fun _ => cond mx.isNone ((bounds lo hi none 0 0 0).bind fun _ => .ok .slice0) (.bad "slice: three of an empty one")
  | .array n e, .ptr b o => (bounds lo hi mx n n n).bind fun p => (C.sz e).bind fun z =>
    .ok (.slice b (cond (Nat.beq p.2.2 p.1) o (o + p.1 * z)) (p.2.1 - p.1) (p.2.2 - p.1))
  | _, _ => .bad "slice"

def idx (x : AV) (n : Nat) : Res Nat :=
  match x with
  | .int _ (.ofNat a) => cond (Nat.blt a n) (.ok a) (.bad "index")
  | _ => .bad "index"

def indexAddrA (t : TypeId) (x i : AV) : Res AV :=
  (C.under t).bind fun d =>
  match d, x with
  | .array n e, .ptr b o => (idx i n).bind fun i => (C.sz e).bind fun z => .ok (.ptr b (o + i * z))
  | .array n e, .tptr b o => (idx i n).bind fun i => (C.sz e).bind fun z => .ok (.tptr b (o + i * z))
  | .slice e, .slice b o n _ => (idx i n).bind fun i => (C.sz e).bind fun z => .ok (.ptr b (o + i * z))
  | .slice e, .slicev b o n _ => (idx i n).bind fun i => (C.sz e).bind fun z => .ok (.ptr b (o + i * z))
  | .slice e, .tslice b n => (idx i n).bind fun i => (C.sz e).bind fun z => .ok (.tptr b (i * z))
  | _, _ => .bad "indexAddr"

def indexA (t : TypeId) (x i : AV) : Res AV :=
  (C.under t).bind fun d =>
  match d, x with
  | .array n e, .agg cs => (idx i n).bind fun i => (C.sz e).bind fun z => part C e cs (i * z)
  | .string, .str s => (idx i s.length).bind fun i => (Res.ofOpt (lget s i) "index").bind fun b => .ok (.int .u8 b.toNat)
  | _, _ => .bad "index"

def fieldAddrA (t : TypeId) (x : AV) (f : Nat) : Res AV :=
  (C.under t).bind fun
  | .struct fs => (Res.ofOpt (fs[f]?) "field").bind fun f => (C.sz f.type).bind fun z =>
    cond (Nat.beq z 0) (.bad "field of no size") (match x with
      | .ptr b o => .ok (.ptr b (o + f.offset))
      | _ => .bad "fieldAddr")
  | _ => .bad "fieldAddr"

def fieldA (t : TypeId) (x : AV) (f : Nat) : Res AV :=
  (C.under t).bind fun
  | .struct fs => (Res.ofOpt (fs[f]?) "field").bind fun f => match x with
      | .agg cs => part C f.type cs f.offset
      | _ => .bad "field"
  | _ => .bad "field"

/-! maps -/
def sameKey (x y : AV) : Option Bool :=
  match x, y with
  | .int k a, .int k' b => cond (decide (k = k')) (some (ieq a b)) none
  | .str a, .str b => some (beq8 a b)
  | .bool a, .bool b => some (a == b)
  | _, _ => none

def plainKey (d : TypeDesc) : Bool :=
  match d with
  | .int _ | .string | .bool => true
  | _ => false

def findA (k : AV) : List (AV × AV × Nat) → Nat → Res (Option (Nat × AV))
  | [], _ => .ok none
  | e :: es, i =>
    match sameKey k e.1 with
    | some true => .ok (some (i, e.2.1))
    | some false => findA k es (i + 1)
    | none => .bad "map: keys"

def mapKE (t : TypeId) : Res (TypeId × TypeId) :=
  (C.under t).bind fun
  | .map k e => (C.under k).bind fun d => cond (plainKey d) (.ok (k, e)) (.bad "map: key's type")
  | _ => .bad "map type"

def keyFits (d : TypeDesc) (k : AV) : Bool :=
  match d, k with
  | .int _, .int _ _ => true
  | .string, .str _ => true
  | .bool, .bool _ => true
  | _, _ => false

def entriesOf (s : St) (r : Nat) : Res (List (AV × AV × Nat) × Nat) :=
  match s.heap.get r with
  | some (.map es c) => .ok (es, c)
  | _ => .bad "no map"

def lookupA (s : St) (t : TypeId) (x k : AV) (ok : Bool) : Res AV :=
  (mapKE C t).bind fun (kt, e) =>
  (C.under kt).bind fun kd =>
  cond (keyFits kd k) (
    (show Res (List (AV × AV × Nat)) from match x with
      | .map none => .ok []
      | .map (some r) => (entriesOf s r).bind fun p => .ok p.1
      | _ => .bad "lookup").bind fun es =>
    (findA k es 0).bind fun
      | some (_, v) => .ok (cond ok (.tuple [v, .bool true]) v)
      | none => (C.zero e).bind fun z => .ok (cond ok (.tuple [z, .bool false]) z)) (.bad "lookup: key")

def lset {α : Type} : List α → Nat → α → List α
  | [], _, _ => []
  | a :: l, n, b => match n with
    | 0 => b :: l
    | n + 1 => a :: lset l n b

def mapSet (s : St) (t : TypeId) (x k v : AV) : Res St :=
  (mapKE C t).bind fun (kt, _) =>
  (C.under kt).bind fun kd =>
  cond (keyFits kd k) (
    match x with
    | .map (some r) => (entriesOf s r).bind fun (es, c) =>
      (findA k es 0).bind fun
        | some (i, _) => (Res.ofOpt (lget es i) "map").bind fun e => .ok (s.set r (.map (lset es i (k, v, e.2.2)) c))
        | none => .ok (s.set r (.map (es ++ [(k, v, c)]) (c + 1)))
    | _ => .bad "map update") (.bad "map update: key")

/-! literals -/
def fillA (place : Nat → Option (Nat × Nat)) (cells : List AV) : List (Nat × AV) → Res (List AV)
  | [] => .ok cells
  | (i, v) :: rest =>
    match place i with
    | none => .bad "build: place"
    | some (o, z) =>
      let vs := v.cells
      cond (Nat.beq vs.length z) ((splice cells o vs).bind fun cs => fillA place cs rest) (.bad "build: size")

def fieldPlaces : List Field → Res (List (Nat × Nat))
  | [] => .ok []
  | f :: fs => (C.sz f.type).bind fun z => (fieldPlaces fs).bind fun l => .ok ((f.offset, z) :: l)

def buildA (t : TypeId) (parts : List (Nat × AV)) : Res AV :=
  (C.zero t).bind fun z => (C.under t).bind fun
  | .struct fs => (fieldPlaces C fs.toList).bind fun ps => (fillA (lget ps) z.cells parts).bind fun cs => .ok (.agg cs)
  | .array _ e => (C.sz e).bind fun n => (fillA (fun i => some (i * n, n)) z.cells parts).bind fun cs => .ok (.agg cs)
  | _ => .bad "build"

def rep {α : Type} : Nat → List α → List α
  | 0, _ => []
  | n + 1, l => l ++ rep n l

/-- the cells of an element's zero value: as many as an element has, and not too many bytes -/
def zeroE (e : TypeId) : Res (List AV × Nat) :=
  (Res.ofOpt (C.info e) "info").bind fun i => (C.zero e).bind fun z =>
  cond (Nat.beq z.cells.length i.size && Nat.ble i.bytes 1000000 && Nat.blt 0 i.size) (.ok (z.cells, i.size)) (.bad "elements")

/-- n zero values' cells, one behind the other -/
def zerosA (e : TypeId) (n : Nat) : Res (List AV) :=
  (zeroE C e).bind fun z => .ok (rep n z.1)

def buildSliceA (s : St) (t : TypeId) (len : Nat) (parts : List (Nat × AV)) : Res (AV × St) :=
  (C.under t).bind fun
  | .slice e => (C.sz e).bind fun n =>
    cond (Nat.beq n 0) (.bad "buildSlice: no size") <|
    cond (Nat.beq len 0) (match parts with | [] => .ok (.slice s.next 0 0 0, s.new (.cells [] e none .clean)) | _ => .bad "buildSlice") <|
    cond (Nat.ble (len * n) 16777216 && Nat.blt 0 len) ((zerosA C e len).bind fun zs =>
      (fillA (fun i => some (i * n, n)) zs parts).bind fun cs =>
      .ok (.slice s.next 0 len len, s.new (.cells cs e none .clean))) (.bad "buildSlice: size")
  | _ => .bad "buildSlice"

/-! append -/
def elemsOf (s : St) (z : Nat) (x : AV) : Res (Nat × List AV) :=
  match x with
  | .snil => .ok (0, [])
  | .slice0 => .ok (0, [])
  | .slice b o n _ => (loadN s b o (n * z)).bind fun l => .ok (n, l)
  | .slicev b o n _ => (loadN s b o (n * z)).bind fun l => .ok (n, l)
  | .str l => cond (Nat.beq z 1) (.ok (l.length, l.map fun b => .int .u8 b.toNat)) (.bad "append: a string to what?")
  | _ => .bad "append: what?"

/-- a row in the place of another one (or new): so many elements, of whatever capacity -/
def regrown (s : St) (old : Option Nat) (e : TypeId) (z : Nat) (m : Md) (n : Nat) (cs : List AV) : AV × St :=
  let s := match old with | some b => s.drop b | none => s
  (.slicev s.next 0 n 0, s.new (.cells cs e (some z) m))

/-- nothing is appended -/
def appendNone (s : St) (x : AV) : Res (AV × St) :=
  match x with
  | .snil => .ok (x, s)
  | .slice0 => .ok (x, s)
  | .slicev _ _ _ _ => .ok (x, s)
  | .slice _ _ n c => cond (Nat.ble n c) (.ok (x, s)) (.bad "append: length and capacity")
  | _ => .bad "append: to what?"

def appendA (s : St) (ts : TypeId) (x y : AV) : Res (AV × St) :=
  (C.under ts).bind fun
  | .slice e => (zeroE C e).bind fun p =>
    let z := p.2
    (elemsOf s z y).bind fun q =>
    let m := q.1
    let news := q.2
    cond (Nat.beq m 0) (appendNone s x) <|
    match x with
    | .snil => cond (Nat.ble m 1000000) (.ok (regrown s none e z .clean m news)) (.bad "append: large")
    | .slice b o n c =>
      cond (Nat.ble (n + m) c) ((storeN s b (o + n * z) news).bind fun s => .ok (.slice b o (n + m) c, s)) <|
      (loadN s b o (n * z)).bind fun olds =>
      cond (Nat.ble (n + m) 1000000) (.ok (regrown s none e z .clean (n + m) (olds ++ news))) (.bad "append: large")
    | .slicev b o n k =>
      match s.heap.get b with
      | some (.cells cs e' (some z') md) =>
        match md with
        | .ro => .bad "append: to what is shared"
        | md =>
        cond (Nat.beq z z') (
        cond (Nat.beq o (k * z) && Nat.ble (o + (n + m) * z) cs.length) ((storeN s b (o + n * z) news).bind fun s => .ok (.slicev b o (n + m) k, s)) <|
        cond (Nat.beq o 0 && Nat.beq k 0 && Nat.beq e e') (
          (loadN s b 0 (n * z)).bind fun olds =>
          cond (Nat.ble (n + m) 1000000) (cond (news.all AV.one) (.ok (regrown s (some b) e z md (n + m) (olds ++ news))) (.bad "append: no one cell")) (.bad "append: large")) (.bad "append: behind the head")) (.bad "append: sizes")
      | _ => .bad "append: to what is gone"
    | _ => .bad "append: to what?"
  | _ => .bad "append"

def copyA (s : St) (td : TypeId) (x y : AV) : Res (AV × St) :=
  (C.under td).bind fun
  | .slice e => (zeroE C e).bind fun p =>
    let z := p.2
    (elemsOf s z y).bind fun q =>
    match x with
    | .snil => .ok (.int .i64 0, s)
    | .slice0 => .ok (.int .i64 0, s)
    | .slice b o n _ => (storeN s b o (q.2.take (Nat.min q.1 n * z))).bind fun s => .ok (.int .i64 (Nat.min q.1 n), s)
    | .slicev b o n _ => (storeN s b o (q.2.take (Nat.min q.1 n * z))).bind fun s => .ok (.int .i64 (Nat.min q.1 n), s)
    | _ => .bad "copy"
  | _ => .bad "copy"

def lenA (s : St) (t : TypeId) (x : AV) : Res AV :=
  (C.under t).bind fun d =>
  match d, x with
  | .string, .str l => .ok (.int .i64 l.length)
  | .array n _, _ => .ok (.int .i64 n)
  | .slice _, .snil => .ok (.int .i64 0)
  | .slice _, .slice0 => .ok (.int .i64 0)
  | .slice _, .slice _ _ n _ => .ok (.int .i64 n)
  | .slice _, .slicev _ _ n _ => .ok (.int .i64 n)
  | .slice _, .tslice _ n => .ok (.int .i64 n)
  | .map _ _, .map none => .ok (.int .i64 0)
  | .map _ _, .map (some r) => (entriesOf s r).bind fun p => .ok (.int .i64 p.1.length)
  | _, _ => .bad "len"

def capA (t : TypeId) (x : AV) : Res AV :=
  (C.under t).bind fun d =>
  match d, x with
  | .array n _, _ => .ok (.int .i64 n)
  | .slice _, .snil => .ok (.int .i64 0)
  | .slice _, .slice _ _ _ c => .ok (.int .i64 c)
  | _, _ => .bad "cap"

def toBytes : List AV → Res (List UInt8)
  | [] => .ok []
  | .int .u8 (.ofNat n) :: l => cond (Nat.ble n 255) ((toBytes l).bind fun r => .ok (UInt8.ofNat n :: r)) (.bad "bytes: no byte")
  | _ => .bad "bytes"

def bytesA (s : St) (x : AV) : Res (List UInt8) :=
  match x with
  | .snil => .ok []
  | .slice0 => .ok []
  | .slice b o n _ => (loadN s b o n).bind toBytes
  | .slicev b o n _ => (loadN s b o n).bind toBytes
  | .str l => .ok l
  | _ => .bad "bytes"

end
end Go.Ab

namespace Go.Ab
noncomputable section
variable (C : Ctx)

structure ADef where
  fn : Fn
  captured : List AV
  args : List AV
  deriving Inhabited

/-- what one operation comes to -/
inductive OR where
  | val (v : AV) (s : St)
  | defer (d : ADef) (s : St)
  | enter (f : Nat) (args : List AV) (s : St)
  | recover
  | panic (v : AV)
  deriving Inhabited

def ok1 (r : Res AV) (s : St) : Res OR := r.bind fun v => .ok (.val v s)
def ok2 (r : Res (AV × St)) : Res OR := r.bind fun p => .ok (.val p.1 p.2)
def okS (r : Res St) : Res OR := r.bind fun s => .ok (.val .undef s)

def convA (s : St) (src dst : TypeId) (x : AV) : Res (AV × St) :=
  (C.under src).bind fun ds => (C.under dst).bind fun dd =>
  match dd, x with
  | .int k, .int _ n => .ok (.int k (wrapA k n), s)
  | .string, .str l => .ok (.str l, s)
  | .slice e, .str l => (C.under e).bind fun
    | .int .u8 => .ok (.slicev s.next 0 l.length 0, s.new (.cells (l.map fun b => .int .u8 b.toNat) e (some 1) .marked))
    | _ => .bad "convert: string to a slice"
  | .slice e, .slice b o n c => cond (Nat.beq src dst) ((C.under e).bind fun
    | .int .u8 => (match s.heap.get b with
      | some (.cells _ _ _ .ro) => .bad "convert: slices"
      | some (.cells cs e f _) => .ok (.slice b o n c, s.set b (.cells cs e f .marked))
      | _ => .bad "convert: slices")
    | _ => .bad "convert: slices") (.bad "convert: slices")
  | .slice e, .slicev b o n c => cond (Nat.beq src dst) ((C.under e).bind fun
    | .int .u8 => (match s.heap.get b with
      | some (.cells _ _ _ .ro) => .bad "convert: slices"
      | some (.cells cs e f _) => .ok (.slicev b o n c, s.set b (.cells cs e f .marked))
      | _ => .bad "convert: slices")
    | _ => .bad "convert: slices") (.bad "convert: slices")
  | .string, x => (match ds with
    | .slice e => (C.under e).bind fun
      | .int .u8 => (match x with
        | .str _ => .bad "convert"
        | x => (bytesA s x).bind fun l => .ok (.str l, s))
      | _ => .bad "convert: slice to string"
    | _ => .bad "convert: to string")
  | .unsafePointer, .pnil => (match ds with
    | .pointer _ => .ok (.pnil, s)
    | _ => .bad "convert: to unsafe")
  | .unsafePointer, .ptr b o => (match ds with
    | .pointer t => (C.sz t).bind fun z => cond (Nat.beq z 0) (.bad "convert: pointer to nothing") (match s.heap.get b with
      | some (.cells cs _ _ _) => cond (Nat.blt o cs.length) (.ok (.ptr b o, s)) (.bad "convert: pointer to nothing")
      | _ => .bad "convert: pointer")
    | _ => .bad "convert: to unsafe")
  | .pointer _, .pnil => (match ds with
    | .unsafePointer => .ok (.pnil, s)
    | _ => .bad "convert: from unsafe")
  | .pointer u, .ptr b o => (match ds with
    | .unsafePointer => (C.sz u).bind fun z => cond (Nat.beq z 0) (.bad "convert: pointer to nothing") (match s.heap.get b with
      | some (.cells cs e none _) => cond (Nat.beq e u && Nat.beq o 0 && Nat.beq cs.length z) (.ok (.ptr b o, s)) (.bad "convert: from unsafe, types")
      | _ => .bad "convert: pointer")
    | _ => .bad "convert: from unsafe")
  | _, _ => .bad "convert"

def foldMin : AV → List AV → Res AV
  | x, [] => .ok x
  | .int k a, .int _ b :: l => foldMin (.int k (cond (ile a b) a b)) l
  | _, _ => .bad "min"

def foldMax : AV → List AV → Res AV
  | x, [] => .ok x
  | .int k a, .int _ b :: l => foldMax (.int k (cond (ile b a) a b)) l
  | _, _ => .bad "max"

def clearA (s : St) (t : TypeId) (x : AV) : Res St :=
  (C.under t).bind fun d =>
  match d, x with
  | _, .snil => .ok s
  | _, .slice0 => .ok s
  | .slice e, .slice b o n _ => cond (Nat.beq n 0) (.ok s) ((zerosA C e n).bind fun zs => storeN s b o zs)
  | .slice e, .slicev b o n _ => cond (Nat.beq n 0) (.ok s) ((zerosA C e n).bind fun zs => storeN s b o zs)
  | _, _ => .bad "clear"

/-- bytes from an address on, as a string that shares them -/
def unsafeStringA (s : St) (pt : TypeId) (x n : AV) : Res (AV × St) :=
  match n with
  | .int .i64 (.ofNat n) =>
    (cond (Nat.ble n 9223372036854775807) (Res.ok ()) (.bad "unsafe.String: length")).bind fun _ =>
    match x with
    | .pnil => cond (Nat.beq n 0) (.ok (.str [], s)) (.bad "unsafe.String: nil")
    | .ptr b o => cond (Nat.beq n 0) (.ok (.str [], s)) <|
      (C.under pt).bind fun d =>
      match d with
      | .pointer u => (C.sz u).bind fun z =>
        match s.heap.get b with
        | some (.cells cs e f m) => cond (Nat.beq e u && Nat.beq z 1 && Nat.beq o 0 && !(match m with | .ro => true | _ => false)) (
            (cut cs o n).bind fun l => (toBytes l).bind fun l => .ok (.str l, s.set b (.cells cs e f .ro))) (.bad "unsafe.String: types")
        | _ => .bad "unsafe.String: no cells"
      | _ => .bad "unsafe.String"
    | _ => .bad "unsafe.String"
  | _ => .bad "unsafe.String"

def builtinA (s : St) (b : Builtin) (ats : List TypeId) (_type : TypeId) (args : List AV) : Res OR :=
  match b, ats, args with
  | .append, t :: u :: _, x :: y :: _ => (C.under u).bind fun
    | .int _ => .bad "append: of a make"
    | _ => ok2 (appendA C s t x y)
  | .len, t :: _, x :: _ => ok1 (lenA C s t x) s
  | .cap, t :: _, x :: _ => ok1 (capA C t x) s
  | .copy, t :: _, x :: y :: _ => ok2 (copyA C s t x y)
  | .clear, t :: _, x :: _ => (clearA C s t x).bind fun s => .ok (.val (.tuple []) s)
  | .min, _, x :: l => ok1 (foldMin x l) s
  | .max, _, x :: l => ok1 (foldMax x l) s
  | .recover, _, _ => .ok .recover
  | .unsafeSliceData, _, x :: [] => (match x with
    | .snil => .ok (.val .pnil s)
    | .slice b o _ c => cond (Nat.beq c 0) (.bad "unsafe.SliceData") (.ok (.val (.ptr b o) s))
    | .slicev b o n _ => cond (Nat.beq n 0) (.bad "unsafe.SliceData") (.ok (.val (.ptr b o) s))
    | _ => .bad "unsafe.SliceData")
  | .unsafeString, [t, _], [x, n] => ok2 (unsafeStringA C s t x n)
  | _, _, _ => .bad "builtin"

/-- where a byte stands first, from i on; -1: nowhere -/
def firstAt (c : Nat) : List UInt8 → Nat → Int
  | [], _ => -1
  | b :: l, i => cond (Nat.beq b.toNat c) i (firstAt c l (i + 1))

def cmpA : List UInt8 → List UInt8 → Int
  | [], [] => 0
  | [], _ :: _ => -1
  | _ :: _, [] => 1
  | a :: x, b :: y => cond (Nat.beq a.toNat b.toNat) (cmpA x y) (cond (Nat.blt a.toNat b.toNat) (-1) 1)

def externA (s : St) (code : Nat) (e : TypeId) (args : List AV) : Res OR :=
  match code, args with
  | 0, _ => .ok (.val (.tuple []) s)
  | 1, .ptr _ _ :: _ => .ok (.val (.tuple []) s)
  | 2, [.ptr b o, .int .i32 y] => (load1 s b o).bind fun
    | .int .i32 x => let v := AV.int .i32 (wrapA .i32 (x + y)); (storeN s b o [v]).bind fun s => .ok (.val v s)
    | _ => .bad "atomic"
  | 3, [.ptr b o, .int .i32 x, .int .i32 y] => (load1 s b o).bind fun
    | .int .i32 z => cond (ieq z x) ((storeN s b o [.int .i32 y]).bind fun s => .ok (.val (.bool true) s)) (.bad "CompareAndSwap: another value")
    | _ => .bad "atomic"
  | 4, [x, .int .u8 c] => (bytesA s x).bind fun l => .ok (.val (.int .i64 (firstAt (c.toNat % 256) l 0)) s)
  | 5, [x, y] => (bytesA s x).bind fun a => (bytesA s y).bind fun b => .ok (.val (.int .i64 (cmpA a b)) s)
  | 6, [x] => .ok (.val x s)
  | 7, [.iface t (.map (some r))] => (entriesOf s r).bind fun p => .ok (.val (.iface t (.map (some s.next))) (s.new (.map p.1 p.2)))
  | 8, [.int .i64 (.ofNat n)] => cond (Nat.ble n 1000000) (.ok (.val (.slicev s.next 0 n 0) (s.new (.cells [] e (some 1) .clean)))) (.bad "make: large")
  | _, _ => .bad "extern"

def callFn (s : St) (f : Nat) (args : List AV) : Res OR :=
  match C.func f with
  | some _ => .ok (.enter f args s)
  | none => match C.ext f with
    | some c => externA s c.1 c.2 args
    | none => .bad "call: no function"

def callMeth (s : St) (recv : AV) (name : String) (args : List AV) : Res OR :=
  match recv with
  | .iface t v =>
    (Res.ofOpt (C.info t) "info").bind fun i =>
    (Res.ofOpt (i.methods.find? (·.name == name)) "no method").bind fun m =>
    cond m.path.isEmpty (
      match m.func with
      | some (f, p) => (C.under t).bind fun d => match d, p with
        | .pointer _, true => callFn C s f (v :: args)
        | .pointer _, false => .bad "method: a value's by a pointer"
        | _, true => .bad "method: a pointer's"
        | _, false => callFn C s f (v :: args)
      | none => .bad "method: embedded") (.bad "method: a path")
  | _ => .bad "invoke: nil"

def invokeA (s : St) (fn : Fn) (captured args : List AV) : Res OR :=
  match fn with
  | .func f => callFn C s f (args ++ captured)
  | .method name => match args with
    | recv :: rest => callMeth C s recv name rest
    | [] => .bad "method: no receiver"
  | _ => .bad "invoke"

abbrev Env := Operand → Res AV

def evalO (C : Ctx) (tm : Tr AV) : Operand → Res AV
  | .tmp t => Res.ofOpt (tm.get t) "tmp"
  | .const v => Res.ofOpt (absV 8 v) "const"
  | .global g => cond (Nat.blt g C.globs) (.ok (.tptr g 0)) (.bad "global")
  | .func f => .ok (.func (.func f) [] [])

def mapO (ρ : Env) : List Operand → Res (List AV)
  | [] => .ok []
  | x :: xs => (ρ x).bind fun a => (mapO ρ xs).bind fun l => .ok (a :: l)

def mapP (ρ : Env) : List (Nat × Operand) → Res (List (Nat × AV))
  | [] => .ok []
  | x :: xs => (ρ x.2).bind fun a => (mapP ρ xs).bind fun l => .ok ((x.1, a) :: l)

def optO (ρ : Env) : Option Operand → Res (Option AV)
  | none => .ok none
  | some x => (ρ x).bind fun a => .ok (some a)

/-- a call's target and arguments; a builtin is carried out at once -/
def callA (s : St) (ρ : Env) (c : Call) (type : TypeId) : Res OR :=
  (mapO ρ c.args.toList).bind fun args =>
  match c.callee with
  | .builtin b => builtinA C s b c.argTypes.toList type args
  | .invoke r name => (ρ r).bind fun r => callMeth C s r name args
  | .value f => (ρ f).bind fun
    | .func fn first captured => invokeA C s fn captured (first ++ args)
    | _ => .bad "call: no function value"

def deferA (s : St) (ρ : Env) (c : Call) : Res OR :=
  (mapO ρ c.args.toList).bind fun args =>
  match c.callee with
  | .value f => (ρ f).bind fun
    | .func fn first captured => .ok (.defer ⟨fn, captured, first ++ args⟩ s)
    | _ => .bad "defer: no function value"
  | _ => .bad "defer"

/-- one operation -/
def opA (s : St) (ρ : Env) (o : Oper) : Res OR :=
  match o.op with
  | .move x => ok1 (ρ x) s
  | .assign x => ok1 (ρ x) s
  | .pick c a b => (ρ c).bind fun
    | .bool c => cond c (ok1 (ρ a) s) (ok1 (ρ b) s)
    | _ => .bad "pick"
  | .alloc e => (C.zero e).bind fun z => ok2 (.ok (newRow s e z.cells))
  | .box e x => (ρ x).bind fun v => ok2 (.ok (newRow s e v.cells))
  | .build t ps => (mapP ρ ps.toList).bind fun l => ok1 (buildA C t l) s
  | .buildSlice t n ps => (mapP ρ ps.toList).bind fun l => ok2 (buildSliceA C s t n l)
  | .load t a => (ρ a).bind fun
    | .ptr b o => ok1 (loadV C s t b o) s
    | .tptr b o => ok1 (loadT C s t b o) s
    | _ => .bad "load: no address"
  | .store t a x => (ρ a).bind fun
    | .ptr b o => (ρ x).bind fun v => okS (storeV C s t b o v)
    | _ => .bad "store: no address"
  | .nilCheck x => (ρ x).bind fun v => match v with
    | .ptr _ _ => .ok (.val v s)
    | .func (.func _) _ _ => .ok (.val v s)
    | .slice _ _ _ _ => .ok (.val v s)
    | .slicev _ _ _ _ => .ok (.val v s)
    | .iface _ _ => .ok (.val v s)
    | .tslice _ _ => .ok (.val v s)
    | .tptr _ _ => .ok (.val v s)
    | _ => .bad "nilCheck"
  | .binOp op t x y _ => (ρ x).bind fun a => (ρ y).bind fun b => ok1 (binA C s op t x y a b) s
  | .unOp op _ x => (ρ x).bind fun v => match op, v with
    | .not, .bool b => .ok (.val (.bool (!b)) s)
    | .neg, .int k n => .ok (.val (.int k (wrapA k (0 - n))) s)
    | _, _ => .bad "unop"
  | .convert a b x => (ρ x).bind fun v => ok2 (convA C s a b v)
  | .makeInterface t x => (ρ x).bind fun v => (C.under t).bind fun
    | .interface _ => .bad "makeInterface"
    | _ => .ok (.val (.iface t v) s)
  | .makeFunc fn a b => (mapO ρ a.toList).bind fun a => (mapO ρ b.toList).bind fun b => .ok (.val (.func fn a b) s)
  | .makeMap _ r => match r with
    | none => .ok (.val (.map (some s.next)) (s.new (.map [] 0)))
    | some _ => .bad "makeMap: with a size"
  | .makeChan t n => (ρ n).bind fun
    | .int _ (.ofNat 0) => (C.under t).bind fun
      | .chan _ e => (C.sz e).bind fun _ => .ok (.val (.chan (some s.next)) (s.new (.chan 0 false 0 0)))
      | _ => .bad "makeChan"
    | _ => .bad "makeChan: with a size"
  | .makeSlice t l c => (ρ l).bind fun
    | .int _ (.ofNat l) => (ρ c).bind fun
      | .int _ (.ofNat c) => (C.under t).bind fun
        | .slice e => cond (Nat.ble l c && Nat.ble c 1000000) (
            (zerosA C e c).bind fun zs => .ok (.val (.slice s.next 0 l c) (s.new (.cells zs e none .clean)))) (.bad "makeSlice")
        | _ => .bad "makeSlice"
      | _ => .bad "makeSlice"
    | _ => .bad "makeSlice"
  | .slice t x lo hi mx => (ρ x).bind fun v => (optO ρ lo).bind fun lo => (optO ρ hi).bind fun hi => (optO ρ mx).bind fun mx => ok1 (sliceA C s t v lo hi mx) s
  | .fieldAddr t x f => (ρ x).bind fun v => ok1 (fieldAddrA C t v f) s
  | .field t x f => (ρ x).bind fun v => ok1 (fieldA C t v f) s
  | .indexAddr t x i => (ρ x).bind fun v => (ρ i).bind fun i => ok1 (indexAddrA C t v i) s
  | .index t x i => (ρ x).bind fun v => (ρ i).bind fun i => ok1 (indexA C t v i) s
  | .lookup t x k ok => (ρ x).bind fun v => (ρ k).bind fun k => ok1 (lookupA C s t v k ok) s
  | .mapUpdate t m k x => (ρ m).bind fun m => (ρ k).bind fun k => (ρ x).bind fun v => okS (mapSet C s t m k v)
  | .insert t m k x => (ρ m).bind fun m => (ρ k).bind fun k => (ρ x).bind fun v => okS (mapSet C s t m k v)
  | .range t x => (ρ x).bind fun v => (C.under t).bind fun d => match d, v with
    | .string, .str l => .ok (.val (.ptr s.next 0) (s.new (.siter l 0)))
    | _, _ => .bad "range"
  | .next it isS => (ρ it).bind fun v => match v, isS with
    | .ptr r 0, true => match s.heap.get r with
      | some (.siter l p) => match lget l p with
        | some b => cond (Nat.blt b.toNat 128) (.ok (.val (.tuple [.bool true, .int .i64 p, .int .i32 b.toNat]) (s.set r (.siter l (p + 1))))) (.bad "next: not ASCII")
        | none => .ok (.val (.tuple [.bool false]) s)
      | _ => .bad "next"
    | _, _ => .bad "next"
  | .typeAssert x _ t ok => (ρ x).bind fun v => (C.under t).bind fun d => match d with
    | .interface _ => .bad "typeAssert: to an interface"
    | _ => match v with
      | .iface u w => cond (Nat.beq u t) (.ok (.val (cond ok (.tuple [w, .bool true]) w) s))
          (cond ok ((C.zero t).bind fun z => .ok (.val (.tuple [z, .bool false]) s)) (.bad "typeAssert: panics"))
      | .nilIface => cond ok ((C.zero t).bind fun z => .ok (.val (.tuple [z, .bool false]) s)) (.bad "typeAssert: panics")
      | _ => .bad "typeAssert"
  | .extract x i => (ρ x).bind fun
    | .tuple l => ok1 (Res.ofOpt (lget l i) "extract") s
    | _ => .bad "extract"
  | .call c => callA C s ρ c o.type
  | .defer c => deferA s ρ c
  | .panic x => (ρ x).bind fun v => match v with
    | .iface _ _ => .ok (.panic v)
    | _ => .bad "panic of nil"
  | _ => .bad "op"

/-! code -/
structure PE where
  v : AV
  done : Bool
  deriving Inhabited

inductive EX where
  | normal
  | exit (id : Nat)
  | goto (l : Nat)
  | ret
  | panic (chain : List PE)
  deriving Inhabited

/-- an activation: its slots, what is deferred; memory -/
structure Ac where
  n : Nat
  tm : Tr AV
  df : List ADef
  s : St
  deriving Inhabited

inductive Ending' where
  | returned (v : AV)
  | panicked (chain : List PE)
  deriving Inhabited

/-- the mode of a frame that is unwinding -/
inductive UM where
  | returning
  | panicking (chain : List PE)
  deriving Inhabited

inductive Task where
  | code (c : Code) (a : Ac)
  | sc (rest body : Code) (a : Ac)
  | lp (body : Code) (a : Ac)
  | ops (ops : Array Oper) (l : List Oper) (a : Ac)
  | call (f : Nat) (args : List AV) (s : St)
  | leave (fn : Func) (tm : Tr AV) (ds : List ADef) (u : UM) (s : St)
  | codeD (c : Code) (a : Ac) (u : UM)
  | opsD (ops : Array Oper) (l : List Oper) (a : Ac) (u : UM)
  deriving Inhabited

inductive Out where
  | ex (e : EX) (a : Ac)
  | en (e : Ending') (s : St)
  | exD (e : EX) (a : Ac) (u : UM)
  deriving Inhabited

def putT (tm : Tr AV) (dst : Option Nat) (v : AV) : Tr AV :=
  match dst with
  | some d => tm.put (some v) dep d
  | none => tm

def dstOk (n : Nat) (o : Oper) : Bool :=
  match o.dst with
  | none => true
  | some d => Nat.blt d n

/-- is the operation wanted? (the guard's own operation has been carried out, or passed over) -/
def wantedA (n : Nat) (ops : Array Oper) (tm : Tr AV) (o : Oper) : Res Bool :=
  cond (dstOk n o) (match o.guard with
  | none => .ok true
  | some (j, w) =>
    match (ops[j]?).bind (·.dst) with
    | some d => match tm.get d with
      | some (.bool b) => .ok (b == w)
      | some (.tuple _) => .ok false
      | _ => .bad "guard"
    | none => .bad "guard") (.bad "slot")

def resultsA (tm : Tr AV) (s : St) : List ResultVar → Res (List AV)
  | [] => .ok []
  | .tmp t :: l => (Res.ofOpt (tm.get t) "result").bind fun v => (resultsA tm s l).bind fun vs => .ok (v :: vs)
  | .cell a t :: l => (Res.ofOpt (tm.get a) "result").bind fun
    | .ptr b o => (loadV C s t b o).bind fun v => (resultsA tm s l).bind fun vs => .ok (v :: vs)
    | _ => .bad "result"

def resultA (fn : Func) (tm : Tr AV) (s : St) : Res AV :=
  (resultsA C tm s fn.results.toList).bind fun vs => match vs with
    | [v] => .ok v
    | vs => .ok (.tuple vs)

/-- (no Goexit among them) -/
def settleA : UM → UM
  | .panicking (p :: l) => cond p.done .returning (.panicking (p :: l))
  | u => u

def raisedA (u : UM) (chain : List PE) : UM :=
  match u with
  | .panicking old => .panicking (chain ++ old)
  | .returning => .panicking chain

def argsT (l : List AV) (i : Nat) (t : Tr AV) : Tr AV :=
  match l with
  | [] => t
  | v :: l => argsT l (i + 1) (t.put (some v) dep i)

/-- alloc: a new block, of what stands in the slots -/
def cls (C : Ctx) (o : Oper) : Nat :=
  match o.op with
  | .alloc _ | .box .. | .buildSlice .. | .makeMap .. | .makeChan .. | .makeSlice .. => 1
  | .move _ | .assign _ | .pick .. | .build .. | .fieldAddr .. | .field .. | .unOp .. | .makeInterface .. | .makeFunc .. | .extract ..
  | .nilCheck _ | .indexAddr .. | .index .. | .typeAssert .. => 0
  | .load .. | .lookup .. | .binOp .. | .slice .. => 3
  | .call { callee := .builtin b, .. } => (match b with | .len | .cap | .min | .max => 3 | _ => 2)
  | .convert _ b _ => (match C.desc b with | some (.slice _) => 2 | _ => 3)
  | _ => 2

end
end Go.Ab

namespace Go.Ab
noncomputable section
variable (C : Ctx)

/-! ## regions that draw their order
  Operations: pure and reading ones ('quiet'), new blocks ('alloc'), all others ('loud'). The loud ones must be a chain. -/

def aft (b : Array Nat) (i j : Nat) : Bool := (b.getD j 0).testBit i

abbrev Alloc := Nat × Nat × AO

/-- the state of a drawn region's walk, in the order of the text:
  s: memory, as the loud operations have left it · intro: the new blocks that stand in it · eps: memory (and what stands in it) ahead of each loud operation, the last first · louds: the loud ones' numbers, the last first · allocs: all new blocks: operation, block, contents · reads: quiet operations that loud ones may pass -/
structure Dr where
  n : Nat
  tm : Tr AV
  df : List ADef
  s : St
  intro : List Nat
  eps : List (St × List Nat)
  louds : List Nat
  allocs : List Alloc
  reads : List (Nat × Oper × Tr AV × AV)
  deriving Inhabited

def memN : Nat → List Nat → Bool
  | _, [] => false
  | a, b :: l => cond (Nat.beq a b) true (memN a l)

/-- memory with those new blocks that operation i must find -/
def withA (b : Array Nat) (i : Nat) (s : St) (intro : List Nat) : List Alloc → St
  | [] => s
  | p :: l => let s := withA b i s intro l; cond (aft b p.1 i && !memN p.2.1 intro) (s.set p.2.1 p.2.2) s

def introA (b : Array Nat) (i : Nat) (intro : List Nat) : List Alloc → List Nat
  | [] => intro
  | p :: l => let r := introA b i intro l; cond (aft b p.1 i && !memN p.2.1 intro) (p.2.1 :: r) r

def allA (s : St) (intro : List Nat) : List Alloc → St
  | [] => s
  | p :: l => let s := allA s intro l; cond (memN p.2.1 intro) s (s.set p.2.1 p.2.2)

/-- what a quiet operation gives in a memory -/
def quietIn (s : St) (tm : Tr AV) (o : Oper) (v : AV) : Bool :=
  match opA C s (evalO C tm) o with
  | .ok (.val u _) => AV.same u v
  | _ => false

/-- in each of the epochs behind which it stands, and in which it may stand -/
def sameBack (b : Array Nat) (i : Nat) (o : Oper) (tm : Tr AV) (v : AV) (allocs : List Alloc) : List (St × List Nat) → List Nat → Bool
  | e :: eps, l :: louds =>
    cond (aft b l i) true (quietIn C (withA b i e.1 e.2 allocs) tm o v && sameBack b i o tm v allocs eps louds)
  | _, _ => true

def sameOn (b : Array Nat) (i : Nat) (s : St) (intro : List Nat) (allocs : List Alloc) : List (Nat × Oper × Tr AV × AV) → Bool
  | [] => true
  | q :: l => cond (aft b q.1 i) (sameOn b i s intro allocs l) (quietIn C (withA b q.1 s intro allocs) q.2.2.1 q.2.1 q.2.2.2 && sameOn b i s intro allocs l)

def keepReads (b : Array Nat) (i : Nat) : List (Nat × Oper × Tr AV × AV) → List (Nat × Oper × Tr AV × AV)
  | [] => []
  | q :: l => cond (aft b q.1 i) (keepReads b i l) (q :: keepReads b i l)

def lexOk (ops : Array Oper) : Bool :=
  ops.toList.zipIdx.all fun (o, i) => o.after.all fun e => !Region.binds .any e || Nat.blt e.on i

def noSel (ops : Array Oper) : Bool := ops.toList.all fun o => match o.op with | .select .. => false | _ => true

/-- any two of them are apart, or one is after the other -/
def pairOk (ops : Array Oper) (b : Array Nat) (j : Nat) (oj : Oper) : Nat → List Oper → Bool
  | _, [] => true
  | i, oi :: l => cond (Nat.blt i j) ((aft b i j || oi.apart ops oj) && pairOk ops b j oj (i + 1) l) true

def pairsOk (ops : Array Oper) (b : Array Nat) : Nat → List Oper → Bool
  | _, [] => true
  | j, oj :: l => pairOk ops b j oj 0 ops.toList && pairsOk ops b (j + 1) l

def drawOk (ops : Array Oper) : Bool := lexOk ops && pairsOk ops (Region.before ops) 0 ops.toList && noSel ops

/-- above all numbers of blocks -/
def NX : Nat := 60000

mutual
/-- it names no block from n on -/
def AV.under (n : Nat) : AV → Bool
  | .ptr b _ => Nat.blt b n
  | .slice b _ _ _ => Nat.blt b n
  | .slicev b _ _ _ => Nat.blt b n
  | .map (some b) => Nat.blt b n
  | .chan (some b) => Nat.blt b n
  | .func _ a b => AV.unders n a && AV.unders n b
  | .iface _ v => AV.under n v
  | .agg l => AV.unders n l
  | .tuple l => AV.unders n l
  | .tslice b _ => Nat.blt b n
  | .tptr b _ => Nat.blt b n
  | _ => true
def AV.unders (n : Nat) : List AV → Bool
  | [] => true
  | v :: l => AV.under n v && AV.unders n l
end

def AO.lacks (n : Nat) : AO → Bool
  | .cells cs _ _ _ => AV.unders n cs
  | .map es _ => es.isEmpty
  | .tab cs => AV.unders n cs
  | _ => true

/-- a value that names block n at its head: block m in its place -/
def AV.at (n m : Nat) : AV → Res AV
  | .ptr b o => cond (Nat.beq b n) (.ok (.ptr m o)) (.bad "at")
  | .slice b o l c => cond (Nat.beq b n) (.ok (.slice m o l c)) (.bad "at")
  | .slicev b o l k => cond (Nat.beq b n) (.ok (.slicev m o l k)) (.bad "at")
  | .map (some b) => cond (Nat.beq b n) (.ok (.map (some m))) (.bad "at")
  | .chan (some b) => cond (Nat.beq b n) (.ok (.chan (some m))) (.bad "at")
  | _ => .bad "at"

/-- how a function's call is carried out -/
abbrev CallE := Nat → List AV → St → Res Out

inductive LV where
  | val (v : AV) (df : Option ADef) (s : St)
  | pan (ch : List PE) (s : St)
  deriving Inhabited

def asVal (o : OR) (call : CallE) : Res LV :=
  match o with
  | .val v s => .ok (.val v none s)
  | .defer d s => .ok (.val .undef (some d) s)
  | .enter f args s => (call f args s).bind fun
    | .en (.returned v) s => .ok (.val v none s)
    | .en (.panicked ch) s => .ok (.pan ch s)
    | _ => .bad "draw: out"
  | _ => .bad "draw: what?"

inductive DO where
  | go (d : Dr)
  | pan (ch : List PE) (s : St)
  deriving Inhabited

/-- a quiet operation of a drawn region, or a new block -/
def drawQuiet (b : Array Nat) (base i : Nat) (o : Oper) (d : Dr) : Res Dr :=
  match cls C o with
  | 0 => (opA C d.s (evalO C d.tm) o).bind fun
    | .val v _ => .ok { d with tm := putT d.tm o.dst v }
    | _ => .bad "draw: pure?"
  | 1 => (opA C { heap := .e, next := NX } (evalO C d.tm) o).bind fun
    | .val v s => (Res.ofOpt (s.heap.get NX) "draw: new?").bind fun ao =>
      (v.at NX (base + i)).bind fun v =>
      cond (ao.lacks NX) (.ok { d with tm := putT d.tm o.dst v, allocs := (i, base + i, ao) :: d.allocs }) (.bad "draw: new")
    | _ => .bad "draw: new?"
  | 3 => (opA C (withA b i d.s d.intro d.allocs) (evalO C d.tm) o).bind fun
    | .val v _ => cond (sameBack C b i o d.tm v d.allocs d.eps d.louds)
        (.ok { d with tm := putT d.tm o.dst v, reads := (i, o, d.tm, v) :: d.reads }) (.bad "draw: a quiet one hangs on the order (back)")
    | _ => .bad "draw: quiet?"
  | _ => .bad "draw: loud"

def drawGuard (ops : Array Oper) (b : Array Nat) (i : Nat) (o : Oper) (d : Dr) : Res Bool :=
  cond (match o.guard with | none => true | some (j, _) => aft b j i) (wantedA d.n ops d.tm o) (.bad "draw: guard")

/-- one operation of a drawn region; base: the first of the numbers that are kept for new blocks -/
def drawStep (call : CallE) (ops : Array Oper) (b : Array Nat) (base i : Nat) (o : Oper) (d : Dr) : Res DO :=
  (drawGuard ops b i o d).bind fun w =>
  cond w (
    match cls C o with
    | 2 =>
      cond (match d.louds with | [] => true | l :: _ => aft b l i) (
        (opA C (withA b i d.s d.intro d.allocs) (evalO C d.tm) o).bind fun r => (asVal r call).bind fun
        | .pan ch s => cond d.df.isEmpty (.ok (.pan ch s)) (.bad "draw: a panic where something is deferred")
        | .val v df s1 =>
          let intro := introA b i d.intro d.allocs
          cond (sameOn C b i s1 intro d.allocs d.reads && Nat.ble s1.next NX)
            (.ok (.go { d with tm := putT d.tm o.dst v, df := (match df with | some x => x :: d.df | none => d.df), s := s1, intro, eps := (d.s, d.intro) :: d.eps, louds := i :: d.louds, reads := keepReads b i d.reads }))
            (.bad "draw: a quiet one hangs on the order (on)")) (.bad "draw: two loud ones")
    | _ => (drawQuiet C b base i o d).bind fun d => .ok (.go d))
    (.ok (.go { d with tm := putT d.tm o.dst .undef }))

/-- behind a panic of operation p: those that need not follow it are quiet, and do not fail -/
def drawRest (ops : Array Oper) (b : Array Nat) (base p : Nat) : Nat → List Oper → Dr → Res Unit
  | _, [], _ => .ok ()
  | i, o :: l, d =>
    cond (aft b p i) (drawRest ops b base p (i + 1) l d) <|
    (drawGuard ops b i o d).bind fun w =>
    cond w ((drawQuiet C b base i o d).bind fun d => drawRest ops b base p (i + 1) l d)
      (drawRest ops b base p (i + 1) l { d with tm := putT d.tm o.dst .undef })

def drawAll (call : CallE) (ops : Array Oper) (b : Array Nat) (base : Nat) : Nat → List Oper → Dr → Res DO
  | _, [], d => .ok (.go d)
  | i, o :: l, d => (drawStep C call ops b base i o d).bind fun
    | .go d => drawAll call ops b base (i + 1) l d
    | .pan ch s => (drawRest C ops b base i (i + 1) l d).bind fun _ => .ok (.pan ch s)

/-- without the slots that the operations give -/
def dropT : List Oper → Tr AV → Tr AV
  | [], tm => tm
  | o :: l, tm => dropT l (match o.dst with | some d => tm.put none dep d | none => tm)

def drawRegion (call : CallE) (ops : Array Oper) (a : Ac) : Res Out :=
  cond (drawOk ops && Nat.ble (a.s.next + ops.size) NX) (
    let base := a.s.next
    (drawAll C call ops (Region.before ops) base 0 ops.toList
      { n := a.n, tm := a.tm, df := a.df, s := { a.s with next := base + ops.size }, intro := [], eps := [], louds := [], allocs := [], reads := [] }).bind fun
    | .go d => .ok (.ex .normal { n := d.n, tm := d.tm, df := d.df, s := allA d.s d.intro d.allocs })
    | .pan ch s => .ok (.ex (.panic ch) { a with tm := dropT ops.toList a.tm, df := [], s })) (.bad "draw: the region")

def recoverA (u : UM) : AV × UM :=
  match u with
  | .panicking (p :: l) => cond p.done (.nilIface, u) (p.v, .panicking ({ p with done := true } :: l))
  | u => (.nilIface, u)

def exOut (r : Res Out) (k : EX → Ac → Res Out) : Res Out :=
  r.bind fun
    | .ex e a => k e a
    | _ => .bad "out"

def exOutD (r : Res Out) (k : EX → Ac → UM → Res Out) : Res Out :=
  r.bind fun
    | .exD e a u => k e a u
    | _ => .bad "out"

/-- one round -/
def evStep (ih : Task → Res Out) (t : Task) : Res Out :=
  match t with
  | .code c a => match c with
    | .skip => .ok (.ex .normal a)
    | .label _ => .ok (.ex .normal a)
    | .ret => .ok (.ex .ret a)
    | .exit id => .ok (.ex (.exit id) a)
    | .seq x y => exOut (ih (.code x a)) fun e a => match e with
      | .normal => ih (.code y a)
      | e => .ok (.ex e a)
    | .cond c x y => (evalO C a.tm c).bind fun
      | .bool b => cond b (ih (.code x a)) (ih (.code y a))
      | _ => .bad "cond"
    | .block id c => exOut (ih (.code c a)) fun e a => match e with
      | .exit j => cond (Nat.beq j id) (.ok (.ex .normal a)) (.ok (.ex (.exit j) a))
      | e => .ok (.ex e a)
    | .scope c => ih (.sc c c a)
    | .loop b => ih (.lp b a)
    | .region _ ops draw => cond draw
        (drawRegion C (fun f args s => ih (.call f args s)) ops a)
        (ih (.ops ops ops.toList a))
    | .goto l => .ok (.ex (.goto l) a)
    | .rangeFunc .. => .bad "rangeFunc"
    | .refuse w => .bad ("refuse " ++ w)
  | .sc rest body a => exOut (ih (.code rest a)) fun e a => match e with
    | .goto l => match findLabel body l with
      | some rest => ih (.sc rest body a)
      | none => .ok (.ex (.goto l) a)
    | e => .ok (.ex e a)
  | .lp b a => exOut (ih (.code b a)) fun e a => match e with
    | .normal => ih (.lp b a)
    | e => .ok (.ex e a)
  | .ops _ [] a => .ok (.ex .normal a)
  | .ops ops (o :: l) a => (wantedA a.n ops a.tm o).bind fun w => cond w (
      (opA C a.s (evalO C a.tm) o).bind fun
        | .val v s => ih (.ops ops l { a with tm := putT a.tm o.dst v, s })
        | .defer d s => ih (.ops ops l { a with tm := putT a.tm o.dst .undef, df := d :: a.df, s })
        | .enter f args s => (ih (.call f args s)).bind fun
          | .en (.returned v) s => ih (.ops ops l { a with tm := putT a.tm o.dst v, s })
          | .en (.panicked ch) s => .ok (.ex (.panic ch) { a with s })
          | _ => .bad "out"
        | .panic v => .ok (.ex (.panic [⟨v, false⟩]) a)
        | .recover => .bad "recover: not in a deferred call")
      (ih (.ops ops l { a with tm := putT a.tm o.dst .undef }))
  | .call f args s => match C.hook f with
    | some h => (h args s).bind fun p => .ok (.en (.returned p.1) p.2)
    | none => match C.func f with
      | none => .bad "call"
      | some fn => match fn.body with
        | none => .bad "call: no body"
        | some c => exOut (ih (.code c { n := fn.ntmps, tm := argsT args 0 .e, df := [], s })) fun e a => match e with
          | .normal => ih (.leave fn a.tm a.df .returning a.s)
          | .ret => ih (.leave fn a.tm a.df .returning a.s)
          | .panic ch => ih (.leave fn a.tm a.df (.panicking ch) a.s)
          | _ => .bad "call: exit"
  | .leave fn tm [] u s => match u with
    | .returning => (resultA C fn tm s).bind fun v => .ok (.en (.returned v) s)
    | .panicking ch => .ok (.en (.panicked ch) s)
  | .leave fn tm (d :: ds) u s =>
    (invokeA C s d.fn d.captured d.args).bind fun
      | .enter f args s => match C.func f with
        | none => .bad "defer"
        | some g => match g.body with
          | none => .bad "defer: no body"
          | some c => exOutD (ih (.codeD c { n := g.ntmps, tm := argsT args 0 .e, df := [], s } u)) fun e a u => match a.df with
            | _ :: _ => .bad "a deferred call defers"
            | [] => match e with
              | .normal => (resultA C g a.tm a.s).bind fun _ => ih (.leave fn tm ds (settleA u) a.s)
              | .ret => (resultA C g a.tm a.s).bind fun _ => ih (.leave fn tm ds (settleA u) a.s)
              | .panic ch => ih (.leave fn tm ds (raisedA u ch) a.s)
              | _ => .bad "defer: exit"
      | _ => .bad "defer: no Go function"
  | .codeD c a u => match c with
    | .seq x y => exOutD (ih (.codeD x a u)) fun e a u => match e with
      | .normal => ih (.codeD y a u)
      | e => .ok (.exD e a u)
    | .cond c x y => (evalO C a.tm c).bind fun
      | .bool b => cond b (ih (.codeD x a u)) (ih (.codeD y a u))
      | _ => .bad "cond"
    | .region id ops draw => cond draw
        (exOut (ih (.code (.region id ops draw) a)) fun e a => .ok (.exD e a u))
        (ih (.opsD ops ops.toList a u))
    | .block id c => exOutD (ih (.codeD c a u)) fun e a u => match e with
      | .exit j => cond (Nat.beq j id) (.ok (.exD .normal a u)) (.ok (.exD (.exit j) a u))
      | e => .ok (.exD e a u)
    | c => exOut (ih (.code c a)) fun e a => .ok (.exD e a u)
  | .opsD _ [] a u => .ok (.exD .normal a u)
  | .opsD ops (o :: l) a u => (wantedA a.n ops a.tm o).bind fun w => cond w (
      (opA C a.s (evalO C a.tm) o).bind fun
        | .val v s => ih (.opsD ops l { a with tm := putT a.tm o.dst v, s } u)
        | .defer d s => ih (.opsD ops l { a with tm := putT a.tm o.dst .undef, df := d :: a.df, s } u)
        | .enter f args s => (ih (.call f args s)).bind fun
          | .en (.returned v) s => ih (.opsD ops l { a with tm := putT a.tm o.dst v, s } u)
          | .en (.panicked ch) s => .ok (.exD (.panic ch) { a with s } u)
          | _ => .bad "out"
        | .panic v => .ok (.exD (.panic [⟨v, false⟩]) a u)
        | .recover => let r := recoverA u; ih (.opsD ops l { a with tm := putT a.tm o.dst r.1 } r.2))
      (ih (.opsD ops l { a with tm := putT a.tm o.dst .undef } u))

def ev : Nat → Task → Res Out
  | 0, _ => .bad "fuel"
  | n + 1, t => evStep C (ev n) t

end
end Go.Ab

/-! The evaluator once more, its cases as constants (so that the kernel copies less): the same function. -/
namespace Go.Ab
noncomputable section

abbrev OpK := Oper → Ctx → St → Env → Res OR
def opMove (x : Operand) : OpK := fun _ _ s ρ => ok1 (ρ x) s
def opPick (c a b : Operand) : OpK := fun _ _ s ρ => (ρ c).bind fun
    | .bool c => cond c (ok1 (ρ a) s) (ok1 (ρ b) s)
    | _ => .bad "pick"
def opAlloc (e : TypeId) : OpK := fun _ C s _ => (C.zero e).bind fun z => ok2 (.ok (newRow s e z.cells))
def opBox (e : TypeId) (x : Operand) : OpK := fun _ _ s ρ => (ρ x).bind fun v => ok2 (.ok (newRow s e v.cells))
def opBuild (t : TypeId) (ps : Array (Nat × Operand)) : OpK := fun _ C s ρ => (mapP ρ ps.toList).bind fun l => ok1 (buildA C t l) s
def opBuildSlice (t : TypeId) (n : Nat) (ps : Array (Nat × Operand)) : OpK := fun _ C s ρ => (mapP ρ ps.toList).bind fun l => ok2 (buildSliceA C s t n l)
def opLoad (t : TypeId) (a : Operand) : OpK := fun _ C s ρ => (ρ a).bind fun
    | .ptr b o => ok1 (loadV C s t b o) s
    | .tptr b o => ok1 (loadT C s t b o) s
    | _ => .bad "load: no address"
def opStore (t : TypeId) (a x : Operand) : OpK := fun _ C s ρ => (ρ a).bind fun
    | .ptr b o => (ρ x).bind fun v => okS (storeV C s t b o v)
    | _ => .bad "store: no address"
def opNilCheck (x : Operand) : OpK := fun _ _ s ρ => (ρ x).bind fun v => match v with
    | .ptr _ _ => .ok (.val v s)
    | .func (.func _) _ _ => .ok (.val v s)
    | .slice _ _ _ _ => .ok (.val v s)
    | .slicev _ _ _ _ => .ok (.val v s)
    | .iface _ _ => .ok (.val v s)
    | .tslice _ _ => .ok (.val v s)
    | .tptr _ _ => .ok (.val v s)
    | _ => .bad "nilCheck"
def opBin (op : BinOp) (t : TypeId) (x y : Operand) (_ : TypeId) : OpK := fun _ C s ρ => (ρ x).bind fun a => (ρ y).bind fun b => ok1 (binA C s op t x y a b) s
def opUn (op : UnOp) (_ : TypeId) (x : Operand) : OpK := fun _ _ s ρ => (ρ x).bind fun v => match op, v with
    | .not, .bool b => .ok (.val (.bool (!b)) s)
    | .neg, .int k n => .ok (.val (.int k (wrapA k (0 - n))) s)
    | _, _ => .bad "unop"
def opConv (a b : TypeId) (x : Operand) : OpK := fun _ C s ρ => (ρ x).bind fun v => ok2 (convA C s a b v)
def opMkI (t : TypeId) (x : Operand) : OpK := fun _ C s ρ => (ρ x).bind fun v => (C.under t).bind fun
    | .interface _ => .bad "makeInterface"
    | _ => .ok (.val (.iface t v) s)
def opMkF (fn : Fn) (a b : Array Operand) : OpK := fun _ _ s ρ => (mapO ρ a.toList).bind fun a => (mapO ρ b.toList).bind fun b => .ok (.val (.func fn a b) s)
def opMkM (_ : TypeId) (r : Option Operand) : OpK := fun _ _ s _ => match r with
    | none => .ok (.val (.map (some s.next)) (s.new (.map [] 0)))
    | some _ => .bad "makeMap: with a size"
def opMkC (t : TypeId) (n : Operand) : OpK := fun _ C s ρ => (ρ n).bind fun
    | .int _ (.ofNat 0) => (C.under t).bind fun
      | .chan _ e => (C.sz e).bind fun _ => .ok (.val (.chan (some s.next)) (s.new (.chan 0 false 0 0)))
      | _ => .bad "makeChan"
    | _ => .bad "makeChan: with a size"
def opMkS (t : TypeId) (l c : Operand) : OpK := fun _ C s ρ => (ρ l).bind fun
    | .int _ (.ofNat l) => (ρ c).bind fun
      | .int _ (.ofNat c) => (C.under t).bind fun
        | .slice e => cond (Nat.ble l c && Nat.ble c 1000000) (
            (zerosA C e c).bind fun zs => .ok (.val (.slice s.next 0 l c) (s.new (.cells zs e none .clean)))) (.bad "makeSlice")
        | _ => .bad "makeSlice"
      | _ => .bad "makeSlice"
    | _ => .bad "makeSlice"
def opSlice (t : TypeId) (x : Operand) (lo hi mx : Option Operand) : OpK := fun _ C s ρ => (ρ x).bind fun v => (optO ρ lo).bind fun lo => (optO ρ hi).bind fun hi => (optO ρ mx).bind fun mx => ok1 (sliceA C s t v lo hi mx) s
def opFieldAddr (t : TypeId) (x : Operand) (f : Nat) : OpK := fun _ C s ρ => (ρ x).bind fun v => ok1 (fieldAddrA C t v f) s
def opField (t : TypeId) (x : Operand) (f : Nat) : OpK := fun _ C s ρ => (ρ x).bind fun v => ok1 (fieldA C t v f) s
def opIndexAddr (t : TypeId) (x i : Operand) : OpK := fun _ C s ρ => (ρ x).bind fun v => (ρ i).bind fun i => ok1 (indexAddrA C t v i) s
def opIndex (t : TypeId) (x i : Operand) : OpK := fun _ C s ρ => (ρ x).bind fun v => (ρ i).bind fun i => ok1 (indexA C t v i) s
def opLookup (t : TypeId) (x k : Operand) (ok : Bool) : OpK := fun _ C s ρ => (ρ x).bind fun v => (ρ k).bind fun k => ok1 (lookupA C s t v k ok) s
def opMapSet (t : TypeId) (m k x : Operand) : OpK := fun _ C s ρ => (ρ m).bind fun m => (ρ k).bind fun k => (ρ x).bind fun v => okS (mapSet C s t m k v)
def opRange (t : TypeId) (x : Operand) : OpK := fun _ C s ρ => (ρ x).bind fun v => (C.under t).bind fun d => match d, v with
    | .string, .str l => .ok (.val (.ptr s.next 0) (s.new (.siter l 0)))
    | _, _ => .bad "range"
def opNext (it : Operand) (isS : Bool) : OpK := fun _ _ s ρ => (ρ it).bind fun v => match v, isS with
    | .ptr r 0, true => match s.heap.get r with
      | some (.siter l p) => match lget l p with
        | some b => cond (Nat.blt b.toNat 128) (.ok (.val (.tuple [.bool true, .int .i64 p, .int .i32 b.toNat]) (s.set r (.siter l (p + 1))))) (.bad "next: not ASCII")
        | none => .ok (.val (.tuple [.bool false]) s)
      | _ => .bad "next"
    | _, _ => .bad "next"
def opAssert (x : Operand) (_ t : TypeId) (ok : Bool) : OpK := fun _ C s ρ => (ρ x).bind fun v => (C.under t).bind fun d => match d with
    | .interface _ => .bad "typeAssert: to an interface"
    | _ => match v with
      | .iface u w => cond (Nat.beq u t) (.ok (.val (cond ok (.tuple [w, .bool true]) w) s))
          (cond ok ((C.zero t).bind fun z => .ok (.val (.tuple [z, .bool false]) s)) (.bad "typeAssert: panics"))
      | .nilIface => cond ok ((C.zero t).bind fun z => .ok (.val (.tuple [z, .bool false]) s)) (.bad "typeAssert: panics")
      | _ => .bad "typeAssert"
def opExtract (x : Operand) (i : Nat) : OpK := fun _ _ s ρ => (ρ x).bind fun
    | .tuple l => ok1 (Res.ofOpt (lget l i) "extract") s
    | _ => .bad "extract"
def opCall (c : Call) : OpK := fun o C s ρ => callA C s ρ c o.type
def opDefer (c : Call) : OpK := fun _ _ s ρ => deferA s ρ c
def opPanic (x : Operand) : OpK := fun _ _ _ ρ => (ρ x).bind fun v => match v with
    | .iface _ _ => .ok (.panic v)
    | _ => .bad "panic of nil"
def opNo : OpK := fun _ _ _ _ => .bad "op"

def opSel : Op → OpK := @Op.rec (fun _ => OpK) opMove opMove opPick opAlloc opBox opBuild opBuildSlice opMapSet opLoad opStore
  (fun _ => opNo) (fun _ => opNo) opNilCheck opBin opUn opConv (fun _ _ => opNo) opMkI opMkF opMkM opMkC opMkS opSlice opFieldAddr opField
  opIndexAddr opIndex opLookup opMapSet (fun _ _ _ => opNo) (fun _ _ _ _ => opNo) opRange opNext (fun _ => opNo) opAssert opExtract opCall
  (fun _ => opNo) opDefer opPanic (fun _ _ => opNo) (fun _ _ _ => opNo) (fun _ _ => opNo)

def opF (C : Ctx) (s : St) (ρ : Env) (o : Oper) : Res OR := opSel o.op o C s ρ

theorem opF_eq (C : Ctx) (s : St) (ρ : Env) (o : Oper) : opF C s ρ o = opA C s ρ o := by
  obtain ⟨dst, op, type, pos, after, guard⟩ := o
  cases op <;> rfl

theorem opF_eq' : opF = opA := by funext C s ρ o; exact opF_eq C s ρ o

/-! regions that draw, over some way to carry out an operation -/
section draw
variable (op : Ctx → St → Env → Oper → Res OR) (C : Ctx)

def quietG (s : St) (tm : Tr AV) (o : Oper) (v : AV) : Bool :=
  match op C s (evalO C tm) o with
  | .ok (.val u _) => AV.same u v
  | _ => false

def sameBackG (b : Array Nat) (i : Nat) (o : Oper) (tm : Tr AV) (v : AV) (allocs : List Alloc) : List (St × List Nat) → List Nat → Bool
  | e :: eps, l :: louds =>
    cond (aft b l i) true (quietG op C (withA b i e.1 e.2 allocs) tm o v && sameBackG b i o tm v allocs eps louds)
  | _, _ => true

def sameOnG (b : Array Nat) (i : Nat) (s : St) (intro : List Nat) (allocs : List Alloc) : List (Nat × Oper × Tr AV × AV) → Bool
  | [] => true
  | q :: l => cond (aft b q.1 i) (sameOnG b i s intro allocs l) (quietG op C (withA b q.1 s intro allocs) q.2.2.1 q.2.1 q.2.2.2 && sameOnG b i s intro allocs l)

def drawQuietG (b : Array Nat) (base i : Nat) (o : Oper) (d : Dr) : Res Dr :=
  match cls C o with
  | 0 => (op C d.s (evalO C d.tm) o).bind fun
    | .val v _ => .ok { d with tm := putT d.tm o.dst v }
    | _ => .bad "draw: pure?"
  | 1 => (op C { heap := .e, next := NX } (evalO C d.tm) o).bind fun
    | .val v s => (Res.ofOpt (s.heap.get NX) "draw: new?").bind fun ao =>
      (v.at NX (base + i)).bind fun v =>
      cond (ao.lacks NX) (.ok { d with tm := putT d.tm o.dst v, allocs := (i, base + i, ao) :: d.allocs }) (.bad "draw: new")
    | _ => .bad "draw: new?"
  | 3 => (op C (withA b i d.s d.intro d.allocs) (evalO C d.tm) o).bind fun
    | .val v _ => cond (sameBackG op C b i o d.tm v d.allocs d.eps d.louds)
        (.ok { d with tm := putT d.tm o.dst v, reads := (i, o, d.tm, v) :: d.reads }) (.bad "draw: a quiet one hangs on the order (back)")
    | _ => .bad "draw: quiet?"
  | _ => .bad "draw: loud"

def drawStepG (call : CallE) (ops : Array Oper) (b : Array Nat) (base i : Nat) (o : Oper) (d : Dr) : Res DO :=
  (drawGuard ops b i o d).bind fun w =>
  cond w (
    match cls C o with
    | 2 =>
      cond (match d.louds with | [] => true | l :: _ => aft b l i) (
        (op C (withA b i d.s d.intro d.allocs) (evalO C d.tm) o).bind fun r => (asVal r call).bind fun
        | .pan ch s => cond d.df.isEmpty (.ok (.pan ch s)) (.bad "draw: a panic where something is deferred")
        | .val v df s1 =>
          let intro := introA b i d.intro d.allocs
          cond (sameOnG op C b i s1 intro d.allocs d.reads && Nat.ble s1.next NX)
            (.ok (.go { d with tm := putT d.tm o.dst v, df := (match df with | some x => x :: d.df | none => d.df), s := s1, intro, eps := (d.s, d.intro) :: d.eps, louds := i :: d.louds, reads := keepReads b i d.reads }))
            (.bad "draw: a quiet one hangs on the order (on)")) (.bad "draw: two loud ones")
    | _ => (drawQuietG op C b base i o d).bind fun d => .ok (.go d))
    (.ok (.go { d with tm := putT d.tm o.dst .undef }))

def drawRestG (ops : Array Oper) (b : Array Nat) (base p : Nat) : Nat → List Oper → Dr → Res Unit
  | _, [], _ => .ok ()
  | i, o :: l, d =>
    cond (aft b p i) (drawRestG ops b base p (i + 1) l d) <|
    (drawGuard ops b i o d).bind fun w =>
    cond w ((drawQuietG op C b base i o d).bind fun d => drawRestG ops b base p (i + 1) l d)
      (drawRestG ops b base p (i + 1) l { d with tm := putT d.tm o.dst .undef })

def drawAllG (call : CallE) (ops : Array Oper) (b : Array Nat) (base : Nat) : Nat → List Oper → Dr → Res DO
  | _, [], d => .ok (.go d)
  | i, o :: l, d => (drawStepG op C call ops b base i o d).bind fun
    | .go d => drawAllG call ops b base (i + 1) l d
    | .pan ch s => (drawRestG op C ops b base i (i + 1) l d).bind fun _ => .ok (.pan ch s)

def drawRegionG (call : CallE) (ops : Array Oper) (a : Ac) : Res Out :=
  cond (drawOk ops && Nat.ble (a.s.next + ops.size) NX) (
    let base := a.s.next
    (drawAllG op C call ops (Region.before ops) base 0 ops.toList
      { n := a.n, tm := a.tm, df := a.df, s := { a.s with next := base + ops.size }, intro := [], eps := [], louds := [], allocs := [], reads := [] }).bind fun
    | .go d => .ok (.ex .normal { n := d.n, tm := d.tm, df := d.df, s := allA d.s d.intro d.allocs })
    | .pan ch s => .ok (.ex (.panic ch) { a with tm := dropT ops.toList a.tm, df := [], s })) (.bad "draw: the region")
end draw

theorem sameBackG_eq (C : Ctx) (b : Array Nat) (i : Nat) (o : Oper) (tm : Tr AV) (v : AV) (allocs : List Alloc) :
    ∀ (eps : List (St × List Nat)) (louds : List Nat), sameBackG opA C b i o tm v allocs eps louds = sameBack C b i o tm v allocs eps louds
  | [], _ => by rfl
  | _ :: _, [] => by rfl
  | e :: eps, l :: louds => by
    show cond _ _ (_ && sameBackG opA C b i o tm v allocs eps louds) = cond _ _ (_ && sameBack C b i o tm v allocs eps louds)
    rw [sameBackG_eq C b i o tm v allocs eps louds]; rfl

theorem sameOnG_eq (C : Ctx) (b : Array Nat) (i : Nat) (s : St) (intro : List Nat) (allocs : List Alloc) :
    ∀ (l : List (Nat × Oper × Tr AV × AV)), sameOnG opA C b i s intro allocs l = sameOn C b i s intro allocs l
  | [] => rfl
  | q :: l => by
    show cond _ (sameOnG opA C b i s intro allocs l) (_ && sameOnG opA C b i s intro allocs l) = cond _ (sameOn C b i s intro allocs l) (_ && sameOn C b i s intro allocs l)
    rw [sameOnG_eq C b i s intro allocs l]; rfl

theorem drawQuietG_eq (C : Ctx) (b : Array Nat) (base i : Nat) (o : Oper) (d : Dr) : drawQuietG opA C b base i o d = drawQuiet C b base i o d := by
  unfold drawQuietG drawQuiet
  simp only [sameBackG_eq]
  try rfl

theorem drawStepG_eq (C : Ctx) (call : CallE) (ops : Array Oper) (b : Array Nat) (base i : Nat) (o : Oper) (d : Dr) :
    drawStepG opA C call ops b base i o d = drawStep C call ops b base i o d := by
  unfold drawStepG drawStep
  simp only [sameOnG_eq, drawQuietG_eq]
  try rfl

theorem drawRestG_eq (C : Ctx) (ops : Array Oper) (b : Array Nat) (base p : Nat) : ∀ (l : List Oper) (i : Nat) (d : Dr),
    drawRestG opA C ops b base p i l d = drawRest C ops b base p i l d
  | [], _, _ => rfl
  | o :: l, i, d => by
    unfold drawRestG drawRest
    simp only [drawQuietG_eq, drawRestG_eq C ops b base p l]

theorem drawAllG_eq (C : Ctx) (call : CallE) (ops : Array Oper) (b : Array Nat) (base : Nat) : ∀ (l : List Oper) (i : Nat) (d : Dr),
    drawAllG opA C call ops b base i l d = drawAll C call ops b base i l d
  | [], _, _ => rfl
  | o :: l, i, d => by
    unfold drawAllG drawAll
    simp only [drawStepG_eq, drawRestG_eq, drawAllG_eq C call ops b base l]
    try rfl

theorem drawRegionG_eq (C : Ctx) (call : CallE) (ops : Array Oper) (a : Ac) : drawRegionG opF C call ops a = drawRegion C call ops a := by
  rw [opF_eq']
  unfold drawRegionG drawRegion
  simp only [drawAllG_eq]
  try rfl

/-! one round -/
abbrev IH := Task → Res Out
abbrev CodeK := Ac → Ctx → IH → Res Out

def eSeq (y : Code) (ih : IH) : EX → Ac → Res Out := fun e a => match e with
  | .normal => ih (.code y a)
  | e => .ok (.ex e a)
def eBlock (id : Nat) : EX → Ac → Res Out := fun e a => match e with
  | .exit j => cond (Nat.beq j id) (.ok (.ex .normal a)) (.ok (.ex (.exit j) a))
  | e => .ok (.ex e a)
def eSc (body : Code) (ih : IH) : EX → Ac → Res Out := fun e a => match e with
  | .goto l => match findLabel body l with
    | some rest => ih (.sc rest body a)
    | none => .ok (.ex (.goto l) a)
  | e => .ok (.ex e a)
def eLp (b : Code) (ih : IH) : EX → Ac → Res Out := fun e a => match e with
  | .normal => ih (.lp b a)
  | e => .ok (.ex e a)
def eCall (fn : Func) (ih : IH) : EX → Ac → Res Out := fun e a => match e with
  | .normal => ih (.leave fn a.tm a.df .returning a.s)
  | .ret => ih (.leave fn a.tm a.df .returning a.s)
  | .panic ch => ih (.leave fn a.tm a.df (.panicking ch) a.s)
  | _ => .bad "call: exit"

def cSkip : CodeK := fun a _ _ => .ok (.ex .normal a)
def cRegion (_ : Nat) (ops : Array Oper) (draw : Bool) : CodeK := fun a C ih => cond draw
  (drawRegionG opF C (fun f args s => ih (.call f args s)) ops a)
  (ih (.ops ops ops.toList a))
def cSeq (x y : Code) (_ _ : CodeK) : CodeK := fun a _ ih => exOut (ih (.code x a)) (eSeq y ih)
def cCond (c : Operand) (x y : Code) (_ _ : CodeK) : CodeK := fun a C ih => (evalO C a.tm c).bind fun
  | .bool b => cond b (ih (.code x a)) (ih (.code y a))
  | _ => .bad "cond"
def cBlock (id : Nat) (c : Code) (_ : CodeK) : CodeK := fun a _ ih => exOut (ih (.code c a)) (eBlock id)
def cLoop (b : Code) (_ : CodeK) : CodeK := fun a _ ih => ih (.lp b a)
def cRangeFunc (_ : Operand) (_ : Array Tmp) (_ _ : Code) (_ _ : CodeK) : CodeK := fun _ _ _ => .bad "rangeFunc"
def cExit (id : Nat) : CodeK := fun a _ _ => .ok (.ex (.exit id) a)
def cScope (c : Code) (_ : CodeK) : CodeK := fun a _ ih => ih (.sc c c a)
def cLabel (_ : Nat) : CodeK := fun a _ _ => .ok (.ex .normal a)
def cGoto (l : Nat) : CodeK := fun a _ _ => .ok (.ex (.goto l) a)
def cRet : CodeK := fun a _ _ => .ok (.ex .ret a)
def cRefuse (w : String) : CodeK := fun _ _ _ => .bad ("refuse " ++ w)

def codeSel : Code → CodeK := @Code.rec (fun _ => CodeK) cSkip cRegion cSeq cCond cBlock cLoop cRangeFunc cExit cScope cLabel cGoto cRet cRefuse

def oVal (ops : Array Oper) (o : Oper) (l : List Oper) (a : Ac) (ih : IH) (v : AV) (s : St) : Res Out := ih (.ops ops l { a with tm := putT a.tm o.dst v, s })
def oEnter (ops : Array Oper) (o : Oper) (l : List Oper) (a : Ac) (ih : IH) (f : Nat) (args : List AV) (s : St) : Res Out := (ih (.call f args s)).bind fun
  | .en (.returned v) s => ih (.ops ops l { a with tm := putT a.tm o.dst v, s })
  | .en (.panicked ch) s => .ok (.ex (.panic ch) { a with s })
  | _ => .bad "out"
def oAny (ops : Array Oper) (o : Oper) (l : List Oper) (a : Ac) (ih : IH) : OR → Res Out
  | .val v s => oVal ops o l a ih v s
  | .defer d s => ih (.ops ops l { a with tm := putT a.tm o.dst .undef, df := d :: a.df, s })
  | .enter f args s => oEnter ops o l a ih f args s
  | .panic v => .ok (.ex (.panic [⟨v, false⟩]) a)
  | .recover => .bad "recover: not in a deferred call"

def opsCons (ops : Array Oper) (a : Ac) (C : Ctx) (ih : IH) (o : Oper) (l : List Oper) : Res Out :=
  (wantedA a.n ops a.tm o).bind fun w => cond w ((opF C a.s (evalO C a.tm) o).bind (oAny ops o l a ih))
    (ih (.ops ops l { a with tm := putT a.tm o.dst .undef }))

abbrev TaskK := Ctx → IH → Res Out
def tCode (c : Code) (a : Ac) : TaskK := fun C ih => codeSel c a C ih
def tSc (rest body : Code) (a : Ac) : TaskK := fun _ ih => exOut (ih (.code rest a)) (eSc body ih)
def tLp (b : Code) (a : Ac) : TaskK := fun _ ih => exOut (ih (.code b a)) (eLp b ih)
def tOps (ops : Array Oper) (l : List Oper) (a : Ac) : TaskK := fun C ih => match l with
  | [] => .ok (.ex .normal a)
  | o :: l => opsCons ops a C ih o l
def tCall (f : Nat) (args : List AV) (s : St) : TaskK := fun C ih => match C.hook f with
  | some h => (h args s).bind fun p => .ok (.en (.returned p.1) p.2)
  | none => match C.func f with
    | none => .bad "call"
    | some fn => match fn.body with
      | none => .bad "call: no body"
      | some c => exOut (ih (.code c { n := fn.ntmps, tm := argsT args 0 .e, df := [], s })) (eCall fn ih)
def leaveD (fn : Func) (tm : Tr AV) (d : ADef) (ds : List ADef) (u : UM) (s : St) : TaskK := fun C ih =>
    (invokeA C s d.fn d.captured d.args).bind fun
      | .enter f args s => match C.func f with
        | none => .bad "defer"
        | some g => match g.body with
          | none => .bad "defer: no body"
          | some c => exOutD (ih (.codeD c { n := g.ntmps, tm := argsT args 0 .e, df := [], s } u)) fun e a u => match a.df with
            | _ :: _ => .bad "a deferred call defers"
            | [] => match e with
              | .normal => (resultA C g a.tm a.s).bind fun _ => ih (.leave fn tm ds (settleA u) a.s)
              | .ret => (resultA C g a.tm a.s).bind fun _ => ih (.leave fn tm ds (settleA u) a.s)
              | .panic ch => ih (.leave fn tm ds (raisedA u ch) a.s)
              | _ => .bad "defer: exit"
      | _ => .bad "defer: no Go function"
def tLeave (fn : Func) (tm : Tr AV) (ds : List ADef) (u : UM) (s : St) : TaskK := fun C ih => match ds with
  | [] => match u with
    | .returning => (resultA C fn tm s).bind fun v => .ok (.en (.returned v) s)
    | .panicking ch => .ok (.en (.panicked ch) s)
  | d :: ds => leaveD fn tm d ds u s C ih
def tCodeD (c : Code) (a : Ac) (u : UM) : TaskK := fun C ih => evStep C ih (.codeD c a u)
def tOpsD (ops : Array Oper) (l : List Oper) (a : Ac) (u : UM) : TaskK := fun C ih => evStep C ih (.opsD ops l a u)

def stepF : Task → TaskK := @Task.rec (fun _ => TaskK) tCode tSc tLp tOps tCall tLeave tCodeD tOpsD

theorem opsCons_eq (ops : Array Oper) (a : Ac) (C : Ctx) (ih : IH) (o : Oper) (l : List Oper) : opsCons ops a C ih o l = evStep C ih (.ops ops (o :: l) a) := by
  unfold opsCons
  rw [opF_eq]
  show _ = Res.bind _ _
  congr 1

theorem stepF_eq (C : Ctx) (ih : IH) (t : Task) : stepF t C ih = evStep C ih t := by
  cases t with
  | code c a =>
    cases c with
    | region id ops draw =>
      show cond draw (drawRegionG opF C _ ops a) _ = cond draw (drawRegion C _ ops a) _
      rw [drawRegionG_eq]
    | _ => rfl
  | sc rest body a => rfl
  | lp b a => rfl
  | ops ops l a =>
    cases l with
    | nil => rfl
    | cons o l => exact opsCons_eq ops a C ih o l
  | call f args s => rfl
  | leave fn tm ds u s => cases ds <;> rfl
  | codeD c a u => rfl
  | opsD ops l a u => rfl

def evF (C : Ctx) : Nat → Task → Res Out := @Nat.rec (fun _ => Task → Res Out) (fun _ => .bad "fuel") (fun _ ih t => stepF t C ih)

theorem evF_eq (C : Ctx) (n : Nat) : evF C n = ev C n := by
  induction n with
  | zero => funext t; rfl
  | succ n ih =>
    funext t
    show stepF t C (evF C n) = evStep C (ev C n) t
    rw [ih]
    exact stepF_eq C (ev C n) t
end
end Go.Ab

/-! What a value, an object, a memory here stand for. -/
namespace Go.Ab

theorem Res.bind_ok {α β : Type} {x : Res α} {f : α → Res β} {b : β} (h : x.bind f = .ok b) : ∃ a, x = .ok a ∧ f a = .ok b := by
  cases x with
  | ok a => exact ⟨a, rfl, h⟩
  | bad s => cases h

theorem Res.ofOpt_ok {α : Type} {x : Option α} {s : String} {a : α} (h : Res.ofOpt x s = .ok a) : x = some a := by
  cases x with
  | none => cases h
  | some b => cases h; rfl

theorem cond_ok {α : Type} {c : Bool} {x : Res α} {s : String} {a : α} (h : cond c x (.bad s) = .ok a) : c = true ∧ x = .ok a := by
  cases c
  · cases h
  · exact ⟨rfl, h⟩

/-! tries -/
theorem cond_par {β : Type} (x : Nat) (a b : β) : cond (Nat.beq (Nat.mod x 2) 0) a b = if x % 2 = 0 then a else b := by
  have h : (Nat.beq (Nat.mod x 2) 0 = true) ↔ x % 2 = 0 := by rw [Nat.beq_eq]; rfl
  by_cases hx : x % 2 = 0
  · rw [if_pos hx, h.2 hx]; rfl
  · rw [if_neg hx]
    cases hc : Nat.beq (Nat.mod x 2) 0
    · rfl
    · exact absurd (h.1 hc) hx

theorem rec_par {β : Type} (x : Nat) (a b : β) : @Bool.rec (fun _ => β) b a (Nat.beq (Nat.mod x 2) 0) = if x % 2 = 0 then a else b := by
  rw [← cond_par]
  cases Nat.beq (Nat.mod x 2) 0 <;> rfl

theorem Tr.get_succ {α : Type} (u : Option α) (l r : Tr α) (k : Nat) : (Tr.n u l r).get (k + 1) = if k % 2 = 0 then l.get (k / 2) else r.get (k / 2) := by
  exact rec_par k (l.get (k / 2)) (r.get (k / 2))

theorem Tr.put_succ {α : Type} (v u : Option α) (l r : Tr α) (d k : Nat) : Tr.put v (d + 1) (.n u l r) (k + 1) =
    if k % 2 = 0 then .n u (Tr.put v d l (k / 2)) r else .n u l (Tr.put v d r (k / 2)) := by
  exact rec_par k (Tr.n u (Tr.put v d l (k / 2)) r) (Tr.n u l (Tr.put v d r (k / 2)))

theorem Tr.put_e {α : Type} (v : Option α) (d k : Nat) : Tr.put v (d + 1) .e k = Tr.put v (d + 1) (.n none .e .e) k := by
  cases k <;> rfl

theorem Tr.get_put {α : Type} (v : Option α) : ∀ (d : Nat) (t : Tr α) (k k' : Nat) (a : α), (Tr.put v d t k).get k' = some a →
    (k' = k ∧ v = some a) ∨ (k' ≠ k ∧ t.get k' = some a) := by
  intro d
  induction d with
  | zero => intro t k k' a h; exact nomatch (show (none : Option α) = some a from h)
  | succ d ih =>
    have main : ∀ (u : Option α) (l r : Tr α) (k k' : Nat) (a : α), (Tr.put v (d + 1) (.n u l r) k).get k' = some a →
        (k' = k ∧ v = some a) ∨ (k' ≠ k ∧ (Tr.n u l r).get k' = some a) := by
      intro u l r k k' a h
      cases k with
      | zero =>
        cases k' with
        | zero => exact .inl ⟨rfl, h⟩
        | succ k' => exact .inr ⟨by omega, h⟩
      | succ k =>
        rw [Tr.put_succ] at h
        cases k' with
        | zero => split at h <;> exact .inr ⟨by omega, h⟩
        | succ k' =>
          rw [Tr.get_succ]
          split at h <;> rename_i hk <;> rw [Tr.get_succ] at h <;> split at h <;> rename_i hk'
          · rcases ih _ _ _ _ h with ⟨h1, h2⟩ | ⟨h1, h2⟩
            · exact .inl ⟨by omega, h2⟩
            · exact .inr ⟨by omega, by rw [if_pos hk']; exact h2⟩
          · exact .inr ⟨by omega, by rw [if_neg hk']; exact h⟩
          · exact .inr ⟨by omega, by rw [if_pos hk']; exact h⟩
          · rcases ih _ _ _ _ h with ⟨h1, h2⟩ | ⟨h1, h2⟩
            · exact .inl ⟨by omega, h2⟩
            · exact .inr ⟨by omega, by rw [if_neg hk']; exact h2⟩
    intro t k k' a h
    cases t with
    | e =>
      rw [Tr.put_e] at h
      rcases main _ _ _ _ _ _ h with h | ⟨_, h⟩
      · exact .inl h
      · cases k' with
        | zero => cases h
        | succ k' => rw [Tr.get_succ] at h; split at h <;> cases h
    | n u l r => exact main _ _ _ _ _ _ h

/-! values -/
/-- which block a number stands for, and of how many elements it is (where that is not known here) -/
abbrev Blk := Nat → Option (Nat × Nat)

mutual
inductive Rel (E : Blk) : AV → Value → Prop
  | bool (b : Bool) : Rel E (.bool b) (.bool b)
  | int (k : IntKind) (n : Int) : Rel E (.int k n) (.int k n)
  | str (l : List UInt8) : Rel E (.str l) (.string ⟨l.toArray⟩)
  | pnil : Rel E .pnil (.pointer none)
  | ptr {b c κ : Nat} (o : Nat) (h : E b = some (c, κ)) : Rel E (.ptr b o) (.pointer (some ⟨c, o, none⟩))
  | snil : Rel E .snil (.slice none 0 0)
  | slice {b c κ : Nat} (o n k : Nat) (h : E b = some (c, κ)) : Rel E (.slice b o n k) (.slice (some ⟨c, o, none⟩) n k)
  | slicev {b c κ : Nat} (o n k : Nat) (h : E b = some (c, κ)) (hn : n + k ≤ κ) : Rel E (.slicev b o n k) (.slice (some ⟨c, o, none⟩) n (κ - k))
  | slice0 (a : Addr) (c : Nat) : Rel E .slice0 (.slice (some a) 0 c)
  | mapn : Rel E (.map none) (.map none)
  | map {b c κ : Nat} (h : E b = some (c, κ)) : Rel E (.map (some b)) (.map (some c))
  | chann : Rel E (.chan none) (.chan none)
  | chan {b c κ : Nat} (h : E b = some (c, κ)) : Rel E (.chan (some b)) (.chan (some c))
  | func {a b : List AV} {x y : List Value} (f : Fn) (ha : Rels E a x) (hb : Rels E b y) : Rel E (.func f a b) (.func f x.toArray y.toArray)
  | nilFunc : Rel E .nilFunc .nilFunc
  | iface {v : AV} {x : Value} (t : TypeId) (h : Rel E v x) : Rel E (.iface t v) (.iface t x)
  | nilIface : Rel E .nilIface .nilIface
  | agg {l : List AV} {x : List Value} (h : Rels E l x) : Rel E (.agg l) (.agg x.toArray)
  | tuple {l : List AV} {x : List Value} (h : Rels E l x) : Rel E (.tuple l) (.tuple x.toArray)
  | tslice {b c d : Nat} (n : Nat) (h : E b = some (c, d)) : Rel E (.tslice b n) (.slice (some ⟨c, d, none⟩) n n)
  | tptr {b c d : Nat} (o : Nat) (h : E b = some (c, d)) : Rel E (.tptr b o) (.pointer (some ⟨c, d + o, none⟩))
inductive Rels (E : Blk) : List AV → List Value → Prop
  | nil : Rels E [] []
  | cons {a : AV} {v : Value} {l : List AV} {vs : List Value} (h : Rel E a v) (t : Rels E l vs) : Rels E (a :: l) (v :: vs)
end

def Le (E E' : Blk) : Prop := ∀ b p, E b = some p → E' b = some p

theorem Le.refl (E : Blk) : Le E E := fun _ _ h => h
theorem Le.trans {E E' E'' : Blk} (h : Le E E') (h' : Le E' E'') : Le E E'' := fun b p x => h' b p (h b p x)

mutual
theorem Rel.mono {E E' : Blk} (hE : Le E E') : ∀ {v : AV} {x : Value}, Rel E v x → Rel E' v x
  | _, _, .bool b => .bool b
  | _, _, .int k n => .int k n
  | _, _, .str l => .str l
  | _, _, .pnil => .pnil
  | _, _, .ptr o h => .ptr o (hE _ _ h)
  | _, _, .snil => .snil
  | _, _, .slice o n k h => .slice o n k (hE _ _ h)
  | _, _, .slicev o n k h hn => .slicev o n k (hE _ _ h) hn
  | _, _, .slice0 a c => .slice0 a c
  | _, _, .mapn => .mapn
  | _, _, .map h => .map (hE _ _ h)
  | _, _, .chann => .chann
  | _, _, .chan h => .chan (hE _ _ h)
  | _, _, .func f a b => .func f (Rels.mono hE a) (Rels.mono hE b)
  | _, _, .nilFunc => .nilFunc
  | _, _, .iface t h => .iface t (Rel.mono hE h)
  | _, _, .nilIface => .nilIface
  | _, _, .agg h => .agg (Rels.mono hE h)
  | _, _, .tuple h => .tuple (Rels.mono hE h)
  | _, _, .tslice n h => .tslice n (hE _ _ h)
  | _, _, .tptr o h => .tptr o (hE _ _ h)
theorem Rels.mono {E E' : Blk} (hE : Le E E') : ∀ {l : List AV} {xs : List Value}, Rels E l xs → Rels E' l xs
  | _, _, .nil => .nil
  | _, _, .cons h t => .cons (Rel.mono hE h) (Rels.mono hE t)
end

theorem Rels.length {E : Blk} : ∀ {l : List AV} {xs : List Value}, Rels E l xs → l.length = xs.length
  | _, _, .nil => rfl
  | _, _, .cons _ t => by simp [Rels.length t]

theorem Rels.append {E : Blk} : ∀ {l l' : List AV} {xs xs' : List Value}, Rels E l xs → Rels E l' xs' → Rels E (l ++ l') (xs ++ xs')
  | _, _, _, _, .nil, h => h
  | _, _, _, _, .cons h t, h' => .cons h (Rels.append t h')

theorem Rels.take {E : Blk} : ∀ {l : List AV} {xs : List Value} (n : Nat), Rels E l xs → Rels E (l.take n) (xs.take n)
  | _, _, 0, _ => by simpa using .nil
  | _, _, _ + 1, .nil => by simpa using .nil
  | _, _, n + 1, .cons h t => by simpa using .cons h (Rels.take n t)

theorem Rels.drop {E : Blk} : ∀ {l : List AV} {xs : List Value} (n : Nat), Rels E l xs → Rels E (l.drop n) (xs.drop n)
  | _, _, 0, h => by simpa using h
  | _, _, _ + 1, .nil => by simpa using .nil
  | _, _, n + 1, .cons _ t => by simpa using Rels.drop n t

theorem Rels.lget {E : Blk} : ∀ {l : List AV} {xs : List Value} (n : Nat) {a : AV}, Rels E l xs → lget l n = some a → ∃ x, xs[n]? = some x ∧ Rel E a x
  | _, _, _, _, .nil, h => by simp [Ab.lget] at h
  | _, _, 0, _, .cons h _, e => by simp only [Ab.lget, Option.some.injEq] at e; subst e; exact ⟨_, rfl, h⟩
  | _, _, n + 1, _, .cons _ t, e => by
    simp only [Ab.lget] at e
    obtain ⟨x, h1, h2⟩ := Rels.lget n t e
    exact ⟨x, by simpa using h1, h2⟩

theorem cut_ok {α : Type} {l r : List α} {o n : Nat} (h : cut l o n = .ok r) : r = (l.drop o).take n ∧ r.length = n ∧ (n = 0 ∨ o + n ≤ l.length) := by
  obtain ⟨h1, h2⟩ := cond_ok h
  cases h2
  have := Nat.eq_of_beq_eq_true h1
  refine ⟨rfl, this, ?_⟩
  simp at this
  omega

theorem splice_ok {α : Type} {l vs r : List α} {o : Nat} (h : splice l o vs = .ok r) : r = l.take o ++ vs ++ l.drop (o + vs.length) ∧ o + vs.length ≤ l.length := by
  obtain ⟨h1, h2⟩ := cond_ok h
  cases h2
  exact ⟨rfl, Nat.le_of_ble_eq_true h1⟩

theorem Rels.cut {E : Blk} {l r : List AV} {xs : List Value} {o n : Nat} (h : Rels E l xs) (hc : Ab.cut l o n = .ok r) : Rels E r ((xs.drop o).take n) := by
  rw [(cut_ok hc).1]; exact (h.drop o).take n

theorem Rel.cells {E : Blk} {v : AV} {x : Value} (h : Rel E v x) : Rels E v.cells x.cells.toList := by
  cases h <;> first
    | (simp only [AV.cells, Value.cells]; assumption)
    | (simp only [AV.cells, Value.cells]; refine .cons ?_ .nil; constructor <;> assumption)

theorem Rel.one {E : Blk} {v : AV} {x : Value} (h : Rel E v x) (h1 : v.one = true) : x.oneCell' = true := by
  cases h <;> first | rfl | cases h1

theorem Rels.ones {E : Blk} : ∀ {l : List AV} {xs : List Value}, Rels E l xs → l.all AV.one = true → ∀ x ∈ xs, x.oneCell' = true
  | _, _, .nil, _, x, hx => by cases hx
  | _, _, .cons h t, ha, x, hx => by
    simp only [List.all_cons, Bool.and_eq_true] at ha
    cases hx with
    | head => exact h.one ha.1
    | tail _ hx => exact Rels.ones t ha.2 x hx

theorem Rel.undef {E : Blk} : Rel E .undef Go.undef := .tuple .nil

end Go.Ab

/-! Memory: what is kept, and the laws of reading, writing, making. -/
namespace Go.Ab

inductive ERel (E : Blk) : List (AV × AV × Nat) → List MapEntry → Prop
  | nil : ERel E [] []
  | cons {k v : AV} {n : Nat} {e : MapEntry} {l : List (AV × AV × Nat)} {es : List MapEntry} (hk : Rel E k e.key) (hv : Rel E v e.val) (hn : e.born = n)
      (t : ERel E l es) : ERel E ((k, v, n) :: l) (e :: es)

theorem ERel.mono {E E' : Blk} (hE : Le E E') : ∀ {l : List (AV × AV × Nat)} {es : List MapEntry}, ERel E l es → ERel E' l es
  | _, _, .nil => .nil
  | _, _, .cons hk hv hn t => .cons (hk.mono hE) (hv.mono hE) hn (ERel.mono hE t)

def frozenFits (m : Md) (n lo hi : Nat) : Prop :=
  match m with
  | .clean => lo = hi
  | .marked => lo = hi ∨ n ≤ lo
  | .ro => True

def CellsRel (E : Blk) (κ : Nat) (cs : List AV) (e : TypeId) (flex : Option Nat) (m : Md) (o : Obj) : Prop :=
  ∃ (ys zs : List Value) (lo hi : Nat), o = .cells (ys ++ zs).toArray e (lo, hi) ∧ Rels E cs ys ∧ (flex = none → zs = []) ∧
    (∀ z, flex = some z → ys.length + zs.length = κ * z) ∧ frozenFits m (ys.length + zs.length) lo hi

/-- κ: where the table begins -/
def TabRel (E : Blk) (κ : Nat) (cs : List AV) (o : Obj) : Prop :=
  ∃ (ps ys zs : List Value) (e : TypeId) (fr : Nat × Nat), o = .cells (ps ++ ys ++ zs).toArray e fr ∧ ps.length = κ ∧ Rels E cs ys

def ORel (E : Blk) (κ : Nat) : AO → Obj → Prop
  | .cells cs e f m, o => CellsRel E κ cs e f m o
  | .map es c, o => ∃ xs, o = .map xs c ∧ ERel E es xs.toList
  | .chan n cl s r, o => o = .chan n #[] cl s r false
  | .siter s p, o => o = .stringIter ⟨s.toArray⟩ p
  | .tab cs, o => TabRel E κ cs o

theorem ORel.mono {E E' : Blk} (hE : Le E E') {κ : Nat} {a : AO} {o : Obj} (h : ORel E κ a o) : ORel E' κ a o := by
  cases a with
  | cells cs e f m =>
    obtain ⟨ys, zs, lo, hi, h1, h2, h3⟩ := h
    exact ⟨ys, zs, lo, hi, h1, h2.mono hE, h3⟩
  | map es c =>
    obtain ⟨xs, h1, h2⟩ := h
    exact ⟨xs, h1, h2.mono hE⟩
  | chan n cl s r => exact h
  | siter s p => exact h
  | tab cs =>
    obtain ⟨ps, ys, zs, e, fr, h1, h2, h3⟩ := h
    exact ⟨ps, ys, zs, e, fr, h1, h2, h3.mono hE⟩

def AO.rw : AO → Bool
  | .cells _ _ _ .ro => false
  | .tab _ => false
  | _ => true

/-- a memory that was there, and which of its blocks may be written -/
structure Fr where
  w0 : World
  S : Nat → Prop

structure Inv (F : Fr) (E : Blk) (H : Tr AO) (w : World) : Prop where
  tape : w.tape = F.w0.tape
  os : w.os = F.w0.os
  out : w.output = F.w0.output
  size : F.w0.heap.size ≤ w.heap.size
  frame : ∀ k, k < F.w0.heap.size → ¬ F.S k → w.heap[k]? = F.w0.heap[k]?
  obj : ∀ b ao, H.get b = some ao → ∃ c κ o, E b = some (c, κ) ∧ w.heap[c]? = some o ∧ ORel E κ ao o
  own : ∀ b ao c κ, H.get b = some ao → ao.rw = true → E b = some (c, κ) → F.w0.heap.size ≤ c ∨ F.S c
  inj : ∀ b b' ao ao' c κ κ', H.get b = some ao → H.get b' = some ao' → E b = some (c, κ) → E b' = some (c, κ') → b = b'

theorem Inv.drawn {F : Fr} {E : Blk} {H : Tr AO} {w w' : World} (h : Inv F E H w) (hh : w'.heap = w.heap) (ht : w'.tape = w.tape) (ho : w'.os = w.os)
    (hp : w'.output = w.output) : Inv F E H w' where
  tape := ht.trans h.tape
  os := ho.trans h.os
  out := hp.trans h.out
  size := by rw [hh]; exact h.size
  frame := by rw [hh]; exact h.frame
  obj := by rw [hh]; exact h.obj
  own := h.own
  inj := h.inj

theorem Inv.sub {F : Fr} {E : Blk} {H H' : Tr AO} {w : World} (h : Inv F E H w) (hs : ∀ b ao, H'.get b = some ao → H.get b = some ao) : Inv F E H' w where
  tape := h.tape
  os := h.os
  out := h.out
  size := h.size
  frame := h.frame
  obj := fun b ao hb => h.obj b ao (hs _ _ hb)
  own := fun b ao c κ hb => h.own b ao c κ (hs _ _ hb)
  inj := fun b b' ao ao' c κ κ' hb hb' => h.inj b b' ao ao' c κ κ' (hs _ _ hb) (hs _ _ hb')

theorem put_some {H : Tr AO} {b k : Nat} {a ao : AO} (h : (Tr.put (some a) dep H b).get k = some ao) : (k = b ∧ a = ao) ∨ (k ≠ b ∧ H.get k = some ao) := by
  rcases Tr.get_put _ _ _ _ _ _ h with ⟨h1, h2⟩ | h
  · exact .inl ⟨h1, by simpa using h2⟩
  · exact .inr h

theorem put_none {H : Tr AO} {b k : Nat} {ao : AO} (h : (Tr.put none dep H b).get k = some ao) : k ≠ b ∧ H.get k = some ao := by
  rcases Tr.get_put _ _ _ _ _ _ h with ⟨_, h2⟩ | h
  · cases h2
  · exact h

/-- one block has been written -/
theorem Inv.update {F : Fr} {E : Blk} {H : Tr AO} {w w' : World} {b c κ : Nat} {ao ao' : AO} {o' : Obj} (h : Inv F E H w) (hb : H.get b = some ao)
    (hrw : ao.rw = true) (hE : E b = some (c, κ)) (ho : w'.heap[c]? = some o') (hr : ORel E κ ao' o') (hk : ∀ k, k ≠ c → w'.heap[k]? = w.heap[k]?)
    (hs : w'.heap.size = w.heap.size) (ht : w'.tape = w.tape) (hos : w'.os = w.os) (hout : w'.output = w.output) :
    Inv F E (Tr.put (some ao') dep H b) w' where
  tape := ht.trans h.tape
  os := hos.trans h.os
  out := hout.trans h.out
  size := by rw [hs]; exact h.size
  frame := fun k hlt hS => by
    rw [hk k ?_]
    · exact h.frame k hlt hS
    · rintro rfl
      rcases h.own b ao k κ hb hrw hE with h1 | h1
      · omega
      · exact hS h1
  obj := fun b' x hx => by
    rcases put_some hx with ⟨rfl, rfl⟩ | ⟨hne, hx⟩
    · exact ⟨c, κ, o', hE, ho, hr⟩
    · obtain ⟨c', κ', o, hE', hw, hrel⟩ := h.obj b' x hx
      refine ⟨c', κ', o, hE', ?_, hrel⟩
      rw [hk c' ?_]
      · exact hw
      · rintro rfl
        exact hne (h.inj _ _ _ _ _ _ _ hx hb hE' hE)
  own := fun b' x c' κ' hx hrw' hE' => by
    rcases put_some hx with ⟨rfl, rfl⟩ | ⟨_, hx⟩
    · rw [hE] at hE'; cases hE'; exact h.own _ _ _ _ hb hrw hE
    · exact h.own _ _ _ _ hx hrw' hE'
  inj := fun b1 b2 x1 x2 c' κ1 κ2 h1 h2 e1 e2 => by
    have g : ∀ b' x, (Tr.put (some ao') dep H b).get b' = some x → ∃ y, H.get b' = some y := fun b' x hx => by
      rcases put_some hx with ⟨rfl, rfl⟩ | ⟨_, hx⟩
      · exact ⟨_, hb⟩
      · exact ⟨_, hx⟩
    obtain ⟨y1, g1⟩ := g _ _ h1
    obtain ⟨y2, g2⟩ := g _ _ h2
    exact h.inj _ _ _ _ _ _ _ g1 g2 e1 e2

def upd (E : Blk) (n : Nat) (p : Nat × Nat) : Blk := fun b => if b = n then some p else E b

theorem upd_same (E : Blk) (n : Nat) (p : Nat × Nat) : upd E n p n = some p := by simp [upd]
theorem upd_other (E : Blk) {n b : Nat} (p : Nat × Nat) (h : b ≠ n) : upd E n p b = E b := by simp [upd, h]

theorem upd_le {E : Blk} {n : Nat} (p : Nat × Nat) (h : E n = none) : Le E (upd E n p) := fun b q hb => by
  have : b ≠ n := by rintro rfl; rw [h] at hb; cases hb
  rw [upd_other _ _ this]; exact hb

/-- a new block -/
theorem Inv.push {F : Fr} {E : Blk} {H : Tr AO} {w w' : World} {n κ : Nat} {ao : AO} {o : Obj} (h : Inv F E H w) (hn : E n = none)
    (hw : w'.heap = w.heap.push o) (hr : ORel (upd E n (w.heap.size, κ)) κ ao o) (ht : w'.tape = w.tape) (hos : w'.os = w.os) (hout : w'.output = w.output) :
    Inv F (upd E n (w.heap.size, κ)) (Tr.put (some ao) dep H n) w' := by
  have hle : Le E (upd E n (w.heap.size, κ)) := upd_le _ hn
  have old : ∀ k, k < w.heap.size → w'.heap[k]? = w.heap[k]? := fun k hk => by
    rw [hw, Array.getElem?_push_lt hk, Array.getElem?_eq_getElem hk]
  have lt : ∀ b x, H.get b = some x → ∃ c κ, E b = some (c, κ) ∧ c < w.heap.size := fun b x hb => by
    obtain ⟨c, κ, o, h1, h2, _⟩ := h.obj b x hb
    refine ⟨c, κ, h1, ?_⟩
    rcases Nat.lt_or_ge c w.heap.size with hlt | hge
    · exact hlt
    · rw [Array.getElem?_eq_none hge] at h2; cases h2
  refine ⟨ht.trans h.tape, hos.trans h.os, hout.trans h.out, ?_, ?_, ?_, ?_, ?_⟩
  · rw [hw, Array.size_push]; have := h.size; omega
  · intro k hk hS
    rw [old k (by have := h.size; omega)]
    exact h.frame k hk hS
  · intro b x hx
    rcases put_some hx with ⟨rfl, rfl⟩ | ⟨hne, hx⟩
    · exact ⟨_, κ, o, upd_same _ _ _, by rw [hw]; simp, hr⟩
    · obtain ⟨c, κ', o', h1, h2, h3⟩ := h.obj b x hx
      obtain ⟨c', κ'', h4, h5⟩ := lt b x hx
      rw [h1] at h4; cases h4
      exact ⟨c, κ', o', hle _ _ h1, by rw [old c h5]; exact h2, h3.mono hle⟩
  · intro b x c κ' hx hrw hE
    rcases put_some hx with ⟨rfl, rfl⟩ | ⟨hne, hx⟩
    · rw [upd_same] at hE; cases hE; exact .inl h.size
    · rw [upd_other _ _ hne] at hE; exact h.own _ _ _ _ hx hrw hE
  · intro b1 b2 x1 x2 c κ1 κ2 h1 h2 e1 e2
    rcases put_some h1 with ⟨q1, p1⟩ | ⟨n1, g1⟩ <;> rcases put_some h2 with ⟨q2, p2⟩ | ⟨n2, g2⟩
    · rw [q1, q2]
    · rw [q1, upd_same] at e1; cases e1
      rw [upd_other _ _ n2] at e2
      obtain ⟨c', κ', h4, h5⟩ := lt _ _ g2
      rw [h4] at e2; cases e2; omega
    · rw [q2, upd_same] at e2; cases e2
      rw [upd_other _ _ n1] at e1
      obtain ⟨c', κ', h4, h5⟩ := lt _ _ g1
      rw [h4] at e1; cases e1; omega
    · rw [upd_other _ _ n1] at e1; rw [upd_other _ _ n2] at e2
      exact h.inj _ _ _ _ _ _ _ g1 g2 e1 e2

/-! reading -/
theorem Addr.add_none (c o n : Nat) : (⟨c, o, none⟩ : Addr).add n = ⟨c, o + n, none⟩ := by
  unfold Addr.add; split
  · subst_vars; rfl
  · rfl

theorem cell_of {w : World} {c : Nat} {xs : Array Value} {e : TypeId} {fr : Nat × Nat} (h : w.heap[c]? = some (.cells xs e fr)) (o : Nat) :
    w.cell? ⟨c, o, none⟩ = xs[o]? := by
  simp [World.cell?, h]

theorem run_loadCellsFrom {P : Program} {w : World} {c : Nat} {xs : Array Value} {e : TypeId} {fr : Nat × Nat} (h : w.heap[c]? = some (.cells xs e fr)) (o : Nat) :
    ∀ (n i : Nat) (acc : Array Value), o + i + n ≤ xs.size →
      (loadCellsFrom ⟨c, o, none⟩ i n acc).run P w = .ok (acc ++ ((xs.toList.drop (o + i)).take n).toArray) w := by
  intro n
  induction n with
  | zero => intro i acc _; simp [loadCellsFrom]
  | succ n ih =>
    intro i acc hn
    have hlt : o + i < xs.size := by omega
    have hc : w.cell? ⟨c, o + i, none⟩ = some xs[o + i] := by rw [cell_of h]; exact Array.getElem?_eq_getElem hlt
    have := ih (i + 1) (acc.push xs[o + i]) (by omega)
    simp only [loadCellsFrom, Sem.run_bind, run_load, Addr.add_none, hc, Result.andThen_ok, this]
    have e1 : (xs.toList.drop (o + i)).take (n + 1) = xs[o + i] :: (xs.toList.drop (o + (i + 1))).take n := by
      rw [List.drop_eq_getElem_cons (by simpa using hlt)]; simp [Nat.add_assoc]
    rw [e1]
    simp

theorem run_loadCells {P : Program} {w : World} {c : Nat} {xs : Array Value} {e : TypeId} {fr : Nat × Nat} (h : w.heap[c]? = some (.cells xs e fr)) (o n : Nat)
    (hn : o + n ≤ xs.size) : (loadCells ⟨c, o, none⟩ n).run P w = .ok ((xs.toList.drop o).take n).toArray w := by
  unfold loadCells
  rw [run_loadCellsFrom h o n 0 #[] (by omega)]
  simp

theorem Inv.cells {F : Fr} {E : Blk} {H : Tr AO} {w : World} {b : Nat} {cs : List AV} {e : TypeId} {f : Option Nat} {m : Md} (h : Inv F E H w)
    (hb : H.get b = some (.cells cs e f m)) : ∃ c κ ys zs lo hi, E b = some (c, κ) ∧ w.heap[c]? = some (.cells (ys ++ zs).toArray e (lo, hi)) ∧ Rels E cs ys ∧
      (f = none → zs = []) ∧ (∀ z, f = some z → ys.length + zs.length = κ * z) ∧ frozenFits m (ys.length + zs.length) lo hi := by
  obtain ⟨c, κ, o, h1, h2, ys, zs, lo, hi, rfl, h3⟩ := h.obj b _ hb
  exact ⟨c, κ, ys, zs, lo, hi, h1, h2, h3⟩

theorem load1_ok {F : Fr} {E : Blk} {s : St} {w : World} {b o : Nat} {v : AV} (h : Inv F E s.heap w) (hl : load1 s b o = .ok v) :
    ∃ c κ x, E b = some (c, κ) ∧ w.cell? ⟨c, o, none⟩ = some x ∧ Rel E v x := by
  unfold load1 at hl
  split at hl
  · rename_i cs e f m hb
    obtain ⟨c, κ, ys, zs, lo, hi, h1, h2, h3, _⟩ := h.cells hb
    obtain ⟨x, h4, h5⟩ := h3.lget o (Res.ofOpt_ok hl)
    refine ⟨c, κ, x, h1, ?_, h5⟩
    rw [cell_of h2]
    have hlt : o < ys.length := by
      rcases Nat.lt_or_ge o ys.length with hlt | hge
      · exact hlt
      · rw [List.getElem?_eq_none hge] at h4; cases h4
    simp [List.getElem?_append_left hlt, h4]
  · cases hl

theorem loadN_ok {F : Fr} {E : Blk} {s : St} {w : World} {b o n : Nat} {l : List AV} (h : Inv F E s.heap w) (hl : loadN s b o n = .ok l) (P : Program) :
    ∃ c κ xs, E b = some (c, κ) ∧ xs.length = n ∧ Rels E l xs ∧ (loadCells ⟨c, o, none⟩ n).run P w = .ok xs.toArray w := by
  unfold loadN at hl
  split at hl
  · rename_i cs e f m hb
    obtain ⟨c, κ, ys, zs, lo, hi, h1, h2, h3, _⟩ := h.cells hb
    obtain ⟨hc1, hc2, hc3⟩ := cut_ok hl
    have hcut := h3.cut hl
    refine ⟨c, κ, (ys.drop o).take n, h1, by rw [← hcut.length, hc2], hcut, ?_⟩
    have hlen : (ys.drop o).take n = ((ys ++ zs).drop o).take n := by
      have h5 := hcut.length
      rw [hc2] at h5
      simp at h5
      rcases Nat.eq_zero_or_pos n with rfl | hpos
      · simp
      · rw [List.drop_append_of_le_length (by omega), List.take_append_of_le_length (by simp; omega)]
    rcases Nat.eq_zero_or_pos n with rfl | hpos
    · simp [loadCells, loadCellsFrom]
    · rw [run_loadCells h2 o n ?_]
      · simp [hlen]
      · have h5 := hcut.length
        rw [hc2] at h5
        simp at h5
        simp; omega
  · cases hl

/-! writing -/
theorem frozen_of {w : World} {c : Nat} {xs : Array Value} {e : TypeId} {lo hi : Nat} (h : w.heap[c]? = some (.cells xs e (lo, hi))) (o : Nat) :
    w.frozen? ⟨c, o, none⟩ = (decide (lo ≤ o) && decide (o < hi)) := by
  simp [World.frozen?, h]

theorem setCell_at {w : World} {c o : Nat} {xs : Array Value} {e : TypeId} {fr : Nat × Nat} (v : Value) (h : w.heap[c]? = some (.cells xs e fr)) :
    (w.setCell ⟨c, o, none⟩ v).heap[c]? = some (.cells (xs.setIfInBounds o v) e fr) := by
  simp [World.setCell, Array.getElem?_modify, h]

theorem setCell_else {w : World} {c o k : Nat} (v : Value) (hk : k ≠ c) : (w.setCell ⟨c, o, none⟩ v).heap[k]? = w.heap[k]? := by
  simp [World.setCell, Array.getElem?_modify, Ne.symm hk]

theorem run_storeCells {P : Program} {c o : Nat} {e : TypeId} {lo hi : Nat} : ∀ (vs : List Value) (i : Nat) (w : World) (xs : Array Value),
    w.heap[c]? = some (.cells xs e (lo, hi)) → o + i + vs.length ≤ xs.size → (hi ≤ lo ∨ xs.size ≤ lo) → (∀ v ∈ vs, v.oneCell' = true) →
    ∃ w' : World, (storeCells ⟨c, o, none⟩ vs i).run P w = .ok () w' ∧
      w'.heap[c]? = some (.cells (xs.toList.take (o + i) ++ vs ++ xs.toList.drop (o + i + vs.length)).toArray e (lo, hi)) ∧
      (∀ k, k ≠ c → w'.heap[k]? = w.heap[k]?) ∧ w'.heap.size = w.heap.size ∧ w'.tape = w.tape ∧ w'.os = w.os ∧ w'.output = w.output := by
  intro vs
  induction vs with
  | nil =>
    intro i w xs h _ _ _
    refine ⟨w, by simp [storeCells], ?_, fun _ _ => rfl, rfl, rfl, rfl, rfl⟩
    simp [h]
  | cons v vs ih =>
    intro i w xs h hn hf h1
    simp only [List.length_cons] at hn
    have hlt : o + i < xs.size := by omega
    have hc : w.cell? ⟨c, o + i, none⟩ = some xs[o + i] := by rw [cell_of h]; exact Array.getElem?_eq_getElem hlt
    have hfr : w.frozen? ⟨c, o + i, none⟩ = false := by
      rw [frozen_of h]
      rcases hf with hf | hf <;> simp <;> omega
    have hset := setCell_at (o := o + i) v h
    obtain ⟨w', hr, ha, hk, hsz, ht, hos, hout⟩ := ih (i + 1) (w.setCell ⟨c, o + i, none⟩ v) _ hset (by simp; omega) (by simpa using hf)
      (fun x hx => h1 x (List.mem_cons_of_mem _ hx))
    refine ⟨w', ?_, ?_, fun k hk' => (hk k hk').trans (setCell_else v hk'), by rw [hsz]; simp [World.setCell], by rw [ht]; rfl, by rw [hos]; rfl, by rw [hout]; rfl⟩
    · simp only [storeCells, Sem.run_bind, Addr.add_none, run_store P w _ v .plain (h1 v (by simp)), hc, hfr, Bool.false_eq_true, if_false, Result.andThen_ok, hr]
    · rw [ha]
      have e1 : (xs.setIfInBounds (o + i) v).toList = xs.toList.set (o + i) v := by simp
      have hl : o + i < xs.toList.length := by simpa using hlt
      rw [e1]
      congr 2
      have e2 : (xs.toList.set (o + i) v).take (o + (i + 1)) = xs.toList.take (o + i) ++ [v] := by
        rw [← Nat.add_assoc, List.take_add_one, List.take_set_of_le (by omega)]
        simp [List.getElem?_set_self hl]
      have e3 : (xs.toList.set (o + i) v).drop (o + (i + 1) + vs.length) = xs.toList.drop (o + i + (vs.length + 1)) := by
        rw [List.drop_set_of_lt (by omega)]
        congr 1; omega
      rw [e2, e3]
      simp
  
end Go.Ab

/-! The operations that leave memory alone. -/
namespace Go.Ab

/-- what the known functions without a body do -/
def ExtOK (P : Program) (f : Nat) (c : Nat) (e : TypeId) : Prop :=
  match c with
  | 0 => ∀ args w, (callFunc f args).run P w = .ok (.value (.tuple #[])) w
  | 1 => ∃ m, ∀ args w, (callFunc f args).run P w = ((Extern.Race.marked m args).run P w).andThen fun v w => .ok (.value v) w
  | 2 => ∀ args w, (callFunc f args).run P w = ((Extern.Atomic.update (Op.intArith .add) .i32 true args).run P w).andThen fun v w => .ok (.value v) w
  | 3 => ∀ args w, (callFunc f args).run P w = ((Extern.Atomic.casT (.int .i32) args).run P w).andThen fun v w => .ok (.value v) w
  | 4 => ∀ args w, (callFunc f args).run P w = ((Extern.BytealgIndexByte.indexByte args).run P w).andThen fun v w => .ok (.value v) w
  | 5 => ∀ args w, (callFunc f args).run P w = ((Extern.BytealgCompare.compare args).run P w).andThen fun v w => .ok (.value v) w
  | 6 => ∀ args w, (callFunc f args).run P w = ((Extern.AbiNoEscape.same args).run P w).andThen fun v w => .ok (.value v) w
  | 7 => ∀ args w, (callFunc f args).run P w = ((Extern.MapsClone.clone args).run P w).andThen fun v w => .ok (.value v) w
  | 8 => ∃ ps t, P.underlying t = some (.slice e) ∧ ∀ args w, (callFunc f args).run P w = ((Extern.BytealgMakeNoZero.makeNoZero ps #[t] args).run P w).andThen fun v w => .ok (.value v) w
  | _ => False

structure CtxOK (P : Program) (C : Ctx) : Prop where
  info : ∀ t i, C.info t = some i → P.info? t = some i
  desc : ∀ t d, C.desc t = some d → P.underlying t = some d
  func : ∀ f fn, C.func f = some fn → P.funcs[f]? = some fn
  call : ∀ f fn, C.func f = some fn → ∀ args w, (callFunc f args).run P w = .ok (.enter f args) w
  ext : ∀ f c e, C.ext f = some (c, e) → ExtOK P f c e
  plain : ∀ t, C.plainEq t = true → P.stoodInHeld t = false ∧ P.eqGuardType P.depth t = false
  mixed : P.follows .mixedOrders = true

variable {P : Program} {C : Ctx} (hC : CtxOK P C) {F : Fr} {E : Blk} {w : World}

mutual
theorem absL_rel {d : Nat} : ∀ {xs : List Value} {l : List AV}, absL (absV d) xs = some l → Rels E l xs
  | [], l, h => by simp only [absL, Option.some.injEq] at h; subst h; exact .nil
  | v :: vs, l, h => by
    simp only [absL] at h
    split at h
    · cases h
    · rename_i a ha
      split at h
      · cases h
      · rename_i l' hl
        cases h
        exact .cons (absV_rel ha) (absL_rel hl)
termination_by xs => (d, xs.length + 1)
theorem absV_rel : ∀ {d : Nat} {v : Value} {a : AV}, absV d v = some a → Rel E a v
  | 0, v, a, h => by simp [absV] at h
  | d + 1, v, a, h => by
    unfold absV at h
    split at h
    · cases h; exact .bool _
    · cases h; exact .int _ _
    · cases h; exact .str _
    · cases h; exact .pnil
    · cases h; exact .snil
    · cases h; exact .mapn
    · cases h; exact .chann
    · rename_i fn x y
      split at h
      · cases h
      · rename_i a' ha
        split at h
        · cases h
        · rename_i b' hb
          cases h
          exact .func fn (absL_rel ha) (absL_rel hb)
    · cases h; exact .nilFunc
    · cases h; exact .nilIface
    · split at h
      · cases h
      · rename_i l hl; cases h; exact .agg (absL_rel hl)
    · split at h
      · cases h
      · rename_i l hl; cases h; exact .tuple (absL_rel hl)
    · cases h
termination_by d => (d, 0)
end

include hC in
theorem run_under {t : TypeId} {d : TypeDesc} (h : C.under t = .ok d) : (underlying t).run P w = .ok d w := by
  have := hC.desc t d (Res.ofOpt_ok h)
  simp [underlying, this]

include hC in
theorem run_info {t : TypeId} {i : TypeInfo} (h : C.info t = some i) : (typeInfo t).run P w = .ok i w := by
  have := hC.info t i h
  simp [typeInfo, this]

include hC in
theorem run_sz {t : TypeId} {n : Nat} (h : C.sz t = .ok n) : (sizeOf t).run P w = .ok n w := by
  obtain ⟨i, hi, he⟩ := Res.bind_ok h
  cases he
  simp [sizeOf, run_info hC (Res.ofOpt_ok hi)]

include hC in
theorem run_agg {t : TypeId} {b : Bool} (h : C.agg t = .ok b) : (isAgg t).run P w = .ok b w := by
  obtain ⟨d, hd, he⟩ := Res.bind_ok h
  unfold isAgg
  simp only [Sem.run_bind, run_under hC hd, Result.andThen_ok]
  cases d <;> simp at he <;> subst he <;> rfl

include hC in
theorem run_zero {t : TypeId} {z : AV} (h : C.zero t = .ok z) : ∃ x, Rel E z x ∧ ∀ w, (zeroValue t).run P w = .ok x w := by
  obtain ⟨i, hi, he⟩ := Res.bind_ok h
  cases hz : i.zero with
  | none => simp [hz] at he
  | some x =>
    simp only [hz] at he
    refine ⟨x, absV_rel (Res.ofOpt_ok he), fun w => ?_⟩
    simp [zeroValue, run_info hC (Res.ofOpt_ok hi), hz]

/-- an expression that gives a value for v, and leaves the world alone -/
def Gives (P : Program) (E : Blk) (w : World) (s : Sem Value) (v : AV) : Prop := ∃ x, s.run P w = .ok x w ∧ Rel E v x

include hC in
theorem loadV_ok {s : St} {t : TypeId} {b o : Nat} {v : AV} (h : Inv F E s.heap w) (hl : loadV C s t b o = .ok v) :
    ∃ c κ, E b = some (c, κ) ∧ Gives P E w (loadVar t ⟨c, o, none⟩) v := by
  obtain ⟨g, hg, hl⟩ := Res.bind_ok hl
  cases g with
  | true =>
    simp only at hl
    obtain ⟨n, hn, hl⟩ := Res.bind_ok hl
    obtain ⟨l, hl', he⟩ := Res.bind_ok hl
    cases he
    obtain ⟨c, κ, xs, h1, h2, h3, h4⟩ := loadN_ok h hl' P
    refine ⟨c, κ, h1, .agg xs.toArray, ?_, .agg h3⟩
    simp [loadVar, run_agg hC hg, run_sz hC hn, h4]
  | false =>
    simp only at hl
    obtain ⟨c, κ, x, h1, h2, h3⟩ := load1_ok h hl
    exact ⟨c, κ, h1, x, by simp [loadVar, run_agg hC hg, h2], h3⟩

include hC in
theorem loadT_ok {s : St} {t : TypeId} {b o : Nat} {v : AV} (h : Inv F E s.heap w) (hl : loadT C s t b o = .ok v) :
    ∃ c d, E b = some (c, d) ∧ Gives P E w (loadVar t ⟨c, d + o, none⟩) v := by
  unfold loadT at hl
  split at hl
  · rename_i cs hb
    obtain ⟨c, d, ob, h1, h2, ps, ys, zs, e, fr, rfl, h4, h5⟩ := h.obj b _ hb
    refine ⟨c, d, h1, ?_⟩
    obtain ⟨g, hg, hl⟩ := Res.bind_ok hl
    cases g with
    | true =>
      simp only at hl
      obtain ⟨n, hn, hl⟩ := Res.bind_ok hl
      obtain ⟨l, hl', he⟩ := Res.bind_ok hl
      cases he
      obtain ⟨_, hc2, hc3⟩ := cut_ok hl'
      have hcut := h5.cut hl'
      have h6 := hcut.length
      rw [hc2] at h6
      have hld : (loadCells ⟨c, d + o, none⟩ n).run P w = .ok ((ys.drop o).take n).toArray w := by
        rcases Nat.eq_zero_or_pos n with rfl | hpos
        · simp [loadCells, loadCellsFrom]
        · simp at h6
          rw [run_loadCells h2 (d + o) n (by simp; omega)]
          congr 2
          rw [List.append_assoc, ← h4]
          show List.take n (List.drop (ps.length + o) (ps ++ (ys ++ zs))) = _
          rw [List.drop_append, List.drop_eq_nil_of_le (by omega), List.nil_append, show ps.length + o - ps.length = o by omega,
            List.drop_append_of_le_length (by omega), List.take_append_of_le_length (by simp; omega)]
      generalize (ys.drop o).take n = us at hcut hld
      exact ⟨.agg us.toArray, by simp [loadVar, run_agg hC hg, run_sz hC hn, hld], .agg hcut⟩
    | false =>
      simp only at hl
      obtain ⟨x, h6, h7⟩ := h5.lget o (Res.ofOpt_ok hl)
      have hlt : o < ys.length := by
        rcases Nat.lt_or_ge o ys.length with hlt | hge
        · exact hlt
        · rw [List.getElem?_eq_none hge] at h6; cases h6
      have hcell : w.cell? ⟨c, d + o, none⟩ = some x := by
        rw [cell_of h2, ← h4]
        simp [List.getElem?_append, hlt]
        exact Option.some.inj ((List.getElem?_eq_getElem hlt).symm.trans h6)
      exact ⟨x, by simp [loadVar, run_agg hC hg, hcell], h7⟩
  · cases hl

include hC in
theorem part_ok {t : TypeId} {cs : List AV} {xs : List Value} {o : Nat} {v : AV} (h : Rels E cs xs) (hl : part C t cs o = .ok v) :
    Gives P E w (Go.part t xs.toArray o) v := by
  obtain ⟨g, hg, hl⟩ := Res.bind_ok hl
  cases g with
  | true =>
    simp only at hl
    obtain ⟨n, hn, hl⟩ := Res.bind_ok hl
    obtain ⟨l, hl', he⟩ := Res.bind_ok hl
    cases he
    have h3 := h.cut hl'
    refine ⟨.agg (xs.toArray.extract o (o + n)), by simp [Go.part, run_agg hC hg, run_sz hC hn], ?_⟩
    have : xs.toArray.extract o (o + n) = ((xs.drop o).take n).toArray := by simp
    rw [this]; exact .agg h3
  | false =>
    simp only at hl
    obtain ⟨x, h1, h2⟩ := h.lget o (Res.ofOpt_ok hl)
    exact ⟨x, by simp [Go.part, run_agg hC hg, h1], h2⟩

/-! integers -/
theorem ile_eq (a b : Int) : ile a b = decide (a ≤ b) := by
  cases a <;> cases b <;> simp only [ile]
  · rename_i m n
    have : (Nat.ble m n = true) ↔ ((m : Int) ≤ n) := by rw [Nat.ble_eq]; omega
    rw [Bool.eq_iff_iff]; simp only [decide_eq_true_eq]; exact this
  · rename_i m n
    have : ¬ ((m : Int) ≤ Int.negSucc n) := by omega
    simp [this]
  · rename_i m n
    have : (Int.negSucc m ≤ (n : Int)) := by omega
    simp [this]
  · rename_i m n
    have : (Nat.ble n m = true) ↔ (Int.negSucc m ≤ Int.negSucc n) := by rw [Nat.ble_eq]; omega
    rw [Bool.eq_iff_iff]; simp only [decide_eq_true_eq]; exact this

theorem ieq_eq (a b : Int) : ieq a b = (a == b) := by
  cases a <;> cases b <;> simp only [ieq]
  · rename_i m n
    rw [Bool.eq_iff_iff]; simp; omega
  · rename_i m n
    symm; simp only [beq_eq_false_iff_ne]; intro h; cases h
  · rename_i m n
    symm; simp only [beq_eq_false_iff_ne]; intro h; cases h
  · rename_i m n
    rw [Bool.eq_iff_iff]; simp

theorem wrapA_eq (k : IntKind) (n : Int) : wrapA k n = k.wrap n := by
  unfold wrapA
  cases h : inR k n with
  | false => rfl
  | true =>
    simp only [cond_true]
    cases k <;> cases n <;> simp only [inR, Bool.false_eq_true, Nat.ble_eq] at h <;>
      simp only [IntKind.wrap, IntKind.bits, IntKind.signed] <;> simp <;> omega

theorem arith_ok {op : BinOp} {t : TypeId} {k : IntKind} {x y : Int} {v : AV} (hs : op ≠ .shl) (hs' : op ≠ .shr) (h : arith op k x y = .ok v) :
    Gives P E w (binOp op t (.int k x) (.int k y)) v := by
  unfold Go.binOp
  cases op <;> simp only [arith] at h <;> try (first | (exact absurd rfl hs) | (exact absurd rfl hs'))
  case add => cases h; exact ⟨_, by simp [Op.intArith] <;> rfl, by rw [wrapA_eq]; exact .int _ _⟩
  case sub => cases h; exact ⟨_, by simp [Op.intArith] <;> rfl, by rw [wrapA_eq]; exact .int _ _⟩
  case mul => cases h; exact ⟨_, by simp [Op.intArith] <;> rfl, by rw [wrapA_eq]; exact .int _ _⟩
  case quo =>
    rw [ieq_eq] at h
    cases hy : (y == 0) <;> simp [hy] at h
    have : ¬ y = 0 := by simpa using hy
    subst h; exact ⟨_, by simp [Op.intDiv, this] <;> rfl, .int _ _⟩
  case rem =>
    rw [ieq_eq] at h
    cases hy : (y == 0) <;> simp [hy] at h
    have : ¬ y = 0 := by simpa using hy
    subst h; exact ⟨_, by simp [Op.intDiv, this] <;> rfl, .int _ _⟩
  case and => cases h; exact ⟨_, by simp [Op.intBits] <;> rfl, .int _ _⟩
  case or => cases h; exact ⟨_, by simp [Op.intBits] <;> rfl, .int _ _⟩
  case xor => cases h; exact ⟨_, by simp [Op.intBits] <;> rfl, .int _ _⟩
  case andNot => cases h; exact ⟨_, by simp [Op.intBits] <;> rfl, .int _ _⟩
  case eql => cases h; exact ⟨_, by simp [Op.intCmp] <;> rfl, by rw [ieq_eq]; exact .bool _⟩
  case neq => cases h; exact ⟨_, by simp [Op.intCmp] <;> rfl, by rw [ieq_eq]; exact .bool _⟩
  case lss => cases h; exact ⟨_, by simp [Op.intCmp] <;> rfl, by rw [ile_eq]; simp only [← decide_not, Int.not_le]; exact .bool _⟩
  case leq => cases h; exact ⟨_, by simp [Op.intCmp] <;> rfl, by rw [ile_eq]; exact .bool _⟩
  case gtr => cases h; exact ⟨_, by simp [Op.intCmp] <;> rfl, by rw [ile_eq]; simp only [← decide_not, Int.not_le]; exact .bool _⟩
  case geq => cases h; exact ⟨_, by simp [Op.intCmp] <;> rfl, by rw [ile_eq]; exact .bool _⟩

end Go.Ab

/-! Strings, equality, slices, fields, indexes. -/
namespace Go.Ab
variable {P : Program} {C : Ctx} (hC : CtxOK P C) {F : Fr} {E : Blk} {w : World}

theorem u8_toNat_inj {a b : UInt8} (h : a.toNat = b.toNat) : a = b := UInt8.toNat_inj.1 h

theorem beq8_eq : ∀ (x y : List UInt8), beq8 x y = (x == y)
  | [], [] => rfl
  | [], _ :: _ => rfl
  | _ :: _, [] => rfl
  | a :: x, b :: y => by
    rw [beq8, beq8_eq x y]
    have : Nat.beq a.toNat b.toNat = (a == b) := by
      rw [Bool.eq_iff_iff, Nat.beq_eq, beq_iff_eq]
      exact ⟨u8_toNat_inj, fun h => by rw [h]⟩
    rw [this]; rfl

theorem lss8_eq : ∀ (x y : List UInt8), lss8 x y = Op.bytesLess x y
  | _, [] => by unfold lss8 Op.bytesLess; rfl
  | [], _ :: _ => rfl
  | a :: x, b :: y => by
    rw [lss8, Op.bytesLess, lss8_eq x y]
    cases h : Nat.beq a.toNat b.toNat with
    | true =>
      have : a = b := u8_toNat_inj (Nat.eq_of_beq_eq_true h)
      subst this
      simp
    | false =>
      have hne : a ≠ b := by rintro rfl; rw [Nat.beq_refl] at h; cases h
      have h1 : Nat.blt a.toNat b.toNat = decide (a < b) := by
        rw [Bool.eq_iff_iff]; simp [Nat.blt, UInt8.lt_iff_toNat_lt, Nat.ble_eq]; omega
      simp [hne, h1]

theorem str_append (l m : List UInt8) : (ByteArray.mk l.toArray) ++ (ByteArray.mk m.toArray) = ByteArray.mk (l ++ m).toArray := by ext1; simp

theorem strA_ok {op : BinOp} {t : TypeId} {x y : List UInt8} {v : AV} (h : strA op x y = .ok v) :
    Gives P E w (binOp op t (.string ⟨x.toArray⟩) (.string ⟨y.toArray⟩)) v := by
  have hb : binOp op t (.string ⟨x.toArray⟩) (.string ⟨y.toArray⟩) = Op.stringOp op ⟨x.toArray⟩ ⟨y.toArray⟩ := by cases op <;> rfl
  rw [hb]
  unfold Op.stringOp
  simp only [ByteArray.toList_mk]
  cases op <;> simp only [strA] at h <;> try (cases h; done)
  case add =>
    obtain ⟨h1, h2⟩ := cond_ok h
    cases h2
    have h1 := Nat.le_of_ble_eq_true h1
    refine ⟨_, ?_, .str _⟩
    have : ¬ (((ByteArray.size ⟨x.toArray⟩ + ByteArray.size ⟨y.toArray⟩ : Nat) : Int) > IntKind.i64.max) := by
      simp [ByteArray.size, IntKind.max, IntKind.signed, IntKind.bits]; omega
    simp only [this, if_false, str_append, Sem.run_pure]
  all_goals
    cases h
    refine ⟨_, Sem.run_pure _ _ _, ?_⟩
    simp only [beq8_eq, lss8_eq]
    exact .bool _

/-! equality -/
theorem beq_str (a b : List UInt8) : ((ByteArray.mk a.toArray) == (ByteArray.mk b.toArray)) = (a == b) := by
  have h : ((ByteArray.mk a.toArray) == (ByteArray.mk b.toArray)) = (a.toArray == b.toArray) := rfl
  rw [h, Bool.eq_iff_iff, beq_iff_eq, beq_iff_eq]
  constructor
  · intro h; have := congrArg Array.toList h; simpa using this
  · rintro rfl; rfl

theorem cleanAt_ok {s : St} {b c κ : Nat} (h : Inv F E s.heap w) (hE : E b = some (c, κ)) (hc : cleanAt s b = true) :
    ∃ xs e lo hi, w.heap[c]? = some (.cells xs e (lo, hi)) ∧ hi ≤ lo := by
  unfold cleanAt at hc
  split at hc
  · rename_i cs e f hb
    obtain ⟨c', κ', ys, zs, lo, hi, h1, h2, h3, h4, h5, h6⟩ := h.cells hb
    rw [hE] at h1; cases h1
    exact ⟨_, _, lo, hi, h2, by have : lo = hi := h6; omega⟩
  · cases hc

theorem frozen_none {w : World} {c : Nat} {xs : Array Value} {e : TypeId} {lo hi : Nat} (h : w.heap[c]? = some (.cells xs e (lo, hi))) (hf : hi ≤ lo) (a : Addr) (ha : a.block = c) :
    w.frozen? a = false := by
  subst ha
  simp [World.frozen?, h]; omega

theorem run_viewAt {c : Nat} {xs : Array Value} {e : TypeId} {fr : Nat × Nat} (h : w.heap[c]? = some (.cells xs e fr)) : (viewAt c).run P w = .ok none w := by
  have : w.shape? c = some (e, xs.size) := by simp [World.shape?, h]
  simp [viewAt, this]

theorem run_sameAddr {a b : Addr} {xs ys : Array Value} {e e' : TypeId} {lo hi lo' hi' : Nat} (hne : a.block ≠ b.block)
    (ha : w.heap[a.block]? = some (.cells xs e (lo, hi))) (hb : w.heap[b.block]? = some (.cells ys e' (lo', hi'))) (hf : hi ≤ lo) (hf' : hi' ≤ lo') :
    (sameAddr a b).run P w = .ok false w := by
  have sa : w.shape? a.block = some (e, xs.size) := by simp [World.shape?, ha]
  have sb : w.shape? b.block = some (e', ys.size) := by simp [World.shape?, hb]
  have fa : ∀ o sp, w.frozen? ⟨a.block, o, sp⟩ = false := fun o sp => frozen_none ha hf _ rfl
  have fb : ∀ o sp, w.frozen? ⟨b.block, o, sp⟩ = false := fun o sp => frozen_none hb hf' _ rfl
  have fa' : w.frozen? a = false := frozen_none ha hf _ rfl
  have fb' : w.frozen? b = false := frozen_none hb hf' _ rfl
  have str : ∀ (x : Addr) zs t, w.frozen? x = false → w.shape? x.block = some (t, zs) → (∀ o, w.frozen? ⟨x.block, o, none⟩ = false) → (stringish x).run P w = .ok false w := by
    intro x zs t h1 h2 h3
    simp [stringish, h1, h2, h3]
  have n1 : (noView a).run P w = .ok () w := by simp [noView, run_viewAt ha]
  have n2 : (noView b).run P w = .ok () w := by simp [noView, run_viewAt hb]
  have m : (mayBeOne a b).run P w = .ok false w := by
    simp [mayBeOne, str a _ _ fa' sa (fun o => fa o none), str b _ _ fb' sb (fun o => fb o none), sb]
  simp [sameAddr, hne, fa', n1, n2, m]

include hC in
theorem eqOne_ok {s : St} {t : TypeId} {td : TypeDesc} {x y : AV} {r : Bool} {vx vy : Value} (h : Inv F E s.heap w) (ht : C.under t = .ok td)
    (hx : Rel E x vx) (hy : Rel E y vy) (he : eqOne C s td x y = .ok r) (d : Nat) : (Op.equalIn (d + 1) t vx vy).run P w = .ok r w := by
  unfold Op.equalIn
  simp only [Sem.run_bind, run_under hC ht, Result.andThen_ok]
  unfold eqOne at he
  split at he <;> try (cases he; done)
  case h_1 => cases hx; cases hy; cases he; simp
  case h_2 =>
    cases hx; cases hy
    obtain ⟨h1, h2⟩ := cond_ok he
    cases h2
    have := of_decide_eq_true h1
    simp [this, ieq_eq]
  case h_3 => cases hx; cases hy; cases he; simp only [beq8_eq, Sem.run_pure, beq_str]
  case h_4 => cases hx; cases hy; cases he; simp
  case h_5 => cases hx; cases hy; cases he; simp
  case h_6 => cases hx; cases hy; cases he; simp
  case h_7 e a o b p =>
    obtain ⟨n, hn, he⟩ := Res.bind_ok he
    cases hx with | ptr _ hE1 => cases hy with | ptr _ hE2 =>
    rename_i c1 κ1 c2 κ2
    cases hz : Nat.beq n 0 with
    | true => simp [hz] at he
    | false =>
      have hn0 : ¬ n = 0 := by rintro rfl; cases hz
      simp only [hz, cond_false] at he
      simp only [Sem.run_bind, run_sz hC hn, Result.andThen_ok, ne_eq, hn0, not_false_eq_true, if_true]
      cases hab : Nat.beq a b with
      | true =>
        have := Nat.eq_of_beq_eq_true hab
        subst this
        rw [hE1] at hE2; cases hE2
        simp only [hab, cond_true, Res.ok.injEq] at he
        subst he
        have : ((⟨c1, o, none⟩ : Addr) == ⟨c1, p, none⟩) = Nat.beq o p := by
          rw [Bool.eq_iff_iff, beq_iff_eq, Nat.beq_eq]; simp
        simp [sameAddr, this]
      | false =>
        simp only [hab, cond_false] at he
        obtain ⟨h1, h2⟩ := cond_ok he
        cases h2
        simp only [Bool.and_eq_true] at h1
        obtain ⟨xs, e1, lo1, hi1, g1, f1⟩ := cleanAt_ok h hE1 h1.1
        obtain ⟨ys, e2, lo2, hi2, g2, f2⟩ := cleanAt_ok h hE2 h1.2
        have hne : c1 ≠ c2 := by
          rintro rfl
          have hab' : a ≠ b := by rintro rfl; rw [Nat.beq_refl] at hab; cases hab
          have A : ∃ ao, s.heap.get a = some ao := by
            have := h1.1; unfold cleanAt at this; split at this
            · exact ⟨_, by assumption⟩
            · cases this
          have B : ∃ ao, s.heap.get b = some ao := by
            have := h1.2; unfold cleanAt at this; split at this
            · exact ⟨_, by assumption⟩
            · cases this
          obtain ⟨_, A⟩ := A; obtain ⟨_, B⟩ := B
          exact hab' (h.inj _ _ _ _ _ _ _ A B hE1 hE2)
        exact run_sameAddr (a := ⟨c1, o, none⟩) (b := ⟨c2, p, none⟩) hne g1 g2 f1 f2
  all_goals (cases hx <;> cases hy <;> cases he <;> simp)

end Go.Ab

/-! Binary operations; slices, fields, indexes. -/
namespace Go.Ab
variable {P : Program} {C : Ctx} (hC : CtxOK P C) {F : Fr} {E : Blk} {w : World}

include hC in
theorem eqFields_ok {s : St} {xs ys : List AV} {vx vy : List Value} (h : Inv F E s.heap w) (hx : Rels E xs vx) (hy : Rels E ys vy) (d : Nat) :
    ∀ (fs : List Field) (r : Bool), eqFields C s xs ys fs = .ok r → (Op.eqFields (d + 1) vx.toArray vy.toArray fs).run P w = .ok r w := by
  intro fs
  induction fs with
  | nil => intro r he; cases he; simp [Op.eqFields]
  | cons f fs ih =>
    intro r he
    unfold eqFields at he
    by_cases hn : f.name = "_"
    · simp only [hn, BEq.rfl, cond_true] at he
      simp only [Op.eqFields, hn, ne_eq, not_true_eq_false, if_false]
      exact ih r he
    · have : (f.name == "_") = false := by simpa using hn
      simp only [this, cond_false] at he
      obtain ⟨td, htd, he⟩ := Res.bind_ok he
      obtain ⟨hp, he⟩ := cond_ok he
      obtain ⟨a, ha, he⟩ := Res.bind_ok he
      obtain ⟨b, hb, he⟩ := Res.bind_ok he
      obtain ⟨q, hq, he⟩ := Res.bind_ok he
      obtain ⟨va, h1, h2⟩ := hx.lget _ (Res.ofOpt_ok ha)
      obtain ⟨vb, h3, h4⟩ := hy.lget _ (Res.ofOpt_ok hb)
      have hag : C.agg f.type = .ok false := by
        unfold Ctx.agg; rw [htd]
        cases td <;> first | rfl | cases hp
      have e1 : (Go.part f.type vx.toArray f.offset).run P w = .ok va w := by simp [Go.part, run_agg hC hag, h1]
      have e2 : (Go.part f.type vy.toArray f.offset).run P w = .ok vb w := by simp [Go.part, run_agg hC hag, h3]
      have e3 := eqOne_ok hC h htd h2 h4 hq d
      simp only [Op.eqFields, ne_eq, hn, not_false_eq_true, if_true, Sem.run_bind, e1, e2, e3, Result.andThen_ok]
      cases q with
      | true => simp only [Bool.not_true, Bool.false_eq_true, if_false]; exact ih r he
      | false => simp only at he; cases he; simp

include hC in
theorem eqA_ok {s : St} {t : TypeId} {x y : AV} {r : Bool} {vx vy : Value} (h : Inv F E s.heap w) (hx : Rel E x vx) (hy : Rel E y vy)
    (he : eqA C s t x y = .ok r) : (Op.equal t vx vy).run P w = .ok r w := by
  unfold Op.equal
  show (Op.equalIn (9998 + 1 + 1) t vx vy).run P w = .ok r w
  obtain ⟨td, htd, he⟩ := Res.bind_ok he
  split at he
  · obtain ⟨h1, he⟩ := cond_ok he
    rename_i d0 x0 y0 fs xs ys he0 he1
    cases hx with | agg hx => cases hy with | agg hy =>
    have hu := hC.desc _ _ (Res.ofOpt_ok htd)
    have hf : P.fieldsOf t = fs := by simp [Program.fieldsOf, hu]
    rw [run_equalIn_struct w _ t _ _ (by rw [hf, hu]) (hC.plain t h1).1, hf]
    exact eqFields_ok hC h hx hy 9998 _ _ he
  · exact eqOne_ok hC h htd hx hy he _

theorem guard_nil {ox oy : Operand} (h : (isConst ox || isConst oy) = true) (op : BinOp) (t : TypeId) : (eqGuard op t ox oy .nilIface .nilIface).run P w = .ok () w := by
  cases ox <;> cases oy <;> simp [isConst] at h <;> cases op <;> simp [eqGuard]

theorem binOp_eql {x y : AV} {vx vy : Value} (hx : Rel E x vx) (hy : Rel E y vy) (t : TypeId) (hi : ∀ k a, x ≠ .int k a)
    (hs : ∀ a, x ≠ .str a) : binOp .eql t vx vy = (do pure (.bool (← Op.equal t vx vy))) := by
  cases hx <;> cases hy <;> first | rfl | exact (hi _ _ rfl).elim | exact (hs _ rfl).elim

theorem binOp_neq {x y : AV} {vx vy : Value} (hx : Rel E x vx) (hy : Rel E y vy) (t : TypeId) (hi : ∀ k a, x ≠ .int k a)
    (hs : ∀ a, x ≠ .str a) : binOp .neq t vx vy = (do pure (.bool (!(← Op.equal t vx vy)))) := by
  cases hx <;> cases hy <;> first | rfl | exact (hi _ _ rfl).elim | exact (hs _ rfl).elim

theorem guard_other {op : BinOp} {t : TypeId} {ox oy : Operand} {a b : Value} (h1 : a = .nilIface → b = .nilIface → False) (h2 : ∀ x y, a = .agg x → b = .agg y → False) :
    (eqGuard op t ox oy a b).run P w = .ok () w := by
  unfold eqGuard
  cases op <;> simp only [Bool.not_true, Bool.not_false, Bool.false_eq_true, if_false, if_true, Sem.run_pure] <;> (
    split
    · exact (h1 rfl rfl).elim
    · exact (h2 _ _ rfl rfl).elim
    · rfl)

include hC in
theorem guard_eq {s : St} {op : BinOp} {t : TypeId} {ox oy : Operand} {x y : AV} {vx vy : Value} {r : Bool} (hx : Rel E x vx) (hy : Rel E y vy)
    (he : eqB C s t ox oy x y = .ok r) : eqA C s t x y = .ok r ∧ (eqGuard op t ox oy vx vy).run P w = .ok () w := by
  unfold eqB at he
  cases hn : (bothNil x y && !(isConst ox || isConst oy)) with
  | true => rw [hn] at he; cases he
  | false =>
    rw [hn] at he
    simp only [cond_false] at he
    refine ⟨he, ?_⟩
    have hag : ∀ l m, x = .agg l → y = .agg m → P.eqGuardType P.depth t = false := by
      rintro l m rfl rfl
      obtain ⟨td, htd, he⟩ := Res.bind_ok he
      split at he
      · exact (hC.plain t (cond_ok he).1).2
      · unfold eqOne at he; split at he <;> first | (cases he; done) | simp_all
    by_cases hb : bothNil x y = true
    · have : x = .nilIface ∧ y = .nilIface := by unfold bothNil at hb; split at hb <;> first | exact ⟨rfl, rfl⟩ | cases hb
      obtain ⟨rfl, rfl⟩ := this
      cases hx; cases hy
      exact guard_nil (by cases h1 : isConst ox <;> cases h2 : isConst oy <;> simp_all [bothNil]) _ _
    · by_cases ha : ∃ l m, x = .agg l ∧ y = .agg m
      · obtain ⟨l, m, rfl, rfl⟩ := ha
        cases hx; cases hy
        exact run_eqGuard_agg w op t ox oy _ _ (hag _ _ rfl rfl)
      · refine guard_other ?_ ?_
        · rintro rfl rfl
          cases hx; cases hy
          exact hb rfl
        · rintro p q rfl rfl
          cases hx; cases hy
          exact ha ⟨_, _, rfl, rfl⟩

include hC in
theorem binA_ok {s : St} {op : BinOp} {t : TypeId} {ox oy : Operand} {x y v : AV} {vx vy : Value} (h : Inv F E s.heap w) (hx : Rel E x vx) (hy : Rel E y vy)
    (he : binA C s op t ox oy x y = .ok v) : Gives P E w (do eqGuard op t ox oy vx vy; binOp op t vx vy) v := by
  have skip : (eqGuard op t ox oy vx vy).run P w = .ok () w → Gives P E w (binOp op t vx vy) v → Gives P E w (do eqGuard op t ox oy vx vy; binOp op t vx vy) v := by
    rintro hg ⟨z, h1, h2⟩
    exact ⟨z, by simp only [Sem.run_bind, hg, Result.andThen_ok, h1], h2⟩
  have gi : ∀ op k a y, (eqGuard op t ox oy (.int k a) y).run P w = .ok () w := by intro op k a y; cases op <;> simp [eqGuard]
  have gs : ∀ op a y, (eqGuard op t ox oy (.string a) y).run P w = .ok () w := by intro op a y; cases op <;> simp [eqGuard]
  have rest : (∀ k a, x ≠ .int k a) → (∀ a, x ≠ .str a) → (match op with
    | .eql => (eqB C s t ox oy x y).bind fun b => Res.ok (AV.bool b)
    | .neq => (eqB C s t ox oy x y).bind fun b => Res.ok (AV.bool (!b))
    | _ => Res.bad "binop") = .ok v → Gives P E w (do eqGuard op t ox oy vx vy; binOp op t vx vy) v := by
    intro hi hs he
    cases op <;> try (cases he; done)
    all_goals
      simp only at he
      obtain ⟨r, hr, he⟩ := Res.bind_ok he
      cases he
      obtain ⟨g1, g2⟩ := guard_eq hC hx hy hr
      refine skip g2 ⟨_, ?_, .bool _⟩
      first | rw [binOp_eql hx hy t hi hs] | rw [binOp_neq hx hy t hi hs]
      simp [eqA_ok hC h hx hy g1]
  unfold binA at he
  split at he
  · rename_i k a
    split at he
    · rename_i k' b
      cases hx; cases hy
      split at he
      · obtain ⟨h1, he⟩ := cond_ok he
        rw [ile_eq] at h1
        cases he
        have : ¬ b < 0 := by simpa using h1
        exact skip (gi _ _ _ _) ⟨_, by simp [binOp, Op.shift, this] <;> rfl, .int _ _⟩
      · obtain ⟨h1, he⟩ := cond_ok he
        rw [ile_eq] at h1
        cases he
        have : ¬ b < 0 := by simpa using h1
        exact skip (gi _ _ _ _) ⟨_, by simp [binOp, Op.shift, this] <;> rfl, .int _ _⟩
      · rename_i h1 h2
        obtain ⟨h3, he2⟩ := cond_ok he
        have := of_decide_eq_true h3
        subst this
        exact skip (gi _ _ _ _) (arith_ok h1 h2 he2)
    · cases he
  · split at he
    · cases hx; cases hy
      exact skip (gs _ _ _) (strA_ok he)
    · cases he
  · rename_i h1 h2
    exact rest (fun k a e => h1 k a e) (fun a e => h2 a e) he

/-! slices -/
theorem bnd_ok {x : AV} {vx : Value} {y r : Nat} (hx : Rel E x vx) (h : bnd x y = .ok r) (c : BoundsCode) : (Instr.sliceBound vx y c).run P w = .ok r w ∧ r ≤ y := by
  unfold bnd at h
  split at h
  · obtain ⟨h1, h2⟩ := cond_ok h
    have h1 := Nat.le_of_ble_eq_true h1
    cases h2; cases hx
    refine ⟨?_, h1⟩
    simp [Instr.sliceBound, asIntOf, h1]
  · cases h

inductive RelO (E : Blk) : Option AV → Option Value → Prop
  | none : RelO E none none
  | some {a : AV} {v : Value} (h : Rel E a v) : RelO E (some a) (some v)

/-- bounds of a slice expression without a third index -/
theorem run_bounds2 {lo hi : Option AV} {vlo vhi : Option Value} {len cap h l rb : Nat} (isS : Bool) (hl : RelO E lo vlo) (hh : RelO E hi vhi) (hr : rb ≤ cap)
    (e1 : bndO hi rb len = .ok h) (e2 : bndO lo h 0 = .ok l) :
    (Instr.sliceBounds isS len cap vlo vhi none).run P w = .ok (l, h, cap) w ∧ l ≤ h ∧ (h ≤ rb ∨ h = len) := by
  cases hh with
  | none =>
    cases e1
    cases hl with
    | none => cases e2; simp [Instr.sliceBounds]
    | some hl =>
      obtain ⟨g1, g2⟩ := bnd_ok (P := P) (w := w) hl e2 .sliceB
      refine ⟨?_, g2, .inr rfl⟩
      simp [Instr.sliceBounds, g1]
  | @some xh v hh =>
    have hc : ∀ c, (Instr.sliceBound v cap c).run P w = .ok h w := fun c => by
      change bnd _ rb = .ok h at e1
      unfold bnd at e1
      split at e1
      · obtain ⟨h1, h2⟩ := cond_ok e1
        have h1 := Nat.le_of_ble_eq_true h1
        cases h2; cases hh
        have : h ≤ cap := by omega
        simp [Instr.sliceBound, asIntOf, this]
      · cases e1
    have hle := (bnd_ok (P := P) (w := w) hh e1 .sliceB).2
    cases hl with
    | none => cases e2; refine ⟨?_, Nat.zero_le _, .inl hle⟩; cases isS <;> simp [Instr.sliceBounds, hc]
    | some hl =>
      obtain ⟨g1, g2⟩ := bnd_ok (P := P) (w := w) hl e2 .sliceB
      refine ⟨?_, g2, .inl hle⟩
      cases isS <;> simp [Instr.sliceBounds, hc, g1]

/-- .. and with one -/
theorem run_bounds3 {hi mx : AV} {vlo vhi : Option Value} {vmx : Value} {len cap h l m rb : Nat} (isS : Bool) {lo' : Option AV} (hl : RelO E lo' vlo) (hh : RelO E (some hi) vhi) (hm : Rel E mx vmx)
    (hr : rb ≤ cap) (e0 : bnd mx rb = .ok m) (e1 : bnd hi m = .ok h) (e2 : bndO lo' h 0 = .ok l) :
    (Instr.sliceBounds isS len cap vlo vhi (some vmx)).run P w = .ok (l, h, m) w ∧ l ≤ h ∧ h ≤ m ∧ m ≤ rb := by
  have hc : ∀ c, (Instr.sliceBound vmx cap c).run P w = .ok m w := fun c => by
    unfold bnd at e0
    split at e0
    · obtain ⟨h1, h2⟩ := cond_ok e0
      have h1 := Nat.le_of_ble_eq_true h1
      cases h2; cases hm
      have : m ≤ cap := by omega
      simp [Instr.sliceBound, asIntOf, this]
    · cases e0
  have h0 := (bnd_ok (P := P) (w := w) hm e0 .sliceB).2
  cases hh with | some hh =>
  obtain ⟨g1, g2⟩ := bnd_ok (P := P) (w := w) hh e1 .slice3B
  cases hl with
  | none => cases e2; exact ⟨by cases isS <;> simp [Instr.sliceBounds, hc, g1], Nat.zero_le _, g2, h0⟩
  | some hl =>
    obtain ⟨g3, g4⟩ := bnd_ok (P := P) (w := w) hl e2 .slice3C
    exact ⟨by cases isS <;> simp [Instr.sliceBounds, hc, g1, g3], g4, g2, h0⟩

theorem beq_true {a b : Nat} (h : Nat.beq a b = true) : a = b := Nat.eq_of_beq_eq_true h
theorem beq_false {a b : Nat} (h : Nat.beq a b = false) : a ≠ b := by rintro rfl; rw [Nat.beq_refl] at h; cases h

theorem surely_ok {s : St} {b o n k z c κ : Nat} (h : Inv F E s.heap w) (hE : E b = some (c, κ)) (hn : n + k ≤ κ) : n ≤ surely s b o n k z ∧ surely s b o n k z + k ≤ κ := by
  unfold surely
  split
  · rename_i cs e z' m hb
    cases hc : (Nat.beq z z' && Nat.beq o (k * z) && Nat.blt 0 z) with
    | false => exact ⟨Nat.le_refl _, hn⟩
    | true =>
      simp only [cond_true]
      cases hd : Nat.ble n (Nat.div (cs.length - o) z) with
      | false => exact ⟨Nat.le_refl _, hn⟩
      | true =>
        simp only [cond_true]
        refine ⟨Nat.le_of_ble_eq_true hd, ?_⟩
        simp only [Bool.and_eq_true] at hc
        obtain ⟨⟨h1, h2⟩, h3⟩ := hc
        have h1 := beq_true h1
        have h2 := beq_true h2
        have h3 : 0 < z := by simp only [Nat.blt, Nat.ble_eq] at h3; omega
        subst h1
        obtain ⟨c', κ', ys, zs, lo, hi, g1, g2, g3, g4, g5, g6⟩ := h.cells hb
        rw [hE] at g1; cases g1
        have g5 := g5 z rfl
        have g3 := g3.length
        show (cs.length - o) / z + k ≤ κ
        rcases Nat.lt_or_ge cs.length o with hlt | hge
        · have : cs.length - o = 0 := by omega
          rw [this, Nat.zero_div]; omega
        · have e1 : cs.length - o ≤ (κ - k) * z := by
            rw [Nat.sub_mul, h2]
            have : cs.length ≤ κ * z := by omega
            omega
          have e2 : (cs.length - o) / z ≤ κ - k := Nat.div_le_of_le_mul (by rw [Nat.mul_comm]; exact e1)
          omega
  · exact ⟨Nat.le_refl _, hn⟩

theorem bounds_ok {lo hi mx : Option AV} {vlo vhi vmx : Option Value} {len cap cap' h l m rb : Nat} (isS : Bool) (hl : RelO E lo vlo) (hh : RelO E hi vhi) (hm : RelO E mx vmx)
    (hr : rb ≤ cap) (e : bounds lo hi mx rb len cap' = .ok (l, h, m)) :
    ∃ m', (Instr.sliceBounds isS len cap vlo vhi vmx).run P w = .ok (l, h, m') w ∧ l ≤ h ∧ (h ≤ rb ∨ h = len) ∧ (mx = none → m' = cap ∧ m = cap') ∧ (mx ≠ none → m' = m ∧ h ≤ m ∧ m ≤ rb) := by
  unfold bounds at e
  cases hm with
  | none =>
    obtain ⟨h1, e1, e⟩ := Res.bind_ok e
    obtain ⟨l1, e2, e⟩ := Res.bind_ok e
    cases e
    obtain ⟨g1, g2, g3⟩ := run_bounds2 (P := P) (w := w) (len := len) isS hl hh hr e1 e2
    exact ⟨cap, g1, g2, g3, fun _ => ⟨rfl, rfl⟩, fun x => (x rfl).elim⟩
  | some hm =>
    cases hh with
    | none => cases e
    | some hh =>
      obtain ⟨m1, e0, e⟩ := Res.bind_ok e
      obtain ⟨h1, e1, e⟩ := Res.bind_ok e
      obtain ⟨l1, e2, e⟩ := Res.bind_ok e
      cases e
      obtain ⟨g1, g2, g3, g4⟩ := run_bounds3 (P := P) (w := w) (len := len) isS hl (.some hh) hm hr e0 e1 e2
      exact ⟨m, g1, g2, .inl (by omega), fun x => by simp at x, fun _ => ⟨rfl, g3, g4⟩⟩

theorem addr_if {c o l m z : Nat} : (if m = l then (⟨c, o, none⟩ : Addr) else (⟨c, o, none⟩ : Addr).add (l * z)) = ⟨c, cond (Nat.beq m l) o (o + l * z), none⟩ := by
  by_cases h : m = l
  · subst h; simp
  · have : Nat.beq m l = false := by
      cases hb : Nat.beq m l
      · rfl
      · exact absurd (beq_true hb) h
    rw [if_neg h, this, Addr.add_none]; rfl

include hC in
theorem sliceA_ok {s : St} {t : TypeId} {x v : AV} {vx : Value} {lo hi mx : Option AV} {vlo vhi vmx : Option Value} (h : Inv F E s.heap w) (hx : Rel E x vx)
    (hl : RelO E lo vlo) (hh : RelO E hi vhi) (hm : RelO E mx vmx) (he0 : sliceA C s t x lo hi mx = .ok v) : Gives P E w (Instr.sliceAt t vx vlo vhi vmx) v := by
  obtain ⟨d, hd, he⟩ := Res.bind_ok he0
  clear he0
  have hu := run_under hC (w := w) hd
  split at he
  · -- string
    rename_i l
    cases hx
    obtain ⟨q, he1⟩ := cond_ok he
    cases hm with
    | some hm => cases q
    | none =>
      obtain ⟨⟨l1, h1, m1⟩, e1, he2⟩ := Res.bind_ok he1
      cases he2
      obtain ⟨m', g1, g2, g3, g4, g5⟩ := bounds_ok (P := P) (w := w) (cap := l.length) false hl hh .none (Nat.le_refl _) e1
      refine ⟨.string ⟨((l.take h1).drop l1).toArray⟩, ?_, .str _⟩
      have hs : (ByteArray.mk l.toArray).size = l.length := by simp [ByteArray.size]
      have hx : (ByteArray.mk l.toArray).extract l1 h1 = ⟨((l.take h1).drop l1).toArray⟩ := by ext1; simp [List.drop_take]
      simp [Instr.sliceAt, Instr.slice, hu, hs, g1, hx]
  · -- nil
    rename_i e
    cases hx
    obtain ⟨z, hz, he1⟩ := Res.bind_ok he
    obtain ⟨⟨l1, h1, m1⟩, e1, he2⟩ := Res.bind_ok he1
    cases he2
    obtain ⟨m', g1, g2, g3, g4, g5⟩ := bounds_ok (P := P) (w := w) (cap := 0) true hl hh hm (Nat.le_refl _) e1
    have hm' : m' = 0 := by
      cases hm with
      | none => exact (g4 rfl).1
      | some _ => have := g5 (by simp); omega
    refine ⟨.slice none 0 0, ?_, .snil⟩
    have h0 : h1 = 0 := by omega
    have l0 : l1 = 0 := by omega
    subst h0 l0 hm'
    simp [Instr.sliceAt, Instr.slice, hu, g1, run_sz hC hz]
  · -- a slice of known capacity
    rename_i e b o n c
    cases hx with | slice _ _ _ hE =>
    obtain ⟨⟨l1, h1, m1⟩, e1, he1⟩ := Res.bind_ok he
    obtain ⟨z, hz, he2⟩ := Res.bind_ok he1
    cases he2
    obtain ⟨m', g1, g2, g3, g4, g5⟩ := bounds_ok (P := P) (w := w) (cap := c) true hl hh hm (Nat.le_refl _) e1
    have hm' : m' = m1 := by
      cases hm with
      | none => have := g4 rfl; omega
      | some _ => have := g5 (by simp); omega
    subst hm'
    refine ⟨_, ?_, .slice _ _ _ hE⟩
    have := addr_if (c := ‹Nat›) (o := o) (l := l1) (m := m') (z := z)
    simp only [Instr.sliceAt, Sem.run_bind, hu, Result.andThen_ok, Instr.slice, g1, run_sz hC hz, Sem.run_pure, Option.map_some]
    rw [← addr_if]
    split <;> rfl
  · rename_i e b o n k
    cases hx with | slicev _ _ _ hE hn =>
    rename_i c κ
    obtain ⟨z, hz, he1⟩ := Res.bind_ok he
    obtain ⟨r1, r2⟩ := surely_ok (z := z) h hE hn
    generalize surely s b o n k z = r at *
    simp only at he1
    obtain ⟨⟨l1, h1, m1⟩, e1, he2⟩ := Res.bind_ok he1
    obtain ⟨m', g1, g2, g3, g4, g5⟩ := bounds_ok (P := P) (w := w) (cap := κ - k) true hl hh hm (by omega) e1
    have run : (Instr.sliceAt t (.slice (some ⟨c, o, none⟩) n (κ - k)) vlo vhi vmx).run P w =
        .ok (.slice (some ⟨c, cond (Nat.beq m' l1) o (o + l1 * z), none⟩) (h1 - l1) (m' - l1)) w := by
      simp only [Instr.sliceAt, Sem.run_bind, hu, Result.andThen_ok, Instr.slice, g1, run_sz hC hz, Sem.run_pure, Option.map_some]
      rw [← addr_if]
      split <;> rfl
    cases hm with
    | some _ =>
      simp only at he2
      have := g5 (by simp)
      obtain ⟨rfl, q1, q2⟩ := this
      cases he2
      exact ⟨_, run, .slice _ _ _ hE⟩
    | none =>
      simp only at he2
      obtain ⟨rfl, _⟩ := g4 rfl
      cases h0 : Nat.beq l1 0 with
      | true =>
        rw [h0] at he2
        have h0 := beq_true h0
        subst h0
        simp only [cond_true, Res.ok.injEq] at he2
        subst he2
        have ha : cond (Nat.beq (κ - k) 0) o (o + 0 * z) = o := by cases Nat.beq (κ - k) 0 <;> simp
        rw [ha, Nat.sub_zero, Nat.sub_zero] at run
        exact ⟨_, run, .slicev _ _ _ hE (by omega)⟩
      | false =>
        rw [h0] at he2
        simp only [cond_false] at he2
        cases hlt : Nat.blt l1 r with
        | true =>
          rw [hlt] at he2
          have hlt : l1 < r := by simp only [Nat.blt, Nat.ble_eq] at hlt; omega
          simp only [cond_true, Res.ok.injEq] at he2
          subst he2
          have hb : Nat.beq (κ - k) l1 = false := by
            cases hb : Nat.beq (κ - k) l1
            · rfl
            · have := beq_true hb; omega
          rw [hb] at run
          simp only [cond_false] at run
          have hs : κ - k - l1 = κ - (k + l1) := by omega
          rw [hs] at run
          exact ⟨_, run, .slicev _ _ _ hE (by omega)⟩
        | false =>
          rw [hlt] at he2
          have hge : r ≤ l1 := by
            rcases Nat.lt_or_ge l1 r with hx | hx
            · exfalso
              have : Nat.blt l1 r = true := by simp only [Nat.blt, Nat.ble_eq]; omega
              rw [this] at hlt; cases hlt
            · exact hx
          simp only [cond_false, Res.ok.injEq] at he2
          subst he2
          have hz0 : h1 - l1 = 0 := by omega
          rw [hz0] at run
          exact ⟨_, run, .slice0 _ _⟩
  · rename_i e
    cases hx with | slice0 a c =>
    obtain ⟨z, hz, he1⟩ := Res.bind_ok he
    obtain ⟨q, he2⟩ := cond_ok he1
    cases hm with
    | some _ => cases q
    | none =>
      obtain ⟨⟨l1, h1, m1⟩, e1, he3⟩ := Res.bind_ok he2
      cases he3
      obtain ⟨m', g1, g2, g3, g4, g5⟩ := bounds_ok (P := P) (w := w) (cap := c) (len := 0) true hl hh .none (Nat.zero_le _) e1
      have h0 : h1 = 0 := by omega
      have l0 : l1 = 0 := by omega
      subst h0 l0
      by_cases hc : m' = 0
      · exact ⟨.slice (some a) 0 m', by simp [Instr.sliceAt, Instr.slice, hu, g1, run_sz hC hz, hc], .slice0 _ _⟩
      · exact ⟨.slice (some (a.add (0 * z))) 0 m', by simp [Instr.sliceAt, Instr.slice, hu, g1, run_sz hC hz, hc], .slice0 _ _⟩
  · rename_i n e b o
    cases hx with | ptr _ hE =>
    obtain ⟨⟨l1, h1, m1⟩, e1, he1⟩ := Res.bind_ok he
    obtain ⟨z, hz, he2⟩ := Res.bind_ok he1
    cases he2
    obtain ⟨m', g1, g2, g3, g4, g5⟩ := bounds_ok (P := P) (w := w) (cap := n) false hl hh hm (Nat.le_refl _) e1
    have hm' : m' = m1 := by
      cases hm with
      | none => have := g4 rfl; omega
      | some _ => have := g5 (by simp); omega
    subst hm'
    refine ⟨_, ?_, .slice _ _ _ hE⟩
    simp [Instr.sliceAt, hu, Instr.sureAddr, g1, run_sz hC hz, addr_if]
  · cases he

theorem idx_ok {x : AV} {vx : Value} {n i : Nat} (hx : Rel E x vx) (h : idx x n = .ok i) : ∃ k, vx = .int k (i : Int) ∧ i < n := by
  unfold idx at h
  split at h
  · obtain ⟨h1, h2⟩ := cond_ok h
    cases h2; cases hx
    exact ⟨_, rfl, by simp only [Nat.blt, Nat.ble_eq] at h1; omega⟩
  · cases h

include hC in
theorem indexAddrA_ok {t : TypeId} {x i v : AV} {vx vi : Value} (hx : Rel E x vx) (hi : Rel E i vi) (he0 : indexAddrA C t x i = .ok v) :
    Gives P E w (Instr.indexAt t vx vi) v := by
  obtain ⟨d, hd, he⟩ := Res.bind_ok he0
  clear he0
  have hu := run_under hC (w := w) hd
  split at he
  · rename_i n e b o
    cases hx with | ptr _ hE =>
    obtain ⟨j, hj, he1⟩ := Res.bind_ok he
    obtain ⟨z, hz, he2⟩ := Res.bind_ok he1
    cases he2
    obtain ⟨k, rfl, hlt⟩ := idx_ok hi hj
    exact ⟨_, by simp [Instr.indexAt, asIntOf, hu, Instr.sureAddr, hlt, run_sz hC hz, Addr.add_none], .ptr _ hE⟩
  · rename_i n e b o
    cases hx with | tptr _ hE =>
    obtain ⟨j, hj, he1⟩ := Res.bind_ok he
    obtain ⟨z, hz, he2⟩ := Res.bind_ok he1
    cases he2
    obtain ⟨k, rfl, hlt⟩ := idx_ok hi hj
    exact ⟨_, by simp [Instr.indexAt, asIntOf, hu, Instr.sureAddr, hlt, run_sz hC hz, Addr.add_none]; rfl, by rw [Nat.add_assoc]; exact .tptr _ hE⟩
  · rename_i e b o n c
    cases hx with | slice _ _ _ hE =>
    obtain ⟨j, hj, he1⟩ := Res.bind_ok he
    obtain ⟨z, hz, he2⟩ := Res.bind_ok he1
    cases he2
    obtain ⟨k, rfl, hlt⟩ := idx_ok hi hj
    exact ⟨_, by simp [Instr.indexAt, asIntOf, hu, hlt, run_sz hC hz, Addr.add_none], .ptr _ hE⟩
  · rename_i e b o n c
    cases hx with | slicev _ _ _ hE hn =>
    obtain ⟨j, hj, he1⟩ := Res.bind_ok he
    obtain ⟨z, hz, he2⟩ := Res.bind_ok he1
    cases he2
    obtain ⟨k, rfl, hlt⟩ := idx_ok hi hj
    exact ⟨_, by simp [Instr.indexAt, asIntOf, hu, hlt, run_sz hC hz, Addr.add_none], .ptr _ hE⟩
  · rename_i e b n
    cases hx with | tslice _ hE =>
    obtain ⟨j, hj, he1⟩ := Res.bind_ok he
    obtain ⟨z, hz, he2⟩ := Res.bind_ok he1
    cases he2
    obtain ⟨k, rfl, hlt⟩ := idx_ok hi hj
    exact ⟨_, by simp [Instr.indexAt, asIntOf, hu, hlt, run_sz hC hz, Addr.add_none], .tptr _ hE⟩
  · cases he

theorem lget_eq {α : Type} : ∀ (l : List α) (n : Nat), lget l n = l[n]?
  | [], _ => by simp [lget]
  | _ :: _, 0 => rfl
  | _ :: l, n + 1 => by simp [lget, lget_eq l n]

theorem str_get {l : List UInt8} {j : Nat} {b : UInt8} (h : l[j]? = some b) : (ByteArray.mk l.toArray)[j]? = some b := by
  have hlt : j < l.length := by
    rcases Nat.lt_or_ge j l.length with h1 | h1
    · exact h1
    · rw [List.getElem?_eq_none h1] at h; cases h
  have hs : j < (ByteArray.mk l.toArray).size := by simpa [ByteArray.size] using hlt
  rw [List.getElem?_eq_getElem hlt] at h
  rw [getElem?_pos (ByteArray.mk l.toArray) j hs, ← h]
  rfl

include hC in
theorem indexA_ok {t : TypeId} {x i v : AV} {vx vi : Value} (hx : Rel E x vx) (hi : Rel E i vi) (he0 : indexA C t x i = .ok v) :
    Gives P E w (Instr.index t vx vi) v := by
  obtain ⟨d, hd, he⟩ := Res.bind_ok he0
  clear he0
  have hu := run_under hC (w := w) hd
  split at he
  · rename_i n e cs
    cases hx with | agg hx =>
    obtain ⟨j, hj, he1⟩ := Res.bind_ok he
    obtain ⟨z, hz, he2⟩ := Res.bind_ok he1
    obtain ⟨k, rfl, hlt⟩ := idx_ok hi hj
    obtain ⟨y, h1, h2⟩ := part_ok hC (w := w) hx he2
    exact ⟨y, by simp [Instr.index, asIntOf, hu, hlt, run_sz hC hz, h1], h2⟩
  · rename_i l
    cases hx
    obtain ⟨j, hj, he1⟩ := Res.bind_ok he
    obtain ⟨b, hb, he2⟩ := Res.bind_ok he1
    cases he2
    obtain ⟨k, rfl, hlt⟩ := idx_ok hi hj
    have hb := Res.ofOpt_ok hb
    rw [lget_eq] at hb
    exact ⟨_, by simp [Instr.index, asIntOf, hu, str_get hb], .int _ _⟩
  · cases he

include hC in
theorem fieldAddrA_ok {t : TypeId} {x v : AV} {vx : Value} {f : Nat} (hx : Rel E x vx) (he0 : fieldAddrA C t x f = .ok v) :
    Gives P E w (Instr.fieldAt t vx f) v := by
  obtain ⟨d, hd, he⟩ := Res.bind_ok he0
  clear he0
  have hu := run_under hC (w := w) hd
  split at he
  · rename_i fs
    obtain ⟨g, hg, he1⟩ := Res.bind_ok he
    obtain ⟨z, hz, he2⟩ := Res.bind_ok he1
    have hg := Res.ofOpt_ok hg
    cases h0 : Nat.beq z 0 with
    | true => rw [h0] at he2; cases he2
    | false =>
      rw [h0] at he2
      have hz0 := beq_false h0
      simp only [cond_false] at he2
      split at he2
      · cases hx with | ptr _ hE =>
        cases he2
        exact ⟨_, by simp [Instr.fieldAt, hu, hg, Instr.sureAddr, fieldPlace, run_sz hC hz, hz0, Addr.add_none], .ptr _ hE⟩
      · cases he2
  · cases he

include hC in
theorem fieldA_ok {t : TypeId} {x v : AV} {vx : Value} {f : Nat} (hx : Rel E x vx) (he0 : fieldA C t x f = .ok v) :
    Gives P E w (Instr.field t vx f) v := by
  obtain ⟨d, hd, he⟩ := Res.bind_ok he0
  clear he0
  have hu := run_under hC (w := w) hd
  split at he
  · rename_i fs
    obtain ⟨g, hg, he1⟩ := Res.bind_ok he
    have hg := Res.ofOpt_ok hg
    split at he1
    · cases hx with | agg hx =>
      obtain ⟨y, h1, h2⟩ := part_ok hC (w := w) hx he1
      exact ⟨y, by simp [Instr.field, hu, hg, asAgg, h1], h2⟩
    · cases he1
  · cases he
end Go.Ab
