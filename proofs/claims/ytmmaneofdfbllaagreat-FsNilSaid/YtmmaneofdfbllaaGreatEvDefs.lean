/-
  EvDefs: the evaluator of the model's code, as definitions. No condition.
-/
import Derived.CallsIn
set_option linter.unusedVariables false
set_option linter.unusedSimpArgs false
set_option linter.unusedSectionVars false
namespace Go.Ev
noncomputable section

/-- A trie on numbers. -/
inductive Tr (α : Type) where
  | leaf
  | node (v : Option α) (c0 c1 c2 c3 c4 c5 c6 c7 : Tr α)

/-- A way to a place in a trie. -/
inductive Pt where
  | o
  | w0 (p : Pt)
  | w1 (p : Pt)
  | w2 (p : Pt)
  | w3 (p : Pt)
  | w4 (p : Pt)
  | w5 (p : Pt)
  | w6 (p : Pt)
  | w7 (p : Pt)
deriving DecidableEq
def turn (d : Nat) (p : Pt) : Pt :=
  Nat.rec (motive := fun _ => Pt) (.w0 p) (fun d _ => Nat.rec (motive := fun _ => Pt) (.w1 p) (fun d _ => Nat.rec (motive := fun _ => Pt) (.w2 p) (fun d _ => Nat.rec (motive := fun _ => Pt) (.w3 p)
    (fun d _ => Nat.rec (motive := fun _ => Pt) (.w4 p) (fun d _ => Nat.rec (motive := fun _ => Pt) (.w5 p) (fun d _ => Nat.rec (motive := fun _ => Pt) (.w6 p) (fun _ _ => .w7 p) d) d) d) d) d) d) d
def pathIn : Nat → Nat → Pt
  | 0, _ => .o
  | f + 1, n => bif n.beq 0 then .o else turn (Nat.mod (Nat.pred n) 8) (pathIn f (Nat.div (Nat.pred n) 8))
def path (n : Nat) : Pt := pathIn (Nat.succ n) n
/- What the kernel reckons by: recursors, no matches. -/
def Tr.getP {α : Type} (t : Tr α) (p : Pt) : Option α :=
  Pt.rec (motive := fun _ => Tr α → Option α)
    (fun t => Tr.rec (motive := fun _ => Option α) none (fun v _ _ _ _ _ _ _ _ _ _ _ _ _ _ _ _ => v) t)
    (fun _ ih t => Tr.rec (motive := fun _ => Option α) none (fun _ c _ _ _ _ _ _ _ _ _ _ _ _ _ _ _ => ih c) t)
    (fun _ ih t => Tr.rec (motive := fun _ => Option α) none (fun _ _ c _ _ _ _ _ _ _ _ _ _ _ _ _ _ => ih c) t)
    (fun _ ih t => Tr.rec (motive := fun _ => Option α) none (fun _ _ _ c _ _ _ _ _ _ _ _ _ _ _ _ _ => ih c) t)
    (fun _ ih t => Tr.rec (motive := fun _ => Option α) none (fun _ _ _ _ c _ _ _ _ _ _ _ _ _ _ _ _ => ih c) t)
    (fun _ ih t => Tr.rec (motive := fun _ => Option α) none (fun _ _ _ _ _ c _ _ _ _ _ _ _ _ _ _ _ => ih c) t)
    (fun _ ih t => Tr.rec (motive := fun _ => Option α) none (fun _ _ _ _ _ _ c _ _ _ _ _ _ _ _ _ _ => ih c) t)
    (fun _ ih t => Tr.rec (motive := fun _ => Option α) none (fun _ _ _ _ _ _ _ c _ _ _ _ _ _ _ _ _ => ih c) t)
    (fun _ ih t => Tr.rec (motive := fun _ => Option α) none (fun _ _ _ _ _ _ _ _ c _ _ _ _ _ _ _ _ => ih c) t)
    p t
def Tr.setP {α : Type} (v : Option α) (p : Pt) : Tr α → Tr α :=
  Pt.rec (motive := fun _ => Tr α → Tr α)
    (fun t => Tr.rec (motive := fun _ => Tr α) (.node v .leaf .leaf .leaf .leaf .leaf .leaf .leaf .leaf) (fun _ c0 c1 c2 c3 c4 c5 c6 c7 _ _ _ _ _ _ _ _ => .node v c0 c1 c2 c3 c4 c5 c6 c7) t)
    (fun _ ih t => Tr.rec (motive := fun _ => Tr α) (.node none (ih .leaf) .leaf .leaf .leaf .leaf .leaf .leaf .leaf) (fun w c0 c1 c2 c3 c4 c5 c6 c7 _ _ _ _ _ _ _ _ => .node w (ih c0) c1 c2 c3 c4 c5 c6 c7) t)
    (fun _ ih t => Tr.rec (motive := fun _ => Tr α) (.node none .leaf (ih .leaf) .leaf .leaf .leaf .leaf .leaf .leaf) (fun w c0 c1 c2 c3 c4 c5 c6 c7 _ _ _ _ _ _ _ _ => .node w c0 (ih c1) c2 c3 c4 c5 c6 c7) t)
    (fun _ ih t => Tr.rec (motive := fun _ => Tr α) (.node none .leaf .leaf (ih .leaf) .leaf .leaf .leaf .leaf .leaf) (fun w c0 c1 c2 c3 c4 c5 c6 c7 _ _ _ _ _ _ _ _ => .node w c0 c1 (ih c2) c3 c4 c5 c6 c7) t)
    (fun _ ih t => Tr.rec (motive := fun _ => Tr α) (.node none .leaf .leaf .leaf (ih .leaf) .leaf .leaf .leaf .leaf) (fun w c0 c1 c2 c3 c4 c5 c6 c7 _ _ _ _ _ _ _ _ => .node w c0 c1 c2 (ih c3) c4 c5 c6 c7) t)
    (fun _ ih t => Tr.rec (motive := fun _ => Tr α) (.node none .leaf .leaf .leaf .leaf (ih .leaf) .leaf .leaf .leaf) (fun w c0 c1 c2 c3 c4 c5 c6 c7 _ _ _ _ _ _ _ _ => .node w c0 c1 c2 c3 (ih c4) c5 c6 c7) t)
    (fun _ ih t => Tr.rec (motive := fun _ => Tr α) (.node none .leaf .leaf .leaf .leaf .leaf (ih .leaf) .leaf .leaf) (fun w c0 c1 c2 c3 c4 c5 c6 c7 _ _ _ _ _ _ _ _ => .node w c0 c1 c2 c3 c4 (ih c5) c6 c7) t)
    (fun _ ih t => Tr.rec (motive := fun _ => Tr α) (.node none .leaf .leaf .leaf .leaf .leaf .leaf (ih .leaf) .leaf) (fun w c0 c1 c2 c3 c4 c5 c6 c7 _ _ _ _ _ _ _ _ => .node w c0 c1 c2 c3 c4 c5 (ih c6) c7) t)
    (fun _ ih t => Tr.rec (motive := fun _ => Tr α) (.node none .leaf .leaf .leaf .leaf .leaf .leaf .leaf (ih .leaf)) (fun w c0 c1 c2 c3 c4 c5 c6 c7 _ _ _ _ _ _ _ _ => .node w c0 c1 c2 c3 c4 c5 c6 (ih c7)) t)
    p
def Tr.get {α : Type} (t : Tr α) (n : Nat) : Option α := Tr.getP t (path n)
def Tr.put {α : Type} (t : Tr α) (n : Nat) (v : α) : Tr α := Tr.setP (some v) (path n) t

/-- A slice's capacity: known; or all that is left of its block, in elements of so many cells. -/
inductive Cap where
  | ex (c : Nat)
  | rest (size : Nat)

/-- Abstract values. -/
inductive AV where
  | bool (b : Bool)
  | int (k : IntKind) (n : Int)
  | str (s : List Nat)
  | nilptr
  | ptr (b o : Nat)
  | nilsl
  | sl (b o len : Nat) (cap : Cap)
  | emp
  | nilmap
  | map (b : Nat)
  | nilfn
  | fn (f : FuncId) (first caps : List AV)
  | yield (l : Nat)
  | agg (l : List AV)
  | tup (l : List AV)
  /-- A value of which nothing is known. -/
  | unk
instance : Inhabited AV := ⟨.tup []⟩

/-- The record of a range over a function. -/
structure ALoop where
  state : LoopState
  pending : Option Code
  n : Nat
  tmps : Tr AV
  params : List Tmp
  assign : Code
  body : Code
  defers : Nat

inductive AObj where
  | cells (cs : List AV)
  | ro (cs : List AV)
  | map (es : List (AV × AV × Nat)) (clock : Nat)
  /-- A map of which it is not known in which order its entries lie. -/
  | umap (es : List (AV × AV)) (clock : Nat)
  /-- A range over a map that has not begun, and the map's clock then. -/
  | miter (m : Option (Nat × Nat))
  | loop (r : ALoop)
  | defd
  | dead

structure Heap where
  next : Nat
  objs : Tr AObj

def Heap.get (h : Heap) (b : Nat) : Option AObj := h.objs.get b
def Heap.set (h : Heap) (b : Nat) (o : AObj) : Heap := { h with objs := h.objs.put b o }
def Heap.add (h : Heap) (o : AObj) : Heap := { next := h.next + 1, objs := h.objs.put h.next o }

structure Env where
  n : Nat
  t : Tr AV
def Env.get (e : Env) (t : Nat) : AV :=
  match e.t.get t with
  | some v => v
  | none => .tup []
def Env.set (e : Env) (t : Nat) (v : AV) : Env := bif t.blt e.n then { e with t := e.t.put t v } else e
def Env.put (e : Env) (d : Option Tmp) (v : AV) : Env :=
  match d with
  | some d => e.set d v
  | none => e

/-! ### Numbers -/

def kidx : IntKind → Nat
  | .i8 => 0 | .i16 => 1 | .i32 => 2 | .i64 => 3 | .u8 => 4 | .u16 => 5 | .u32 => 6 | .u64 => 7
def kmod : IntKind → Nat
  | .i8 | .u8 => 256 | .i16 | .u16 => 65536 | .i32 | .u32 => 4294967296 | .i64 | .u64 => 18446744073709551616
def khalf : IntKind → Nat
  | .i8 => 128 | .i16 => 32768 | .i32 => 2147483648 | .i64 => 9223372036854775808 | .u8 => 256 | .u16 => 65536 | .u32 => 4294967296 | .u64 => 18446744073709551616
def kbits : IntKind → Nat
  | .i8 | .u8 => 8 | .i16 | .u16 => 16 | .i32 | .u32 => 32 | .i64 | .u64 => 64
/-- A number's rest, as the machine's kind has it, without its sign. -/
def low (k : IntKind) : Int → Nat
  | .ofNat a => a % kmod k
  | .negSucc a => kmod k - 1 - a % kmod k
def sgn (k : IntKind) (a : Nat) : Int := bif a.blt (khalf k) then .ofNat a else .negSucc (kmod k - 1 - a)
def wr (k : IntKind) (n : Int) : Int := sgn k (low k n)

def iadd : Int → Int → Int
  | .ofNat a, .ofNat b => .ofNat (a + b)
  | a, b => a + b
def ile : Int → Int → Bool
  | .ofNat a, .ofNat b => a.ble b
  | .ofNat _, .negSucc _ => false
  | .negSucc _, .ofNat _ => true
  | .negSucc a, .negSucc b => b.ble a
def ilt : Int → Int → Bool
  | .ofNat a, .ofNat b => a.blt b
  | .ofNat _, .negSucc _ => false
  | .negSucc _, .ofNat _ => true
  | .negSucc a, .negSucc b => b.blt a
def ieq : Int → Int → Bool
  | .ofNat a, .ofNat b => a.beq b
  | .negSucc a, .negSucc b => a.beq b
  | _, _ => false

def cmpOp : BinOp → Int → Int → Option Bool
  | .eql, x, y => some (ieq x y)
  | .neq, x, y => some (!(ieq x y))
  | .lss, x, y => some (ilt x y)
  | .leq, x, y => some (ile x y)
  | .gtr, x, y => some (ilt y x)
  | .geq, x, y => some (ile y x)
  | _, _, _ => none

def intOp (op : BinOp) (k : IntKind) (x y : Int) : Option AV :=
  match op with
  | .add => some (.int k (wr k (iadd x y)))
  | .sub => some (.int k (wr k (x - y)))
  | .mul => some (.int k (wr k (x * y)))
  | .quo => bif ieq y 0 then none else some (.int k (wr k (x.tdiv y)))
  | .rem => bif ieq y 0 then none else some (.int k (x.tmod y))
  | .and => some (.int k (sgn k (Nat.land (low k x) (low k y))))
  | .or => some (.int k (sgn k (Nat.lor (low k x) (low k y))))
  | .xor => some (.int k (sgn k (Nat.xor (low k x) (low k y))))
  | .eql | .neq | .lss | .leq | .gtr | .geq =>
    match cmpOp op x y with
    | some b => some (.bool b)
    | none => none
  | _ => none

def shiftOp (op : BinOp) (k : IntKind) (x y : Int) : Option AV :=
  bif ilt y 0 then none else
  let n := Nat.min y.toNat (kbits k)
  match op with
  | .shl => some (.int k (wr k (x * (Int.ofNat (Nat.pow 2 n)))))
  | .shr =>
    match x with
    | .ofNat a => some (.int k (.ofNat (Nat.shiftRight a n)))
    | .negSucc _ => some (.int k (x.fdiv (Int.ofNat (Nat.pow 2 n))))
  | _ => none

def listEq : List Nat → List Nat → Bool
  | [], [] => true
  | a :: x, b :: y => bif a.beq b then listEq x y else false
  | _, _ => false
def listLess : List Nat → List Nat → Bool
  | _, [] => false
  | [], _ :: _ => true
  | a :: x, b :: y => bif a.blt b then true else bif a.beq b then listLess x y else false
def strOp (op : BinOp) (x y : List Nat) : Option AV :=
  match op with
  | .add => bif (x.length + y.length).ble 4611686018427387904 then some (.str (x ++ y)) else none
  | .eql => some (.bool (listEq x y))
  | .neq => some (.bool (!(listEq x y)))
  | .lss => some (.bool (listLess x y))
  | .leq => some (.bool (listLess x y || listEq x y))
  | .gtr => some (.bool (!(listLess x y || listEq x y)))
  | .geq => some (.bool (!(listLess x y)))
  | _ => none

/-! ### What is asked, and answered -/

inductive Ex where
  | normal
  | exit (id : Nat)
  | ret

inductive Job where
  | code (ro : Option Nat) (c : Code) (ds : List Nat) (e : Env) (h : Heap)
  | ops (all l : List Oper) (ds : List Nat) (e : Env) (h : Heap)
  | draw (all : List Oper) (l : List (Oper × Nat × Nat)) (ds : List Nat) (e : Env) (s g : Heap) (sts : List Heap) (rds : List (Op × Env × Nat × Nat × AV))
  | call (f : FuncId) (args : List AV) (h : Heap)
  | round (l : Nat) (args : List AV) (h : Heap)
inductive Out where
  | code (x : Ex) (ds : List Nat) (e : Env) (h : Heap)
  | val (v : AV) (h : Heap)

/-! ### The program's tables -/

structure Ctx where
  P : Program
  info : TypeId → Option TypeInfo
  fn : FuncId → Option Func
  /-- Functions that are taken as one step. -/
  sums : FuncId → Option ((Job → Option Out) → List AV → Heap → Option (AV × Heap))
  /-- Pieces of code that are taken as one step; they stand as 'refuse' with their name. -/
  csum : String → Option ((Job → Option Out) → List Nat → Env → Heap → Option (Env × Heap))
  /-- Pieces of code that stand as 'refuse' with their name, and are run as they are. -/
  cname : String → Option Code

def Ctx.und (C : Ctx) (t : TypeId) : Option TypeDesc :=
  match C.info t with
  | some i =>
    match i.desc with
    | .named _ u =>
      match C.info u with
      | some j => some j.desc
      | none => none
    | d => some d
  | none => none
def Ctx.size (C : Ctx) (t : TypeId) : Option Nat :=
  match C.info t with
  | some i => some i.size
  | none => none
def Ctx.bytes (C : Ctx) (t : TypeId) : Option Nat :=
  match C.info t with
  | some i => some i.bytes
  | none => none
def Ctx.isAgg (C : Ctx) (t : TypeId) : Option Bool :=
  match C.und t with
  | some (.struct _) | some (.array _ _) => some true
  | some _ => some false
  | none => none

/-- A constant. -/
def ofLit : Value → Option AV
  | .bool b => some (.bool b)
  | .int k n => some (.int k n)
  | .string s => some (.str (s.data.toList.map UInt8.toNat))
  | .pointer none => some .nilptr
  | .slice none 0 0 => some .nilsl
  | .map none => some .nilmap
  | .nilFunc => some .nilfn
  | _ => none
def ofLits : List Value → Option (List AV)
  | [] => some []
  | v :: l =>
    match ofLit v, ofLits l with
    | some x, some xs => some (x :: xs)
    | _, _ => none
/-- A constant that may be of many cells. -/
def ofConst : Value → Option AV
  | .agg cs =>
    match ofLits cs.toList with
    | some l => some (.agg l)
    | none => none
  | .tuple cs =>
    match ofLits cs.toList with
    | some l => some (.tup l)
    | none => none
  | v => ofLit v

/-- A value, where something is known of it. -/
def AV.known : AV → Option AV
  | .unk => none
  | v => some v
def opd (e : Env) : Operand → Option AV
  | .tmp t => (e.get t).known
  | .const v => ofConst v
  | .global _ => none
  | .func f => some (.fn f [] [])
def opds (e : Env) : List Operand → Option (List AV)
  | [] => some []
  | x :: l =>
    match opd e x, opds e l with
    | some v, some vs => some (v :: vs)
    | _, _ => none

/-- Operands of which nothing need be known. -/
def opdU (e : Env) : Operand → Option AV
  | .tmp t => some (e.get t)
  | x => opd e x
def opdsU (e : Env) : List Operand → Option (List AV)
  | [] => some []
  | x :: l =>
    match opdU e x, opdsU e l with
    | some v, some vs => some (v :: vs)
    | _, _ => none

def AV.cells : AV → List AV
  | .agg l => l
  | v => [v]
/-- May it lie in one cell? -/
def AV.one : AV → Bool
  | .agg _ | .tup _ | .unk => false
  | _ => true
def allOne : List AV → Bool
  | [] => true
  | v :: l => bif v.one then allOne l else false

/-- Lists, by recursors. -/
def hasN (n : Nat) : List AV → Bool :=
  Nat.rec (motive := fun _ => List AV → Bool) (fun _ => true) (fun _ ih l => List.rec (motive := fun _ => Bool) false (fun _ t _ => ih t) l) n
def dropN (n : Nat) : List AV → Option (List AV) :=
  Nat.rec (motive := fun _ => List AV → Option (List AV)) (fun l => some l) (fun _ ih l => List.rec (motive := fun _ => Option (List AV)) none (fun _ t _ => ih t) l) n
def takeN (n : Nat) : List AV → List AV :=
  Nat.rec (motive := fun _ => List AV → List AV) (fun _ => []) (fun _ ih l => List.rec (motive := fun _ => List AV) [] (fun x t _ => x :: ih t) l) n
def overN (new : List AV) : List AV → List AV :=
  List.rec (motive := fun _ => List AV → List AV) (fun l => l) (fun y _ ih l => List.rec (motive := fun _ => List AV) [] (fun _ t _ => y :: ih t) l) new
def putN (n : Nat) (new : List AV) : List AV → List AV :=
  Nat.rec (motive := fun _ => List AV → List AV) (overN new) (fun _ ih l => List.rec (motive := fun _ => List AV) [] (fun x t _ => x :: ih t) l) n
def lenN (l : List AV) : Nat := List.rec (motive := fun _ => Nat) 0 (fun _ _ ih => Nat.succ ih) l
/-- So many cells from a place on. -/
def cut (cs : List AV) (o n : Nat) : Option (List AV) := Option.rec (motive := fun _ => Option (List AV)) none (fun l => bif hasN n l then some (takeN n l) else none) (dropN o cs)
def nth (cs : List AV) (o : Nat) : Option AV :=
  Nat.rec (motive := fun _ => List AV → Option AV) (fun l => List.rec (motive := fun _ => Option AV) none (fun x _ _ => some x) l) (fun _ ih l => List.rec (motive := fun _ => Option AV) none (fun _ t _ => ih t) l) o cs
def splice (cs : List AV) (o : Nat) (new : List AV) : Option (List AV) :=
  Option.rec (motive := fun _ => Option (List AV)) none (fun l => bif hasN (lenN new) l then some (putN o new cs) else none) (dropN o cs)
/-- The cells of a row, where it is one that may be read. -/
def rowOf : AObj → Option (List AV)
  | .cells cs | .ro cs => some cs
  | _ => none
def part (C : Ctx) (t : TypeId) (cs : List AV) (o : Nat) : Option AV :=
  match C.isAgg t with
  | some true =>
    match C.size t with
    | some n =>
      match cut cs o n with
      | some l => some (.agg l)
      | none => none
    | none => none
  | some false => nth cs o
  | none => none

def zero (C : Ctx) (t : TypeId) : Option AV :=
  match C.info t with
  | some i =>
    match i.zero with
    | some v => ofConst v
    | none => none
  | none => none
def zeros (C : Ctx) (t : TypeId) : Option (List AV) :=
  match zero C t with
  | some v => some v.cells
  | none => none
def rep (z : List AV) : Nat → List AV
  | 0 => []
  | n + 1 => z ++ rep z n

/-! ### Operations that touch no memory -/

def fillAt (cs : List AV) (o n : Nat) (v : AV) : Option (List AV) :=
  bif v.cells.length.beq n then splice cs o v.cells else none
def fillFields (C : Ctx) (e : Env) (fs : List Field) : List (Nat × Operand) → List AV → Option (List AV)
  | [], cs => some cs
  | (i, x) :: l, cs =>
    match fs[i]?, opd e x with
    | some f, some v =>
      match C.size f.type with
      | some n =>
        match fillAt cs f.offset n v with
        | some cs' => fillFields C e fs l cs'
        | none => none
      | none => none
    | _, _ => none
def fillElems (e : Env) (n : Nat) : List (Nat × Operand) → List AV → Option (List AV)
  | [], cs => some cs
  | (i, x) :: l, cs =>
    match opd e x with
    | some v =>
      match fillAt cs (i * n) n v with
      | some cs' => fillElems e n l cs'
      | none => none
    | none => none

/-- Equality, as far as it is asked for. -/
def eqFields (eq : TypeId → AV → AV → Option Bool) (C : Ctx) (xs ys : List AV) : List Field → Option Bool
  | [] => some true
  | f :: fs =>
    bif f.name == "_" then none else
    match part C f.type xs f.offset, part C f.type ys f.offset with
    | some a, some b =>
      match eq f.type a b with
      | some true => eqFields eq C xs ys fs
      | some false => some false
      | none => none
    | _, _ => none
def eqElems (eq : AV → AV → Option Bool) (C : Ctx) (t : TypeId) (n : Nat) (xs ys : List AV) : Nat → Nat → Option Bool
  | 0, _ => some true
  | k + 1, i =>
    match part C t xs (i * n), part C t ys (i * n) with
    | some a, some b =>
      match eq a b with
      | some true => eqElems eq C t n xs ys k (i + 1)
      | some false => some false
      | none => none
    | _, _ => none
def eqIn (C : Ctx) : Nat → TypeId → AV → AV → Option Bool
  | 0, _, _, _ => none
  | d + 1, t, x, y =>
    match C.und t, x, y with
    | some .bool, .bool a, .bool b => some (a == b)
    | some (.int _), .int k a, .int k' b => bif (kidx k).beq (kidx k') then some (ieq a b) else none
    | some .string, .str a, .str b => some (listEq a b)
    | some (.pointer _), .nilptr, .nilptr => some true
    | some (.pointer _), .nilptr, .ptr _ _ => some false
    | some (.pointer _), .ptr _ _, .nilptr => some false
    | some (.slice _), .nilsl, .nilsl => some true
    | some (.slice _), .nilsl, .sl _ _ _ _ | some (.slice _), .nilsl, .emp => some false
    | some (.slice _), .sl _ _ _ _, .nilsl | some (.slice _), .emp, .nilsl => some false
    | some (.map _ _), .nilmap, .nilmap => some true
    | some (.map _ _), .nilmap, .map _ => some false
    | some (.map _ _), .map _, .nilmap => some false
    | some (.func _ _ _), .nilfn, .nilfn => some true
    | some (.func _ _ _), .nilfn, .fn _ _ _ => some false
    | some (.func _ _ _), .fn _ _ _, .nilfn => some false
    | some (.struct fs), .agg xs, .agg ys => bif C.P.stoodInHeld t then none else eqFields (eqIn C d) C xs ys fs.toList
    | some (.array len el), .agg xs, .agg ys =>
      match C.size el with
      | some n => eqElems (eqIn C d el) C el n xs ys len 0
      | none => none
    | _, _, _ => none

def eqOp (C : Ctx) (t : TypeId) (x y : AV) : Option Bool :=
  match x, y with
  | .agg _, .agg _ => bif C.P.eqGuardType C.P.depth t then none else eqIn C 10000 t x y
  | _, _ => eqIn C 10000 t x y

def intAV (k : IntKind) (a : Int) (k' : IntKind) (b : Int) : BinOp → Option AV
  | .shl => shiftOp .shl k a b
  | .shr => shiftOp .shr k a b
  | op => bif (kidx k).beq (kidx k') then intOp op k a b else none
def eqAV (C : Ctx) (t : TypeId) (x y : AV) : BinOp → Option AV
  | .eql =>
    match eqOp C t x y with
    | some b => some (.bool b)
    | none => none
  | .neq =>
    match eqOp C t x y with
    | some b => some (.bool (!b))
    | none => none
  | _ => none
def binAV (C : Ctx) (op : BinOp) (t : TypeId) (x y : AV) : Option AV :=
  match x, y with
  | .int k a, .int k' b => intAV k a k' b op
  | .str a, .str b => strOp op a b
  | x, y => eqAV C t x y op

def unAV (op : UnOp) (x : AV) : Option AV :=
  match op, x with
  | .not, .bool b => some (.bool (!b))
  | .neg, .int k n => some (.int k (wr k (0 - n)))
  | .xor, .int k n => some (.int k (sgn k (Nat.xor (kmod k - 1) (low k n))))
  | _, _ => none

def natOf : AV → Option Nat
  | .int _ (.ofNat n) => some n
  | _ => none
def natOr (d : Nat) : Option AV → Option Nat
  | none => some d
  | some v => natOf v

/-- What is left of a capacity behind so many elements. -/
def Cap.back (c : Cap) (l : Nat) : Cap :=
  match c with
  | .ex c => .ex (c - l)
  | .rest s => .rest s

def sliceAV (C : Ctx) (t : TypeId) (x : AV) (lo hi mx : Option AV) : Option AV :=
  match C.und t, x with
  | some .string, .str s =>
    match mx, natOr 0 lo, natOr s.length hi with
    | none, some l, some h => bif h.ble s.length && l.ble h then some (.str ((s.drop l).take (h - l))) else none
    | _, _, _ => none
  | some (.slice el), .nilsl =>
    match C.size el, natOr 0 lo, natOr 0 hi, mx with
    | some _, some 0, some 0, none => some .nilsl
    | _, _, _, _ => none
  | some (.slice el), .emp =>
    match C.size el, natOr 0 lo, natOr 0 hi, mx with
    | some _, some 0, some 0, none => some .emp
    | _, _, _, _ => none
  | some (.slice el), .sl b o len cap =>
    match C.size el, natOr 0 lo, natOr len hi with
    | some n, some l, some h =>
      match mx with
      | none =>
        match cap with
        | .ex c =>
          bif h.ble c && l.ble h then some (bif l.beq c then .sl b o (h - l) (.ex (c - l)) else .sl b (o + l * n) (h - l) (.ex (c - l))) else none
        | .rest s =>
          bif h.ble len && l.ble h then
            (bif l.beq 0 then some (.sl b o h (.rest s)) else bif l.beq len then some .emp else bif s.beq n then some (.sl b (o + l * n) (h - l) (.rest s)) else none)
          else none
      | some m =>
        match natOf m with
        | some m =>
          bif (match cap with | .ex c => m.ble c | .rest _ => m.ble len) && h.ble m && l.ble h && hi.isSome then
            some (bif l.beq m then .sl b o (h - l) (.ex (m - l)) else .sl b (o + l * n) (h - l) (.ex (m - l)))
          else none
        | none => none
    | _, _, _ => none
  | some (.array len el), .ptr b o =>
    match C.size el, natOr 0 lo, natOr len hi, mx with
    | some n, some l, some h, none =>
      bif h.ble len && l.ble h then some (bif l.beq len then .sl b o (h - l) (.ex (len - l)) else .sl b (o + l * n) (h - l) (.ex (len - l))) else none
    | _, _, _, _ => none
  | _, _ => none

def max2 : AV → AV → Option AV
  | .int k x, .int _ y => some (.int k (bif ilt x y then y else x))
  | _, _ => none
def min2 : AV → AV → Option AV
  | .int k x, .int _ y => some (.int k (bif ilt y x then y else x))
  | _, _ => none
def fold2 (f : AV → AV → Option AV) : AV → List AV → Option AV
  | x, [] => some x
  | x, y :: l =>
    match f x y with
    | some z => fold2 f z l
    | none => none

def optOpd (e : Env) : Option Operand → Option (Option AV)
  | none => some none
  | some x =>
    match opd e x with
    | some v => some (some v)
    | none => none

def pickAV (e : Env) (a b : Operand) : Option AV → Option AV
  | some (.bool true) => opd e a
  | some (.bool false) => opd e b
  | _ => none
def nilAV : Option AV → Option AV
  | some (.ptr b o) => some (.ptr b o)
  | some (.fn f l m) => some (.fn f l m)
  | some (.yield l) => some (.yield l)
  | _ => none
def aggOf : Option (List AV) → Option AV
  | some l => some (.agg l)
  | none => none
def allSized (C : Ctx) : List Field → Bool
  | [] => true
  | f :: l =>
    match C.size f.type with
    | some _ => allSized C l
    | none => false
def buildAV (C : Ctx) (e : Env) (ps : List (Nat × Operand)) (z : Option (List AV)) : Option TypeDesc → Option AV
  | some (.struct fs) =>
    match z with
    | some z => bif allSized C fs.toList then aggOf (fillFields C e fs.toList ps z) else none
    | none => none
  | some (.array _ el) =>
    match z, C.size el with
    | some z, some n => aggOf (fillElems e n ps z)
    | _, _ => none
  | _ => none
def fieldOf (f : Nat) : Option TypeDesc → Option Field
  | some (.struct fs) => fs.toList[f]?
  | _ => none
def fieldAddrAV (C : Ctx) (x : Option AV) : Option Field → Option AV
  | some fd =>
    match x, C.size fd.type with
    | some (.ptr b o), some (_ + 1) => some (.ptr b (o + fd.offset))
    | _, _ => none
  | none => none
def fieldAV (C : Ctx) (x : Option AV) : Option Field → Option AV
  | some fd =>
    match x with
    | some (.agg cs) => part C fd.type cs fd.offset
    | _ => none
  | none => none
def indexAddrAV (C : Ctx) (x i : Option AV) : Option TypeDesc → Option AV
  | some (.array len el) =>
    match x, i, C.size el with
    | some (.ptr b o), some (.int _ (.ofNat i)), some n => bif i.blt len then some (.ptr b (o + i * n)) else none
    | _, _, _ => none
  | some (.slice el) =>
    match x, i, C.size el with
    | some (.sl b o len _), some (.int _ (.ofNat i)), some n => bif i.blt len then some (.ptr b (o + i * n)) else none
    | _, _, _ => none
  | _ => none
def byteAV : Option Nat → Option AV
  | some b => some (.int .u8 (.ofNat b))
  | none => none
def indexAV (C : Ctx) (x i : Option AV) : Option TypeDesc → Option AV
  | some (.array len el) =>
    match x, i, C.size el with
    | some (.agg cs), some (.int _ (.ofNat i)), some n => bif i.blt len then part C el cs (i * n) else none
    | _, _, _ => none
  | some .string =>
    match x, i with
    | some (.str s), some (.int _ (.ofNat i)) => byteAV s[i]?
    | _, _ => none
  | _ => none
def binOf (C : Ctx) (op : BinOp) (t : TypeId) : Option AV → Option AV → Option AV
  | some a, some b => binAV C op t a b
  | _, _ => none
def unOf (op : UnOp) : Option AV → Option AV
  | some a => unAV op a
  | none => none
def convAV : Option TypeDesc → Option AV → Option AV
  | some (.int k), some (.int _ n) => some (.int k (wr k n))
  | some .string, some (.str s) => some (.str s)
  | _, _ => none
def fnAV (f : FuncId) : Option (List AV) → Option (List AV) → Option AV
  | some l, some m => some (.fn f l m)
  | _, _ => none
def sliceOf (C : Ctx) (t : TypeId) : Option AV → Option (Option AV) → Option (Option AV) → Option (Option AV) → Option AV
  | some v, some l, some h, some m => sliceAV C t v l h m
  | _, _, _, _ => none
def extractAV (i : Nat) : Option AV → Option AV
  | some (.tup l) => l[i]?
  | _ => none
def foldOf (f : AV → AV → Option AV) : Option (List AV) → Option AV
  | some (x :: l) => fold2 f x l
  | _ => none

/-! ### Operations that read memory -/

def keyEq : AV → AV → Option Bool
  | .int k a, .int k' b => bif (kidx k).beq (kidx k') then some (ieq a b) else none
  | .str a, .str b => some (listEq a b)
  | .bool a, .bool b => some (a == b)
  | _, _ => none
/-- The place of a key, and what stands there. -/
def findKey (k : AV) : List (AV × AV × Nat) → Nat → Option (Option (Nat × AV × Nat))
  | [], _ => some none
  | (a, v, t) :: l, i =>
    match keyEq k a with
    | some true => some (some (i, v, t))
    | some false => findKey k l (i + 1)
    | none => none
def findU (k : AV) : List (AV × AV) → Nat → Option (Option (Nat × AV))
  | [], _ => some none
  | (a, v) :: l, i =>
    match keyEq k a with
    | some true => some (some (i, v))
    | some false => findU k l (i + 1)
    | none => none
/-- What stands at a key. -/
def lookIn (h : Heap) (k : AV) : AV → Option (Option AV)
  | .nilmap => some none
  | .map b =>
    match h.get b with
    | some (.map es _) =>
      match findKey k es 0 with
      | some (some (_, v, _)) => some (some v)
      | some none => some none
      | none => none
    | some (.umap es _) =>
      match findU k es 0 with
      | some (some (_, v)) => some (some v)
      | some none => some none
      | none => none
    | _ => none
  | _ => none
/-- May a key of this type be looked for? -/
def keyKind (C : Ctx) (t : TypeId) (k : AV) : Bool :=
  match C.und t, k with
  | some (.int _), .int _ _ => true
  | some .string, .str _ => true
  | some .bool, .bool _ => true
  | _, _ => false

def loadAV (C : Ctx) (h : Heap) (t : TypeId) (b o : Nat) : Option AV :=
  match h.get b with
  | some ob =>
    match rowOf ob with
    | some cs => part C t cs o
    | none => none
  | none => none

def bytesOf : List AV → Option (List Nat)
  | [] => some []
  | .int .u8 (.ofNat n) :: l =>
    match bytesOf l with
    | some r => bif n.blt 256 then some (n :: r) else none
    | none => none
  | _ => none

def loadOf (C : Ctx) (h : Heap) (t : TypeId) : Option AV → Option AV
  | some (.ptr b o) => loadAV C h t b o
  | _ => none
def gotAV (ok : Bool) (v : AV) : AV := bif ok then .tup [v, .bool true] else v
def notAV (ok : Bool) : Option AV → Option AV
  | some z => some (bif ok then .tup [z, .bool false] else z)
  | none => none
def foundAV (C : Ctx) (el : TypeId) (ok : Bool) : Option (Option AV) → Option AV
  | some (some v) => some (gotAV ok v)
  | some none => notAV ok (zero C el)
  | none => none
def lookupAV (C : Ctx) (h : Heap) (ok : Bool) (m k : Option AV) : Option TypeDesc → Option AV
  | some (.map kt el) =>
    match m, k with
    | some m, some k => bif keyKind C kt k then foundAV C el ok (lookIn h k m) else none
    | _, _ => none
  | _ => none
def mapLen : Option AObj → Option AV
  | some (.map es _) => some (.int .i64 (.ofNat es.length))
  | some (.umap es _) => some (.int .i64 (.ofNat es.length))
  | _ => none
def lenAV (h : Heap) : Option TypeDesc → Option (List AV) → Option AV
  | some (.array n _), some (_ :: _) => some (.int .i64 (.ofNat n))
  | some .string, some (.str s :: _) => some (.int .i64 (.ofNat s.length))
  | some (.slice _), some (.nilsl :: _) => some (.int .i64 (.ofNat 0))
  | some (.slice _), some (.emp :: _) => some (.int .i64 (.ofNat 0))
  | some (.slice _), some (.sl _ _ n _ :: _) => some (.int .i64 (.ofNat n))
  | some (.map _ _), some (.nilmap :: _) => some (.int .i64 (.ofNat 0))
  | some (.map _ _), some (.map b :: _) => mapLen (h.get b)
  | _, _ => none
def typeArg (C : Ctx) : List TypeId → Option TypeDesc
  | t :: _ => C.und t
  | [] => none
def strOf : Option (List AV) → Option AV
  | some l =>
    match bytesOf l with
    | some s => some (.str s)
    | none => none
  | none => none
def rowAt (h : Heap) (b o n : Nat) : Option (List AV) :=
  match h.get b with
  | some ob =>
    match rowOf ob with
    | some cs => cut cs o n
    | none => none
  | none => none
def textAV (C : Ctx) (h : Heap) (el : TypeId) (x : Option AV) : Option AV :=
  match C.und el, x with
  | some (.int .u8), some .nilsl => some (.str [])
  | some (.int .u8), some .emp => some (.str [])
  | some (.int .u8), some (.sl b o n _) => strOf (rowAt h b o n)
  | _, _ => none

/-! ### Operations that make a block -/

/-- What an operation comes to. -/
inductive OpR where
  /-- A value, and no memory touched. -/
  | val (v : AV)
  /-- A value that hangs on memory. -/
  | rd (v : AV)
  /-- A new block, and the value over its number. -/
  | new (o : AObj) (mk : Nat → AV)
  /-- A value, and the heap behind. -/
  | wr (v : AV) (h : Heap)
  | fn (f : FuncId) (args : List AV)
  | yield (l : Nat) (args : List AV)
  | bad
def asVal : Option AV → OpR
  | some v => .val v
  | none => .bad
def asRd : Option AV → OpR
  | some v => .rd v
  | none => .bad
def asWr : Option (AV × Heap) → OpR
  | some (v, h) => .wr v h
  | none => .bad
def ptrAt (b : Nat) : AV := .ptr b 0
def allocR : Option (List AV) → OpR
  | some z => .new (.cells z) ptrAt
  | none => .bad
def boxR : Option AV → OpR
  | some v => .new (.cells v.cells) ptrAt
  | none => .bad
def rowR (l : Nat) (c : Cap) : Option (List AV) → OpR
  | some cs => .new (.cells cs) (fun b => .sl b 0 l c)
  | none => .bad
def buildSliceR (C : Ctx) (e : Env) (len : Nat) (ps : List (Nat × Operand)) : Option TypeDesc → OpR
  | some (.slice el) =>
    match C.size el, zeros C el with
    | some n, some z => bif (len * n).ble 16777216 && z.length.beq n && Nat.blt 0 n then rowR len (.ex len) (fillElems e n ps (rep z len)) else .bad
    | _, _ => .bad
  | _ => .bad
def makeSliceR (C : Ctx) (l c : Option AV) : Option TypeDesc → OpR
  | some (.slice el) =>
    match l, c with
    | some (.int _ (.ofNat l)), some (.int _ (.ofNat c)) =>
      match C.size el, zeros C el, C.bytes el with
      | some n, some z, some by' =>
        bif (by' * c).ble 281474976710656 && c.ble 281474976710656 && l.ble c && z.length.beq n && Nat.blt 0 n then rowR l (.ex c) (some (rep z c)) else .bad
      | _, _, _ => .bad
    | _, _ => .bad
  | _ => .bad
def mapAt (b : Nat) : AV := .map b
def makeMapR : Option TypeDesc → Option (Option AV) → OpR
  | _, some none => .new (.map [] 0) mapAt
  | some (.map _ _), some (some (.int _ _)) => .new (.map [] 0) mapAt
  | _, _ => .bad
def bytesR (C : Ctx) (el : TypeId) : Option AV → OpR
  | some (.str s) =>
    match C.und el with
    | some (.int .u8) => rowR s.length (.rest 1) (some (s.map fun n => .int .u8 (.ofNat n)))
    | _ => .bad
  | _ => .bad

/-! ### Operations that write -/

def storeAV (h : Heap) (b o : Nat) (new : List AV) : Option Heap :=
  match h.get b with
  | some (.cells cs) =>
    bif allOne new then
      match splice cs o new with
      | some cs' => some (h.set b (.cells cs'))
      | none => none
    else none
  | _ => none

/-- The first cells of what is appended or copied. -/
def srcCells (h : Heap) (size n : Nat) : AV → Option (List AV)
  | .nilsl | .emp => some []
  | .sl b o _ _ =>
    match h.get b with
    | some ob =>
      match rowOf ob with
      | some cs => cut cs o (n * size)
      | none => none
    | none => none
  | .str s => bif size.beq 1 then some ((s.take n).map fun x => .int .u8 (.ofNat x)) else none
  | _ => none
def srcLen : AV → Option Nat
  | .nilsl | .emp => some 0
  | .sl _ _ n _ => some n
  | .str s => some s.length
  | _ => none

def appendAV (h : Heap) (size bytes : Nat) (s x : AV) : Option (AV × Heap) :=
  match srcLen x with
  | none => none
  | some n =>
    match srcCells h size n x with
    | none => none
    | some new =>
      bif !allOne new then none else
      match s with
      | .nilsl =>
        bif n.beq 0 then some (.nilsl, h)
        else bif (n * bytes).ble 17592186044416 && n.ble 17592186044416 && Nat.blt 0 size then some (.sl h.next 0 n (.rest size), h.add (.cells new)) else none
      | .emp => bif n.beq 0 then some (.emp, h) else none
      | .sl b o len cap =>
        bif n.beq 0 then some (.sl b o len cap, h) else
        bif !(((len + n) * bytes).ble 17592186044416 && (len + n).ble 17592186044416 && Nat.blt 0 size) then none else
        match h.get b with
        | some ob =>
          match rowOf ob with
          | some cs =>
            match cut cs o (len * size) with
            | some old =>
              match cap with
              | .ex c =>
                bif (len + n).ble c then
                  match storeAV h b (o + len * size) new with
                  | some h' => some (.sl b o (len + n) (.ex c), h')
                  | none => none
                else some (.sl h.next 0 (len + n) (.rest size), h.add (.cells (old ++ new)))
              | .rest s =>
                match ob with
                | .cells _ => bif o.beq 0 && s.beq size then some (.sl h.next 0 (len + n) (.rest size), (h.set b .dead).add (.cells (old ++ new))) else none
                | _ => none
            | none => none
          | none => none
        | none => none
      | _ => none

def wroteAV (v : AV) : Option Heap → OpR
  | some h => .wr v h
  | none => .bad
def storeR (h : Heap) (n : Option Nat) : Option AV → Option AV → OpR
  | some (.ptr b o), some v =>
    match n with
    | some n => bif v.cells.length.beq n then wroteAV (.tup []) (storeAV h b o v.cells) else .bad
    | none => .bad
  | _, _ => .bad
/-- A map with an entry. -/
def mapPut (h : Heap) (b : Nat) (k v : AV) : Option Heap :=
  match h.get b with
  | some (.map es clock) =>
    match findKey k es 0 with
    | some (some (i, _, t)) => some (h.set b (.map (es.take i ++ (k, v, t) :: es.drop (i + 1)) clock))
    | some none => some (h.set b (.map (es ++ [(k, v, clock)]) (clock + 1)))
    | none => none
  | some (.umap es clock) =>
    match findU k es 0 with
    | some (some (i, _)) => some (h.set b (.umap (es.take i ++ (k, v) :: es.drop (i + 1)) clock))
    | some none => some (h.set b (.umap (es ++ [(k, v)]) (clock + 1)))
    | none => none
  | _ => none
def updateR (C : Ctx) (h : Heap) (m k v : Option AV) : Option TypeDesc → OpR
  | some (.map kt _) =>
    match m, k, v with
    | some (.map b), some k, some v => bif keyKind C kt k then wroteAV (.tup []) (mapPut h b k v) else .bad
    | _, _, _ => .bad
  | _ => .bad
def entryR (C : Ctx) (h : Heap) (m k : Option AV) : Option TypeDesc → OpR
  | some (.map kt el) =>
    match m, k with
    | some (.map b), some k =>
      bif keyKind C kt k then
        match h.get b with
        | some (.map es clock) =>
          match findKey k es 0 with
          | some (some (i, v, t)) => .wr (.tup [v, .int .i64 (.ofNat t)]) (h.set b (.map (es.take i ++ (k, v, t) :: es.drop (i + 1)) clock))
          | some none =>
            match zero C el with
            | some z => .wr (.tup [z, .int .i64 (.ofNat clock)]) (h.set b (.map (es ++ [(k, z, clock)]) (clock + 1)))
            | none => .bad
          | none => .bad
        | _ => .bad
      else .bad
    | _, _ => .bad
  | _ => .bad
def findStamp (t : Nat) : List (AV × AV × Nat) → Nat → Option (Nat × AV)
  | [], _ => none
  | (k, _, u) :: l, i => bif u.beq t then some (i, k) else findStamp t l (i + 1)
def entryStoreR (h : Heap) : Option AV → Option AV → Option AV → OpR
  | some (.map b), some (.int _ (.ofNat t)), some v =>
    match h.get b with
    | some (.map es clock) =>
      match findStamp t es 0 with
      | some (i, k) => .wr (.tup []) (h.set b (.map (es.take i ++ (k, v, t) :: es.drop (i + 1)) clock))
      | none => .bad
    | _ => .bad
  | _, _, _ => .bad
def rangeR (h : Heap) : Option TypeDesc → Option AV → OpR
  | some (.map _ _), some .nilmap => .wr (.ptr h.next 0) (h.add (.miter none))
  | some (.map _ _), some (.map m) =>
    match h.get m with
    | some (.map _ clock) => .wr (.ptr h.next 0) (h.add (.miter (some (m, clock))))
    | some (.umap _ clock) => .wr (.ptr h.next 0) (h.add (.miter (some (m, clock))))
    | _ => .bad
  | _, _ => .bad
/-- '[]byte' of a slice of bytes: the slice. -/
def sameSliceR (C : Ctx) (h : Heap) (src dst el : TypeId) : Option AV → OpR
  | some (.sl b o n c) =>
    match C.und el, h.get b with
    | some (.int .u8), some (.cells _) => bif Nat.beq src dst then .wr (.sl b o n c) h else .bad
    | _, _ => .bad
  | _ => .bad
def appendR (C : Ctx) (h : Heap) (el : TypeId) (u : Option TypeDesc) : Option (List AV) → OpR
  | some [s, x] =>
    match u, C.size el, C.bytes el, zeros C el with
    | some (.slice _), some n, some by', some z | some .string, some n, some by', some z => bif z.length.beq n then asWr (appendAV h n by' s x) else .bad
    | _, _, _, _ => .bad
  | _ => .bad
def copyAV (h : Heap) (size : Nat) (x : AV) : AV → Option (AV × Heap)
  | .nilsl | .emp =>
    match srcLen x with
    | some _ => some (.int .i64 0, h)
    | none => none
  | .sl b o len _ =>
    match srcLen x with
    | some m =>
      let n := Nat.min m len
      match srcCells h size n x with
      | some new =>
        bif n.beq 0 then some (.int .i64 0, h) else
        match storeAV h b o new with
        | some h' => some (.int .i64 (.ofNat n), h')
        | none => none
      | none => none
    | none => none
  | _ => none
def copyR (C : Ctx) (h : Heap) (el : TypeId) : Option (List AV) → OpR
  | some (d :: x :: _) =>
    match C.size el with
    | some size => asWr (copyAV h size x d)
    | none => .bad
  | _ => .bad
def clearR (C : Ctx) (h : Heap) : Option TypeDesc → Option (List AV) → OpR
  | some _, some (.nilmap :: _) | some _, some (.nilsl :: _) | some _, some (.emp :: _) => .wr (.tup []) h
  | some _, some (.map b :: _) =>
    match h.get b with
    | some (.map _ clock) => .wr (.tup []) (h.set b (.map [] clock))
    | some (.umap _ clock) => .wr (.tup []) (h.set b (.umap [] clock))
    | _ => .bad
  | some (.slice el), some (.sl b o n _ :: _) =>
    bif n.beq 0 then .wr (.tup []) h else
    match zeros C el with
    | some z => wroteAV (.tup []) (storeAV h b o (rep z n))
    | none => .bad
  | _, _ => .bad
def mapDel (h : Heap) (b : Nat) (k : AV) : Option Heap :=
  match h.get b with
  | some (.map es clock) =>
    match findKey k es 0 with
    | some (some (i, _, _)) => some (h.set b (.map (es.take i ++ es.drop (i + 1)) clock))
    | some none => some h
    | none => none
  | some (.umap es clock) =>
    match findU k es 0 with
    | some (some (i, _)) => some (h.set b (.umap (es.take i ++ es.drop (i + 1)) clock))
    | some none => some h
    | none => none
  | _ => none
def deleteR (C : Ctx) (h : Heap) : Option TypeDesc → Option (List AV) → OpR
  | some (.map kt _), some (m :: k :: _) =>
    bif keyKind C kt k then
      match m with
      | .nilmap => .wr (.tup []) h
      | .map b => wroteAV (.tup []) (mapDel h b k)
      | _ => .bad
    else .bad
  | _, _ => .bad
def second : List TypeId → Option TypeId
  | [_, u] => some u
  | _ => none
def undOf (C : Ctx) : Option TypeId → Option TypeDesc
  | some t => C.und t
  | none => none
def builtinR (C : Ctx) (s g : Heap) (ts : List TypeId) (args : Option (List AV)) : Builtin → OpR
  | .len => asRd (lenAV s (typeArg C ts) args)
  | .max => asVal (foldOf max2 args)
  | .min => asVal (foldOf min2 args)
  | .append =>
    match typeArg C ts with
    | some (.slice el) => appendR C g el (undOf C (second ts)) args
    | _ => .bad
  | .copy =>
    match typeArg C ts with
    | some (.slice el) => copyR C g el args
    | _ => .bad
  | .clear => clearR C g (typeArg C ts) args
  | .delete => deleteR C g (typeArg C ts) args
  | _ => .bad
def calledR (l : Option (List AV)) : Option AV → OpR
  | some (.fn f first caps) =>
    match l with
    | some l => .fn f (first ++ (l ++ caps))
    | none => .bad
  | some (.yield k) =>
    match l with
    | some l => .yield k l
    | none => .bad
  | _ => .bad
def callR (C : Ctx) (e : Env) (s g : Heap) (ts : List TypeId) (l : List Operand) : Callee → OpR
  | .value f => calledR (opdsU e l) (opd e f)
  | .builtin b => builtinR C s g ts (opds e l) b
  | .invoke _ _ => .bad
def convertR (C : Ctx) (s g : Heap) (src dst : TypeId) (x : Option AV) : Option TypeDesc → Option TypeDesc → OpR
  | some (.slice el), some .string => asRd (textAV C s el x)
  | some (.slice _), some (.slice el) => sameSliceR C g src dst el x
  | some .string, some (.slice el) => bytesR C el x
  | some _, d => asVal (convAV d x)
  | none, _ => .bad
def makeFuncR (l m : Option (List AV)) : Fn → OpR
  | .func f => asVal (fnAV f l m)
  | _ => .bad
/-- An operation: what hangs on memory looks at heap s, what writes goes on from heap g. -/
def opEval (C : Ctx) (e : Env) (s g : Heap) : Op → OpR
  | .move x => asVal (opdU e x)
  | .assign x => asVal (opdU e x)
  | .pick c a b => asVal (pickAV e a b (opd e c))
  | .nilCheck x => asVal (nilAV (opd e x))
  | .build t ps => asVal (buildAV C e ps.toList (zeros C t) (C.und t))
  | .fieldAddr t x f => asVal (fieldAddrAV C (opd e x) (fieldOf f (C.und t)))
  | .field t x f => asVal (fieldAV C (opd e x) (fieldOf f (C.und t)))
  | .indexAddr t x i => asVal (indexAddrAV C (opd e x) (opd e i) (C.und t))
  | .index t x i => asVal (indexAV C (opd e x) (opd e i) (C.und t))
  | .binOp op t x y _ => asVal (binOf C op t (opd e x) (opd e y))
  | .unOp op _ x => asVal (unOf op (opd e x))
  | .convert src dst x => convertR C s g src dst (opd e x) (C.und src) (C.und dst)
  | .makeFunc f l m => makeFuncR (opds e l.toList) (opds e m.toList) f
  | .slice t x lo hi mx => asVal (sliceOf C t (opd e x) (optOpd e lo) (optOpd e hi) (optOpd e mx))
  | .extract x i => asVal (extractAV i (opd e x))
  | .load t x => asRd (loadOf C s t (opd e x))
  | .lookup t x k ok => asRd (lookupAV C s ok (opd e x) (opd e k) (C.und t))
  | .alloc t => allocR (zeros C t)
  | .box _ x => boxR (opd e x)
  | .buildSlice t n ps => buildSliceR C e n ps.toList (C.und t)
  | .makeSlice t l c => makeSliceR C (opd e l) (opd e c) (C.und t)
  | .makeMap t r => makeMapR (C.und t) (optOpd e r)
  | .store t a x => storeR g (C.size t) (opd e a) (opd e x)
  | .mapUpdate t m k x => updateR C g (opd e m) (opd e k) (opd e x) (C.und t)
  | .mapEntry t m k => entryR C g (opd e m) (opd e k) (C.und t)
  | .entryStore _ m t x => entryStoreR g (opd e m) (opd e t) (opd e x)
  | .range t x => rangeR g (C.und t) (opd e x)
  | .call c => callR C e s g c.argTypes.toList c.args.toList c.callee
  | _ => .bad

/-! ### Which kind of operation -/

inductive Kind where
  | pure | read | alloc | heavy | call
def kindOf (C : Ctx) : Op → Kind
  | .load .. | .lookup .. => .read
  | .alloc _ | .box .. | .buildSlice .. | .makeSlice .. | .makeMap .. => .alloc
  | .store .. | .mapUpdate .. | .insert .. | .mapEntry .. | .entryStore .. | .range .. => .heavy
  | .convert src dst _ =>
    match C.und src, C.und dst with
    | some (.slice _), some .string => .read
    | some (.slice _), some (.slice _) => .heavy
    | some .string, some (.slice _) => .alloc
    | _, _ => .pure
  | .call c =>
    match c.callee with
    | .builtin .max | .builtin .min => .pure
    | .builtin .len => .read
    | .builtin _ => .heavy
    | _ => .call
  | _ => .pure

/-- Is an operation wanted? -/
def wanted (ops : List Oper) (e : Env) (o : Oper) : Option Bool :=
  match o.guard with
  | none => some true
  | some (j, w) =>
    match ops[j]? with
    | some p =>
      match p.dst with
      | some d =>
        match e.get d with
        | .bool b => some (b == w)
        | .tup [] => some false
        | _ => none
      | none => none
    | none => none

/-! ### Code -/

/-- What a function hands back. -/
def resultAV (C : Ctx) (e : Env) (h : Heap) : ResultVar → Option AV
  | .tmp t => some (e.get t)
  | .cell a t =>
    match e.get a with
    | .ptr b o => loadAV C h t b o
    | _ => none
def resultsAV (C : Ctx) (e : Env) (h : Heap) : List ResultVar → Option (List AV)
  | [] => some []
  | r :: l =>
    match resultAV C e h r, resultsAV C e h l with
    | some v, some vs => some (v :: vs)
    | _, _ => none
def tupled : List AV → AV
  | [v] => v
  | l => .tup l
/-- The blocks of deferred calls are shut, none has a call. -/
def shut : List Nat → Heap → Option Heap
  | [], h => some h
  | r :: l, h =>
    match h.get r with
    | some .defd => shut l (h.set r .dead)
    | _ => none

def setArgs : List AV → Nat → Tr AV → Tr AV
  | [], _, t => t
  | v :: l, i, t => setArgs l (i + 1) (t.put i v)
def setParams (e : Env) : List Tmp → List AV → Option Env
  | [], [] => some e
  | p :: ps, v :: vs => setParams (e.set p v) ps vs
  | _, _ => none

def isReady : LoopState → Bool
  | .ready => true
  | _ => false
def isBusy : LoopState → Bool
  | .busy => true
  | _ => false

/-! ### A region that draws its order: which stage each operation may run in -/

def binding : Ground → Bool
  | .textOnly _ | .gcOnly _ => false
  | _ => true
/-- What must have run ahead of an operation, a bit an operation. -/
def maskOf (acc : List Nat) : List Edge → Nat
  | [] => 0
  | x :: l => bif binding x.ground then Nat.lor (Nat.lor (Nat.shiftLeft 1 x.on) (acc.getD x.on 0)) (maskOf acc l) else maskOf acc l
def masks : List Oper → List Nat → List Nat
  | [], acc => acc
  | o :: l, acc => masks l (acc ++ [maskOf acc o.after.toList])
def bit (m i : Nat) : Bool := (Nat.shiftRight m i % 2).beq 1

def isHeavy : Kind → Bool
  | .heavy | .call => true
  | _ => false
/-- The heavy operations' places. -/
def heavies (C : Ctx) : List Oper → Nat → List Nat
  | [], _ => []
  | o :: l, i => bif isHeavy (kindOf C o.op) then i :: heavies C l (i + 1) else heavies C l (i + 1)
/-- They hang one on the other. -/
def chained (ms : List Nat) : List Nat → Bool
  | a :: b :: l => bit (ms.getD b 0) a && chained ms (b :: l)
  | _ => true
/-- How many of some are among the bits. -/
def countIn (m : Nat) : List Nat → Nat
  | [] => 0
  | a :: l => bif bit m a then countIn m l + 1 else countIn m l
/-- The place of the first of some that has a bit. -/
def firstWith (ms : List Nat) (i : Nat) : List Nat → Nat → Nat
  | [], k => k
  | a :: l, k => bif bit (ms.getD a 0) i then k else firstWith ms i l (k + 1)
def tmpsOf : List Operand → List Tmp
  | [] => []
  | .tmp t :: l => t :: tmpsOf l
  | _ :: l => tmpsOf l
def dstOf (ops : List Oper) (j : Nat) : Option Tmp :=
  match ops[j]? with
  | some o => o.dst
  | none => none
/-- The temporaries that an operation looks at or writes. -/
def namesOf (ops : List Oper) (o : Oper) : List Tmp :=
  o.dst.toList ++ tmpsOf o.op.operands.toList ++ (match o.guard with | some (j, _) => (dstOf ops j).toList | none => [])
def hasTmp (t : Tmp) : List Tmp → Bool
  | [] => false
  | u :: l => bif t.beq u then true else hasTmp t l
/-- Each of the operations from place j on that writes one of some temporaries is ordered with operation i. -/
def apartOf (ms : List Nat) (i : Nat) (ns : List Tmp) : List Oper → Nat → Bool
  | [], _ => true
  | o :: l, j =>
    (match o.dst with
     | some d => bif hasTmp d ns then (j.beq i || (bif j.blt i then bit (ms.getD i 0) j else bit (ms.getD j 0) i)) else true
     | none => true) && apartOf ms i ns l (j + 1)
def guardOk (ms : List Nat) (i : Nat) (o : Oper) : Bool :=
  match o.guard with
  | some (j, _) => bit (ms.getD i 0) j
  | none => true
/-- What is asked for lies ahead. -/
def edgesBack (i : Nat) : List Edge → Bool
  | [] => true
  | x :: l => (bif binding x.ground then x.on.blt i else true) && edgesBack i l
/-- Each operation with the stages that it may run in; none: that is not known. -/
def planFrom (C : Ctx) (all : List Oper) (ms hs : List Nat) : List Oper → Nat → Nat → Option (List (Oper × Nat × Nat))
  | [], _, _ => some []
  | o :: l, i, k =>
    bif apartOf ms i (namesOf all o) all 0 && guardOk ms i o && edgesBack i o.after.toList then
      match kindOf C o.op with
      | .heavy | .call =>
        match planFrom C all ms hs l (i + 1) (k + 1) with
        | some r => some ((o, 0, 0) :: r)
        | none => none
      | .alloc =>
        bif (match hs[k]? with | some h => bit (ms.getD h 0) i | none => true) then
          match planFrom C all ms hs l (i + 1) k with
          | some r => some ((o, 0, 0) :: r)
          | none => none
        else none
      | .read =>
        bif (countIn (ms.getD i 0) hs).ble k && k.ble (firstWith ms i hs 0) then
          match planFrom C all ms hs l (i + 1) k with
          | some r => some ((o, countIn (ms.getD i 0) hs, firstWith ms i hs 0) :: r)
          | none => none
        else none
      | .pure =>
        match planFrom C all ms hs l (i + 1) k with
        | some r => some ((o, 0, 0) :: r)
        | none => none
    else none
def plan (C : Ctx) (ops : List Oper) : Option (List (Oper × Nat × Nat)) :=
  let ms := masks ops []
  let hs := heavies C ops 0
  bif chained ms hs then planFrom C ops ms hs ops 0 0 else none

def sameCap : Cap → Cap → Bool
  | .ex a, .ex b => a.beq b
  | .rest a, .rest b => a.beq b
  | _, _ => false
mutual
def sameAV : AV → AV → Bool
  | .bool a, .bool b => a == b
  | .int k a, .int l b => (kidx k).beq (kidx l) && ieq a b
  | .str a, .str b => listEq a b
  | .nilptr, .nilptr => true
  | .ptr a o, .ptr b p => a.beq b && o.beq p
  | .nilsl, .nilsl => true
  | .sl a o n c, .sl b p m d => a.beq b && o.beq p && n.beq m && sameCap c d
  | .nilmap, .nilmap => true
  | .map a, .map b => a.beq b
  | .nilfn, .nilfn => true
  | .fn f l m, .fn g p q => Nat.beq f g && sameAVs l p && sameAVs m q
  | .agg l, .agg m => sameAVs l m
  | .tup l, .tup m => sameAVs l m
  | _, _ => false
def sameAVs : List AV → List AV → Bool
  | [], [] => true
  | a :: l, b :: m => sameAV a b && sameAVs l m
  | _, _ => false
end

/-- A read answers the same at each of some heaps. -/
def readsAt (C : Ctx) (op : Op) (e : Env) (v : AV) : List Heap → Bool
  | [] => true
  | h :: l =>
    (match opEval C e h h op with
     | .rd u => sameAV v u
     | _ => false) && readsAt C op e v l
/-- So many heaps from a place on. -/
def heapsAt (sts : List Heap) (lo hi : Nat) : List Heap := (sts.drop lo).take (hi + 1 - lo)
def readsOk (C : Ctx) (sts : List Heap) : List (Op × Env × Nat × Nat × AV) → Bool
  | [] => true
  | (op, e, lo, hi, v) :: l => readsAt C op e v (heapsAt sts lo hi) && readsOk C sts l

/-! ### The evaluator -/

/-- A value of a call. -/
def called : Option Out → Option (AV × Heap)
  | some (.val v h) => some (v, h)
  | _ => none
/-- An operation's value, and the heap behind. -/
def doR (rec : Job → Option Out) (h : Heap) : OpR → Option (AV × Heap)
  | .val v => some (v, h)
  | .rd v => some (v, h)
  | .new o mk => some (mk h.next, h.add o)
  | .wr v h' => some (v, h')
  | .fn f args => called (rec (.call f args h))
  | .yield l args => called (rec (.round l args h))
  | .bad => none
def nextOps (rec : Job → Option Out) (all l : List Oper) (ds : List Nat) (e : Env) (d : Option Tmp) : Option (AV × Heap) → Option Out
  | some (v, h) => rec (.ops all l ds (e.put d v) h)
  | none => none
def oneOp (C : Ctx) (rec : Job → Option Out) (all l : List Oper) (ds : List Nat) (e : Env) (h : Heap) (o : Oper) : Option Bool → Option Out
  | some true => nextOps rec all l ds e o.dst (doR rec h (opEval C e h h o.op))
  | some false => rec (.ops all l ds (e.put o.dst (.tup [])) h)
  | none => none
def stepOps (C : Ctx) (rec : Job → Option Out) (all : List Oper) (ds : List Nat) (e : Env) (h : Heap) : List Oper → Option Out
  | [] => some (.code .normal ds e h)
  | o :: l => oneOp C rec all l ds e h o (wanted all e o)

/-- The rest of a region that draws behind an operation. -/
def nextDraw (rec : Job → Option Out) (all : List Oper) (l : List (Oper × Nat × Nat)) (ds : List Nat) (e : Env) (s g : Heap) (sts : List Heap)
    (rds : List (Op × Env × Nat × Nat × AV)) (o : Oper) (lo hi : Nat) : OpR → Option Out
  | .val v => rec (.draw all l ds (e.put o.dst v) s g sts rds)
  | .rd v => rec (.draw all l ds (e.put o.dst v) s g sts (bif lo.blt hi then (o.op, e, lo, hi, v) :: rds else rds))
  | .new ob mk => rec (.draw all l ds (e.put o.dst (mk g.next)) s (g.add ob) sts rds)
  | r =>
    match doR rec g r with
    | some (v, g') => bif g.next.ble g'.next then rec (.draw all l ds (e.put o.dst v) g' g' (g' :: sts) rds) else none
    | none => none
def stepDraw (C : Ctx) (rec : Job → Option Out) (all : List Oper) (ds : List Nat) (e : Env) (s g : Heap) (sts : List Heap)
    (rds : List (Op × Env × Nat × Nat × AV)) : List (Oper × Nat × Nat) → Option Out
  | [] => bif readsOk C sts.reverse rds then some (.code .normal ds e g) else none
  | (o, lo, hi) :: l =>
    match wanted all e o with
    | some false =>
      bif isHeavy (kindOf C o.op) then rec (.draw all l ds (e.put o.dst (.tup [])) g g (g :: sts) rds)
      else rec (.draw all l ds (e.put o.dst (.tup [])) s g sts rds)
    | some true => nextDraw rec all l ds e s g sts rds o lo hi (opEval C e s g o.op)
    | none => none

/-- A loop's record as a range over a function begins. -/
def freshLoop (e : Env) (ps : List Tmp) (assign body : Code) (defers : Nat) : ALoop :=
  { state := .ready, pending := none, n := e.n, tmps := e.t, params := ps, assign, body, defers }

/-- Behind a range over a function. -/
def afterLoop (l : Nat) (ds : List Nat) (e : Env) : Option Out → Option Out
  | some (.val _ h) =>
    match h.get l with
    | some (.loop r) =>
      bif isBusy r.state then none else
      let h' := h.set l (.loop { r with state := .exhausted })
      match r.pending with
      | none => some (.code .normal ds e h')
      | some .ret => some (.code .ret ds e h')
      | some (.exit id) => some (.code (.exit id) ds e h')
      | _ => none
    | _ => none
  | _ => none

def hasBody (C : Ctx) (f : FuncId) : Bool :=
  match C.fn f with
  | some fn => fn.body.isSome
  | none => false
def stepRange (C : Ctx) (rec : Job → Option Out) (ro : Option Nat) (ps : List Tmp) (assign body : Code) (ds : List Nat) (e : Env) (h : Heap) : Option AV → Option Out
  | some (.fn f first caps) =>
    bif !hasBody C f then none else
    match ro with
    | none => afterLoop (h.next + 1) (h.next :: ds) e (rec (.call f (first ++ [.yield (h.next + 1)] ++ caps) ((h.add .defd).add (.loop (freshLoop e ps assign body h.next)))))
    | some l₀ =>
      match h.get l₀ with
      | some (.loop r₀) => afterLoop h.next ds e (rec (.call f (first ++ [.yield h.next] ++ caps) (h.add (.loop (freshLoop e ps assign body r₀.defers)))))
      | _ => none
  | _ => none

def stepCode (C : Ctx) (rec : Job → Option Out) (ro : Option Nat) (ds : List Nat) (e : Env) (h : Heap) : Code → Option Out
  | .skip | .label _ => some (.code .normal ds e h)
  | .region _ ops draw =>
    bif draw then
      match plan C ops.toList with
      | some l => rec (.draw ops.toList l ds e h h [h] [])
      | none => none
    else rec (.ops ops.toList ops.toList ds e h)
  | .seq a b =>
    match rec (.code ro a ds e h) with
    | some (.code .normal ds' e' h') => rec (.code ro b ds' e' h')
    | some (.code x ds' e' h') => some (.code x ds' e' h')
    | _ => none
  | .cond c a b =>
    match opd e c with
    | some (.bool true) => rec (.code ro a ds e h)
    | some (.bool false) => rec (.code ro b ds e h)
    | _ => none
  | .block id c =>
    match rec (.code ro c ds e h) with
    | some (.code (.exit id') ds' e' h') => some (.code (bif id'.beq id then .normal else .exit id') ds' e' h')
    | some (.code x ds' e' h') => some (.code x ds' e' h')
    | _ => none
  | .loop c =>
    match rec (.code ro c ds e h) with
    | some (.code .normal ds' e' h') => rec (.code ro (.loop c) ds' e' h')
    | some (.code x ds' e' h') => some (.code x ds' e' h')
    | _ => none
  | .scope c => rec (.code ro c ds e h)
  | .exit id => some (.code (.exit id) ds e h)
  | .ret => some (.code .ret ds e h)
  | .rangeFunc f ps assign body => stepRange C rec ro ps.toList assign body ds e h (opd e f)
  | .refuse s =>
    match C.cname s with
    | some c => rec (.code ro c ds e h)
    | none =>
      match ro, C.csum s with
      | none, some g =>
        match g rec ds e h with
        | some (e', h') => some (.code .normal ds e' h')
        | none => none
      | _, _ => none
  | .goto _ => none

/-- Behind a function's body. -/
def leave (C : Ctx) (fn : Func) : Option Out → Option Out
  | some (.code x ds e h) =>
    match x with
    | .exit _ => none
    | _ =>
      match shut ds h with
      | some h' =>
        match resultsAV C e h' fn.results.toList with
        | some vs => some (.val (tupled vs) h')
        | none => none
      | none => none
  | _ => none
def bodyRun (C : Ctx) (rec : Job → Option Out) (f : FuncId) (args : List AV) (h : Heap) : Option Out :=
  match C.fn f with
  | some fn =>
    match fn.body with
    | some c => leave C fn (rec (.code none c [] { n := args.length + (fn.ntmps - args.length), t := setArgs args 0 .leaf } h))
    | none => none
  | none => none
def stepCall (C : Ctx) (rec : Job → Option Out) (f : FuncId) (args : List AV) (h : Heap) : Option Out :=
  match C.sums f with
  | some s =>
    match s rec args h with
    | some (v, h') => some (.val v h')
    | none => bodyRun C rec f args h
  | none => bodyRun C rec f args h

def endRound (l : Nat) : Option Out → Option Out
  | some (.code x _ _ h) =>
    match h.get l with
    | some (.loop r) =>
      match x with
      | .normal => some (.val (.bool true) (h.set l (.loop { r with state := .ready, pending := none })))
      | .ret => some (.val (.bool false) (h.set l (.loop { r with state := .done, pending := some .ret })))
      | .exit id => some (.val (.bool false) (h.set l (.loop { r with state := .done, pending := some (.exit id) })))
    | _ => none
  | _ => none
def stepRound (rec : Job → Option Out) (l : Nat) (args : List AV) (h : Heap) : Option Out :=
  match h.get l with
  | some (.loop r) =>
    match setParams { n := r.n, t := r.tmps } r.params args with
    | some e =>
      match rec (.code (some l) r.assign [] e h) with
      | some (.code .normal [] e' h') =>
        match h'.get l with
        | some (.loop r') =>
          bif isReady r'.state then endRound l (rec (.code (some l) r.body [] e' (h'.set l (.loop { r' with state := .busy })))) else none
        | _ => none
      | _ => none
    | none => none
  | _ => none

def step (C : Ctx) (rec : Job → Option Out) : Job → Option Out
  | .code ro c ds e h => stepCode C rec ro ds e h c
  | .ops all l ds e h => stepOps C rec all ds e h l
  | .draw all l ds e s g sts rds => stepDraw C rec all ds e s g sts rds l
  | .call f args h => stepCall C rec f args h
  | .round l args h => stepRound rec l args h

def run (C : Ctx) : Nat → Job → Option Out
  | 0, _ => none
  | n + 1, j => step C (run C n) j

end
end Go.Ev
