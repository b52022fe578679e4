/-
  DEFINITIONS of a symbolic evaluator of the model's code (nothing is proved here). Conditions: none beside the hypotheses of each theorem.
-/
import GoSem.Dispatch
import GoSem.Step
namespace Go.Sx
noncomputable section

/-! ## Symbolic integers -/
inductive IOp where
  | add (k : IntKind) | sub (k : IntKind) | mul (k : IntKind)
  | and (k : IntKind) | or (k : IntKind) | xor (k : IntKind) | andNot (k : IntKind)
  | shl (k : IntKind) | shr (k : IntKind) | quo (k : IntKind) | rem | conv (k : IntKind) | imax | imin

def IntKind.same : IntKind → IntKind → Bool
  | .i8, .i8 | .i16, .i16 | .i32, .i32 | .i64, .i64 | .u8, .u8 | .u16, .u16 | .u32, .u32 | .u64, .u64 => true
  | _, _ => false

def IOp.same : IOp → IOp → Bool
  | .add a, .add b | .sub a, .sub b | .mul a, .mul b | .and a, .and b | .or a, .or b | .xor a, .xor b | .andNot a, .andNot b
  | .shl a, .shl b | .shr a, .shr b | .quo a, .quo b | .conv a, .conv b => IntKind.same a b
  | .rem, .rem | .imax, .imax | .imin, .imin => true
  | _, _ => false

def IOp.fn : IOp → Int → Int → Int
  | .add k, x, y => k.wrap (x + y)
  | .sub k, x, y => k.wrap (x - y)
  | .mul k, x, y => k.wrap (x * y)
  | .and k, x, y => k.wrap (BitVec.ofInt k.bits x &&& BitVec.ofInt k.bits y).toNat
  | .or k, x, y => k.wrap (BitVec.ofInt k.bits x ||| BitVec.ofInt k.bits y).toNat
  | .xor k, x, y => k.wrap (BitVec.ofInt k.bits x ^^^ BitVec.ofInt k.bits y).toNat
  | .andNot k, x, y => k.wrap (BitVec.ofInt k.bits x &&& ~~~BitVec.ofInt k.bits y).toNat
  | .shl k, x, y => k.wrap (x * 2 ^ (min y.toNat k.bits))
  | .shr k, x, y => x.fdiv (2 ^ (min y.toNat k.bits))
  | .quo k, x, y => k.wrap (x.tdiv y)
  | .rem, x, y => x.tmod y
  | .conv k, x, _ => k.wrap x
  | .imax, x, y => if y > x then y else x
  | .imin, x, y => if y < x then y else x

inductive E where
  | lit (n : Int)
  | var (i : Nat)
  | op (o : IOp) (a b : E)
  | sel (l : List E) (e : E)
  | app (f : Nat) (args : List E)

mutual
def E.same : E → E → Bool
  | .lit a, .lit b => decide (a = b)
  | .var i, .var j => Nat.beq i j
  | .op o a b, .op p c d => o.same p && a.same c && b.same d
  | .sel l a, .sel m b => a.same b && E.sames l m
  | .app f l, .app g m => Nat.beq f g && E.sames l m
  | _, _ => false
def E.sames : List E → List E → Bool
  | [], [] => true
  | a :: l, b :: m => a.same b && E.sames l m
  | _, _ => false
end

inductive CO where
  | eq | ne | lt | le | gt | ge

def CO.same : CO → CO → Bool
  | .eq, .eq | .ne, .ne | .lt, .lt | .le, .le | .gt, .gt | .ge, .ge => true
  | _, _ => false

def CO.fn : CO → Int → Int → Bool
  | .eq, x, y => x == y
  | .ne, x, y => x != y
  | .lt, x, y => decide (x < y)
  | .le, x, y => decide (x ≤ y)
  | .gt, x, y => decide (x > y)
  | .ge, x, y => decide (x ≥ y)

inductive C where
  | lit (b : Bool)
  | var (i : Nat)
  | cmp (o : CO) (a b : E)
  | not (c : C)
  | and (c d : C)
  | iff (c d : C)

def C.same : C → C → Bool
  | .lit a, .lit b => a == b
  | .var i, .var j => Nat.beq i j
  | .cmp o a b, .cmp p c d => o.same p && a.same c && b.same d
  | .not a, .not b => a.same b
  | .and a b, .and c d => a.same c && b.same d
  | .iff a b, .iff c d => a.same c && b.same d
  | _, _ => false

/-- What the integers and bools stand for. -/
structure Val where
  int : Nat → Int
  bool : Nat → Bool
  app : Nat → List Int → Int

mutual
def E.den (ρ : Val) : E → Int
  | .lit n => n
  | .var i => ρ.int i
  | .op o a b => o.fn (a.den ρ) (b.den ρ)
  | .sel l e => (E.dens ρ l).getD (e.den ρ).toNat 0
  | .app f args => ρ.app f (E.dens ρ args)
def E.dens (ρ : Val) : List E → List Int
  | [] => []
  | e :: l => e.den ρ :: E.dens ρ l
end

def C.den (ρ : Val) : C → Bool
  | .lit b => b
  | .var i => ρ.bool i
  | .cmp o a b => o.fn (a.den ρ) (b.den ρ)
  | .not c => !c.den ρ
  | .and c d => c.den ρ && d.den ρ
  | .iff c d => c.den ρ == d.den ρ

/-! ## Ranges -/
structure Ctx where
  P : Program
  rvar : Nat → Option (Int × Int)
  rapp : Nat → Option (Int × Int)
  facts : List (C × Bool)
  /-- another term for a term that is not a literal -/
  rw : E → Option E

def kr (k : IntKind) : Int × Int := (k.min, k.max)

def inside (r : Int × Int) (lo hi : Int) : Option (Int × Int) := if r.1 ≤ lo ∧ hi ≤ r.2 then some (lo, hi) else some r

def rngOp (o : IOp) (a b : Option (Int × Int)) : Option (Int × Int) :=
  match o with
  | .add k => match a, b with
    | some a, some b => inside (kr k) (a.1 + b.1) (a.2 + b.2)
    | _, _ => some (kr k)
  | .sub k => match a, b with
    | some a, some b => inside (kr k) (a.1 - b.2) (a.2 - b.1)
    | _, _ => some (kr k)
  | .mul k => match a, b with
    | some a, some b => if 0 ≤ a.1 ∧ 0 ≤ b.1 then inside (kr k) (a.1 * b.1) (a.2 * b.2) else some (kr k)
    | _, _ => some (kr k)
  | .and k => match a, b with
    | _, some b => if 0 ≤ b.1 ∧ b.2 ≤ k.max then some (0, b.2) else some (kr k)
    | some a, _ => if 0 ≤ a.1 ∧ a.2 ≤ k.max then some (0, a.2) else some (kr k)
    | _, _ => some (kr k)
  | .or k | .xor k | .andNot k | .shl k | .quo k => some (kr k)
  | .shr k => match a, b with
    | some a, some b => if 0 ≤ a.1 ∧ b.1 = b.2 ∧ 0 ≤ b.1 ∧ b.1 ≤ k.bits then some (0, a.2 / 2 ^ b.1.toNat) else none
    | _, _ => none
  | .rem => match a, b with
    | some a, some b => if b.1 = b.2 ∧ 0 < b.1 then (if 0 ≤ a.1 then some (0, b.1 - 1) else some (1 - b.1, b.1 - 1)) else none
    | _, _ => none
  | .conv k => match a with
    | some a => inside (kr k) a.1 a.2
    | none => some (kr k)
  | .imax => match a, b with
    | some a, some b => some (max a.1 b.1, max a.2 b.2)
    | _, _ => none
  | .imin => match a, b with
    | some a, some b => some (min a.1 b.1, min a.2 b.2)
    | _, _ => none

def rng (Γ : Ctx) : Nat → E → Option (Int × Int)
  | _, .lit n => some (n, n)
  | _, .var i => Γ.rvar i
  | 0, _ => none
  | d + 1, .op o a b => rngOp o (rng Γ d a) (rng Γ d b)
  | _, .sel _ _ => none
  | _, .app f _ => Γ.rapp f

def deep : Nat := 24

def within (Γ : Ctx) (k : IntKind) (e : E) : Bool :=
  match rng Γ deep e with
  | some r => decide (k.min ≤ r.1) && decide (r.2 ≤ k.max)
  | none => false

def E.lit? : E → Option Int
  | .lit n => some n
  | _ => none

def swap (Γ : Ctx) (e : E) : E :=
  match Γ.rw e with
  | some e' => e'
  | none => e

/-- An operation, with its literals worked out and its idle conversions left away. -/
def mk (Γ : Ctx) (o : IOp) (a b : E) : E :=
  match a.lit?, b.lit? with
  | some x, some y => .lit (o.fn x y)
  | x, y =>
    match o with
    | .conv k => if within Γ k a then a else swap Γ (.op o a (.lit 0))
    | .xor k | .or k | .add k => if y = some 0 ∧ within Γ k a = true then a else if x = some 0 ∧ within Γ k b = true then b else swap Γ (.op o a b)
    | .shr _ => if y = some 0 then a else swap Γ (.op o a b)
    | .shl k => if y = some 0 ∧ within Γ k a = true then a else swap Γ (.op o a b)
    | .mul k => if x = some 0 ∨ y = some 0 then .lit 0 else if y = some 1 ∧ within Γ k a = true then a else if x = some 1 ∧ within Γ k b = true then b else swap Γ (.op o a b)
    | _ => swap Γ (.op o a b)

def mkApp (Γ : Ctx) (f : Nat) (args : List E) : E := swap Γ (.app f args)

def C.lit? : C → Option Bool
  | .lit b => some b
  | _ => none

def lookC (c : C) : List (C × Bool) → Option Bool
  | [] => none
  | (d, b) :: l => if c.same d then some b else lookC c l

def known (Γ : Ctx) (c : C) : C :=
  match lookC c Γ.facts with
  | some b => .lit b
  | none => c

def byRange (o : CO) (a b : Int × Int) : Option Bool :=
  match o with
  | .eq => if a.2 < b.1 ∨ b.2 < a.1 then some false else none
  | .ne => if a.2 < b.1 ∨ b.2 < a.1 then some true else none
  | .lt => if a.2 < b.1 then some true else if b.2 ≤ a.1 then some false else none
  | .le => if a.2 ≤ b.1 then some true else if b.2 < a.1 then some false else none
  | .gt => if b.2 < a.1 then some true else if a.2 ≤ b.1 then some false else none
  | .ge => if b.2 ≤ a.1 then some true else if a.2 < b.1 then some false else none

def CO.atSame : CO → Bool
  | .eq | .le | .ge => true
  | _ => false

def mkCmp (Γ : Ctx) (o : CO) (a b : E) : C :=
  match a.lit?, b.lit? with
  | some x, some y => .lit (o.fn x y)
  | _, _ =>
    if a.same b then .lit o.atSame else
    match rng Γ deep a, rng Γ deep b with
    | some r, some s => match byRange o r s with
      | some v => .lit v
      | none => known Γ (.cmp o a b)
    | _, _ => known Γ (.cmp o a b)

def mkNot (Γ : Ctx) (c : C) : C :=
  match c with
  | .lit b => .lit !b
  | c => known Γ (.not c)

def mkAnd (c d : C) : C :=
  match c, d with
  | .lit true, d => d
  | .lit false, _ => .lit false
  | c, .lit true => c
  | _, .lit false => .lit false
  | c, d => .and c d

def mkIff (Γ : Ctx) (c d : C) : C :=
  match c, d with
  | .lit true, d => d
  | c, .lit true => c
  | .lit false, d => mkNot Γ d
  | c, .lit false => mkNot Γ c
  | c, d => if c.same d then .lit true else known Γ (.iff c d)

/-! ## Lists, by their recursors (cheap for the kernel) -/
noncomputable def nth {α : Type} (l : List α) : Nat → Option α :=
  List.rec (fun _ => none) (fun a _ ih n => Nat.rec (some a) (fun m _ => ih m) n) l

def nthC {α : Type} (l : List α) (n : Nat) : Option α := l[n]?

theorem nth_eq {α : Type} (l : List α) (n : Nat) : nth l n = l[n]? := by
  induction l generalizing n with
  | nil => rfl
  | cons a l ih => cases n with
    | zero => rfl
    | succ m => exact ih m

theorem nth_c : @nth = @nthC := by
  funext α l n; exact nth_eq l n

noncomputable def upd {α : Type} (l : List α) : Nat → α → List α :=
  List.rec (fun _ _ => []) (fun a t ih n v => Nat.rec (v :: t) (fun m _ => a :: ih m v) n) l

def updC {α : Type} (l : List α) (n : Nat) (v : α) : List α := l.set n v

theorem upd_eq {α : Type} (l : List α) (n : Nat) (v : α) : upd l n v = l.set n v := by
  induction l generalizing n with
  | nil => rfl
  | cons a l ih => cases n with
    | zero => rfl
    | succ m => exact congrArg (a :: ·) (ih m)

theorem upd_c : @upd = @updC := by
  funext α l n v; exact upd_eq l n v


/-! ## Symbolic values and memory -/
/-- a slice's capacity: a number · all that is left of its block, in elements of so many cells · not known -/
inductive Cap where
  | known (m : Nat)
  | rest (size : Nat)
  | any

inductive SVal where
  | int (k : IntKind) (e : E)
  | bool (c : C)
  | str (bs : List UInt8)
  | ptr (a : Option (Nat × Nat))
  | pix (i off len : Nat) (e : E)
  | slice (a : Option (Nat × Nat)) (len : E) (cap : Cap)
  | agg (cs : List SVal)
  | tuple (vs : List SVal)
  | func (f : Nat) (first captured : List SVal)
  | nilFunc
  | nilIface
  | iface (t : Nat) (v : SVal)

def SVal.cells : SVal → List SVal
  | .agg cs => cs
  | v => [v]

mutual
def ofValue : Value → Option SVal
  | .bool b => some (.bool (.lit b))
  | .int k n => some (.int k (.lit n))
  | .string s => some (.str s.data.toList)
  | .pointer none => some (.ptr none)
  | .slice none 0 0 => some (.slice none (.lit 0) (.known 0))
  | .nilFunc => some .nilFunc
  | .nilIface => some .nilIface
  | .agg ⟨cs⟩ => (ofValues cs).map .agg
  | .tuple ⟨vs⟩ => (ofValues vs).map .tuple
  | _ => none
def ofValues : List Value → Option (List SVal)
  | [] => some []
  | v :: l => match ofValue v, ofValues l with
    | some s, some ss => some (s :: ss)
    | _, _ => none
end

inductive SObj where
  | cells (cs : List SVal) (exact rw : Bool)
  | dead (rw : Bool)

def SObj.rw : SObj → Bool
  | .cells _ _ rw => rw
  | .dead rw => rw

def SObj.live : SObj → Bool
  | .cells _ _ _ => true
  | .dead _ => false

abbrev Hp := List SObj

structure St where
  tmps : List SVal
  hp : Hp

def undefS : SVal := .tuple []

abbrev Ev := Operand → Option SVal

def evT (tmps : List SVal) : Ev
  | .tmp t => some ((nth tmps t).getD undefS)
  | .const v => ofValue v
  | .global _ => none
  | .func f => some (.func f [] [])

def evals (ev : Ev) : List Operand → Option (List SVal)
  | [] => some []
  | x :: l => match ev x, evals ev l with
    | some v, some vs => some (v :: vs)
    | _, _ => none

def put (tmps : List SVal) (dst : Option Tmp) (v : SVal) : List SVal :=
  match dst with
  | some d => upd tmps d v
  | none => tmps

def isAggD : TypeDesc → Bool
  | .struct _ | .array _ _ => true
  | _ => false

/-- cells off .. off+n of a block -/
def readN (cs : List SVal) (off n : Nat) : Option (List SVal) :=
  let r := (cs.drop off).take n
  if r.length = n then some r else none

def scalar : SVal → Bool
  | .agg _ | .tuple _ => false
  | _ => true

def writeN (cs : List SVal) (off : Nat) (vs : List SVal) : List SVal := cs.take off ++ (vs ++ cs.drop (off + vs.length))

def loadV (Γ : Ctx) (hp : Hp) (t : TypeId) (i off : Nat) : Option SVal :=
  match Γ.P.underlying t, nth hp i with
  | some d, some (.cells cs _ _) =>
    if isAggD d then
      match Γ.P.info? t with
      | some ti => (readN cs off ti.size).map .agg
      | none => none
    else nth cs off
  | _, _ => none

def storeV (Γ : Ctx) (ro : Nat) (hp : Hp) (t : TypeId) (i off : Nat) (v : SVal) : Option Hp :=
  match Γ.P.info? t, nth hp i with
  | some ti, some (.cells cs ex true) =>
    let vs := v.cells
    if vs.length = ti.size ∧ vs.all scalar = true ∧ off + vs.length ≤ cs.length ∧ ro ≤ i then
      some (upd hp i (.cells (writeN cs off vs) ex true))
    else none
  | _, _ => none

def newV (hp : Hp) (cs : List SVal) : Option Hp :=
  if cs.all scalar = true then some (hp ++ [.cells cs true true]) else none

def zeroV (Γ : Ctx) (t : TypeId) : Option SVal :=
  match Γ.P.info? t with
  | some ti => match ti.zero with
    | some z => ofValue z
    | none => none
  | none => none

def partV (Γ : Ctx) (t : TypeId) (cs : List SVal) (off : Nat) : Option SVal :=
  match Γ.P.underlying t, Γ.P.info? t with
  | some d, some ti => if isAggD d then (readN cs off ti.size).map .agg else nth cs off
  | _, _ => none

def litNat : E → Option Nat
  | .lit (.ofNat n) => some n
  | _ => none

def fillV (place : Nat → Option (Nat × Nat)) (cells : List SVal) : List (Nat × SVal) → Option (List SVal)
  | [] => some cells
  | (i, v) :: rest =>
    match place i with
    | none => none
    | some (off, size) =>
      if v.cells.length = size ∧ off + v.cells.length ≤ cells.length then fillV place (writeN cells off v.cells) rest else none

/-- parts 0, 1, 2, .. of one cell each -/
def inOrder : Nat → List (Nat × SVal) → Option (List SVal)
  | _, [] => some []
  | n, (i, v) :: l => if Nat.beq i n && scalar v then (inOrder (n + 1) l).map (v :: ·) else none

def fillArr (size : Nat) (cells : List SVal) (ps : List (Nat × SVal)) : Option (List SVal) :=
  match (if size = 1 then inOrder 0 ps else none) with
  | some vs => if vs.length = cells.length then some vs else fillV (fun i => some (i * size, size)) cells ps
  | none => fillV (fun i => some (i * size, size)) cells ps

def eqCells (Γ : Ctx) : List SVal → List SVal → Option C
  | [], [] => some (.lit true)
  | .int k a :: l, .int k' b :: m => if IntKind.same k k' then (eqCells Γ l m).map (mkAnd (mkCmp Γ .eq a b)) else none
  | _, _ => none

/-- an array of plain integers: its length -/
def plainArr (Γ : Ctx) (t : TypeId) : Option Nat :=
  match Γ.P.underlying t with
  | some (.array n e) => match Γ.P.underlying e, Γ.P.info? e with
    | some (.int _), some ti => if ti.size = 1 ∧ Γ.P.eqGuardType Γ.P.depth t = false then some n else none
    | _, _ => none
  | _ => none

def shiftOk (Γ : Ctx) (b : E) : Bool :=
  match rng Γ deep b with
  | some r => decide (0 ≤ r.1)
  | none => false

def intV (Γ : Ctx) (op : BinOp) (k : IntKind) (a b : E) : Option SVal :=
  match op with
  | .add => some (.int k (mk Γ (.add k) a b))
  | .sub => some (.int k (mk Γ (.sub k) a b))
  | .mul => some (.int k (mk Γ (.mul k) a b))
  | .and => some (.int k (mk Γ (.and k) a b))
  | .or => some (.int k (mk Γ (.or k) a b))
  | .xor => some (.int k (mk Γ (.xor k) a b))
  | .andNot => some (.int k (mk Γ (.andNot k) a b))
  | .quo => match b with
    | .lit n => if n = 0 then none else some (.int k (mk Γ (.quo k) a b))
    | _ => none
  | .rem => match b with
    | .lit n => if n = 0 then none else some (.int k (mk Γ .rem a b))
    | _ => none
  | .eql => some (.bool (mkCmp Γ .eq a b))
  | .neq => some (.bool (mkCmp Γ .ne a b))
  | .lss => some (.bool (mkCmp Γ .lt a b))
  | .leq => some (.bool (mkCmp Γ .le a b))
  | .gtr => some (.bool (mkCmp Γ .gt a b))
  | .geq => some (.bool (mkCmp Γ .ge a b))
  | _ => none

def binV (Γ : Ctx) (op : BinOp) (t : TypeId) (x y : SVal) : Option SVal :=
  match x, y with
  | .int k a, .int k' b =>
    match op with
    | .shl => if shiftOk Γ b then some (.int k (mk Γ (.shl k) a b)) else none
    | .shr => if shiftOk Γ b then some (.int k (mk Γ (.shr k) a b)) else none
    | op => if IntKind.same k k' then intV Γ op k a b else none
  | .bool a, .bool b =>
    match op, Γ.P.underlying t with
    | .eql, some .bool => some (.bool (mkIff Γ a b))
    | .neq, some .bool => some (.bool (mkNot Γ (mkIff Γ a b)))
    | _, _ => none
  | .agg xs, .agg ys =>
    match plainArr Γ t with
    | some n =>
      if xs.length = n ∧ ys.length = n then
        match op with
        | .eql => (eqCells Γ xs ys).map .bool
        | .neq => (eqCells Γ xs ys).map fun c => .bool (mkNot Γ c)
        | _ => none
      else none
    | none => none
  | .ptr a, .ptr none =>
    match op, Γ.P.underlying t with
    | .eql, some (.pointer _) => some (.bool (.lit a.isNone))
    | .neq, some (.pointer _) => some (.bool (.lit (!a.isNone)))
    | _, _ => none
  | _, _ => none

def unV (Γ : Ctx) (op : UnOp) (x : SVal) : Option SVal :=
  match op, x with
  | .not, .bool c => some (.bool (mkNot Γ c))
  | .neg, .int k a => some (.int k (mk Γ (.sub k) (.lit 0) a))
  | _, _ => none

def convV (Γ : Ctx) (src dst : TypeId) (x : SVal) : Option SVal :=
  match Γ.P.underlying src, Γ.P.underlying dst, x with
  | some (.int _), some (.int k), .int _ a => some (.int k (mk Γ (.conv k) a (.lit 0)))
  | _, _, _ => none

def optEv (ev : Ev) : Option Operand → Option (Option SVal)
  | none => some none
  | some x => (ev x).map some

def boundV (v : Option SVal) (dflt : Nat) : Option Nat :=
  match v with
  | none => some dflt
  | some (.int _ e) => litNat e
  | _ => none

def indexAddrV (Γ : Ctx) (t : TypeId) (x ix : SVal) : Option SVal :=
  match Γ.P.underlying t, x, ix with
  | some (.array len elem), .ptr (some (i, off)), .int _ e =>
    match Γ.P.info? elem with
    | some ti =>
      match litNat e with
      | some n => if n < len then some (.ptr (some (i, off + n * ti.size))) else none
      | none => match rng Γ deep e with
        | some r => if 0 ≤ r.1 ∧ r.2 < len ∧ ti.size = 1 then some (.pix i off len e) else none
        | none => none
    | none => none
  | some (.slice elem), .slice (some (i, off)) len _, .int _ e =>
    match Γ.P.info? elem, litNat e, rng Γ deep len with
    | some ti, some n, some r => if (n : Int) < r.1 then some (.ptr (some (i, off + n * ti.size))) else none
    | _, _, _ => none
  | _, _, _ => none

def intCells (k : IntKind) : List SVal → Option (List E)
  | [] => some []
  | .int k' e :: l => if IntKind.same k k' then (intCells k l).map (e :: ·) else none
  | _ => none

def selV (Γ : Ctx) (cs : List SVal) (e : E) : Option SVal :=
  match cs with
  | .int k _ :: _ => (intCells k cs).map fun es => .int k (swap Γ (.sel es e))
  | _ => none

def indexV (Γ : Ctx) (t : TypeId) (x ix : SVal) : Option SVal :=
  match Γ.P.underlying t, x, ix with
  | some (.array len elem), .agg cs, .int _ e =>
    match Γ.P.info? elem with
    | some ti =>
      match litNat e with
      | some n => if n < len then partV Γ elem cs (n * ti.size) else none
      | none =>
        match Γ.P.underlying elem, rng Γ deep e with
        | some (.int _), some r => if 0 ≤ r.1 ∧ r.2 < len ∧ ti.size = 1 ∧ cs.length = len then selV Γ cs e else none
        | _, _ => none
    | none => none
  | _, _, _ => none

def hiV (hi : Option SVal) (len : E) : Option Nat :=
  match hi with
  | none => litNat len
  | some v => boundV (some v) 0

/-- a slice of a slice -/
def resliceV (Γ : Ctx) (size i off : Nat) (len : E) (cap : Cap) (lo hi : Option SVal) : Option SVal :=
  match boundV lo 0, hiV hi len with
  | some l, some h =>
    match cap with
    | .known c =>
      if l ≤ h ∧ h ≤ c then some (.slice (some (if c = l then (i, off) else (i, off + l * size))) (.lit (h - l : Nat)) (.known (c - l))) else none
    | cap =>
      match rng Γ deep len with
      | some r =>
        if l ≤ h ∧ (h : Int) ≤ r.1 then
          if l = 0 then some (.slice (some (i, off)) (.lit (h - l : Nat)) cap)
          else if l < h then some (.slice (some (i, off + l * size)) (.lit (h - l : Nat)) .any) else none
        else none
      | none => none
  | _, _ => none

def sliceV (Γ : Ctx) (t : TypeId) (x : SVal) (lo hi mx : Option SVal) : Option SVal :=
  match Γ.P.underlying t, x with
  | some (.array n elem), .ptr (some (i, off)) =>
    match Γ.P.info? elem, boundV lo 0, boundV hi n, boundV mx n with
    | some ti, some l, some h, some m =>
      if l ≤ h ∧ h ≤ m ∧ m ≤ n ∧ (mx.isSome = true → hi.isSome = true) then
        some (.slice (some (if m = l then (i, off) else (i, off + l * ti.size))) (.lit (h - l : Nat)) (.known (m - l)))
      else none
    | _, _, _, _ => none
  | some (.slice elem), .slice (some (i, off)) len cap =>
    match Γ.P.info? elem, mx with
    | some ti, none => resliceV Γ ti.size i off len cap lo hi
    | _, _ => none
  | _, _ => none

/-- where a struct's fields lie: offset and size -/
def places (Γ : Ctx) : List Field → Option (List (Nat × Nat))
  | [] => some []
  | f :: l => match Γ.P.info? f.type, places Γ l with
    | some ti, some r => some ((f.offset, ti.size) :: r)
    | _, _ => none

def buildV (Γ : Ctx) (t : TypeId) (ps : List (Nat × SVal)) : Option SVal :=
  match Γ.P.underlying t, zeroV Γ t with
  | some (.struct fields), some z =>
    match places Γ fields.toList with
    | some pl => (fillV (nth pl) z.cells ps).map .agg
    | none => none
  | some (.array _ elem), some z =>
    match Γ.P.info? elem with
    | some ti => (fillArr ti.size z.cells ps).map .agg
    | none => none
  | _, _ => none

def builtinV (Γ : Ctx) (b : Builtin) (argTypes : Array TypeId) (vs : List SVal) : Option SVal :=
  match b, vs with
  | .len, [.slice _ len _] =>
    match (argTypes[0]?).bind Γ.P.underlying with
    | some (.slice _) => some (.int .i64 len)
    | _ => none
  | .max, [.int k a, .int _ b] => some (.int k (mk Γ .imax a b))
  | .min, [.int k a, .int _ b] => some (.int k (mk Γ .imin a b))
  | _, _ => none

/-- The operations that neither read nor write memory. -/
def pureV (Γ : Ctx) (ev : Ev) (op : Op) : Option SVal :=
  match op with
  | .move x | .assign x => ev x
  | .pick c a b =>
    match ev c with
    | some (.bool (.lit true)) => ev a
    | some (.bool (.lit false)) => ev b
    | some (.bool c) => match ev a, ev b with
      | some (.bool a), some (.bool (.lit false)) => some (.bool (mkAnd c a))
      | _, _ => none
    | _ => none
  | .build t parts =>
    match evals ev (parts.toList.map (·.2)) with
    | some vs => buildV Γ t ((parts.toList.map (·.1)).zip vs)
    | none => none
  | .nilCheck x =>
    match ev x with
    | some (.ptr (some a)) => some (.ptr (some a))
    | some (.pix i off len e) => some (.pix i off len e)
    | some (.func f a b) => some (.func f a b)
    | _ => none
  | .binOp op t x y _ =>
    match ev x, ev y with
    | some a, some b => binV Γ op t a b
    | _, _ => none
  | .unOp op _ x => (ev x).bind (unV Γ op)
  | .convert s d x => (ev x).bind (convV Γ s d)
  | .sliceToArrayPointer arr x =>
    match Γ.P.underlying arr, ev x with
    | some (.array n _), some (.slice (some a) len _) =>
      match rng Γ deep len with
      | some r => if (n : Int) ≤ r.1 then some (.ptr (some a)) else none
      | none => none
    | _, _ => none
  | .makeFunc (.func f) first captured =>
    match evals ev first.toList, evals ev captured.toList with
    | some a, some b => some (.func f a b)
    | _, _ => none
  | .fieldAddr s x fl =>
    match Γ.P.underlying s, ev x with
    | some (.struct fields), some (.ptr (some (i, off))) =>
      match fields[fl]? with
      | some f => match Γ.P.info? f.type with
        | some ti => if ti.size = 0 then none else some (.ptr (some (i, off + f.offset)))
        | none => none
      | none => none
    | _, _ => none
  | .field t x fl =>
    match Γ.P.underlying t, ev x with
    | some (.struct fields), some (.agg cs) =>
      match fields[fl]? with
      | some f => partV Γ f.type cs f.offset
      | none => none
    | _, _ => none
  | .indexAddr t x ix =>
    match ev x, ev ix with
    | some a, some b => indexAddrV Γ t a b
    | _, _ => none
  | .index t x ix =>
    match ev x, ev ix with
    | some a, some b => indexV Γ t a b
    | _, _ => none
  | .slice t x lo hi mx =>
    match ev x, optEv ev lo, optEv ev hi, optEv ev mx with
    | some a, some lo, some hi, some mx => sliceV Γ t a lo hi mx
    | _, _, _, _ => none
  | .extract t ix =>
    match ev t with
    | some (.tuple vs) => nth vs ix
    | _ => none
  | .call { callee := .builtin b, args, argTypes } =>
    match evals ev args.toList with
    | some vs => builtinV Γ b argTypes vs
    | none => none
  | _ => none

/-- What an operation does to memory: nothing · reads it, or calls what only reads · makes a block · anything. -/
inductive Cls where
  | P | Q | A | W

/-- the cells of what is appended: so many elements -/
def srcCells (hp : Hp) (size : Nat) (x : SVal) : Option (Nat × List SVal) :=
  match x with
  | .slice none (.lit 0) _ => some (0, [])
  | .slice (some (j, o)) len _ =>
    match litNat len, nth hp j with
    | some n, some (.cells cs _ _) => (readN cs o (n * size)).map fun r => (n, r)
    | _, _ => none
  | _ => none

def notInt : Option TypeDesc → Bool
  | some (.slice _) => true
  | _ => false

def appendS (Γ : Ctx) (ro : Nat) (hp : Hp) (argTypes : Array TypeId) (base : Option (Nat × Nat)) (len : E) (cap : Cap) (x : SVal) : Option (SVal × Hp × Cls) :=
  match (argTypes[0]?).bind Γ.P.underlying, notInt ((argTypes[1]?).bind Γ.P.underlying) with
  | some (.slice elem), true =>
    match Γ.P.info? elem, litNat len, zeroV Γ elem with
    | some ti, some sLen, some z =>
      match srcCells hp ti.size x with
      | some (n, new) =>
        if 0 < ti.size ∧ 0 < ti.bytes ∧ ti.bytes ≤ 65536 ∧ sLen + n ≤ 1048576 ∧ z.cells.length = ti.size ∧ new.all scalar = true then
          match base, cap with
          | none, .known 0 =>
            if sLen = 0 ∧ 0 < n then (newV hp new).bind fun _ => some (.slice (some (hp.length, 0)) (.lit (sLen + n : Nat)) (.rest ti.size), hp ++ [.cells new false true], .A) else none
          | some (i, off), .known c =>
            match nth hp i with
            | some (.cells cs ex rw) =>
              if sLen + n ≤ c then
                if rw = true ∧ ro ≤ i ∧ off + (sLen + n) * ti.size ≤ cs.length then
                  some (.slice (some (i, off)) (.lit (sLen + n : Nat)) (.known c), upd hp i (.cells (writeN cs (off + sLen * ti.size) new) ex true), .W)
                else none
              else if c ≤ 1048576 then
                match readN cs off (sLen * ti.size) with
                | some old => some (.slice (some (hp.length, 0)) (.lit (sLen + n : Nat)) (.rest ti.size), hp ++ [.cells (old ++ new) false true], .A)
                | none => none
              else none
            | _ => none
          | some (i, 0), .rest k =>
            match nth hp i with
            | some (.cells cs _ true) =>
              if k = ti.size ∧ ro ≤ i then
                match readN cs 0 (sLen * ti.size) with
                | some old => some (.slice (some (hp.length, 0)) (.lit (sLen + n : Nat)) (.rest ti.size), upd hp i (.dead true) ++ [.cells (old ++ new) false true], .W)
                | none => none
              else none
            | _ => none
          | _, _ => none
        else none
      | none => none
    | _, _, _ => none
  | _, _ => none

def appendV (Γ : Ctx) (ro : Nat) (hp : Hp) (argTypes : Array TypeId) (s x : SVal) : Option (SVal × Hp × Cls) :=
  match s with
  | .slice base len cap => appendS Γ ro hp argTypes base len cap x
  | _ => none

def memCall (Γ : Ctx) (ro : Nat) (ev : Ev) (hp : Hp) (c : Call) : Option (SVal × Hp × Cls) :=
  match c.callee with
  | .builtin .append =>
    match evals ev c.args.toList with
    | some [s, x] => appendV Γ ro hp c.argTypes s x
    | _ => none
  | _ => none

/-- The operations on memory. `ro`: blocks below are not written. -/
def memV (Γ : Ctx) (ro : Nat) (ev : Ev) (hp : Hp) (op : Op) : Option (SVal × Hp × Cls) :=
  match op with
  | .load t a =>
    match ev a with
    | some (.ptr (some (i, off))) => (loadV Γ hp t i off).map fun v => (v, hp, .Q)
    | some (.pix i off len e) =>
      match Γ.P.underlying t, nth hp i with
      | some d, some (.cells cs _ _) =>
        if isAggD d then none else
        match readN cs off len with
        | some r => (selV Γ r e).map fun v => (v, hp, .Q)
        | none => none
      | _, _ => none
    | _ => none
  | .store t a x =>
    match ev a, ev x with
    | some (.ptr (some (i, off))), some v => (storeV Γ ro hp t i off v).map fun hp => (undefS, hp, .W)
    | _, _ => none
  | .alloc elem =>
    match zeroV Γ elem with
    | some z => (newV hp z.cells).map fun hp' => (.ptr (some (hp.length, 0)), hp', .A)
    | none => none
  | .box _ x =>
    match ev x with
    | some v => (newV hp v.cells).map fun hp' => (.ptr (some (hp.length, 0)), hp', .A)
    | none => none
  | .buildSlice t len parts =>
    match Γ.P.underlying t, evals ev (parts.toList.map (·.2)) with
    | some (.slice elem), some vs =>
      match Γ.P.info? elem, zeroV Γ elem with
      | some ti, some z =>
        if 0 < len * ti.size ∧ len * ti.size ≤ 65536 ∧ z.cells.length = ti.size then
          match fillArr ti.size ((List.replicate len z.cells).flatten) ((parts.toList.map (·.1)).zip vs) with
          | some cs => (newV hp cs).map fun hp' => (.slice (some (hp.length, 0)) (.lit len) (.known len), hp', .A)
          | none => none
        else none
      | _, _ => none
    | _, _ => none
  | .makeSlice t l c =>
    match Γ.P.underlying t, ev l, ev c with
    | some (.slice elem), some (.int _ l), some (.int _ c) =>
      match litNat l, litNat c, Γ.P.info? elem, zeroV Γ elem with
      | some l, some c, some ti, some z =>
        if l ≤ c ∧ c ≤ 65536 ∧ ti.bytes ≤ 65536 ∧ z.cells.length = ti.size ∧ 0 < ti.size then
          (newV hp ((List.replicate c z.cells).flatten)).map fun hp' => (.slice (some (hp.length, 0)) (.lit l) (.known c), hp', .A)
        else none
      | _, _, _, _ => none
    | _, _, _ => none
  | .call c => memCall Γ ro ev hp c
  | _ => none

/-! ## Calls and control -/
inductive Ex where
  | normal
  | exit (id : Nat)
  | ret

mutual
def clean (n : Nat) : SVal → Bool
  | .ptr (some a) => decide (a.1 < n)
  | .pix i _ _ _ => decide (i < n)
  | .slice (some a) _ _ => decide (a.1 < n)
  | .agg cs => cleans n cs
  | .tuple cs => cleans n cs
  | .func _ a b => cleans n a && cleans n b
  | .iface _ v => clean n v
  | _ => true
def cleans (n : Nat) : List SVal → Bool
  | [] => true
  | v :: l => clean n v && cleans n l
end

structure Env extends Ctx where
  /-- A summary of a function: its value and the blocks that it makes; old memory is only read. -/
  sums : Nat → Option (Hp → List SVal → Option (SVal × List SObj))
  /-- functions that may write what their caller holds -/
  loud : Nat → Bool

def yieldedS (ops : List Oper) (tmps : List SVal) (j : Nat) (want : Bool) : Option Bool :=
  match (nth ops j).bind (·.dst) with
  | none => some false
  | some d => match nth tmps d with
    | some (.bool (.lit b)) => some (b == want)
    | some (.bool _) => none
    | _ => some false

def wantedS (ops : List Oper) (tmps : List SVal) (o : Oper) : Option Bool :=
  match o.guard with
  | none => some true
  | some (j, want) => yieldedS ops tmps j want

def resultV (Γ : Ctx) (hp : Hp) (tmps : List SVal) : ResultVar → Option SVal
  | .tmp t => some ((nth tmps t).getD undefS)
  | .cell a t => match (nth tmps a).getD undefS with
    | .ptr (some (i, off)) => loadV Γ hp t i off
    | _ => none

def resultVs (Γ : Ctx) (hp : Hp) (tmps : List SVal) : List ResultVar → Option (List SVal)
  | [] => some []
  | r :: l => match resultV Γ hp tmps r, resultVs Γ hp tmps l with
    | some v, some vs => some (v :: vs)
    | _, _ => none

def oneOrTuple : List SVal → SVal
  | [v] => v
  | vs => .tuple vs

abbrev Run := Code → Nat → St → Option (Ex × St)

def callV (Γ : Env) (run : Run) (ro : Nat) (hp : Hp) (f : Nat) (args : List SVal) : Option (SVal × Hp × Cls) :=
  match Γ.P.funcs[f]? with
  | none => none
  | some fn =>
    match fn.body with
    | none => none
    | some code =>
      if fn.name = "runtime.NumGoroutine" then none else
      match Γ.sums f with
      | some s => match s hp args with
        | some (v, []) => some (v, hp, .Q)
        | some (v, os) => some (v, hp ++ os, .W)
        | none => none
      | none =>
        let st : St := { tmps := args ++ List.replicate (fn.ntmps - args.length) undefS, hp }
        match run code (if Γ.loud f then ro else hp.length) st with
        | some (.exit _, _) => none
        | some (_, st') =>
          match resultVs Γ.toCtx st'.hp st'.tmps fn.results.toList with
          | some vs =>
            if Γ.loud f then some (oneOrTuple vs, st'.hp, .W)
            else if clean hp.length (oneOrTuple vs) then some (oneOrTuple vs, hp, .Q) else some (oneOrTuple vs, st'.hp, .W)
          | none => none
        | none => none

def operV (Γ : Env) (run : Run) (ro : Nat) (ev : Ev) (hp : Hp) (op : Op) : Option (SVal × Hp × Cls) :=
  match pureV Γ.toCtx ev op with
  | some v => some (v, hp, .P)
  | none =>
    match op with
    | .call { callee := .value f, args, .. } =>
      match ev f, evals ev args.toList with
      | some (.func g first captured), some vs => callV Γ run ro hp g (first ++ vs ++ captured)
      | _, _ => none
    | op => memV Γ.toCtx ro ev hp op

def oneV (Γ : Env) (run : Run) (ro : Nat) (ops : List Oper) (o : Oper) (st : St) : Option (St × Cls) :=
  match wantedS ops st.tmps o with
  | some true => match operV Γ run ro (evT st.tmps) st.hp o.op with
    | some (v, hp, c) => some ({ tmps := put st.tmps o.dst v, hp }, c)
    | none => none
  | some false => some ({ st with tmps := put st.tmps o.dst undefS }, .P)
  | none => none

def opsV (Γ : Env) (run : Run) (ro : Nat) (ops : List Oper) : List Oper → St → Option St
  | [], st => some st
  | o :: l, st =>
    match oneV Γ run ro ops o st with
    | some (st', _) => opsV Γ run ro ops l st'
    | none => none

/-- the same, with the classes of the operations -/
def opsC (Γ : Env) (run : Run) (ro : Nat) (ops : List Oper) : List Oper → St → Option (St × List Cls)
  | [], st => some (st, [])
  | o :: l, st =>
    match oneV Γ run ro ops o st with
    | some (st', c) => match opsC Γ run ro ops l st' with
      | some (st'', cs) => some (st'', c :: cs)
      | none => none
    | none => none

/-! ## Regions that draw their order -/
def binding (o : Oper) : List Nat := (o.after.toList.filter fun e => Region.binds .any e).map (·.on)

def memN (n : Nat) : List Nat → Bool
  | [] => false
  | m :: l => Nat.beq n m || memN n l

def uni : List Nat → List Nat → List Nat
  | [], m => m
  | x :: l, m => bif memN x m then uni l m else x :: uni l m

def reach (acc : List (List Nat)) : List Nat → List Nat
  | [] => []
  | j :: l => uni (j :: (nth acc j).getD []) (reach acc l)

/-- all that must come before each operation, as numbers -/
def closure : List Oper → List (List Nat) → List (List Nat)
  | [], acc => acc
  | o :: l, acc => closure l (acc ++ [reach acc (binding o)])

def looks (ops : List Oper) (o : Oper) : List Tmp :=
  (o.op.operands.toList.filterMap fun | .tmp t => some t | _ => none) ++
  (match o.guard with
   | some (g, _) => ((nth ops g).bind (·.dst)).toList
   | none => [])

def sameDst (a b : Option Tmp) : Bool :=
  match a, b with
  | some x, some y => Nat.beq x y
  | _, _ => false

def looksAt (ops : List Oper) (o : Oper) (d : Option Tmp) : Bool :=
  match d with
  | some t => memN t (looks ops o)
  | none => false

/-- May the pair i < j stand in either order, or is its order sure? -/
def pairOk (ops : List Oper) (oi oj : Oper) (ci cj : Cls) (sure : Bool) : Bool :=
  !(sameDst oi.dst oj.dst) &&
  (sure || (!(looksAt ops oj oi.dst) && !(looksAt ops oi oj.dst) &&
    match ci, cj with
    | .P, _ | _, .P => true
    | .Q, .Q | .Q, .A => true
    | _, _ => false))

structure Row where
  o : Oper
  c : Cls
  before : List Nat

def rowsOk (ops : List Oper) : Nat → List Row → Bool
  | _, [] => true
  | i, r :: l =>
    (l.all fun s => pairOk ops r.o s.o r.c s.c (memN i s.before)) &&
    (binding r.o).all (fun j => decide (j < i)) && rowsOk ops (i + 1) l

def mkRows : List Oper → List Cls → List (List Nat) → List Row
  | o :: l, c :: cs, b :: bs => ⟨o, c, b⟩ :: mkRows l cs bs
  | _, _, _ => []

def isQ : Cls → Bool
  | .Q => true
  | _ => false

/-- behind the first operation that is neither P nor Q every other one counts as W but for P and A -/
def settle : Bool → List Cls → List Cls
  | _, [] => []
  | seen, .P :: l => .P :: settle seen l
  | false, .Q :: l => .Q :: settle false l
  | true, .Q :: l => .W :: settle true l
  | _, c :: l => c :: settle true l

def orderOk (ops : List Oper) (cs : List Cls) : Bool :=
  rowsOk ops 0 (mkRows ops (settle false cs) (closure ops []))

def stepV (Γ : Env) (run : Run) (c : Code) (ro : Nat) (st : St) : Option (Ex × St) :=
  match c with
  | .skip => some (.normal, st)
  | .region _ ops false => (opsV Γ run ro ops.toList ops.toList st).map fun st => (.normal, st)
  | .region _ ops true =>
    match opsC Γ run ro ops.toList ops.toList st with
    | some (st', cs) => if orderOk ops.toList cs then some (.normal, st') else none
    | none => none
  | .seq a b => match run a ro st with
    | some (.normal, st') => run b ro st'
    | r => r
  | .cond c a b => match evT st.tmps c with
    | some (.bool (.lit true)) => run a ro st
    | some (.bool (.lit false)) => run b ro st
    | _ => none
  | .block id c => match run c ro st with
    | some (.exit j, st') => if j = id then some (.normal, st') else some (.exit j, st')
    | r => r
  | .loop c => match run c ro st with
    | some (.normal, st') => run (.loop c) ro st'
    | r => r
  | .exit id => some (.exit id, st)
  | .scope c => run c ro st
  | .label _ => some (.normal, st)
  | .ret => some (.ret, st)
  | _ => none

noncomputable def runV (Γ : Env) (n : Nat) : Run :=
  Nat.rec (fun _ _ _ => none) (fun _ ih => stepV Γ ih) n

end
end Go.Sx
