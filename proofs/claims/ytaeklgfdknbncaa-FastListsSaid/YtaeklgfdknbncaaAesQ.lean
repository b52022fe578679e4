/-
  DEFINITIONS of the shapes of values and of summaries (nothing is proved here). Conditions: none beside the hypotheses of each theorem.
-/
import Derived.Test.YtaeklgfdknbncaaAesW
namespace Go.Aes
noncomputable section
open Go.Sx

/-! ## Shapes of values -/
def u8 (e : E) : SVal := .int .u8 e
def u32 (e : E) : SVal := .int .u32 e

def bytesOf : List SVal → Option (List E)
  | [] => some []
  | .int .u8 e :: l => (bytesOf l).map (e :: ·)
  | _ => none

def unpackE (s : E) : List SVal := (List.range 16).map fun i => u8 (byteE i s)

/-- where a block's byte stands in a grid, and back -/
def tr (p : Nat) : Nat := p % 4 * 4 + p / 4

def gridE (s : E) : List SVal := (List.range 16).map fun p => u8 (byteE (tr p) s)

def litByte (e : E) : Bool :=
  match e with
  | .lit n => decide (0 ≤ n) && decide (n ≤ 255)
  | _ => false

/-- the state of which these are the bytes, in the order that 'at' tells -/
def packE (at' : Nat → Nat) (es : List E) : Option E :=
  match es with
  | [] => none
  | e :: _ =>
    match e with
    | .app _ [s] => if isState s = true ∧ E.sames es ((List.range 16).map fun i => byteE (at' i) s) = true then some s else none
    | _ => if es.length = 16 ∧ es.all litByte = true then some (.lit (mk16 fun i => num { int := fun _ => 0, bool := fun _ => false, app := fun _ _ => 0 } (es.getD (at' i) (.lit 0)) : Nat)) else none

def packV (at' : Nat → Nat) (s : SVal) : Option E :=
  match s with
  | .agg cs => (bytesOf cs).bind (packE at')
  | _ => none

/-! ## Summaries -/
def one8 (F : E → E) : List SVal → Option SVal
  | [.int .u8 e] => if isByte e = true then some (u8 (F e)) else none
  | _ => none

def mulSum : List SVal → Option SVal
  | [.int .u8 (.lit c), .int .u8 e] => if litByte (.lit c) = true ∧ isByte e = true then some (u8 (gmE c.toNat e)) else none
  | _ => none

/-- the plain product, by 2 and 3 -/
def isTwo (e : E) : Bool :=
  match e with
  | .lit c => decide (c = 2) || decide (c = 3)
  | _ => false
def litNatE (e : E) : Nat :=
  match e with
  | .lit c => c.toNat
  | _ => 0
def refMulSum : List SVal → Option SVal
  | [.int .u8 a, .int .u8 b] =>
    if isTwo b = true ∧ isByte a = true then some (u8 (gmE (litNatE b) a))
    else if isTwo a = true ∧ isByte b = true then some (u8 (gmE (litNatE a) b)) else none
  | _ => none

def tableV (l : List Nat) : SVal := .agg (l.map fun n : Nat => u8 (.lit (n : Int)))
def wordsV (l : List Nat) : List SVal := l.map fun n : Nat => u32 (.lit (n : Int))

def constSum (v : SVal) : List SVal → Option SVal
  | [] => some v
  | _ => none

def refBackSum : List SVal → Option SVal
  | [t, .int .u8 e] => if t.same (tableV sboxL) = true ∧ isByte e = true then some (u8 (bkE e)) else none
  | _ => none

def stateSum (F : E → E) : List SVal → Option SVal
  | [b] => (packV id b).map fun s => .agg (unpackE (F s))
  | _ => none
def addSum : List SVal → Option SVal
  | [b, k] => match packV id b, packV id k with
    | some s, some k => some (.agg (unpackE (addE s k)))
    | _, _ => none
  | _ => none
def gridSum (F : E → E) : List SVal → Option SVal
  | [g] => (packV tr g).map fun s => .agg (gridE (F s))
  | _ => none
def gridSubSum : List SVal → Option SVal
  | [g, t] => if t.same (tableV sboxL) = true then (packV tr g).map fun s => .agg (gridE (subE s)) else none
  | _ => none
def gridAddSum : List SVal → Option SVal
  | [g, k] => match packV tr g, packV id k with
    | some s, some k => some (.agg (gridE (addE s k)))
    | _, _ => none
  | _ => none
def keysE (k : E) : List SVal := ((List.range 11).map fun r => unpackE (keyE r k)).flatten
def keysSum : List SVal → Option SVal
  | [b] => (packV id b).bind fun k => if isState k = true then some (.agg (keysE k)) else none
  | _ => none
end
end Go.Aes
