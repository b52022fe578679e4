/-
  DEFINITIONS of the cells of a cipher and of the summaries of the functions on them (nothing is proved here). Conditions: none beside the hypotheses of each theorem.
-/
import Derived.Test.YtaeklgfdknbncaaAesQ
namespace Go.Aes
noncomputable section
open Go.Sx

/-! ## The cells of a cipher, and what it makes of blocks -/
def wordsE (s : E) : List SVal := (List.range 4).map fun c => u32 (mkWord (byteE (4 * c) s) (byteE (4 * c + 1) s) (byteE (4 * c + 2) s) (byteE (4 * c + 3) s))
def backKey (r : Nat) (k : E) : E := if r = 0 then keyE 10 k else if r = 10 then keyE 0 k else unmixE (keyE (10 - r) k)
def forwardV (k : E) : List SVal := ((List.range 11).map fun r => wordsE (keyE r k)).flatten
def backV (k : E) : List SVal := ((List.range 11).map fun r => wordsE (backKey r k)).flatten
def tablesV : List SVal := wordsV (tableF ++ tableB)
def cipherV (k : E) (kb : List SVal) : List SVal := .bool (.lit true) :: (forwardV k ++ (backV k ++ (kb ++ tablesV)))

def fastRound (k s : E) (r : Nat) : E := addE (mixE (shiftE (subE s))) (keyE r k)
def fastRounds (k s : E) : Nat → E
  | 0 => addE s k
  | r + 1 => fastRound k (fastRounds k s r) (r + 1)
def encryptE (k s : E) : E := addE (shiftE (subE (fastRounds k s 9))) (keyE 10 k)

def slowRound (k s : E) (r : Nat) : E := addE (unmixE (unsubE (unshiftE s))) (backKey r k)
def slowRounds (k s : E) : Nat → E
  | 0 => addE s (keyE 10 k)
  | r + 1 => slowRound k (slowRounds k s r) (r + 1)
def decryptE (k s : E) : E := addE (unsubE (unshiftE (slowRounds k s 9))) k

/-- the cells that hold the key's bytes -/
def keyCells (cs : List SVal) : List SVal := (cs.drop 89).take 16
/-- the key of which these are a cipher's cells -/
def cellsKey (cs : List SVal) : Option E :=
  match cs with
  | _ :: .int _ w :: _ =>
    match w with
    | .app _ (.app _ [k] :: _) => some k
    | _ => packV id (.agg (keyCells cs))
  | _ => none

def newSum (hp : Hp) (args : List SVal) : Option (SVal × List SObj) :=
  match args with
  | [b] => match packV id b with
    | some k => if isState k = true then some (.ptr (some (hp.length, 0)), [.cells (cipherV k (unpackE k)) true true]) else none
    | none => none
  | _ => none

def isFn (n : Nat) : SVal → Bool
  | .func f [] [] => Nat.beq f n
  | _ => false
/-- which block is meant, with which key, and whose key's bytes are there -/
def cipherAt (hp : Hp) (i : Nat) : Option (E × E) :=
  match nth hp i with
  | some (.cells cs _ _) => match cellsKey cs, packV id (.agg (keyCells cs)) with
    | some k, some c => if isState k = true ∧ SVal.sames cs (cipherV k (keyCells cs)) = true then some (k, c) else none
    | _, _ => none
  | _ => none
def runSum (hp : Hp) (args : List SVal) : Option (SVal × List SObj) :=
  match args with
  | [b, .ptr (some (i, o)), .ptr (some (j, p)), .int .i64 (.lit step), l] =>
    match cipherAt hp i, packV id b with
    | some (k, _), some s =>
      if o = 1 ∧ p = 105 ∧ step = 1 ∧ isFn 19 l = true ∧ Nat.beq i j = true then some (.agg (unpackE (encryptE k s)), [])
      else if o = 45 ∧ p = 361 ∧ step = 3 ∧ isFn 18 l = true ∧ Nat.beq i j = true then some (.agg (unpackE (decryptE k s)), [])
      else none
    | _, _ => none
  | _ => none
end
end Go.Aes
