/-
  DEFINITIONS for the plain product of bytes (nothing is proved here). Conditions: none beside the hypotheses of each theorem.
-/
import Derived.Test.YtaeklgfdknbncaaAesQ
namespace Go.Aes
noncomputable section
open Go.Sx

/-! ## The plain product, with unknown bits: X, Y bytes; bits; products of bits; sums of products; their parities -/
def mX : E := .app 0 []
def mY : E := .app 1 []
def bitA (i : Nat) : E := .app (10 + i) []
def bitB (k : Nat) : E := .app (20 + k) []
def proE (i k : Nat) : E := .app (400 + 8 * i + k) []
def sumE (m c : Nat) : E := .app (100 + 10 * m + c) []
def parE (m : Nat) : E := .app (300 + m) []
def oddE (m : Nat) : E := .app (320 + m) []
/-- of how many products the sum m is -/
def cntM (m : Nat) : Nat := if m ≤ 7 then m + 1 else 15 - m

def mulRange (f : Nat) : Option (Int × Int) :=
  if f < 2 then some (0, 255) else if f < 28 then some (0, 1) else if f < 300 then some (0, 8) else if f < 470 then some (0, 1) else none

def appNo : E → Option Nat
  | .app f [] => some f
  | _ => none

/-- products: which two bits -/
def proOf (e : E) : Option (Nat × Nat) :=
  match appNo e with
  | some f => if 400 ≤ f ∧ f < 464 then some ((f - 400) / 8, (f - 400) % 8) else none
  | none => none
/-- a sum of the first c products of m -/
def partOf (e : E) : Option (Nat × Nat) :=
  match appNo e with
  | some f =>
    if 400 ≤ f ∧ f < 464 then
      let i := (f - 400) / 8
      let k := (f - 400) % 8
      if i = i + k - 7 then some (i + k, 1) else none
    else if 100 ≤ f ∧ f < 250 ∧ 2 ≤ (f - 100) % 10 ∧ (f - 100) % 10 ≤ 8 then some ((f - 100) / 10, (f - 100) % 10) else none
  | none => none
/-- a whole sum, and what was counted up -/
def countOf : E → Option (Nat × Nat)
  | .op (.add .i64) u (.lit 1) => match countOf u with
    | some (m, c) => if c < 20 then some (m, c + 1) else none
    | none => none
  | e => match partOf e with
    | some (m, c) => if c = cntM m ∧ m < 15 then some (m, 0) else none
    | none => none

def bitOf (e : E) : Option E :=
  match e with
  | .app f [] => if f = 0 then some (bitA 0) else if f = 1 then some (bitB 0) else none
  | .op (.shr .u8) (.app f []) (.lit n) => if 1 ≤ n ∧ n ≤ 7 then (if f = 0 then some (bitA n.toNat) else if f = 1 then some (bitB n.toNat) else none) else none
  | _ => none

def mulRw (e : E) : Option E :=
  match e with
  | .op .rem a (.lit 2) =>
    match bitOf a with
    | some b => some b
    | none => match countOf a with
      | some (m, c) => some (if c % 2 = 0 then parE m else oddE m)
      | none => none
  | .op (.mul .i64) a b =>
    match appNo a, appNo b with
    | some f, some g => if 10 ≤ f ∧ f < 18 ∧ 20 ≤ g ∧ g < 28 then some (proE (f - 10) (g - 20)) else none
    | _, _ => none
  | .op (.add .i64) u v =>
    match partOf u, proOf v with
    | some (m, c), some (i, k) => if i + k = m ∧ i = m - 7 + c ∧ c < 8 then some (sumE m (c + 1)) else none
    | _, _ => none
  | _ => none
end
end Go.Aes
