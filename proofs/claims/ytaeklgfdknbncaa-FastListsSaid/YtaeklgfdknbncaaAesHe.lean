/-
  Evaluations of making a cipher and running it. Conditions: none beside the hypotheses of each theorem.
-/
import Derived.Test.YtaeklgfdknbncaaAesP4
import Derived.Test.YtaeklgfdknbncaaAesF
import Derived.Test.YtaeklgfdknbncaaAesHd
namespace Go.Proofs.Ytaeklgfdknbncaa
noncomputable section
open Go.ChangeShapes Go.WideShapes Go.ChangeAt Go.RowKit Go.Sx Go.Aes

/-! ### Evaluations -/
def madeGives (r : Option (SVal × Hp × Cls)) (cs : List SVal) : Bool :=
  match r with
  | some (.ptr (some (1, 0)), hp, _) => match nth hp 1 with
    | some (.cells cs' true true) => SVal.sames cs' cs
    | _ => false
  | _ => false
def sums5 : List (Nat × Sum) := (67, constSum tables) :: (46, keysSum) :: (45, stateSum unmixE) :: sums1
theorem goods5 : Goods sums5 := .cons Fill_good (.cons Keys_good (.cons Unmix_good goods1))
theorem new_eval : madeGives (callV (env sums5 []) (runV (env sums5 []) 300) 0 [] 48 [.agg (unpackE k0)]) (cipherV k0 (unpackE k0)) = true := by kernel_rfl

def k2 : E := .app 252 []
def hp0 : Hp := [.cells (cipherV k0 (unpackE k2)) false false]
def runArgs (o p : Nat) (step : Int) (g : Nat) : List SVal := [.agg (unpackE v0), .ptr (some (0, o)), .ptr (some (0, p)), .int .i64 (.lit step), .func g [] []]
theorem enc_eval : gives (callV (env sums1 []) (runV (env sums1 []) 300) 1 hp0 70 (runArgs 1 105 1 19)) (.agg (unpackE (encryptE k0 v0))) = true := by kernel_rfl
theorem dec_eval : gives (callV (env sums1 []) (runV (env sums1 []) 300) 1 hp0 70 (runArgs 45 361 3 18)) (.agg (unpackE (decryptE k0 v0))) = true := by kernel_rfl

end
end Go.Proofs.Ytaeklgfdknbncaa
