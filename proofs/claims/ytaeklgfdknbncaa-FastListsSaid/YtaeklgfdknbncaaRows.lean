/-
  No cell of these rows narrows 'for every input' (looked for: loops, veiled, ifaces, maps, wideKeys, modest, calm, conditions, laid).
  DERIVED. THE GIVEN ROWS OF THIS SEAT. 14 by the template 'for every input the law returns true; each argument reads behind the call as it read before'; 0 by the template 'total and deterministic' (their statements: YtaeklgfdknbncaaTotals.lean).
  GIVEN WITH THE SEED: the statements are not yours to turn. If you find one false, say at which input.
  Laid BY PROGRAM, IN A SANDBOX (cutbox-rows.mjs): the forced cells as the released guide's own fill.sh prints them over the translation a0240c5216207e68… (all of the seat's roots in one cut). By AI agents, Wed Nov 11 2026. No macro, syntax, notation, axiom, sorry.
-/
import Derived.Test.YtaeklgfdknbncaaChecked
import GoSem.Claim
import GoSem.ClaimJoined
import GoSem.ClaimMapViews
import Derived.JoinedTies
import Derived.KernelRfl
namespace Go.Proofs.Ytaeklgfdknbncaa
/- THE CELL 'sum', in the pinned program and in every row, IS THE sha256 OF THE DUMP (.gsa) THAT YtaeklgfdknbncaaProg.lean LOADS. Nothing in Lean hashes anything: it is a label: what it is worth is what the hold of that sum in a sandbox is worth. -/
noncomputable def Try.pinned : Pinned := { name := "ytaeklgfdknbncaa", sum := "a0240c5216207e68f13a4795c8a944205b3ca39812095408430f561226e15923", checked := Try.checked }
namespace Rows
def none {H : Type} : Left H := { results := [], args := [] }

/-- 'mooringlaw04.SboxBack': WHATEVER THE INPUT: true; the input reads as it did. -/
def sboxBackSpec : ChangeSpec := { name := "sboxBack", fn := fun _ => fun
  | [d1, d2] => { results := [.lit (.bool true)], args := [d1, d2] }
  | _ => none }
def sboxBackRow : OpenClaim := { program := "ytaeklgfdknbncaa", sum := "a0240c5216207e68f13a4795c8a944205b3ca39812095408430f561226e15923", func := "mooring/mooringlaw04.SboxBack", spec := "sboxBack", apart := false }
def SboxBackSaid : Prop := sboxBackRow.holds Try.pinned (OpenSpec.ofChange sboxBackSpec)

/-- ITS FALSE NEIGHBOUR: 'it returns false'. Refute it at one input. -/
def sboxBackWrong : ChangeSpec := { name := "sboxBack", fn := fun _ => fun
  | [d1, d2] => { results := [.lit (.bool false)], args := [d1, d2] }
  | _ => none }
def SboxBackWrongFalsely : Prop := sboxBackRow.holds Try.pinned (OpenSpec.ofChange sboxBackWrong)

/-- 'mooringlaw04.SboxWords': WHATEVER THE INPUT: true; the input reads as it did. -/
def sboxWordsSpec : ChangeSpec := { name := "sboxWords", fn := fun _ => fun
  | [d] => { results := [.lit (.bool true)], args := [d] }
  | _ => none }
def sboxWordsRow : OpenClaim := { program := "ytaeklgfdknbncaa", sum := "a0240c5216207e68f13a4795c8a944205b3ca39812095408430f561226e15923", func := "mooring/mooringlaw04.SboxWords", spec := "sboxWords", apart := false }
def SboxWordsSaid : Prop := sboxWordsRow.holds Try.pinned (OpenSpec.ofChange sboxWordsSpec)

/-- ITS FALSE NEIGHBOUR: 'it returns false'. Refute it at one input. -/
def sboxWordsWrong : ChangeSpec := { name := "sboxWords", fn := fun _ => fun
  | [d] => { results := [.lit (.bool false)], args := [d] }
  | _ => none }
def SboxWordsWrongFalsely : Prop := sboxWordsRow.holds Try.pinned (OpenSpec.ofChange sboxWordsWrong)

/-- 'mooringlaw04.SboxMatchesReference': WHATEVER THE INPUT: true; the input reads as it did. -/
def sboxMatchesReferenceSpec : ChangeSpec := { name := "sboxMatchesReference", fn := fun _ => fun
  | [d] => { results := [.lit (.bool true)], args := [d] }
  | _ => none }
def sboxMatchesReferenceRow : OpenClaim := { program := "ytaeklgfdknbncaa", sum := "a0240c5216207e68f13a4795c8a944205b3ca39812095408430f561226e15923", func := "mooring/mooringlaw04.SboxMatchesReference", spec := "sboxMatchesReference", apart := false }
def SboxMatchesReferenceSaid : Prop := sboxMatchesReferenceRow.holds Try.pinned (OpenSpec.ofChange sboxMatchesReferenceSpec)

/-- ITS FALSE NEIGHBOUR: 'it returns false'. Refute it at one input. -/
def sboxMatchesReferenceWrong : ChangeSpec := { name := "sboxMatchesReference", fn := fun _ => fun
  | [d] => { results := [.lit (.bool false)], args := [d] }
  | _ => none }
def SboxMatchesReferenceWrongFalsely : Prop := sboxMatchesReferenceRow.holds Try.pinned (OpenSpec.ofChange sboxMatchesReferenceWrong)

/-- 'mooringlaw04.SboxFixed': WHATEVER THE INPUT: true; the input reads as it did. -/
def sboxFixedSpec : ChangeSpec := { name := "sboxFixed", fn := fun _ => fun
  | [d1, d2] => { results := [.lit (.bool true)], args := [d1, d2] }
  | _ => none }
def sboxFixedRow : OpenClaim := { program := "ytaeklgfdknbncaa", sum := "a0240c5216207e68f13a4795c8a944205b3ca39812095408430f561226e15923", func := "mooring/mooringlaw04.SboxFixed", spec := "sboxFixed", apart := false }
def SboxFixedSaid : Prop := sboxFixedRow.holds Try.pinned (OpenSpec.ofChange sboxFixedSpec)

/-- ITS FALSE NEIGHBOUR: 'it returns false'. Refute it at one input. -/
def sboxFixedWrong : ChangeSpec := { name := "sboxFixed", fn := fun _ => fun
  | [d1, d2] => { results := [.lit (.bool false)], args := [d1, d2] }
  | _ => none }
def SboxFixedWrongFalsely : Prop := sboxFixedRow.holds Try.pinned (OpenSpec.ofChange sboxFixedWrong)

/-- 'mooringlaw06.CipherMatchesReference': WHATEVER THE INPUT: true; the input reads as it did. -/
def cipherMatchesReferenceSpec : ChangeSpec := { name := "cipherMatchesReference", fn := fun _ => fun
  | [d1, d2] => { results := [.lit (.bool true)], args := [d1, d2] }
  | _ => none }
def cipherMatchesReferenceRow : OpenClaim := { program := "ytaeklgfdknbncaa", sum := "a0240c5216207e68f13a4795c8a944205b3ca39812095408430f561226e15923", func := "mooring/mooringlaw06.CipherMatchesReference", spec := "cipherMatchesReference", unfollowed := true, recurses := true, apart := false }
def CipherMatchesReferenceSaid : Prop := cipherMatchesReferenceRow.holds Try.pinned (OpenSpec.ofChange cipherMatchesReferenceSpec)

/-- ITS FALSE NEIGHBOUR: 'it returns false'. Refute it at one input. -/
def cipherMatchesReferenceWrong : ChangeSpec := { name := "cipherMatchesReference", fn := fun _ => fun
  | [d1, d2] => { results := [.lit (.bool false)], args := [d1, d2] }
  | _ => none }
def CipherMatchesReferenceWrongFalsely : Prop := cipherMatchesReferenceRow.holds Try.pinned (OpenSpec.ofChange cipherMatchesReferenceWrong)

/-- 'mooringlaw06.CipherSteps': WHATEVER THE INPUT: true; the input reads as it did. -/
def cipherStepsSpec : ChangeSpec := { name := "cipherSteps", fn := fun _ => fun
  | [d1, d2] => { results := [.lit (.bool true)], args := [d1, d2] }
  | _ => none }
def cipherStepsRow : OpenClaim := { program := "ytaeklgfdknbncaa", sum := "a0240c5216207e68f13a4795c8a944205b3ca39812095408430f561226e15923", func := "mooring/mooringlaw06.CipherSteps", spec := "cipherSteps", unfollowed := true, recurses := true, apart := false }
def CipherStepsSaid : Prop := cipherStepsRow.holds Try.pinned (OpenSpec.ofChange cipherStepsSpec)

/-- ITS FALSE NEIGHBOUR: 'it returns false'. Refute it at one input. -/
def cipherStepsWrong : ChangeSpec := { name := "cipherSteps", fn := fun _ => fun
  | [d1, d2] => { results := [.lit (.bool false)], args := [d1, d2] }
  | _ => none }
def CipherStepsWrongFalsely : Prop := cipherStepsRow.holds Try.pinned (OpenSpec.ofChange cipherStepsWrong)

/-- 'mooringlaw06.CipherBack': WHATEVER THE INPUT: true; the input reads as it did. -/
def cipherBackSpec : ChangeSpec := { name := "cipherBack", fn := fun _ => fun
  | [d1, d2, d3] => { results := [.lit (.bool true)], args := [d1, d2, d3] }
  | _ => none }
def cipherBackRow : OpenClaim := { program := "ytaeklgfdknbncaa", sum := "a0240c5216207e68f13a4795c8a944205b3ca39812095408430f561226e15923", func := "mooring/mooringlaw06.CipherBack", spec := "cipherBack", unfollowed := true, recurses := true, apart := false }
def CipherBackSaid : Prop := cipherBackRow.holds Try.pinned (OpenSpec.ofChange cipherBackSpec)

/-- ITS FALSE NEIGHBOUR: 'it returns false'. Refute it at one input. -/
def cipherBackWrong : ChangeSpec := { name := "cipherBack", fn := fun _ => fun
  | [d1, d2, d3] => { results := [.lit (.bool false)], args := [d1, d2, d3] }
  | _ => none }
def CipherBackWrongFalsely : Prop := cipherBackRow.holds Try.pinned (OpenSpec.ofChange cipherBackWrong)

/-- 'mooringlaw06.CipherLinear': WHATEVER THE INPUT: true; the input reads as it did. -/
def cipherLinearSpec : ChangeSpec := { name := "cipherLinear", fn := fun _ => fun
  | [d1, d2] => { results := [.lit (.bool true)], args := [d1, d2] }
  | _ => none }
def cipherLinearRow : OpenClaim := { program := "ytaeklgfdknbncaa", sum := "a0240c5216207e68f13a4795c8a944205b3ca39812095408430f561226e15923", func := "mooring/mooringlaw06.CipherLinear", spec := "cipherLinear", unfollowed := true, recurses := true, apart := false }
def CipherLinearSaid : Prop := cipherLinearRow.holds Try.pinned (OpenSpec.ofChange cipherLinearSpec)

/-- ITS FALSE NEIGHBOUR: 'it returns false'. Refute it at one input. -/
def cipherLinearWrong : ChangeSpec := { name := "cipherLinear", fn := fun _ => fun
  | [d1, d2] => { results := [.lit (.bool false)], args := [d1, d2] }
  | _ => none }
def CipherLinearWrongFalsely : Prop := cipherLinearRow.holds Try.pinned (OpenSpec.ofChange cipherLinearWrong)

/-- 'mooringlaw06.CipherRounds': WHATEVER THE INPUT: true; the input reads as it did. -/
def cipherRoundsSpec : ChangeSpec := { name := "cipherRounds", fn := fun _ => fun
  | [d1, d2] => { results := [.lit (.bool true)], args := [d1, d2] }
  | _ => none }
def cipherRoundsRow : OpenClaim := { program := "ytaeklgfdknbncaa", sum := "a0240c5216207e68f13a4795c8a944205b3ca39812095408430f561226e15923", func := "mooring/mooringlaw06.CipherRounds", spec := "cipherRounds", unfollowed := true, recurses := true, apart := false }
def CipherRoundsSaid : Prop := cipherRoundsRow.holds Try.pinned (OpenSpec.ofChange cipherRoundsSpec)

/-- ITS FALSE NEIGHBOUR: 'it returns false'. Refute it at one input. -/
def cipherRoundsWrong : ChangeSpec := { name := "cipherRounds", fn := fun _ => fun
  | [d1, d2] => { results := [.lit (.bool false)], args := [d1, d2] }
  | _ => none }
def CipherRoundsWrongFalsely : Prop := cipherRoundsRow.holds Try.pinned (OpenSpec.ofChange cipherRoundsWrong)

/-- 'mooringlaw07.FastMatchesReference': WHATEVER THE INPUT: true; the input reads as it did. -/
def fastMatchesReferenceSpec : ChangeSpec := { name := "fastMatchesReference", fn := fun _ => fun
  | [d1, d2] => { results := [.lit (.bool true)], args := [d1, d2] }
  | _ => none }
def fastMatchesReferenceRow : OpenClaim := { program := "ytaeklgfdknbncaa", sum := "a0240c5216207e68f13a4795c8a944205b3ca39812095408430f561226e15923", func := "mooring/mooringlaw07.FastMatchesReference", spec := "fastMatchesReference", unfollowed := true, recurses := true, apart := false }
def FastMatchesReferenceSaid : Prop := fastMatchesReferenceRow.holds Try.pinned (OpenSpec.ofChange fastMatchesReferenceSpec)

/-- ITS FALSE NEIGHBOUR: 'it returns false'. Refute it at one input. -/
def fastMatchesReferenceWrong : ChangeSpec := { name := "fastMatchesReference", fn := fun _ => fun
  | [d1, d2] => { results := [.lit (.bool false)], args := [d1, d2] }
  | _ => none }
def FastMatchesReferenceWrongFalsely : Prop := fastMatchesReferenceRow.holds Try.pinned (OpenSpec.ofChange fastMatchesReferenceWrong)

/-- 'mooringlaw07.FastChains': WHATEVER THE INPUT: true; the input reads as it did. -/
def fastChainsSpec : ChangeSpec := { name := "fastChains", fn := fun _ => fun
  | [d1, d2, d3] => { results := [.lit (.bool true)], args := [d1, d2, d3] }
  | _ => none }
def fastChainsRow : OpenClaim := { program := "ytaeklgfdknbncaa", sum := "a0240c5216207e68f13a4795c8a944205b3ca39812095408430f561226e15923", func := "mooring/mooringlaw07.FastChains", spec := "fastChains", unfollowed := true, recurses := true, apart := false }
def FastChainsSaid : Prop := fastChainsRow.holds Try.pinned (OpenSpec.ofChange fastChainsSpec)

/-- ITS FALSE NEIGHBOUR: 'it returns false'. Refute it at one input. -/
def fastChainsWrong : ChangeSpec := { name := "fastChains", fn := fun _ => fun
  | [d1, d2, d3] => { results := [.lit (.bool false)], args := [d1, d2, d3] }
  | _ => none }
def FastChainsWrongFalsely : Prop := fastChainsRow.holds Try.pinned (OpenSpec.ofChange fastChainsWrong)

/-- 'mooringlaw07.FastLists': WHATEVER THE INPUT: true; the input reads as it did. -/
def fastListsSpec : ChangeSpec := { name := "fastLists", fn := fun _ => fun
  | [d1, d2, d3] => { results := [.lit (.bool true)], args := [d1, d2, d3] }
  | _ => none }
def fastListsRow : OpenClaim := { program := "ytaeklgfdknbncaa", sum := "a0240c5216207e68f13a4795c8a944205b3ca39812095408430f561226e15923", func := "mooring/mooringlaw07.FastLists", spec := "fastLists", unfollowed := true, recurses := true, apart := false }
def FastListsSaid : Prop := fastListsRow.holds Try.pinned (OpenSpec.ofChange fastListsSpec)

/-- ITS FALSE NEIGHBOUR: 'it returns false'. Refute it at one input. -/
def fastListsWrong : ChangeSpec := { name := "fastLists", fn := fun _ => fun
  | [d1, d2, d3] => { results := [.lit (.bool false)], args := [d1, d2, d3] }
  | _ => none }
def FastListsWrongFalsely : Prop := fastListsRow.holds Try.pinned (OpenSpec.ofChange fastListsWrong)

/-- 'mooringlaw07.FastNil': WHATEVER THE INPUT: true; the input reads as it did. -/
def fastNilSpec : ChangeSpec := { name := "fastNil", fn := fun _ => fun
  | [d] => { results := [.lit (.bool true)], args := [d] }
  | _ => none }
def fastNilRow : OpenClaim := { program := "ytaeklgfdknbncaa", sum := "a0240c5216207e68f13a4795c8a944205b3ca39812095408430f561226e15923", func := "mooring/mooringlaw07.FastNil", spec := "fastNil", unfollowed := true, recurses := true, apart := false }
def FastNilSaid : Prop := fastNilRow.holds Try.pinned (OpenSpec.ofChange fastNilSpec)

/-- ITS FALSE NEIGHBOUR: 'it returns false'. Refute it at one input. -/
def fastNilWrong : ChangeSpec := { name := "fastNil", fn := fun _ => fun
  | [d] => { results := [.lit (.bool false)], args := [d] }
  | _ => none }
def FastNilWrongFalsely : Prop := fastNilRow.holds Try.pinned (OpenSpec.ofChange fastNilWrong)

/-- 'mooringlaw07.FastBack': WHATEVER THE INPUT: true; the input reads as it did. -/
def fastBackSpec : ChangeSpec := { name := "fastBack", fn := fun _ => fun
  | [d1, d2] => { results := [.lit (.bool true)], args := [d1, d2] }
  | _ => none }
def fastBackRow : OpenClaim := { program := "ytaeklgfdknbncaa", sum := "a0240c5216207e68f13a4795c8a944205b3ca39812095408430f561226e15923", func := "mooring/mooringlaw07.FastBack", spec := "fastBack", unfollowed := true, recurses := true, apart := false }
def FastBackSaid : Prop := fastBackRow.holds Try.pinned (OpenSpec.ofChange fastBackSpec)

/-- ITS FALSE NEIGHBOUR: 'it returns false'. Refute it at one input. -/
def fastBackWrong : ChangeSpec := { name := "fastBack", fn := fun _ => fun
  | [d1, d2] => { results := [.lit (.bool false)], args := [d1, d2] }
  | _ => none }
def FastBackWrongFalsely : Prop := fastBackRow.holds Try.pinned (OpenSpec.ofChange fastBackWrong)

/- THE SECOND FORM. 'bulk': how many values and letters a reading holds, each counted each time it is reached (what is shared counts as often as it is met; a slice's spare places count too). A statement '..UptoSaid' is the law's where the arguments, and the package variables that the reading takes, are together of bulk at most 1048576: NARROWER than '..Said'. Prove '..Said' where nothing that the law and all that it calls make is longer than what came in: it says more and counts as full. Else prove '..UptoSaid'. A law counts once. -/
mutual
def uptoBulk {H : Type} : DataW H → Nat
  | .lit (.string bytes) => bytes.length + 1
  | .lit _ => 1
  | .nil => 1
  | .ptr d => uptoBulk d + 1
  | .slice elems spare => uptoBulkAll elems + uptoBulkAll spare + 1
  | .agg parts => uptoBulkAll parts + 1
  | .iface _ d => uptoBulk d + 1
  | .map entries => uptoBulkEntries entries + 1
  | .held _ => 1
def uptoBulkAll {H : Type} : List (DataW H) → Nat
  | [] => 0
  | d :: r => uptoBulk d + uptoBulkAll r
def uptoBulkEntries {H : Type} : List (Lit × DataW H) → Nat
  | [] => 0
  | x :: r => uptoBulkEntry x + uptoBulkEntries r
def uptoBulkEntry {H : Type} : Lit × DataW H → Nat
  | (.string bytes, d) => bytes.length + uptoBulk d + 1
  | (_, d) => uptoBulk d + 1
 end
def uptoSmall : (H : Type) → List (DataW H) → Bool := fun _ ds => decide (uptoBulkAll ds ≤ 1048576)
def OpenSpec.upto (s : _root_.Go.ChangeSpec) : _root_.Go.OpenSpec := { _root_.Go.OpenSpec.ofChange s with cond := some uptoSmall }

/-- 'mooringlaw04.SboxBack', WHERE WHAT IT READS IS OF BULK AT MOST 1048576: true; the input reads as it did. -/
def sboxBackUptoRow : OpenClaim := { program := "ytaeklgfdknbncaa", sum := "a0240c5216207e68f13a4795c8a944205b3ca39812095408430f561226e15923", func := "mooring/mooringlaw04.SboxBack", spec := "sboxBack", apart := false, narrowed := true }
def SboxBackUptoSaid : Prop := sboxBackUptoRow.holds Try.pinned (OpenSpec.upto sboxBackSpec)

/-- 'mooringlaw04.SboxWords', WHERE WHAT IT READS IS OF BULK AT MOST 1048576: true; the input reads as it did. -/
def sboxWordsUptoRow : OpenClaim := { program := "ytaeklgfdknbncaa", sum := "a0240c5216207e68f13a4795c8a944205b3ca39812095408430f561226e15923", func := "mooring/mooringlaw04.SboxWords", spec := "sboxWords", apart := false, narrowed := true }
def SboxWordsUptoSaid : Prop := sboxWordsUptoRow.holds Try.pinned (OpenSpec.upto sboxWordsSpec)

/-- 'mooringlaw04.SboxMatchesReference', WHERE WHAT IT READS IS OF BULK AT MOST 1048576: true; the input reads as it did. -/
def sboxMatchesReferenceUptoRow : OpenClaim := { program := "ytaeklgfdknbncaa", sum := "a0240c5216207e68f13a4795c8a944205b3ca39812095408430f561226e15923", func := "mooring/mooringlaw04.SboxMatchesReference", spec := "sboxMatchesReference", apart := false, narrowed := true }
def SboxMatchesReferenceUptoSaid : Prop := sboxMatchesReferenceUptoRow.holds Try.pinned (OpenSpec.upto sboxMatchesReferenceSpec)

/-- 'mooringlaw04.SboxFixed', WHERE WHAT IT READS IS OF BULK AT MOST 1048576: true; the input reads as it did. -/
def sboxFixedUptoRow : OpenClaim := { program := "ytaeklgfdknbncaa", sum := "a0240c5216207e68f13a4795c8a944205b3ca39812095408430f561226e15923", func := "mooring/mooringlaw04.SboxFixed", spec := "sboxFixed", apart := false, narrowed := true }
def SboxFixedUptoSaid : Prop := sboxFixedUptoRow.holds Try.pinned (OpenSpec.upto sboxFixedSpec)

/-- 'mooringlaw06.CipherMatchesReference', WHERE WHAT IT READS IS OF BULK AT MOST 1048576: true; the input reads as it did. -/
def cipherMatchesReferenceUptoRow : OpenClaim := { program := "ytaeklgfdknbncaa", sum := "a0240c5216207e68f13a4795c8a944205b3ca39812095408430f561226e15923", func := "mooring/mooringlaw06.CipherMatchesReference", spec := "cipherMatchesReference", unfollowed := true, recurses := true, apart := false, narrowed := true }
def CipherMatchesReferenceUptoSaid : Prop := cipherMatchesReferenceUptoRow.holds Try.pinned (OpenSpec.upto cipherMatchesReferenceSpec)

/-- 'mooringlaw06.CipherSteps', WHERE WHAT IT READS IS OF BULK AT MOST 1048576: true; the input reads as it did. -/
def cipherStepsUptoRow : OpenClaim := { program := "ytaeklgfdknbncaa", sum := "a0240c5216207e68f13a4795c8a944205b3ca39812095408430f561226e15923", func := "mooring/mooringlaw06.CipherSteps", spec := "cipherSteps", unfollowed := true, recurses := true, apart := false, narrowed := true }
def CipherStepsUptoSaid : Prop := cipherStepsUptoRow.holds Try.pinned (OpenSpec.upto cipherStepsSpec)

/-- 'mooringlaw06.CipherBack', WHERE WHAT IT READS IS OF BULK AT MOST 1048576: true; the input reads as it did. -/
def cipherBackUptoRow : OpenClaim := { program := "ytaeklgfdknbncaa", sum := "a0240c5216207e68f13a4795c8a944205b3ca39812095408430f561226e15923", func := "mooring/mooringlaw06.CipherBack", spec := "cipherBack", unfollowed := true, recurses := true, apart := false, narrowed := true }
def CipherBackUptoSaid : Prop := cipherBackUptoRow.holds Try.pinned (OpenSpec.upto cipherBackSpec)

/-- 'mooringlaw06.CipherLinear', WHERE WHAT IT READS IS OF BULK AT MOST 1048576: true; the input reads as it did. -/
def cipherLinearUptoRow : OpenClaim := { program := "ytaeklgfdknbncaa", sum := "a0240c5216207e68f13a4795c8a944205b3ca39812095408430f561226e15923", func := "mooring/mooringlaw06.CipherLinear", spec := "cipherLinear", unfollowed := true, recurses := true, apart := false, narrowed := true }
def CipherLinearUptoSaid : Prop := cipherLinearUptoRow.holds Try.pinned (OpenSpec.upto cipherLinearSpec)

/-- 'mooringlaw06.CipherRounds', WHERE WHAT IT READS IS OF BULK AT MOST 1048576: true; the input reads as it did. -/
def cipherRoundsUptoRow : OpenClaim := { program := "ytaeklgfdknbncaa", sum := "a0240c5216207e68f13a4795c8a944205b3ca39812095408430f561226e15923", func := "mooring/mooringlaw06.CipherRounds", spec := "cipherRounds", unfollowed := true, recurses := true, apart := false, narrowed := true }
def CipherRoundsUptoSaid : Prop := cipherRoundsUptoRow.holds Try.pinned (OpenSpec.upto cipherRoundsSpec)

/-- 'mooringlaw07.FastMatchesReference', WHERE WHAT IT READS IS OF BULK AT MOST 1048576: true; the input reads as it did. -/
def fastMatchesReferenceUptoRow : OpenClaim := { program := "ytaeklgfdknbncaa", sum := "a0240c5216207e68f13a4795c8a944205b3ca39812095408430f561226e15923", func := "mooring/mooringlaw07.FastMatchesReference", spec := "fastMatchesReference", unfollowed := true, recurses := true, apart := false, narrowed := true }
def FastMatchesReferenceUptoSaid : Prop := fastMatchesReferenceUptoRow.holds Try.pinned (OpenSpec.upto fastMatchesReferenceSpec)

/-- 'mooringlaw07.FastChains', WHERE WHAT IT READS IS OF BULK AT MOST 1048576: true; the input reads as it did. -/
def fastChainsUptoRow : OpenClaim := { program := "ytaeklgfdknbncaa", sum := "a0240c5216207e68f13a4795c8a944205b3ca39812095408430f561226e15923", func := "mooring/mooringlaw07.FastChains", spec := "fastChains", unfollowed := true, recurses := true, apart := false, narrowed := true }
def FastChainsUptoSaid : Prop := fastChainsUptoRow.holds Try.pinned (OpenSpec.upto fastChainsSpec)

/-- 'mooringlaw07.FastLists', WHERE WHAT IT READS IS OF BULK AT MOST 1048576: true; the input reads as it did. -/
def fastListsUptoRow : OpenClaim := { program := "ytaeklgfdknbncaa", sum := "a0240c5216207e68f13a4795c8a944205b3ca39812095408430f561226e15923", func := "mooring/mooringlaw07.FastLists", spec := "fastLists", unfollowed := true, recurses := true, apart := false, narrowed := true }
def FastListsUptoSaid : Prop := fastListsUptoRow.holds Try.pinned (OpenSpec.upto fastListsSpec)

/-- 'mooringlaw07.FastNil', WHERE WHAT IT READS IS OF BULK AT MOST 1048576: true; the input reads as it did. -/
def fastNilUptoRow : OpenClaim := { program := "ytaeklgfdknbncaa", sum := "a0240c5216207e68f13a4795c8a944205b3ca39812095408430f561226e15923", func := "mooring/mooringlaw07.FastNil", spec := "fastNil", unfollowed := true, recurses := true, apart := false, narrowed := true }
def FastNilUptoSaid : Prop := fastNilUptoRow.holds Try.pinned (OpenSpec.upto fastNilSpec)

/-- 'mooringlaw07.FastBack', WHERE WHAT IT READS IS OF BULK AT MOST 1048576: true; the input reads as it did. -/
def fastBackUptoRow : OpenClaim := { program := "ytaeklgfdknbncaa", sum := "a0240c5216207e68f13a4795c8a944205b3ca39812095408430f561226e15923", func := "mooring/mooringlaw07.FastBack", spec := "fastBack", unfollowed := true, recurses := true, apart := false, narrowed := true }
def FastBackUptoSaid : Prop := fastBackUptoRow.holds Try.pinned (OpenSpec.upto fastBackSpec)

end Rows
end Go.Proofs.Ytaeklgfdknbncaa
