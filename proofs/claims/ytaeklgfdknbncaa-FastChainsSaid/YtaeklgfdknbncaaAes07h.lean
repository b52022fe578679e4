/-
  The calls of FastMatchesReference, FastBack, FastChains and FastNil return true. Conditions: none beside the hypotheses of each theorem.
-/
import Derived.Test.YtaeklgfdknbncaaAesH
namespace Go.Proofs.Ytaeklgfdknbncaa
noncomputable section
open Go.ChangeShapes Go.WideShapes Go.ChangeAt Go.RowKit Go.Sx Go.Aes

/-! ### Blocks that come in -/
def packL (ns : List Int) : Nat := mk16 fun i => (ns.getD i 0).toNat

theorem packL_val {ns : List Int} (hl : ns.length = 16) (hb : ∀ x ∈ ns, 0 ≤ x ∧ x ≤ 255) : Value.agg ⟨ns.map (Value.int .u8)⟩ = blockV (packL ns) := by
  unfold blockV
  congr 2
  apply List.ext_getElem?
  intro i
  by_cases hi : i < 16
  · have hi' : i < ns.length := by omega
    rw [List.getElem?_map, List.getElem?_map, List.getElem?_eq_getElem hi', List.getElem?_range hi]
    simp only [Option.map_some]
    congr 2
    have := hb _ (List.getElem_mem hi')
    unfold packL
    rw [byte_mk hi, List.getD_eq_getElem?_getD, List.getElem?_eq_getElem hi', Option.getD_some]
    omega
  · rw [List.getElem?_eq_none (by simp only [List.length_map]; omega), List.getElem?_eq_none (by simp only [List.length_map, List.length_range]; omega)]

/-! ### The setting -/
def sums3 : List (Nat × Sum) := (34, stateSum subE) :: (35, stateSum shiftE) :: (36, stateSum mixE) :: (41, addSum) :: (43, stateSum unsubE) :: (44, stateSum unshiftE) :: (45, stateSum unmixE) ::
  (38, gridSubSum) :: (39, gridSum shiftE) :: (40, gridSum mixE) :: (42, gridAddSum) :: (46, keysSum) :: (58, keysSum) :: sums2
theorem goods3 : Goods sums3 := .cons Sub_good (.cons Shift_good (.cons Mix_good (.cons Add_good (.cons Unsub_good (.cons Unshift_good (.cons Unmix_good
  (.cons GridSub_good (.cons GridShift_good (.cons GridMix_good (.cons GridAdd_good (.cons Keys_good (.cons RefKeys_good goods2))))))))))))
def yes : SVal := .bool (.lit true)
def heaps : List (Nat × HSum) := [(48, newSum), (70, runSum)]
theorem heaps_ok (st : Nat → Nat) (int : Nat → Int) (bool : Nat → Bool) : ∀ p ∈ heaps, HOk (aesVal st int bool) p.1 p.2 := by
  intro p hp
  simp only [heaps, List.mem_cons, List.mem_nil_iff, or_false] at hp
  rcases hp with rfl | rfl
  · exact New_good st int bool
  · exact Run_good st int bool

theorem const_evalG {l : List (Nat × Sum)} (hl : Goods l) (n : Nat) {f : Nat} {v : SVal} (hv : fixed v = true) (h : gives (callV (envG heaps l []) (runV (envG heaps l []) n) 0 [] f []) v = true) : Good f (constSum v) :=
  const_good (fixed_ok hv).2 fun st w => by
    have := gives_calls (envG_ok hl (heaps_ok (byteSt 0) (fun _ => 0) (fun _ => false)) (by simp)) n h ((flats_rv rfl).2 rfl) w
    rw [(fixed_ok hv).1 st (val (byteSt 0))]
    exact this
theorem Awake07_good : Good 47 (constSum yes) := const_evalG goods3 600 rfl (by kernel_rfl)
def sums7 : List (Nat × Sum) := (47, constSum yes) :: sums3
theorem goods7 : Goods sums7 := .cons Awake07_good goods3

/-! ### FastMatchesReference, FastBack -/
def blocks2 : List SVal := [.agg (unpackE k0), .agg (unpackE v0)]
abbrev Two (f : Nat) : Prop := ∀ (k : List Int) (_ : k.length = 16) (_ : ∀ x ∈ k, 0 ≤ x ∧ x ≤ 255) (b : List Int) (_ : b.length = 16) (_ : ∀ x ∈ b, 0 ≤ x ∧ x ≤ 255) (w : World),
    Calls Try.prog f #[.agg ⟨k.map (Value.int .u8)⟩, .agg ⟨b.map (Value.int .u8)⟩] w fun e w' => e = .returned (.bool true) ∧ Below w.heap.size w w'

theorem law2G {l : List (Nat × Sum)} (hl : Goods l) {f : Nat} (m : Nat) (h : gives (callV (envG heaps l []) (runV (envG heaps l []) m) 0 [] f blocks2) yes = true) : Two f := by
  intro k lk bk b lb bb w
  rw [packL_val lk bk, packL_val lb bb]
  have hk : packL k < big := mk_lt _
  have hb : packL b < big := mk_lt _
  have := gives_calls (envG_ok hl (heaps_ok (twoSt (packL b) (packL k)) (fun _ => 0) (fun _ => false)) (by simp)) m h ((flats_rv (show flats blocks2 = true by simp only [blocks2, flats, flat_block, Bool.and_self])).2 rfl) w
  simp only [denVs, blocks2] at this
  rw [show denV (aesVal (twoSt (packL b) (packL k)) (fun _ => 0) (fun _ => false)) (.agg (unpackE v0)) = blockV (packL b) from block_den (v0_num hb),
    show denV (aesVal (twoSt (packL b) (packL k)) (fun _ => 0) (fun _ => false)) (.agg (unpackE k0)) = blockV (packL k) from block_den (k0_num hk)] at this
  exact this

theorem fast_eval : gives (callV (envG heaps sums7 []) (runV (envG heaps sums7 []) 600) 0 [] 12 blocks2) yes = true := by kernel_rfl
theorem fastBack_eval : gives (callV (envG heaps sums7 []) (runV (envG heaps sums7 []) 600) 0 [] 16 blocks2) yes = true := by kernel_rfl
theorem fast_calls : Two 12 := law2G goods7 600 fast_eval
theorem fastBack_calls : Two 16 := law2G goods7 600 fastBack_eval

/-! ### FastChains -/
def chainSt (n k x : Nat) (f : Nat) : Nat := if f = 250 then n else if f = 251 then k else x
def remRw (r : Nat) (e : E) : Option E := if e.same (.op .rem b0 (.lit 6)) = true then some (.lit r) else aesRw e
noncomputable def envR (r : Nat) : Env := { envG heaps sums7 [] with rw := remRw r }
def blocks3 : List SVal := [.agg (unpackE k0), .agg (unpackE v0), u8 b0]
theorem chain0 : gives (callV (envR 0) (runV (envR 0) 600) 0 [] 13 blocks3) yes = true := by kernel_rfl
theorem chain1 : gives (callV (envR 1) (runV (envR 1) 600) 0 [] 13 blocks3) yes = true := by kernel_rfl
theorem chain2 : gives (callV (envR 2) (runV (envR 2) 600) 0 [] 13 blocks3) yes = true := by kernel_rfl
theorem chain3 : gives (callV (envR 3) (runV (envR 3) 600) 0 [] 13 blocks3) yes = true := by kernel_rfl
theorem chain4 : gives (callV (envR 4) (runV (envR 4) 600) 0 [] 13 blocks3) yes = true := by kernel_rfl
theorem chain5 : gives (callV (envR 5) (runV (envR 5) 600) 0 [] 13 blocks3) yes = true := by kernel_rfl
theorem chains : ∀ r, r < 6 → gives (callV (envR r) (runV (envR r) 600) 0 [] 13 blocks3) yes = true
  | 0, _ => chain0
  | 1, _ => chain1
  | 2, _ => chain2
  | 3, _ => chain3
  | 4, _ => chain4
  | 5, _ => chain5
  | _ + 6, h => by omega

theorem envR_ok {n k x : Nat} (hx : x < 256) : EnvOk (envR (x % 6)) (val (chainSt n k x)) := by
  have h := envG_ok goods7 (heaps_ok (chainSt n k x) (fun _ => 0) (fun _ => false)) (facts := []) (by simp)
  refine ⟨⟨h.ctx.rvar, h.ctx.rapp, h.ctx.facts, fun e e' he => ?_⟩, h.mixed, h.sums⟩
  have he : remRw (x % 6) e = some e' := he
  unfold remRw at he
  split at he
  · rename_i hs
    cases he
    rw [E.same_eq hs]
    have e0 : b0.den (val (chainSt n k x)) = (x % 256 : Nat) := rfl
    show ((x % 6 : Nat) : Int) = (b0.den (val (chainSt n k x))).tmod 6
    rw [e0, Nat.mod_eq_of_lt hx]
    rfl
  · exact h.ctx.rw e e' he

theorem wf8 {x : Int} (h : (Lit.int .u8 x).wf = true) : ∃ n : Nat, x = n ∧ n < 256 := by
  have : 0 ≤ x ∧ x ≤ 255 := by simpa [Lit.wf, IntKind.min, IntKind.max, IntKind.signed, IntKind.bits] using h
  exact ⟨x.toNat, by omega, by omega⟩

theorem fastChains_calls (k : List Int) (lk : k.length = 16) (bk : ∀ x ∈ k, 0 ≤ x ∧ x ≤ 255) (b : List Int) (lb : b.length = 16) (bb : ∀ x ∈ b, 0 ≤ x ∧ x ≤ 255) (x : Int) (hx : (Lit.int .u8 x).wf = true) (w : World) :
    Calls Try.prog 13 #[.agg ⟨k.map (Value.int .u8)⟩, .agg ⟨b.map (Value.int .u8)⟩, .int .u8 x] w fun e w' => e = .returned (.bool true) ∧ Below w.heap.size w w' := by
  obtain ⟨x, rfl, lx⟩ := wf8 hx
  rw [packL_val lk bk, packL_val lb bb]
  have hk : packL k < big := mk_lt _
  have hb : packL b < big := mk_lt _
  have := gives_calls (envR_ok (n := packL b) (k := packL k) lx) 600 (chains (x % 6) (Nat.mod_lt _ (by decide)))
    ((flats_rv (show flats blocks3 = true by
      have h1 := flat_block k0
      have h2 := flat_block v0
      simp only [flat] at h1 h2
      simp only [blocks3, flats, flat, u8, h1, h2, Bool.and_self])).2 rfl) w
  have ev : num (val (chainSt (packL b) (packL k) x)) v0 = packL b := by
    have e : v0.den (val (chainSt (packL b) (packL k) x)) = (packL b % big : Nat) := rfl
    rw [show num (val (chainSt (packL b) (packL k) x)) v0 = packL b % big from num_of e, Nat.mod_eq_of_lt hb]
  have ek : num (val (chainSt (packL b) (packL k) x)) k0 = packL k := by
    have e : k0.den (val (chainSt (packL b) (packL k) x)) = (packL k % big : Nat) := rfl
    rw [show num (val (chainSt (packL b) (packL k) x)) k0 = packL k % big from num_of e, Nat.mod_eq_of_lt hk]
  have e0 : b0.den (val (chainSt (packL b) (packL k) x)) = (x : Nat) := by
    have e : b0.den (val (chainSt (packL b) (packL k) x)) = (x % 256 : Nat) := rfl
    rw [e, Nat.mod_eq_of_lt lx]
  simp only [denVs, blocks3] at this
  rw [show denV (val (chainSt (packL b) (packL k) x)) (.agg (unpackE v0)) = blockV (packL b) from block_den ev, show denV (val (chainSt (packL b) (packL k) x)) (.agg (unpackE k0)) = blockV (packL k) from block_den ek,
    show denV (val (chainSt (packL b) (packL k) x)) (u8 b0) = .int .u8 (x : Nat) by simp only [u8, denV]; rw [e0]] at this
  exact this

/-! ### FastNil -/
def isZeroKey : E → Bool
  | .lit n => decide (n = 0)
  | _ => false
theorem isZeroKey_ok {e : E} (h : isZeroKey e = true) : e = .lit 0 := by
  unfold isZeroKey at h
  split at h
  · rename_i n; rw [of_decide_eq_true h]
  · cases h
def newSumZ (hp : Hp) (args : List SVal) : Option (SVal × List SObj) :=
  match args with
  | [b] => match packV id b with
    | some k => if isZeroKey k = true then some (.ptr (some (hp.length, 0)), [.cells (cipherV k0 (unpackE (.lit 0))) true true]) else none
    | none => none
  | _ => none
def keysSumZ : List SVal → Option SVal
  | [b] => (packV id b).bind fun k => if isZeroKey k = true then some (.agg (keysE k0)) else none
  | _ => none

theorem num_zero {v : Val} : num v (.lit 0) = 0 := rfl
theorem newZ_ok (n : Nat) : HOk (val (twoSt n 0)) 48 newSumZ := by
  intro hp args v os hs φ vs w hvs hR
  unfold newSumZ at hs
  split at hs
  case h_2 => cases hs
  rename_i b
  cases hk : packV id b with
  | none => rw [hk] at hs; cases hs
  | some k =>
    rw [hk] at hs
    simp only at hs
    split at hs
    case isFalse => cases hs
    rename_i hz
    cases hs
    obtain rfl := isZeroKey_ok hz
    obtain ⟨fb, _, eb⟩ := packB_ok (st := twoSt n 0) (int := fun _ => 0) (bool := fun _ => false) hk
    have hvs' := (flats_rv (by simp only [flats, fb, Bool.and_self])).1 hvs
    have eb' : denV (val (twoSt n 0)) b = blockV 0 := eb
    simp only [denVs, eb'] at hvs'
    subst hvs'
    have e0 : num (aesVal (twoSt n 0) (fun _ => 0) (fun _ => false)) k0 = 0 := k0_num big_pos
    refine new_core (st := twoSt n 0) (int := fun _ => 0) (bool := fun _ => false) big_pos (flats_cipher k0 (flat_block (.lit 0))) ?_ hR
    have := new_cells (st := twoSt n 0) (int := fun _ => 0) (bool := fun _ => false) (k := k0) (kb := unpackE (.lit 0)) rfl (by rw [unpack_blockL, e0]; rfl)
    rw [e0] at this
    exact this

theorem keysZ_ok (n : Nat) {f : Nat} (h : Good f keysSum) : PureSum Try.prog (val (twoSt n 0)) f keysSumZ := by
  have key : ∀ {args v}, keysSumZ args = some v → ∃ b, args = [b] ∧ packV id b = some (.lit 0) ∧ v = .agg (keysE k0) := by
    intro args v h
    unfold keysSumZ at h
    split at h
    · rename_i b
      cases hb : packV id b with
      | none => rw [hb] at h; cases h
      | some k =>
        rw [hb] at h
        simp only [Option.bind_some] at h
        split at h
        · rename_i hz
          cases h
          exact ⟨b, rfl, by rw [hb, isZeroKey_ok hz], rfl⟩
        · cases h
    · cases h
  refine ⟨?_, ?_⟩
  · intro args v h
    obtain ⟨b, rfl, hb, rfl⟩ := key h
    exact ⟨by simp only [flats, (packB_ok (st := twoSt n 0) (int := fun _ => 0) (bool := fun _ => false) hb).1, Bool.and_self], flat_keys _⟩
  · intro args v hv w
    obtain ⟨b, rfl, hb, rfl⟩ := key hv
    have hs := (packB_ok (st := twoSt n 0) (int := fun _ => 0) (bool := fun _ => false) hb).2.1
    have := (h (twoSt n 0) (fun _ => 0) (fun _ => false)).calls [b] (.agg (keysE (.lit 0))) (by
      show (packV id b).bind _ = _
      rw [hb]; simp only [Option.bind_some]; rw [if_pos hs]) w
    rw [keys_den hs] at this
    have e1 : denV (val (twoSt n 0)) (.agg (keysE k0)) = keysV (num (aesVal (twoSt n 0) (fun _ => 0) (fun _ => false)) k0) := keys_den (st := twoSt n 0) (int := fun _ => 0) (bool := fun _ => false) (k := k0) rfl
    have e0 : num (aesVal (twoSt n 0) (fun _ => 0) (fun _ => false)) k0 = 0 := k0_num big_pos
    rw [e1, e0]
    exact this

def heapsZ : List (Nat × HSum) := [(48, newSumZ), (46, pureSum keysSumZ), (58, pureSum keysSumZ), (70, runSum)]
theorem heapsZ_ok (n : Nat) : ∀ p ∈ heapsZ, HOk (val (twoSt n 0)) p.1 p.2 := by
  intro p hp
  simp only [heapsZ, List.mem_cons, List.mem_nil_iff, or_false] at hp
  rcases hp with rfl | rfl | rfl | rfl
  · exact newZ_ok n
  · exact (keysZ_ok n Keys_good).ok
  · exact (keysZ_ok n RefKeys_good).ok
  · exact Run_good _ _ _
noncomputable def envZ : Env := envG heapsZ sums7 []
theorem fastNil_eval : gives (callV envZ (runV envZ 600) 0 [] 15 [.agg (unpackE v0)]) yes = true := by kernel_rfl
theorem fastNil_calls (b : List Int) (lb : b.length = 16) (bb : ∀ x ∈ b, 0 ≤ x ∧ x ≤ 255) (w : World) :
    Calls Try.prog 15 #[.agg ⟨b.map (Value.int .u8)⟩] w fun e w' => e = .returned (.bool true) ∧ Below w.heap.size w w' := by
  rw [packL_val lb bb]
  have hb : packL b < big := mk_lt _
  have := gives_calls (envG_ok goods7 (facts := []) (heapsZ_ok (packL b)) (by simp)) 600 fastNil_eval ((flats_rv (show flats [.agg (unpackE v0)] = true by simp only [flats, flat_block, Bool.and_self])).2 rfl) w
  simp only [denVs] at this
  rw [show denV (aesVal (twoSt (packL b) 0) (fun _ => 0) (fun _ => false)) (.agg (unpackE v0)) = blockV (packL b) from block_den (v0_num hb)] at this
  exact this

end
end Go.Proofs.Ytaeklgfdknbncaa
