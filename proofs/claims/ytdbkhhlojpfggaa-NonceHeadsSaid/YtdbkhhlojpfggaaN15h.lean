/-
  The law NonceHeads of mooringlaw15 holds for every argument. Conditions: none beside the given statements.
-/
import Derived.Test.YtdbkhhlojpfggaaSxN
import Derived.Test.YtdbkhhlojpfggaaRows
namespace Go.Proofs.Ytdbkhhlojpfggaa
noncomputable section
open Go.ChangeShapes Go.WideShapes Go.ChangeAt Go.RowKit Go.Sx

theorem own : ownKnob Try.prog.godebug = none := by kernel_rfl
theorem laidOut : laidOutB Try.prog = true := by kernel_rfl

/-! ### The evaluator's setting -/
noncomputable def env (rv : Nat → Option (Int × Int)) (facts : List (C × Bool)) (rw : List (E × E)) : Env :=
  { P := Try.prog, rvar := rv, rapp := fun _ => none, facts, rw := pairRw rw, sums := fun _ => none, loud := fun _ => false }

theorem env_ok {rv : Nat → Option (Int × Int)} {facts : List (C × Bool)} {rw : List (E × E)} {ρ : Val} (h1 : ∀ i r, rv i = some r → r.1 ≤ ρ.int i ∧ ρ.int i ≤ r.2) (h2 : ∀ c b, (c, b) ∈ facts → c.den ρ = b)
    (h3 : ∀ p ∈ rw, p.2.den ρ = p.1.den ρ) : EnvOk (env rv facts rw) ρ := by
  refine ⟨⟨h1, ?_, h2, pairRw_ok h3⟩, by kernel_rfl, ?_⟩
  · intro f r l h; cases h
  · intro f s h; cases h

def vals (f : Nat → Int) : Val := { int := f, bool := fun _ => false, app := fun _ _ => 0 }

def big : E := .lit 9223372036854775808
def top : E := .lit 9223372036854775807
def br (X : E) (lo : Nat) : List (E × E) := bytesRules X (.var lo) (.var (lo + 1)) (.var (lo + 2)) (.var (lo + 3)) (.var (lo + 4)) (.var (lo + 5)) (.var (lo + 6)) (.var (lo + 7))
def hiRules (X Z : E) : List (E × E) := [(.op (.or .u64) big Z, X), (.op (.add .u64) Z big, X), (.op (.shr .u64) X (.lit 63), .lit 1), (.op (.and .u64) X top, Z), (.op (.sub .u64) X big, Z)]
def loRules (X : E) : List (E × E) := [(.op (.shr .u64) X (.lit 63), .lit 0), (.op (.and .u64) X top, X)]

/-- the bytes of a number, first the greatest -/
def byteN (x : Nat) : Nat → Nat
  | 0 => x / 72057594037927936
  | 1 => x / 281474976710656 % 256
  | 2 => x / 1099511627776 % 256
  | 3 => x / 4294967296 % 256
  | 4 => x / 16777216 % 256
  | 5 => x / 65536 % 256
  | 6 => x / 256 % 256
  | _ => x % 256

theorem br_ok {ρ : Val} {X : E} {lo x : Nat} (hX : X.den ρ = x) (hx : x < 18446744073709551616) (h : ∀ i, i < 8 → ρ.int (lo + i) = byteN x i) : ∀ p ∈ br X lo, p.2.den ρ = p.1.den ρ :=
  bytesRules_ok hX hx (h 0 (by decide)) (h 1 (by decide)) (h 2 (by decide)) (h 3 (by decide)) (h 4 (by decide)) (h 5 (by decide)) (h 6 (by decide)) (h 7 (by decide))

theorem fn_and_top (x : Nat) (hx : x < 18446744073709551616) : (IOp.and .u64).fn (x : Int) 9223372036854775807 = ((x % 9223372036854775808 : Nat) : Int) := by
  have h : (IOp.and .u64).fn (x : Int) 9223372036854775807 = IntKind.wrap .u64 ((BitVec.ofInt 64 (x : Int) &&& BitVec.ofInt 64 ((9223372036854775807 : Nat) : Int)).toNat : Int) := rfl
  rw [h, BitVec.ofInt_natCast, BitVec.ofInt_natCast, BitVec.toNat_and, BitVec.toNat_ofNat, BitVec.toNat_ofNat, Nat.mod_eq_of_lt hx,
    show (9223372036854775807 % 2 ^ 64) = 2 ^ 63 - 1 by decide, Nat.and_two_pow_sub_one_eq_mod]
  exact wrap_u64 (by omega)

theorem loRules_ok {ρ : Val} {X : E} {x : Nat} (hX : X.den ρ = x) (hx : x < 9223372036854775808) : ∀ p ∈ loRules X, p.2.den ρ = p.1.den ρ := by
  intro p hp
  simp only [loRules, List.mem_cons, List.mem_nil_iff, or_false] at hp
  rcases hp with rfl | rfl
  · simp only [E.den, hX]
    rw [show (63 : Int) = ((63 : Nat) : Int) from rfl, fn_shr x 63 (by decide)]
    have : x / 2 ^ 63 = 0 := Nat.div_eq_of_lt hx
    rw [this]; rfl
  · simp only [E.den, hX, top]
    rw [fn_and_top x (by omega), Nat.mod_eq_of_lt hx]

theorem hiRules_ok {ρ : Val} {X Z : E} {z : Nat} (hX : X.den ρ = ((9223372036854775808 + z : Nat) : Int)) (hZ : Z.den ρ = z) (hz : z < 9223372036854775808) : ∀ p ∈ hiRules X Z, p.2.den ρ = p.1.den ρ := by
  intro p hp
  simp only [hiRules, List.mem_cons, List.mem_nil_iff, or_false] at hp
  rcases hp with rfl | rfl | rfl | rfl | rfl
  · simp only [E.den, hX, hZ, big]
    rw [show (9223372036854775808 : Int) = ((9223372036854775808 : Nat) : Int) from rfl, fn_or64 _ _ (by omega) (by omega)]
    have := Nat.two_pow_add_eq_or_of_lt (i := 63) hz 1
    simp only [Nat.mul_one] at this
    rw [show (9223372036854775808 : Nat) = 2 ^ 63 from rfl, this]
  · simp only [E.den, hX, hZ, big, IOp.fn]
    rw [show (9223372036854775808 : Int) = ((9223372036854775808 : Nat) : Int) from rfl, ← Int.natCast_add, wrap_u64 (by omega)]
    congr 1; omega
  · simp only [E.den, hX]
    rw [show (63 : Int) = ((63 : Nat) : Int) from rfl, fn_shr _ 63 (by decide)]
    have : (9223372036854775808 + z) / 2 ^ 63 = 1 := by omega
    rw [this]; rfl
  · simp only [E.den, hX, hZ, top]
    rw [fn_and_top _ (by omega)]
    congr 1; omega
  · simp only [E.den, hX, hZ, big, IOp.fn]
    have : ((9223372036854775808 + z : Nat) : Int) - 9223372036854775808 = (z : Int) := by omega
    rw [this]; exact (wrap_u64 (by omega)).symm

/-- the numbers' ranges -/
def rvH (i : Nat) : Option (Int × Int) := if i = 20 then some (9223372036854775808, 18446744073709551615) else if i = 21 then some (0, 9223372036854775807) else if i = 1 then some (128, 255) else if i < 9 then some (0, 255) else none
def rvL (i : Nat) : Option (Int × Int) := if i = 20 then some (0, 9223372036854775807) else if i = 1 then some (0, 127) else if i < 9 then some (0, 255) else none
def rvO (i : Nat) : Option (Int × Int) := if i = 20 then some (0, 18446744073709551615) else if i = 21 then some (-9223372036854775808, 9223372036854775807) else none

/-- x at 20, x without its greatest bit at 21, its bytes at 1 .. 8 -/
def numV (x : Nat) (i : Nat) : Int := if i = 20 then x else if i = 21 then ((x % 9223372036854775808 : Nat) : Int) else byteN x (i - 1)

theorem byteN_lt (x i : Nat) (hx : x < 18446744073709551616) : byteN x i < 256 := by
  unfold byteN; split <;> omega

theorem numV_byte (x : Nat) : ∀ i, i < 8 → (vals (numV x)).int (1 + i) = byteN x i := by
  intro i hi
  simp only [vals, numV]
  rw [if_neg (by omega), if_neg (by omega), Nat.add_sub_cancel_left]

theorem rvL_ok (x : Nat) (hx : x < 9223372036854775808) : ∀ i r, rvL i = some r → r.1 ≤ numV x i ∧ numV x i ≤ r.2 := by
  intro i r h
  unfold rvL at h
  split at h
  · cases h; rename_i hi; subst hi; simp only [numV]; rw [if_pos trivial]; constructor <;> omega
  · rename_i h20
    split at h
    · cases h; rename_i hi; subst hi; simp [numV, byteN]; omega
    · split at h
      · cases h
        simp only [numV]
        rw [if_neg h20, if_neg (by omega)]
        have := byteN_lt x (i - 1) (by omega)
        constructor <;> omega
      · cases h

theorem rvH_ok (x : Nat) (h0 : 9223372036854775808 ≤ x) (hx : x < 18446744073709551616) : ∀ i r, rvH i = some r → r.1 ≤ numV x i ∧ numV x i ≤ r.2 := by
  intro i r h
  unfold rvH at h
  split at h
  · cases h; rename_i hi; subst hi; simp only [numV]; rw [if_pos trivial]; constructor <;> omega
  · rename_i h20
    split at h
    · cases h; rename_i hi; subst hi; simp only [numV]; rw [if_pos trivial]; constructor <;> omega
    · rename_i h21
      split at h
      · cases h; rename_i hi; subst hi; simp [numV, byteN]; omega
      · split at h
        · cases h
          simp only [numV]
          rw [if_neg h20, if_neg h21]
          have := byteN_lt x (i - 1) hx
          constructor <;> omega
        · cases h

theorem wf64 {x : Int} (h : (Lit.int .u64 x).wf = true) : ∃ n : Nat, x = n ∧ n < 18446744073709551616 := by
  have : 0 ≤ x ∧ x ≤ 18446744073709551615 := by simpa [Lit.wf, IntKind.min, IntKind.max, IntKind.signed, IntKind.bits] using h
  exact ⟨x.toNat, by omega, by omega⟩

theorem lo_env {x : Nat} (hx : x < 9223372036854775808) (facts : List (C × Bool)) (hf : ∀ c b, (c, b) ∈ facts → c.den (vals (numV x)) = b) : EnvOk (env rvL facts (br (.var 20) 1 ++ loRules (.var 20))) (vals (numV x)) :=
  env_ok (rvL_ok x hx) hf fun p hp => by
    rcases List.mem_append.1 hp with hp | hp
    · exact br_ok (x := x) (by simp [E.den, vals, numV]) (by omega) (numV_byte x) p hp
    · exact loRules_ok (x := x) (by simp [E.den, vals, numV]) hx p hp

theorem hi_env {x : Nat} (h0 : 9223372036854775808 ≤ x) (hx : x < 18446744073709551616) (facts : List (C × Bool)) (hf : ∀ c b, (c, b) ∈ facts → c.den (vals (numV x)) = b) : EnvOk (env rvH facts (br (.var 20) 1 ++ hiRules (.var 20) (.var 21))) (vals (numV x)) :=
  env_ok (rvH_ok x h0 hx) hf fun p hp => by
    rcases List.mem_append.1 hp with hp | hp
    · exact br_ok (x := x) (by simp [E.den, vals, numV]) (by omega) (numV_byte x) p hp
    · exact hiRules_ok (z := x % 9223372036854775808) (by simp [E.den, vals, numV]; omega) (by simp [E.den, vals, numV]) (by omega) p hp

/-! ### NonceOthers -/
def oRv : Nat → Option (Int × Int) := fun _ => none
def oFacts : List (C × Bool) := [(.cmp .eq (.var 0) (.lit 0), false)]

theorem others_zero : isTrue (callV (env oRv [] []) (runV (env oRv [] []) 1000) 0 [] 4 [.int .i64 (.lit 0)]) = true := by kernel_rfl
theorem others_else : isTrue (callV (env oRv oFacts []) (runV (env oRv oFacts []) 1000) 0 [] 4 [.int .i64 (.var 0)]) = true := by kernel_rfl

theorem others_calls (d : Int) (_ : (Lit.int .i64 d).wf = true) (w : World) : Calls Try.prog 4 #[.int .i64 d] w fun e w' => e = .returned (.bool true) ∧ Below w.heap.size w w' := by
  by_cases h : d = 0
  · subst h
    exact true_calls (ρ := vals fun _ => 0) (env_ok (by intro i r h; cases h) (by simp) (by simp)) 1000 others_zero (vs := [.int .i64 0]) ⟨_, _, rfl, rfl, rfl⟩ (Rh.empty w) (by simp)
  · refine true_calls (ρ := vals fun _ => d) (env_ok (by intro i r h; cases h) ?_ (by simp)) 1000 others_else (vs := [.int .i64 d]) ⟨_, _, rfl, rfl, rfl⟩ (Rh.empty w) (by simp)
    intro c b hm
    simp only [oFacts, List.mem_singleton, Prod.mk.injEq] at hm
    obtain ⟨rfl, rfl⟩ := hm
    simp [C.den, CO.fn, E.den, vals, h]

/-! ### NonceMatchesReference -/
noncomputable abbrev loE : Env := env rvL [] (br (.var 20) 1 ++ loRules (.var 20))
noncomputable abbrev hiE : Env := env rvH [] (br (.var 20) 1 ++ hiRules (.var 20) (.var 21))
def oddFacts : List (C × Bool) := [(.cmp .ne (.op (.andNot .i64) (.var 21) (.lit 1)) (.lit 0), true), (.cmp .eq (.var 21) (.lit 0), false), (.cmp .eq (.var 21) (.lit 1), false)]

theorem matches_00 : isTrue (callV loE (runV loE 1000) 0 [] 6 [.int .i64 (.lit 0), .int .u64 (.var 20)]) = true := by kernel_rfl
theorem matches_10 : isTrue (callV hiE (runV hiE 1000) 0 [] 6 [.int .i64 (.lit 1), .int .u64 (.var 21)]) = true := by kernel_rfl
theorem matches_01 : isTrue (callV (env rvH [] []) (runV (env rvH [] []) 1000) 0 [] 6 [.int .i64 (.lit 0), .int .u64 (.var 20)]) = true := by kernel_rfl
theorem matches_11 : isTrue (callV (env rvH [] []) (runV (env rvH [] []) 1000) 0 [] 6 [.int .i64 (.lit 1), .int .u64 (.var 20)]) = true := by kernel_rfl
theorem matches_odd : isTrue (callV (env rvO oddFacts []) (runV (env rvO oddFacts []) 1000) 0 [] 6 [.int .i64 (.var 21), .int .u64 (.var 20)]) = true := by kernel_rfl

theorem andNot_one {d : Int} (h0 : -9223372036854775808 ≤ d) (h1 : d ≤ 9223372036854775807) (hd0 : d ≠ 0) (hd1 : d ≠ 1) : (IOp.andNot .i64).fn d 1 ≠ 0 := by
  intro h
  have e : (IOp.andNot .i64).fn d 1 = IntKind.wrap .i64 ((BitVec.ofInt 64 d &&& ~~~ BitVec.ofInt 64 1).toNat : Int) := rfl
  rw [e] at h
  have hz : (BitVec.ofInt 64 d &&& ~~~ BitVec.ofInt 64 1).toNat = 0 := by
    have hlt := (BitVec.ofInt 64 d &&& ~~~ BitVec.ofInt 64 1).isLt
    generalize (BitVec.ofInt 64 d &&& ~~~ BitVec.ofInt 64 1).toNat = n at *
    simp only [IntKind.wrap, IntKind.signed, IntKind.bits] at h
    simp at h
    omega
  have hb : BitVec.ofInt 64 d &&& ~~~ BitVec.ofInt 64 1 = 0#64 := BitVec.eq_of_toNat_eq hz
  have hbit : ∀ i, 0 < i → i < 64 → (BitVec.ofInt 64 d).getLsbD i = false := by
    intro i hi hi'
    have := congrArg (fun b : BitVec 64 => b.getLsbD i) hb
    have h1 : (BitVec.ofInt 64 1).getLsbD i = false := by
      rw [show BitVec.ofInt 64 1 = 1#64 from rfl]
      simp [BitVec.getLsbD_one]; omega
    simp only [BitVec.getLsbD_and, BitVec.getLsbD_not, h1, hi', BitVec.getLsbD_zero, decide_true, Bool.not_false, Bool.and_true] at this
    exact this
  have hlow : (BitVec.ofInt 64 d).toNat < 2 := by
    have : (BitVec.ofInt 64 d).toNat < 2 ^ 1 := by
      refine Nat.lt_pow_two_of_testBit _ fun i hi => ?_
      rw [BitVec.testBit_toNat]
      by_cases h64 : i < 64
      · exact hbit i (by omega) h64
      · exact BitVec.getLsbD_of_ge _ _ (by omega)
    simpa using this
  rw [BitVec.toNat_ofInt] at hlow
  omega

theorem matches_calls (d : Int) (hd : (Lit.int .i64 d).wf = true) (s : Int) (hs : (Lit.int .u64 s).wf = true) (w : World) : Calls Try.prog 6 #[.int .i64 d, .int .u64 s] w fun e w' => e = .returned (.bool true) ∧ Below w.heap.size w w' := by
  obtain ⟨x, rfl, hx⟩ := wf64 hs
  have hd' : -9223372036854775808 ≤ d ∧ d ≤ 9223372036854775807 := by simpa [Lit.wf, IntKind.min, IntKind.max, IntKind.signed, IntKind.bits] using hd
  by_cases h0 : d = 0
  · subst h0
    by_cases hlo : x < 9223372036854775808
    · exact true_calls (ρ := vals (numV x)) (lo_env hlo [] (by simp)) 1000 matches_00 (vs := [.int .i64 0, .int .u64 x]) ⟨_, _, rfl, rfl, _, _, rfl, by simp [Rv, E.den, vals, numV], rfl⟩ (Rh.empty w) (by simp)
    · exact true_calls (ρ := vals (numV x)) (env_ok (rvH_ok x (by omega) hx) (by simp) (by simp)) 1000 matches_01 (vs := [.int .i64 0, .int .u64 x]) ⟨_, _, rfl, rfl, _, _, rfl, by simp [Rv, E.den, vals, numV], rfl⟩ (Rh.empty w) (by simp)
  · by_cases h1 : d = 1
    · subst h1
      by_cases hlo : x < 9223372036854775808
      · refine true_calls (ρ := vals (numV (9223372036854775808 + x))) (hi_env (by omega) (by omega) [] (by simp)) 1000 matches_10 (vs := [.int .i64 1, .int .u64 x]) ⟨_, _, rfl, rfl, _, _, rfl, ?_, rfl⟩ (Rh.empty w) (by simp)
        simp [Rv, E.den, vals, numV]; omega
      · exact true_calls (ρ := vals (numV x)) (env_ok (rvH_ok x (by omega) hx) (by simp) (by simp)) 1000 matches_11 (vs := [.int .i64 1, .int .u64 x]) ⟨_, _, rfl, rfl, _, _, rfl, by simp [Rv, E.den, vals, numV], rfl⟩ (Rh.empty w) (by simp)
    · refine true_calls (ρ := vals fun i => if i = 20 then x else d) (env_ok ?_ ?_ (by simp)) 1000 matches_odd (vs := [.int .i64 d, .int .u64 x]) ⟨_, _, rfl, rfl, _, _, rfl, by simp [Rv, E.den, vals], rfl⟩ (Rh.empty w) (by simp)
      · intro i r h
        unfold rvO at h
        split at h
        · cases h; rename_i hi; subst hi; simp [vals]; omega
        · rename_i h20
          split at h
          · cases h; rename_i hi; subst hi; simp [vals]; omega
          · cases h
      · intro c b hm
        simp only [oddFacts, List.mem_cons, List.mem_nil_iff, or_false, Prod.mk.injEq] at hm
        rcases hm with ⟨rfl, rfl⟩ | ⟨rfl, rfl⟩ | ⟨rfl, rfl⟩
        · have := andNot_one hd'.1 hd'.2 h0 h1
          simp [C.den, CO.fn, E.den, vals, this]
        · simp [C.den, CO.fn, E.den, vals, h0]
        · simp [C.den, CO.fn, E.den, vals, h1]

/-! ### NonceParses -/
def zs (k : Nat) : List SVal := List.replicate k (.int .u8 (.lit 0))
def bs (n : Nat) : List SVal := (List.range' 1 n).map fun i => .int .u8 (.var i)
def nzFacts : List (C × Bool) := [(.cmp .eq (.var 1) (.lit 0), false), (.cmp .ne (.var 1) (.lit 0), true)]
def rvP (i : Nat) : Option (Int × Int) := if i < 20 then some (0, 255) else none

theorem parses_lo : isTrue (callV loE (runV loE 1000) 0 [] 7 [.agg (zs 4 ++ bs 8)]) = true := by kernel_rfl
theorem parses_hi : isTrue (callV hiE (runV hiE 1000) 0 [] 7 [.agg (zs 4 ++ bs 8)]) = true := by kernel_rfl
theorem parses_0 : isTrue (callV (env rvP nzFacts []) (runV (env rvP nzFacts []) 1000) 0 [] 7 [.agg (zs 0 ++ bs 12)]) = true := by kernel_rfl
theorem parses_1 : isTrue (callV (env rvP nzFacts []) (runV (env rvP nzFacts []) 1000) 0 [] 7 [.agg (zs 1 ++ bs 11)]) = true := by kernel_rfl
theorem parses_2 : isTrue (callV (env rvP nzFacts []) (runV (env rvP nzFacts []) 1000) 0 [] 7 [.agg (zs 2 ++ bs 10)]) = true := by kernel_rfl
theorem parses_3 : isTrue (callV (env rvP nzFacts []) (runV (env rvP nzFacts []) 1000) 0 [] 7 [.agg (zs 3 ++ bs 9)]) = true := by kernel_rfl

theorem zs_rel {ρ : Val} {φ : Phi} : ∀ {k : Nat} {l : List SVal} {ns : List Int}, RvL ρ φ l (ns.map (Value.int .u8)) → RvL ρ φ (zs k ++ l) ((List.replicate k 0 ++ ns).map (Value.int .u8))
  | 0, _, _, h => h
  | _ + 1, _, _, h => ⟨_, _, rfl, rfl, zs_rel h⟩

/-- with a byte that is not 0 behind k zeros -/
theorem parses_odd {k : Nat} {ms : List Int} (hlen : 0 < ms.length) (h0 : ms[0] ≠ 0) (hb : ∀ x ∈ ms, 0 ≤ x ∧ x ≤ 255)
    (h : isTrue (callV (env rvP nzFacts []) (runV (env rvP nzFacts []) 1000) 0 [] 7 [.agg (zs k ++ bs ms.length)]) = true) (w : World) :
    Calls Try.prog 7 #[.agg ⟨(List.replicate k 0 ++ ms).map (Value.int .u8)⟩] w fun e w' => e = .returned (.bool true) ∧ Below w.heap.size w w' := by
  have hΓ : EnvOk (env rvP nzFacts []) (vals fun i => ms.getD (i - 1) 0) := by
    refine env_ok ?_ ?_ (by simp)
    · intro i r h
      unfold rvP at h
      split at h
      · cases h
        show 0 ≤ ms.getD (i - 1) 0 ∧ ms.getD (i - 1) 0 ≤ 255
        rw [List.getD_eq_getElem?_getD]
        by_cases hi : i - 1 < ms.length
        · rw [List.getElem?_eq_getElem hi]; exact hb _ (List.getElem_mem hi)
        · rw [List.getElem?_eq_none (by omega)]; decide
      · cases h
    · have e : (vals fun i => ms.getD (i - 1) 0).int 1 = ms[0] := by
        show ms.getD 0 0 = _
        rw [List.getD_eq_getElem?_getD, List.getElem?_eq_getElem hlen]; rfl
      intro c b hm
      simp only [nzFacts, List.mem_cons, List.mem_nil_iff, or_false, Prod.mk.injEq] at hm
      rcases hm with ⟨rfl, rfl⟩ | ⟨rfl, rfl⟩
      · simp only [C.den, CO.fn, E.den, e, beq_eq_false_iff_ne]; exact h0
      · simp only [C.den, CO.fn, E.den, e, bne_iff_ne]; exact h0
  have hrel : RvL (vals fun i => ms.getD (i - 1) 0) [] (bs ms.length) (ms.map (Value.int .u8)) := bytes_rel _ 1 ms fun i hi => by
    show ms.getD (1 + i - 1) 0 = ms[i]
    rw [List.getD_eq_getElem?_getD, Nat.add_sub_cancel_left, List.getElem?_eq_getElem hi]; rfl
  exact true_calls hΓ 1000 h ⟨_, _, rfl, ⟨_, rfl, zs_rel hrel⟩, rfl⟩ (Rh.empty w) (by simp)

theorem bytes8' {x x1 x2 x3 x4 x5 x6 a b c d e f g h : Nat} (ha : a < 256) (hb : b < 256) (hc : c < 256) (hd : d < 256) (he : e < 256) (hf : f < 256) (hg : g < 256) (hh : h < 256)
    (e0 : x = x1 * 256 + h) (e1 : x1 = x2 * 256 + g) (e2 : x2 = x3 * 256 + f) (e3 : x3 = x4 * 256 + e) (e4 : x4 = x5 * 256 + d) (e5 : x5 = x6 * 256 + c) (e6 : x6 = a * 256 + b) :
    x < 18446744073709551616 ∧ byteN x 0 = a ∧ byteN x 1 = b ∧ byteN x 2 = c ∧ byteN x 3 = d ∧ byteN x 4 = e ∧ byteN x 5 = f ∧ byteN x 6 = g ∧ byteN x 7 = h := by
  refine ⟨by omega, ?_, ?_, ?_, ?_, ?_, ?_, ?_, ?_⟩ <;> simp only [byteN] <;> omega

theorem bytes8 (a b c d e f g h : Nat) (ha : a < 256) (hb : b < 256) (hc : c < 256) (hd : d < 256) (he : e < 256) (hf : f < 256) (hg : g < 256) (hh : h < 256) :
    ∃ x : Nat, x < 18446744073709551616 ∧ byteN x 0 = a ∧ byteN x 1 = b ∧ byteN x 2 = c ∧ byteN x 3 = d ∧ byteN x 4 = e ∧ byteN x 5 = f ∧ byteN x 6 = g ∧ byteN x 7 = h :=
  ⟨_, bytes8' ha hb hc hd he hf hg hh rfl rfl rfl rfl rfl rfl rfl⟩

/-- eight bytes are those of a number -/
theorem number8 {ms : List Int} (hlen : ms.length = 8) (hb : ∀ x ∈ ms, 0 ≤ x ∧ x ≤ 255) : ∃ x : Nat, x < 18446744073709551616 ∧ ∀ i (h : i < ms.length), (vals (numV x)).int (1 + i) = ms[i] := by
  match ms, hlen with
  | [a, b, c, d, e, f, g, h], _ =>
    simp only [List.mem_cons, List.mem_nil_iff, or_false, forall_eq_or_imp, forall_eq] at hb
    obtain ⟨a1, b1, c1, d1, e1, f1, g1, h1⟩ := hb
    obtain ⟨x, hx, x0, x1, x2, x3, x4, x5, x6, x7⟩ := bytes8 a.toNat b.toNat c.toNat d.toNat e.toNat f.toNat g.toNat h.toNat (by omega) (by omega) (by omega) (by omega) (by omega) (by omega) (by omega) (by omega)
    refine ⟨x, hx, ?_⟩
    intro i hi
    have hi' : i < 8 := hi
    rw [numV_byte _ i hi']
    match i, hi' with
    | 0, _ => rw [x0]; exact Int.toNat_of_nonneg a1.1
    | 1, _ => rw [x1]; exact Int.toNat_of_nonneg b1.1
    | 2, _ => rw [x2]; exact Int.toNat_of_nonneg c1.1
    | 3, _ => rw [x3]; exact Int.toNat_of_nonneg d1.1
    | 4, _ => rw [x4]; exact Int.toNat_of_nonneg e1.1
    | 5, _ => rw [x5]; exact Int.toNat_of_nonneg f1.1
    | 6, _ => rw [x6]; exact Int.toNat_of_nonneg g1.1
    | 7, _ => rw [x7]; exact Int.toNat_of_nonneg h1.1

theorem parses_even {ms : List Int} (hlen : ms.length = 8) (hb : ∀ x ∈ ms, 0 ≤ x ∧ x ≤ 255) (w : World) :
    Calls Try.prog 7 #[.agg ⟨(List.replicate 4 0 ++ ms).map (Value.int .u8)⟩] w fun e w' => e = .returned (.bool true) ∧ Below w.heap.size w w' := by
  obtain ⟨x, hx, hi⟩ := number8 hlen hb
  have hrel : RvL (vals (numV x)) [] [.agg (zs 4 ++ bs 8)] [.agg ⟨(List.replicate 4 0 ++ ms).map (Value.int .u8)⟩] := by
    have := bytes_rel (φ := []) (vals (numV x)) 1 ms hi
    rw [hlen] at this
    exact ⟨_, _, rfl, ⟨_, rfl, zs_rel this⟩, rfl⟩
  by_cases hlo : x < 9223372036854775808
  · exact true_calls (lo_env hlo [] (by simp)) 1000 parses_lo hrel (Rh.empty w) (by simp)
  · exact true_calls (hi_env (by omega) hx [] (by simp)) 1000 parses_hi hrel (Rh.empty w) (by simp)

theorem parses_calls (ns : List Int) (hlen : ns.length = 12) (hb : ∀ x ∈ ns, 0 ≤ x ∧ x ≤ 255) (w : World) :
    Calls Try.prog 7 #[.agg ⟨ns.map (Value.int .u8)⟩] w fun e w' => e = .returned (.bool true) ∧ Below w.heap.size w w' := by
  have key : (∃ k ms, ns = List.replicate k 0 ++ ms ∧ (∃ h : 0 < ms.length, ms[0] ≠ 0) ∧ (k = 0 ∧ ms.length = 12 ∨ k = 1 ∧ ms.length = 11 ∨ k = 2 ∧ ms.length = 10 ∨ k = 3 ∧ ms.length = 9)) ∨
      ∃ ms, ns = List.replicate 4 0 ++ ms ∧ ms.length = 8 := by
    match ns, hlen with
    | a :: b :: c :: d :: ms, hlen =>
      have hm : ms.length = 8 := by simpa using hlen
      by_cases ha : a = 0
      · by_cases hb' : b = 0
        · by_cases hc : c = 0
          · by_cases hd : d = 0
            · exact .inr ⟨ms, by rw [ha, hb', hc, hd]; rfl, hm⟩
            · exact .inl ⟨3, d :: ms, by rw [ha, hb', hc]; rfl, ⟨by simp, hd⟩, by simp [hm]⟩
          · exact .inl ⟨2, c :: d :: ms, by rw [ha, hb']; rfl, ⟨by simp, hc⟩, by simp [hm]⟩
        · exact .inl ⟨1, b :: c :: d :: ms, by rw [ha]; rfl, ⟨by simp, hb'⟩, by simp [hm]⟩
      · exact .inl ⟨0, a :: b :: c :: d :: ms, rfl, ⟨by simp, ha⟩, by simp [hm]⟩
  rcases key with ⟨k, ms, rfl, ⟨h0, h1⟩, hk⟩ | ⟨ms, rfl, hm⟩
  · refine parses_odd h0 h1 (fun x hx => hb x (List.mem_append.2 (.inr hx))) ?_ w
    rcases hk with ⟨rfl, e⟩ | ⟨rfl, e⟩ | ⟨rfl, e⟩ | ⟨rfl, e⟩
    · rw [e]; exact parses_0
    · rw [e]; exact parses_1
    · rw [e]; exact parses_2
    · rw [e]; exact parses_3
  · exact parses_even hm (fun x hx => hb x (List.mem_append.2 (.inr hx))) w

/-! ### NonceApart -/
def aRv (d e : Bool) (i : Nat) : Option (Int × Int) :=
  if i < 30 then (bif d then rvH i else rvL i) else (bif e then rvH (i - 30) else rvL (i - 30))
def aRw (d e : Bool) : List (E × E) :=
  (br (.var 20) 1 ++ bif d then hiRules (.var 20) (.var 21) else loRules (.var 20)) ++ (br (.var 50) 31 ++ bif e then hiRules (.var 50) (.var 51) else loRules (.var 50))
def aVal (x y : Nat) (i : Nat) : Int := if i < 30 then numV x i else numV y (i - 30)
def sameBytes : C := .and (.cmp .eq (.var 1) (.var 31)) (.and (.cmp .eq (.var 2) (.var 32)) (.and (.cmp .eq (.var 3) (.var 33)) (.and (.cmp .eq (.var 4) (.var 34)) (.and (.cmp .eq (.var 5) (.var 35)) (.and (.cmp .eq (.var 6) (.var 36)) (.and (.cmp .eq (.var 7) (.var 37)) (.cmp .eq (.var 8) (.var 38))))))))
def aFacts : List (C × Bool) := [(.iff sameBytes (.cmp .eq (.var 21) (.var 51)), true), (.iff sameBytes (.cmp .eq (.var 20) (.var 50)), true)]
noncomputable abbrev aE (d e : Bool) : Env := env (aRv d e) (bif d == e then aFacts else []) (aRw d e)
def aArgs (d e : Bool) : List SVal := [.bool (.lit d), .int .u64 (bif d then .var 21 else .var 20), .bool (.lit e), .int .u64 (bif e then .var 51 else .var 50)]

theorem apart_tt : isTrue (callV (aE true true) (runV (aE true true) 1000) 0 [] 3 (aArgs true true)) = true := by kernel_rfl
theorem apart_tf : isTrue (callV (aE true false) (runV (aE true false) 1000) 0 [] 3 (aArgs true false)) = true := by kernel_rfl
theorem apart_ft : isTrue (callV (aE false true) (runV (aE false true) 1000) 0 [] 3 (aArgs false true)) = true := by kernel_rfl
theorem apart_ff : isTrue (callV (aE false false) (runV (aE false false) 1000) 0 [] 3 (aArgs false false)) = true := by kernel_rfl

def farRv (i : Nat) : Option (Int × Int) := if i = 0 then some (9223372036854775808, 18446744073709551615) else if i = 1 then some (0, 9223372036854775807) else none
theorem apart_far0 : isTrue (callV (env farRv [] []) (runV (env farRv [] []) 1000) 0 [] 3 [.bool (.var 0), .int .u64 (.var 0), .bool (.var 1), .int .u64 (.var 2)]) = true := by kernel_rfl
theorem apart_far1 : isTrue (callV (env farRv [] []) (runV (env farRv [] []) 1000) 0 [] 3 [.bool (.var 0), .int .u64 (.var 1), .bool (.var 1), .int .u64 (.var 0)]) = true := by kernel_rfl

theorem sameBytes_iff (x y : Nat) : sameBytes.den (vals (aVal x y)) = decide (x = y) := by
  rw [Bool.eq_iff_iff]
  simp only [sameBytes, C.den, CO.fn, E.den, vals, aVal, numV, byteN, Bool.and_eq_true, beq_iff_eq, decide_eq_true_eq]
  simp
  omega

theorem aEnv_ok (d e : Bool) {x y : Nat} (hx : x < 18446744073709551616) (hy : y < 18446744073709551616) (hd : d = decide (9223372036854775808 ≤ x)) (he : e = decide (9223372036854775808 ≤ y)) : EnvOk (aE d e) (vals (aVal x y)) := by
  have hb1 : ∀ i, i < 8 → (vals (aVal x y)).int (1 + i) = byteN x i := fun i hi => by
    rw [← numV_byte x i hi]; simp only [vals, aVal]; rw [if_pos (by omega)]
  have hb2 : ∀ i, i < 8 → (vals (aVal x y)).int (31 + i) = byteN y i := fun i hi => by
    rw [← numV_byte y i hi]; simp only [vals, aVal]; rw [if_neg (by omega)]; congr 1; omega
  have e20 : (E.var 20).den (vals (aVal x y)) = (x : Int) := by simp [E.den, vals, aVal, numV]
  have e50 : (E.var 50).den (vals (aVal x y)) = (y : Int) := by simp [E.den, vals, aVal, numV]
  have e21 : (E.var 21).den (vals (aVal x y)) = ((x % 9223372036854775808 : Nat) : Int) := by simp [E.den, vals, aVal, numV]
  have e51 : (E.var 51).den (vals (aVal x y)) = ((y % 9223372036854775808 : Nat) : Int) := by simp [E.den, vals, aVal, numV]
  refine env_ok ?_ ?_ ?_
  · intro i r h
    unfold aRv at h
    simp only [vals, aVal]
    split at h
    · rename_i hi
      rw [if_pos hi]
      cases d with
      | true => exact rvH_ok x (by simpa using hd.symm) hx i r h
      | false => exact rvL_ok x (by simpa using hd.symm) i r h
    · rename_i hi
      rw [if_neg hi]
      cases e with
      | true => exact rvH_ok y (by simpa using he.symm) hy (i - 30) r h
      | false => exact rvL_ok y (by simpa using he.symm) (i - 30) r h
  · intro c b hm
    cases hde : (d == e) with
    | false => rw [hde] at hm; cases hm
    | true =>
      rw [hde] at hm
      have hde' : d = e := by simpa using hde
      subst hde'
      have hm' : (c, b) ∈ aFacts := hm
      simp only [aFacts, List.mem_cons, List.mem_nil_iff, or_false, Prod.mk.injEq] at hm'
      rcases hm' with ⟨rfl, rfl⟩ | ⟨rfl, rfl⟩
      · rw [C.den, sameBytes_iff x y, C.den, e21, e51]
        have : (9223372036854775808 ≤ x) ↔ (9223372036854775808 ≤ y) := by rw [hd] at he; simpa using he
        simp only [CO.fn]
        rw [beq_iff_eq, Bool.eq_iff_iff]
        simp
        omega
      · rw [C.den, sameBytes_iff x y, C.den, e20, e50]
        simp only [CO.fn]
        rw [beq_iff_eq, Bool.eq_iff_iff]
        simp
        omega
  · intro p hp
    rcases List.mem_append.1 hp with hp | hp
    · rcases List.mem_append.1 hp with hp | hp
      · exact br_ok e20 hx hb1 p hp
      · cases d with
        | true =>
          have h0 : 9223372036854775808 ≤ x := by simpa using hd.symm
          exact hiRules_ok (z := x % 9223372036854775808) (by rw [e20]; congr 1; omega) e21 (by omega) p hp
        | false =>
          have h0 : x < 9223372036854775808 := by simpa using hd.symm
          exact loRules_ok e20 h0 p hp
    · rcases List.mem_append.1 hp with hp | hp
      · exact br_ok e50 hy hb2 p hp
      · cases e with
        | true =>
          have h0 : 9223372036854775808 ≤ y := by simpa using he.symm
          exact hiRules_ok (z := y % 9223372036854775808) (by rw [e50]; congr 1; omega) e51 (by omega) p hp
        | false =>
          have h0 : y < 9223372036854775808 := by simpa using he.symm
          exact loRules_ok e50 h0 p hp

theorem apart_near (d e : Bool) (x y : Nat) (hx : x < 9223372036854775808) (hy : y < 9223372036854775808) (w : World) :
    Calls Try.prog 3 #[.bool d, .int .u64 x, .bool e, .int .u64 y] w fun e w' => e = .returned (.bool true) ∧ Below w.heap.size w w' := by
  cases d <;> cases e
  · refine true_calls (aEnv_ok false false (x := x) (y := y) (by omega) (by omega) (by simp; omega) (by simp; omega)) 1000 apart_ff (vs := [.bool false, .int .u64 x, .bool false, .int .u64 y]) ⟨_, _, rfl, rfl, _, _, rfl, ?_, _, _, rfl, rfl, _, _, rfl, ?_, rfl⟩ (Rh.empty w) (by simp)
    · simp [Rv, E.den, vals, aVal, numV]
    · simp [Rv, E.den, vals, aVal, numV]
  · refine true_calls (aEnv_ok false true (x := x) (y := 9223372036854775808 + y) (by omega) (by omega) (by simp; omega) (by simp)) 1000 apart_ft (vs := [.bool false, .int .u64 x, .bool true, .int .u64 y]) ⟨_, _, rfl, rfl, _, _, rfl, ?_, _, _, rfl, rfl, _, _, rfl, ?_, rfl⟩ (Rh.empty w) (by simp)
    · simp [Rv, E.den, vals, aVal, numV]
    · simp [Rv, E.den, vals, aVal, numV]; omega
  · refine true_calls (aEnv_ok true false (x := 9223372036854775808 + x) (y := y) (by omega) (by omega) (by simp) (by simp; omega)) 1000 apart_tf (vs := [.bool true, .int .u64 x, .bool false, .int .u64 y]) ⟨_, _, rfl, rfl, _, _, rfl, ?_, _, _, rfl, rfl, _, _, rfl, ?_, rfl⟩ (Rh.empty w) (by simp)
    · simp [Rv, E.den, vals, aVal, numV]; omega
    · simp [Rv, E.den, vals, aVal, numV]
  · refine true_calls (aEnv_ok true true (x := 9223372036854775808 + x) (y := 9223372036854775808 + y) (by omega) (by omega) (by simp) (by simp)) 1000 apart_tt (vs := [.bool true, .int .u64 x, .bool true, .int .u64 y]) ⟨_, _, rfl, rfl, _, _, rfl, ?_, _, _, rfl, rfl, _, _, rfl, ?_, rfl⟩ (Rh.empty w) (by simp)
    · simp [Rv, E.den, vals, aVal, numV]; omega
    · simp [Rv, E.den, vals, aVal, numV]; omega

def farV (d e : Bool) (x y z : Int) : Val := { int := fun i => if i = 0 then x else if i = 1 then y else z, bool := fun i => if i = 0 then d else e, app := fun _ _ => 0 }

theorem apart_calls (d : Bool) (a : Int) (ha : (Lit.int .u64 a).wf = true) (e : Bool) (b : Int) (hb : (Lit.int .u64 b).wf = true) (w : World) :
    Calls Try.prog 3 #[.bool d, .int .u64 a, .bool e, .int .u64 b] w fun e w' => e = .returned (.bool true) ∧ Below w.heap.size w w' := by
  obtain ⟨x, rfl, hx⟩ := wf64 ha
  obtain ⟨y, rfl, hy⟩ := wf64 hb
  by_cases h1 : x < 9223372036854775808
  · by_cases h2 : y < 9223372036854775808
    · exact apart_near d e x y h1 h2 w
    · refine true_calls (ρ := farV d e y x 0) (env_ok ?_ (by simp) (by simp)) 1000 apart_far1 (vs := [.bool d, .int .u64 x, .bool e, .int .u64 y])
        ⟨_, _, rfl, by simp [Rv, C.den, farV], _, _, rfl, by simp [Rv, E.den, farV], _, _, rfl, by simp [Rv, C.den, farV], _, _, rfl, by simp [Rv, E.den, farV], rfl⟩ (Rh.empty w) (by simp)
      intro i r h
      unfold farRv at h
      split at h
      · cases h; rename_i hi; subst hi; simp [farV]; omega
      · split at h
        · cases h; rename_i hi; subst hi; simp [farV]; omega
        · cases h
  · refine true_calls (ρ := farV d e x 0 y) (env_ok ?_ (by simp) (by simp)) 1000 apart_far0 (vs := [.bool d, .int .u64 x, .bool e, .int .u64 y])
        ⟨_, _, rfl, by simp [Rv, C.den, farV], _, _, rfl, by simp [Rv, E.den, farV], _, _, rfl, by simp [Rv, C.den, farV], _, _, rfl, by simp [Rv, E.den, farV], rfl⟩ (Rh.empty w) (by simp)
    intro i r h
    unfold farRv at h
    split at h
    · cases h; rename_i hi; subst hi; simp [farV]; omega
    · split at h
      · cases h; rename_i hi; subst hi; simp [farV]
      · cases h


/-! ### A window on a block that comes in -/
theorem window {ρ : Val} {φ : Phi} {cs : List SVal} {w : World} {a off : Nat} {c : Array Value} {el : TypeId} {fr : Nat × Nat} {vs : List Value} (hb : w.heap[a]? = some (.cells c el fr)) (hoff : off ≤ c.size)
    (hv : ∃ tl, c.toList.drop off = vs ++ tl) (h : RvL ρ φ cs vs) : Robj ρ φ (.cells cs false false) (a, c.size - off, off) w := by
  obtain ⟨tl, ht⟩ := hv
  refine ⟨c.toList.take off, vs, tl, el, fr, ?_, by simp; omega, (fun h => by cases h), (fun h => by cases h), h, ?_⟩
  · rw [← ht, List.take_append_drop]
    exact hb
  · have := congrArg List.length ht
    simp only [List.length_drop, List.length_append, Array.length_toList] at this
    show vs.length + tl.length = c.size - off
    omega

/-! ### NonceHeads -/
def rvS (lo hi : Int) (i : Nat) : Option (Int × Int) := if i = 30 then some (lo, hi) else none
def rvH8 (i : Nat) : Option (Int × Int) := if i = 30 then some (8, 100) else rvH i
def rvL8 (i : Nat) : Option (Int × Int) := if i = 30 then some (8, 100) else rvL i
def numL (x n : Nat) (i : Nat) : Int := if i = 30 then n else numV x i
def sl : SVal := .slice (some (0, 0)) (.var 30) .any
noncomputable abbrev shortE : Env := env (rvS 0 7) [] []
noncomputable abbrev longE : Env := env (rvS 101 9223372036854775807) [] []
noncomputable abbrev lo8 : Env := env rvL8 [] (br (.var 20) 1 ++ loRules (.var 20))
noncomputable abbrev hi8 : Env := env rvH8 [] (br (.var 20) 1 ++ hiRules (.var 20) (.var 21))
theorem heads_nil : isTrue (callV shortE (runV shortE 1000) 0 [] 5 [.slice none (.lit 0) (.known 0)]) = true := by kernel_rfl
theorem heads_short : isTrue (callV shortE (runV shortE 1000) 0 [.dead false] 5 [sl]) = true := by kernel_rfl
theorem heads_long : isTrue (callV longE (runV longE 1000) 0 [.dead false] 5 [sl]) = true := by kernel_rfl
theorem heads_lo : isTrue (callV lo8 (runV lo8 1000) 0 [.cells (bs 8) false false] 5 [sl]) = true := by kernel_rfl
theorem heads_hi : isTrue (callV hi8 (runV hi8 1000) 0 [.cells (bs 8) false false] 5 [sl]) = true := by kernel_rfl

theorem one_rh {ρ : Val} {o : SObj} {b : Nat × Nat × Nat} {w : World} (hlt : b.1 < w.heap.size) (h : Robj ρ [b] o b w) : Rh ρ [b] [o] w := by
  refine ⟨rfl, fun c hc => ?_, ?_, ?_⟩
  · rw [List.mem_singleton.1 hc]; exact hlt
  · intro i j o o' b b' _ _ _ _ hb hb' _
    have h1 := (List.getElem?_eq_some_iff.1 hb).1
    have h2 := (List.getElem?_eq_some_iff.1 hb').1
    simp at h1 h2
    omega
  · intro i o' b' hi hb
    have h1 := (List.getElem?_eq_some_iff.1 hb).1
    simp at h1
    subst h1
    obtain rfl : b = b' := by simpa using hb
    obtain rfl : o = o' := by simpa using hi
    exact h
theorem one_ro {o : SObj} (h : o.rw = false) : ∀ (i : Nat) o', [o][i]? = some o' → o'.rw = false := by
  intro i o' hi
  have h1 := (List.getElem?_eq_some_iff.1 hi).1
  simp at h1
  subst h1
  obtain rfl : o = o' := by simpa using hi
  exact h

theorem numL_old (x n : Nat) {i : Nat} (h : i ≠ 30) : numL x n i = numV x i := by unfold numL; rw [if_neg h]
theorem numL_byte (x n : Nat) : ∀ i, i < 8 → (vals (numL x n)).int (1 + i) = byteN x i := by
  intro i hi
  have := numV_byte x i hi
  simp only [vals] at this ⊢
  rw [numL_old x n (by omega)]; exact this

theorem heads_calls {H : Type} {enc : TypeId × Value → H} {W : World} {base : Nat} {d : DataW H} {ps : List MemPlace} (v : Value) (hok : Value.okWide Try.prog W .any base 30 v) (hd : DataW.Trod enc Try.prog W 0 (fun _ => true) true 30 v d ps) :
    Calls Try.prog 5 #[v] W fun e w' => e = .returned (.bool true) ∧ Below W.heap.size W w' := by
  obtain ⟨fuel, hf⟩ := hd
  rcases open_ints Try.underlying30 Try.underlying5 (by kernel_rfl) hf with ⟨hv, _⟩ | ⟨a, len, cap, zs, hv, _, hlc, hcm, hzl, _, hcell, hwf⟩
  · have hv' : v = .slice none 0 0 := by
      have hc := okWide_slice Try.underlying30 hok
      obtain ⟨a, l, c, rfl⟩ := hc
      simpa [Value.cells] using hv
    subst hv'
    exact true_calls (ρ := vals fun _ => 0) (env_ok (by
      intro i r h
      unfold rvS at h
      split at h
      · cases h; simp [vals]
      · cases h) (by simp) (by simp)) 1000 heads_nil (vs := [.slice none 0 0]) ⟨_, _, rfl, ⟨0, 0, rfl, rfl, Nat.le_refl _, fun m hm => by cases hm; rfl⟩, rfl⟩ (Rh.empty W) (by simp)
  · have hv' : v = .slice (some a) len cap := by
      have hc := okWide_slice Try.underlying30 hok
      obtain ⟨a, l, c, rfl⟩ := hc
      simpa [Value.cells] using hv
    subst hv'
    have hhas : len ≤ cap ∧ (cap : Int) ≤ IntKind.i64.max ∧ W.has Try.prog .any base a 5 cap := by
      have h := hok
      simp only [Value.okWide, Try.underlying30, Cell.okWide, Cell.ok] at h
      exact h
    obtain ⟨_, hmax, _, hspot, row, n, hsh, _⟩ := hhas
    have hmax : (cap : Int) ≤ 9223372036854775807 := by simpa [IntKind.max, IntKind.signed, IntKind.bits] using hmax
    obtain ⟨blk, off, spot⟩ := a
    simp only at hspot
    subst hspot
    have hblk : ∃ c el fr, W.heap[blk]? = some (.cells c el fr) := by
      unfold World.shape? at hsh
      simp only at hsh
      split at hsh
      · rename_i c el fr h; exact ⟨c, el, fr, h⟩
      · cases hsh
    obtain ⟨c, el, fr, hheap⟩ := hblk
    have hlt : blk < W.heap.size := (Array.getElem?_eq_some_iff.1 hheap).1
    have hzl : zs.length = cap := by simpa using hzl
    have plain : ∀ (lo hi : Int), lo ≤ len → (len : Int) ≤ hi → isTrue (callV (env (rvS lo hi) [] []) (runV (env (rvS lo hi) [] []) 1000) 0 [.dead false] 5 [sl]) = true →
        Calls Try.prog 5 #[.slice (some ⟨blk, off, none⟩) len cap] W fun e w' => e = .returned (.bool true) ∧ Below W.heap.size W w' := by
      intro lo hi h1 h2 he
      refine true_calls (ρ := vals fun _ => len) (env_ok (by
        intro i r h
        unfold rvS at h
        split at h
        · cases h; exact ⟨h1, h2⟩
        · cases h) (by simp) (by simp)) 1000 he (φ := [(blk, 0, off)]) (vs := [.slice (some ⟨blk, off, none⟩) len cap]) ⟨_, _, rfl, ⟨_, len, cap, rfl, rfl, rfl, hlc, trivial⟩, rfl⟩ (one_rh hlt trivial) (one_ro rfl)
    by_cases h7 : len < 8
    · exact plain 0 7 (by omega) (by omega) heads_short
    · by_cases h100 : 100 < len
      · exact plain 101 9223372036854775807 (by omega) (by omega) heads_long
      · -- the first eight bytes
        have hz8 : (zs.take 8).length = 8 := by simp; omega
        have hb : ∀ x ∈ zs.take 8, 0 ≤ x ∧ x ≤ 255 := by
          intro x hx
          have := hwf x (List.mem_of_mem_take hx)
          simpa [Lit.wf, IntKind.min, IntKind.max, IntKind.signed, IntKind.bits] using this
        obtain ⟨x, hx, hi⟩ := number8 hz8 hb
        have hi' : ∀ i (h : i < (zs.take 8).length), (vals (numL x len)).int (1 + i) = (zs.take 8)[i] := by
          intro i h
          have := hi i h
          simp only [vals] at this ⊢
          rw [numL_old x len (by omega)]; exact this
        have hrel : RvL (vals (numL x len)) [(blk, c.size - off, off)] (bs 8) ((zs.take 8).map (Value.int .u8)) := by
          have := bytes_rel (φ := [(blk, c.size - off, off)]) (vals (numL x len)) 1 (zs.take 8) hi'
          rw [hz8] at this
          exact this
        have hget : ∀ i, i < cap → c.toList[off + i]? = some (.int .u8 (zs.getD i 0)) := by
          intro i hi
          have := hcell i (by omega)
          rw [Addr.add_lit] at this
          simp only [World.cell?] at this
          rw [hheap] at this
          simpa using this
        have hoff : off ≤ c.size := by
          have := (List.getElem?_eq_some_iff.1 (hget 0 (by omega))).1
          simp only [Array.length_toList] at this
          omega
        have hwin : ∃ tl, c.toList.drop off = (zs.take 8).map (Value.int .u8) ++ tl := by
          refine ⟨c.toList.drop (off + 8), ?_⟩
          have h8 : (c.toList.drop off).take 8 = (zs.take 8).map (Value.int .u8) := by
            apply List.ext_getElem?
            intro i
            rw [List.getElem?_take]
            by_cases h8 : i < 8
            · rw [if_pos h8, List.getElem?_drop, hget i (by omega), List.getElem?_map, List.getElem?_take, if_pos h8, List.getD_eq_getElem?_getD, List.getElem?_eq_getElem (by omega)]
              rfl
            · rw [if_neg h8, List.getElem?_eq_none (by simp; omega)]
          rw [← h8, ← List.drop_drop, List.take_append_drop]
        have hRh : Rh (vals (numL x len)) [(blk, c.size - off, off)] [.cells (bs 8) false false] W := one_rh hlt (window hheap hoff hwin hrel)
        have hargs : RvL (vals (numL x len)) [(blk, c.size - off, off)] [sl] [.slice (some ⟨blk, off, none⟩) len cap] := ⟨_, _, rfl, ⟨_, len, cap, rfl, rfl, rfl, hlc, trivial⟩, rfl⟩
        have rv8 : ∀ (rv : Nat → Option (Int × Int)), (∀ i r, rv i = some r → r.1 ≤ numV x i ∧ numV x i ≤ r.2) → ∀ i r, (if i = 30 then some (8, 100) else rv i) = some r → r.1 ≤ (vals (numL x len)).int i ∧ (vals (numL x len)).int i ≤ r.2 := by
          intro rv h i r hr
          split at hr
          · rename_i e
            cases hr
            subst e
            have : (vals (numL x len)).int 30 = len := rfl
            rw [this]
            constructor <;> omega
          · rename_i e
            have := h i r hr
            simp only [vals]
            rw [numL_old x len e]; exact this
        by_cases hlo : x < 9223372036854775808
        · exact true_calls (env_ok (rv8 rvL (rvL_ok x hlo)) (by simp) fun p hp => by
            rcases List.mem_append.1 hp with hp | hp
            · exact br_ok (x := x) (by simp [E.den, vals, numL, numV]) (by omega) (numL_byte x len) p hp
            · exact loRules_ok (x := x) (by simp [E.den, vals, numL, numV]) hlo p hp) 1000 heads_lo hargs hRh (one_ro rfl)
        · exact true_calls (env_ok (rv8 rvH (rvH_ok x (by omega) hx)) (by simp) fun p hp => by
            rcases List.mem_append.1 hp with hp | hp
            · exact br_ok (x := x) (by simp [E.den, vals, numL, numV]) (by omega) (numL_byte x len) p hp
            · exact hiRules_ok (z := x % 9223372036854775808) (by simp [E.den, vals, numL, numV]; omega) (by simp [E.den, vals, numL, numV]) (by omega) p hp) 1000 heads_hi hargs hRh (one_ro rfl)

set_option maxRecDepth 100000 in
theorem heads_lifted (os : Os) (started : os.Started) (H : Type) (enc : TypeId × Value → H) :
    ReturnsInHanded {} Try.checked os 5 .any (Rows.nonceHeadsSpec.pre6 enc Try.prog Try.f5 Rows.nonceHeadsRow.domain false) (Rows.nonceHeadsSpec.post enc Try.prog Try.f5 false true false false) := by
  refine returnsInHanded_of_change (C := Try.checked) own started (by kernel_rfl) Try.func5
    (ChangeSpec.witness6 (enc := enc) (C := Try.checked) false ⟨#[], #[.slice none 0 0], []⟩ 8 (by kernel_rfl) (by kernel_rfl) (by kernel_rfl) (by kernel_rfl)) ?_
  intro W base args ds gs before hval0 hW _ _
  have hval : ∀ (j : Nat) t v, Try.f5.params[j]? = some t → args[j]? = some v → Value.okWide Try.prog W .any base t v := hval0
  have hW' := hW
  obtain ⟨p, q, hA0, hV, rfl, hfz, hnd⟩ := hW
  have hA : DataW.TrodAll enc Try.prog W 0 (fun _ => true) true Try.f5.params.toList args.toList ds p := hA0
  rw [Try.params5] at hA hval
  obtain ⟨v0, vs0, d0, ds0, p0, q0, hargs, rfl, rfl, h0, r0⟩ := trodAll_cons hA
  obtain ⟨rfl, rfl, rfl⟩ := trodAll_nil r0
  obtain rfl : args = #[v0] := by cases args; simp_all
  refine (heads_calls v0 (hval 0 30 v0 rfl rfl) h0).mono fun e W' ⟨he, hb⟩ => ?_
  exact ⟨_, he, law_post (tb := 4) laidOut rfl Try.underlying4 (by kernel_rfl) (by decide +kernel) (fun ds h => by
    match ds, h with
    | [_], _ => rfl) hW' hb⟩

theorem heads_holds : Rows.NonceHeadsSaid :=
  OpenClaim.holds_of_wide 5 Try.f5 rfl rfl rfl rfl rfl rfl rfl ⟨rfl, rfl, rfl, rfl, rfl⟩ rfl rfl rfl rfl rfl (by kernel_rfl) Try.func5 (by kernel_rfl)
    (of_decide_eq_true (by kernel_rfl)) (by unfold Func.isWrapper; rw [if_neg (of_decide_eq_false (by kernel_rfl))]; exact ⟨rfl, rfl⟩)
    (fun os started H enc _ => heads_lifted os started H enc)

end
end Go.Proofs.Ytdbkhhlojpfggaa
