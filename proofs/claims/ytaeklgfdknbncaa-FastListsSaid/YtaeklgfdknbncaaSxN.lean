/-
  Rewriting by pairs; a number and its bytes. Conditions: none beside the hypotheses of each theorem.
-/
import Derived.Test.YtaeklgfdknbncaaSxL
namespace Go.Sx
noncomputable section
section
variable {ρ : Val}

/-! ## Rewriting by a list of pairs -/
def pairRw : List (E × E) → E → Option E
  | [], _ => none
  | (a, b) :: l, e => bif e.same a then some b else pairRw l e

theorem pairRw_ok : ∀ {l : List (E × E)}, (∀ p ∈ l, p.2.den ρ = p.1.den ρ) → ∀ e e', pairRw l e = some e' → e'.den ρ = e.den ρ
  | [], _, e, e', h => by cases h
  | (a, b) :: l, hl, e, e', h => by
    simp only [pairRw] at h
    cases hs : e.same a with
    | true =>
      rw [hs] at h
      obtain rfl : b = e' := Option.some.inj h
      rw [E.same_eq hs]
      exact hl (a, b) (by simp)
    | false =>
      rw [hs] at h
      exact pairRw_ok (fun p hp => hl p (by simp [hp])) e e' h

/-! ## A number and its bytes -/
def byteAt (X : E) (n : Nat) : E := .op (.conv .u8) (.op (.shr .u64) X (.lit n)) (.lit 0)
def quos (X : E) : Nat → E
  | 0 => X
  | n + 1 => .op (.quo .u64) (quos X n) (.lit 256)
def joinOr (a b : E) : E := .op (.or .u64) (.op (.shl .u64) a (.lit 8)) b
def joinAdd (a b : E) : E := .op (.add .u64) (.op (.mul .u64) a (.lit 256)) b

def bytesRules (X b0 b1 b2 b3 b4 b5 b6 b7 : E) : List (E × E) :=
  [(.op (.shr .u64) X (.lit 56), b0), (byteAt X 48, b1), (byteAt X 40, b2), (byteAt X 32, b3), (byteAt X 24, b4), (byteAt X 16, b5), (byteAt X 8, b6), (.op (.conv .u8) X (.lit 0), b7),
   (.op .rem (quos X 7) (.lit 256), b0), (.op .rem (quos X 6) (.lit 256), b1), (.op .rem (quos X 5) (.lit 256), b2), (.op .rem (quos X 4) (.lit 256), b3),
   (.op .rem (quos X 3) (.lit 256), b4), (.op .rem (quos X 2) (.lit 256), b5), (.op .rem (quos X 1) (.lit 256), b6), (.op .rem X (.lit 256), b7),
   (joinOr (joinOr (joinOr (joinOr (joinOr (joinOr (joinOr b0 b1) b2) b3) b4) b5) b6) b7, X),
   (joinAdd (joinAdd (joinAdd (joinAdd (joinAdd (joinAdd (joinAdd b0 b1) b2) b3) b4) b5) b6) b7, X)]

theorem wrap_u64 {n : Nat} (h : n < 18446744073709551616) : IntKind.wrap .u64 (n : Int) = n := by
  simp [IntKind.wrap, IntKind.signed, IntKind.bits]; omega

theorem fn_shr (x : Nat) (n : Nat) (h : n ≤ 64) : (IOp.shr .u64).fn x n = ((x / 2 ^ n : Nat) : Int) := by
  simp only [IOp.fn, IntKind.bits, Int.toNat_natCast, Nat.min_eq_left h]
  rw [show ((2 : Int) ^ n) = ((2 ^ n : Nat) : Int) by simp, Int.fdiv_eq_ediv_of_nonneg _ (Int.natCast_nonneg _)]
  exact (Int.natCast_ediv _ _).symm

theorem fn_byte (x : Nat) : (IOp.conv .u8).fn (x : Int) 0 = ((x % 256 : Nat) : Int) := by
  simp [IOp.fn, IntKind.wrap, IntKind.signed, IntKind.bits]

theorem fn_rem (x : Nat) : IOp.rem.fn (x : Int) 256 = ((x % 256 : Nat) : Int) := by
  simp [IOp.fn, Int.tmod_eq_emod_of_nonneg]

theorem fn_quo (x : Nat) (h : x < 18446744073709551616) : (IOp.quo .u64).fn (x : Int) 256 = ((x / 256 : Nat) : Int) := by
  have : ((x : Int).tdiv 256) = ((x / 256 : Nat) : Int) := by simp [Int.tdiv_eq_ediv_of_nonneg]
  simp only [IOp.fn, this]
  exact wrap_u64 (by omega)

theorem fn_or64 (a b : Nat) (ha : a < 18446744073709551616) (hb : b < 18446744073709551616) : (IOp.or .u64).fn (a : Int) (b : Int) = ((a ||| b : Nat) : Int) := by
  have h : (IOp.or .u64).fn (a : Int) (b : Int) = IntKind.wrap .u64 ((BitVec.ofInt 64 (a : Int) ||| BitVec.ofInt 64 (b : Int)).toNat : Int) := rfl
  rw [h, BitVec.ofInt_natCast, BitVec.ofInt_natCast, BitVec.toNat_or, BitVec.toNat_ofNat, BitVec.toNat_ofNat, Nat.mod_eq_of_lt ha, Nat.mod_eq_of_lt hb]
  exact wrap_u64 (Nat.or_lt_two_pow (n := 64) ha hb)

theorem fn_joinOr (a b : Nat) (ha : a < 72057594037927936) (hb : b < 256) : (IOp.or .u64).fn ((IOp.shl .u64).fn (a : Int) 8) (b : Int) = ((a * 256 + b : Nat) : Int) := by
  have h1 : (IOp.shl .u64).fn (a : Int) 8 = ((a * 256 : Nat) : Int) := by
    simp only [IOp.fn, IntKind.bits]
    have : (a : Int) * 2 ^ min (Int.toNat 8) 64 = ((a * 256 : Nat) : Int) := by simp
    rw [this]; exact wrap_u64 (by omega)
  rw [h1]
  rw [fn_or64 _ _ (by omega) (by omega)]
  have : a * 256 ||| b = a * 256 + b := by
    rw [Nat.mul_comm a 256]
    exact (Nat.two_pow_add_eq_or_of_lt (i := 8) hb a).symm
  rw [this]

theorem fn_joinAdd (a b : Nat) (ha : a < 72057594037927936) (hb : b < 256) : (IOp.add .u64).fn ((IOp.mul .u64).fn (a : Int) 256) (b : Int) = ((a * 256 + b : Nat) : Int) := by
  have h1 : (IOp.mul .u64).fn (a : Int) 256 = ((a * 256 : Nat) : Int) := by
    simp only [IOp.fn]
    have : (a : Int) * 256 = ((a * 256 : Nat) : Int) := by simp
    rw [this]; exact wrap_u64 (by omega)
  rw [h1]
  simp only [IOp.fn]
  rw [← Int.natCast_add]
  exact wrap_u64 (by omega)

theorem fn_shr_u64 (x n : Nat) (h : n ≤ 64) : (IOp.shr .u64).fn (x : Int) (n : Int) = ((x / 2 ^ n : Nat) : Int) := fn_shr x n h

theorem quos_den {X : E} {x : Nat} (hX : X.den ρ = x) (hx : x < 18446744073709551616) : ∀ n, (quos X n).den ρ = ((x / 256 ^ n : Nat) : Int)
  | 0 => by simp [quos, hX]
  | n + 1 => by
    have ih := quos_den hX hx n
    have hlt : x / 256 ^ n < 18446744073709551616 := Nat.lt_of_le_of_lt (Nat.div_le_self _ _) hx
    simp only [quos, E.den, ih]
    rw [fn_quo _ hlt, Nat.div_div_eq_div_mul, ← Nat.pow_succ]

theorem bytesRules_ok {X b0 b1 b2 b3 b4 b5 b6 b7 : E} {x : Nat} (hX : X.den ρ = x) (hx : x < 18446744073709551616)
    (h0 : b0.den ρ = ((x / 72057594037927936 : Nat) : Int)) (h1 : b1.den ρ = ((x / 281474976710656 % 256 : Nat) : Int)) (h2 : b2.den ρ = ((x / 1099511627776 % 256 : Nat) : Int))
    (h3 : b3.den ρ = ((x / 4294967296 % 256 : Nat) : Int)) (h4 : b4.den ρ = ((x / 16777216 % 256 : Nat) : Int)) (h5 : b5.den ρ = ((x / 65536 % 256 : Nat) : Int))
    (h6 : b6.den ρ = ((x / 256 % 256 : Nat) : Int)) (h7 : b7.den ρ = ((x % 256 : Nat) : Int)) : ∀ p ∈ bytesRules X b0 b1 b2 b3 b4 b5 b6 b7, p.2.den ρ = p.1.den ρ := by
  intro p hp
  have hs : ∀ n : Nat, n ≤ 64 → (E.op (.shr .u64) X (.lit n)).den ρ = ((x / 2 ^ n : Nat) : Int) := fun n hn => by
    simp only [E.den, hX]; exact fn_shr x n hn
  have hb : ∀ n : Nat, n ≤ 64 → (byteAt X n).den ρ = ((x / 2 ^ n % 256 : Nat) : Int) := fun n hn => by
    have := hs n hn
    unfold byteAt
    rw [E.den, this]
    exact fn_byte _
  have hq : ∀ n, (E.op .rem (quos X n) (.lit 256)).den ρ = ((x / 256 ^ n % 256 : Nat) : Int) := fun n => by
    rw [E.den, quos_den hX hx n]; exact fn_rem _
  simp only [bytesRules, List.mem_cons, List.mem_nil_iff, or_false] at hp
  rcases hp with rfl | rfl | rfl | rfl | rfl | rfl | rfl | rfl | rfl | rfl | rfl | rfl | rfl | rfl | rfl | rfl | rfl | rfl
  · rw [h0]; exact (hs 56 (by decide)).symm
  · rw [h1]; exact (hb 48 (by decide)).symm
  · rw [h2]; exact (hb 40 (by decide)).symm
  · rw [h3]; exact (hb 32 (by decide)).symm
  · rw [h4]; exact (hb 24 (by decide)).symm
  · rw [h5]; exact (hb 16 (by decide)).symm
  · rw [h6]; exact (hb 8 (by decide)).symm
  · rw [h7, E.den, hX]; exact (fn_byte x).symm
  · rw [h0, hq 7]; congr 1; show _ = x / 72057594037927936 % 256; omega
  · rw [h1, hq 6]
  · rw [h2, hq 5]
  · rw [h3, hq 4]
  · rw [h4, hq 3]
  · rw [h5, hq 2]
  · rw [h6, hq 1]
  · rw [h7]; have := hq 0; simp only [quos, Nat.pow_zero, Nat.div_one] at this; exact this.symm
  · simp only [joinOr, E.den, h0, h1, h2, h3, h4, h5, h6, h7, hX]
    rw [fn_joinOr _ _ (by omega) (by omega), fn_joinOr _ _ (by omega) (by omega), fn_joinOr _ _ (by omega) (by omega), fn_joinOr _ _ (by omega) (by omega), fn_joinOr _ _ (by omega) (by omega),
      fn_joinOr _ _ (by omega) (by omega), fn_joinOr _ _ (by omega) (by omega)]
    congr 1; omega
  · simp only [joinAdd, E.den, h0, h1, h2, h3, h4, h5, h6, h7, hX]
    rw [fn_joinAdd _ _ (by omega) (by omega), fn_joinAdd _ _ (by omega) (by omega), fn_joinAdd _ _ (by omega) (by omega), fn_joinAdd _ _ (by omega) (by omega), fn_joinAdd _ _ (by omega) (by omega),
      fn_joinAdd _ _ (by omega) (by omega), fn_joinAdd _ _ (by omega) (by omega)]
    congr 1; omega
end
end
end Go.Sx
