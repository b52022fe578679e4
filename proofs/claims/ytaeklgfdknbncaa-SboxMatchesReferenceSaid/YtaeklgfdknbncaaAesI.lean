/-
  The reference's product of any two bytes is the product of the field. Conditions: none beside the hypotheses of each theorem.
-/
import Derived.Test.YtaeklgfdknbncaaAesP4
import Derived.Test.YtaeklgfdknbncaaAesId
namespace Go.Proofs.Ytaeklgfdknbncaa
noncomputable section
open Go.ChangeShapes Go.WideShapes Go.ChangeAt Go.RowKit Go.Sx Go.Aes

/-! ### The plain product of two bytes: sums of products of bits, and their parities -/
def bitN (n k : Nat) : Nat := (n.testBit k).toNat
def psum (a b m : Nat) : Nat → Nat
  | 0 => 0
  | c + 1 => psum a b m c + bitN a (m - 7 + c) * bitN b (m - (m - 7 + c))
def psumB (a b m : Nat) : Nat → Bool
  | 0 => false
  | c + 1 => Bool.xor (psumB a b m c) (a.testBit (m - 7 + c) && b.testBit (m - (m - 7 + c)))
/-- the product without reduction -/
def clm (a b : Nat) : Nat :=
  bit b 0 (a <<< 0) ^^^ (bit b 1 (a <<< 1) ^^^ (bit b 2 (a <<< 2) ^^^ (bit b 3 (a <<< 3) ^^^ (bit b 4 (a <<< 4) ^^^ (bit b 5 (a <<< 5) ^^^ (bit b 6 (a <<< 6) ^^^ bit b 7 (a <<< 7)))))))
def red (n : Nat) : Nat :=
  n % 2 ^ 8 ^^^ (bit n 8 27 ^^^ (bit n 9 54 ^^^ (bit n 10 108 ^^^ (bit n 11 216 ^^^ (bit n 12 171 ^^^ (bit n 13 77 ^^^ bit n 14 154))))))

theorem bitN_le (n k : Nat) : bitN n k ≤ 1 := Bool.toNat_le _
theorem psum_le (a b m : Nat) : ∀ c, psum a b m c ≤ c
  | 0 => Nat.le_refl _
  | c + 1 => by
    have h1 := psum_le a b m c
    have h2 : bitN a (m - 7 + c) * bitN b (m - (m - 7 + c)) ≤ 1 * 1 := Nat.mul_le_mul (bitN_le _ _) (bitN_le _ _)
    rw [psum]; omega
theorem psum_par (a b m : Nat) : ∀ c, psum a b m c % 2 = (psumB a b m c).toNat
  | 0 => rfl
  | c + 1 => by
    have h := psum_par a b m c
    rw [psum, psumB, bitN, bitN]
    generalize psum a b m c = s at h ⊢
    generalize psumB a b m c = u at h ⊢
    generalize a.testBit (m - 7 + c) = p
    generalize b.testBit (m - (m - 7 + c)) = q
    cases u <;> cases p <;> cases q <;> simp at h ⊢ <;> omega

theorem testBit_bit (x k v m : Nat) : (bit x k v).testBit m = (x.testBit k && v.testBit m) := by
  unfold bit
  cases x.testBit k <;> simp

theorem par_clm {a b : Nat} (ha : a < 256) (m : Nat) (hm : m < 15) : psumB a b m (cntM m) = (clm a b).testBit m := by
  have h : ∀ j, 8 ≤ j → a.testBit j = false := fun j hj => Nat.testBit_lt_two_pow (Nat.lt_of_lt_of_le ha (show 2 ^ 8 ≤ 2 ^ j from Nat.pow_le_pow_right (by decide) hj))
  have h8 := h 8 (by decide)
  have h9 := h 9 (by decide)
  have h10 := h 10 (by decide)
  have h11 := h 11 (by decide)
  have h12 := h 12 (by decide)
  have h13 := h 13 (by decide)
  have h14 := h 14 (by decide)
  unfold clm
  simp only [Nat.testBit_xor, testBit_bit, Nat.testBit_shiftLeft]
  have hc : m = 0 ∨ m = 1 ∨ m = 2 ∨ m = 3 ∨ m = 4 ∨ m = 5 ∨ m = 6 ∨ m = 7 ∨ m = 8 ∨ m = 9 ∨ m = 10 ∨ m = 11 ∨ m = 12 ∨ m = 13 ∨ m = 14 := by omega
  rcases hc with rfl | rfl | rfl | rfl | rfl | rfl | rfl | rfl | rfl | rfl | rfl | rfl | rfl | rfl | rfl
  all_goals
    simp only [cntM, reduceIte, psumB, Nat.reduceSub, Nat.reduceAdd, Nat.reduceLeDiff, ge_iff_le, Nat.le_refl, Nat.zero_le, decide_true, decide_false, Bool.true_and, Bool.false_and, Bool.and_false, Bool.xor_false, Bool.false_xor, Nat.sub_self, Nat.sub_zero, Nat.zero_add, Nat.add_zero, h8, h9, h10, h11, h12, h13, h14]
    try simp only [Bool.and_comm, Bool.xor_comm, Bool.xor_left_comm]

theorem psum_clm {a b : Nat} (ha : a < 256) {m : Nat} (hm : m < 15) : psum a b m (cntM m) % 2 = bitN (clm a b) m := by
  rw [psum_par, par_clm ha m hm]; rfl

theorem red_xor (u v : Nat) : red (u ^^^ v) = red u ^^^ red v := by
  unfold red
  simp only [bit_xor, Nat.xor_mod_two_pow]
  ac_rfl
theorem red_bit (x k v : Nat) : red (bit x k v) = bit x k (red v) := by
  unfold bit
  cases x.testBit k
  · show red 0 = 0
    decide
  · rfl
def dblN (a : Nat) : Nat → Nat
  | 0 => a
  | k + 1 => dbl (dblN a k)
theorem red_shift {a k : Nat} (ha : a < 256) (hk : k < 8) : red (a <<< k) = dblN a k :=
  of_decide_eq_true (of_upTo (p := fun k => decide (red (a <<< k) = dblN a k)) (of_upTo (p := fun a => upTo 8 fun k => decide (red (a <<< k) = dblN a k)) (by decide +kernel) ha) hk)
theorem gm_red {a b : Nat} (ha : a < 256) : gm a b = red (clm a b) := by
  unfold clm gm
  rw [red_xor, red_xor, red_xor, red_xor, red_xor, red_xor, red_xor, red_bit, red_bit, red_bit, red_bit, red_bit, red_bit, red_bit, red_bit,
    red_shift ha (by decide), red_shift ha (by decide), red_shift ha (by decide), red_shift ha (by decide), red_shift ha (by decide), red_shift ha (by decide), red_shift ha (by decide), red_shift ha (by decide)]
  rfl

/-! ### What the atoms stand for -/
def parApp (n f : Nat) : Nat := if f < 315 then bitN n (f - 300) else if 320 ≤ f then 1 - bitN n (f - 320) else 0
def mulApp (a b f : Nat) : Nat :=
  if f = 0 then a else if f = 1 then b
  else if f < 28 then (if 10 ≤ f ∧ f < 18 then bitN a (f - 10) else if 20 ≤ f then bitN b (f - 20) else 0)
  else if f < 300 then (if 100 ≤ f ∧ f < 250 ∧ (f - 100) % 10 ≤ 8 then psum a b ((f - 100) / 10) ((f - 100) % 10) else 0)
  else if f < 335 then parApp (clm a b) f
  else if 400 ≤ f ∧ f < 464 then bitN a ((f - 400) / 8) * bitN b ((f - 400) % 8) else 0
def mulVal (a b : Nat) : Val := { int := fun _ => 0, bool := fun _ => false, app := fun f _ => (mulApp a b f : Nat) }
def parVal (n : Nat) : Val := { int := fun _ => 0, bool := fun _ => false, app := fun f _ => (parApp n f : Nat) }

theorem parApp_le (n f : Nat) : parApp n f ≤ 1 := by
  unfold parApp
  have := bitN_le n (f - 300)
  repeat' split
  all_goals omega

theorem mulRange_ok {a b : Nat} (ha : a < 256) (hb : b < 256) (f : Nat) (r : Int × Int) (l : List Int) (h : mulRange f = some r) : r.1 ≤ (mulVal a b).app f l ∧ (mulVal a b).app f l ≤ r.2 := by
  show r.1 ≤ (mulApp a b f : Int) ∧ (mulApp a b f : Int) ≤ r.2
  have h1 := parApp_le (clm a b) f
  have h2 := psum_le a b ((f - 100) / 10) ((f - 100) % 10)
  have h3 : bitN a ((f - 400) / 8) * bitN b ((f - 400) % 8) ≤ 1 * 1 := Nat.mul_le_mul (bitN_le _ _) (bitN_le _ _)
  have h4 := bitN_le a (f - 10)
  have h5 := bitN_le b (f - 20)
  unfold mulRange at h
  unfold mulApp
  split at h
  · cases h
    simp only
    by_cases h0 : f = 0
    · rw [if_pos h0]; omega
    · rw [if_neg h0, if_pos (by omega)]; omega
  · rw [if_neg (by omega), if_neg (by omega)]
    split at h
    · cases h
      rw [if_pos (by assumption)]
      repeat' split
      all_goals omega
    · rw [if_neg (by assumption)]
      split at h
      · cases h
        rw [if_pos (by assumption)]
        repeat' split
        all_goals omega
      · rw [if_neg (by assumption)]
        split at h
        · cases h
          repeat' split
          all_goals omega
        · cases h

section
variable {a b : Nat}
theorem appNo_ok {e : E} {f : Nat} (h : appNo e = some f) : e.den (mulVal a b) = (mulApp a b f : Nat) := by
  unfold appNo at h
  split at h
  · cases h; rfl
  · cases h
theorem proApp {f : Nat} (h1 : 400 ≤ f) (h2 : f < 464) : mulApp a b f = bitN a ((f - 400) / 8) * bitN b ((f - 400) % 8) := by
  unfold mulApp
  rw [if_neg (by omega), if_neg (by omega), if_neg (by omega), if_neg (by omega), if_neg (by omega), if_pos ⟨h1, h2⟩]
theorem sumApp {f : Nat} (h1 : 100 ≤ f) (h2 : f < 250) (h3 : (f - 100) % 10 ≤ 8) : mulApp a b f = psum a b ((f - 100) / 10) ((f - 100) % 10) := by
  unfold mulApp
  rw [if_neg (by omega), if_neg (by omega), if_neg (by omega), if_pos (by omega), if_pos ⟨h1, h2, h3⟩]
theorem parApp' {f : Nat} (h1 : 300 ≤ f) (h2 : f < 335) : mulApp a b f = parApp (clm a b) f := by
  unfold mulApp
  rw [if_neg (by omega), if_neg (by omega), if_neg (by omega), if_neg (by omega), if_pos h2]

theorem proOf_ok {e : E} {i k : Nat} (h : proOf e = some (i, k)) : e.den (mulVal a b) = (bitN a i * bitN b k : Nat) ∧ i < 8 ∧ k < 8 := by
  unfold proOf at h
  cases hf : appNo e with
  | none => rw [hf] at h; cases h
  | some f =>
    rw [hf] at h
    simp only at h
    split at h
    · rename_i hc
      cases h
      exact ⟨by rw [appNo_ok hf, proApp hc.1 hc.2], by omega, by omega⟩
    · cases h

theorem partOf_ok {e : E} {m c : Nat} (h : partOf e = some (m, c)) : e.den (mulVal a b) = (psum a b m c : Nat) ∧ m < 15 ∧ c ≤ 8 := by
  unfold partOf at h
  cases hf : appNo e with
  | none => rw [hf] at h; cases h
  | some f =>
    rw [hf] at h
    simp only at h
    split at h
    · rename_i hc
      split at h
      · rename_i hi
        simp only [Option.some.injEq, Prod.mk.injEq] at h
        obtain ⟨hm, h1⟩ := h
        subst h1
        rw [← hm]
        refine ⟨?_, by omega, by omega⟩
        rw [appNo_ok hf, proApp hc.1 hc.2]
        show _ = ((0 + bitN a ((f - 400) / 8 + (f - 400) % 8 - 7 + 0) * bitN b ((f - 400) / 8 + (f - 400) % 8 - ((f - 400) / 8 + (f - 400) % 8 - 7 + 0)) : Nat) : Int)
        rw [Nat.add_zero, ← hi, Nat.zero_add, Nat.add_sub_cancel_left]
      · cases h
    · split at h
      · rename_i hc
        cases h
        exact ⟨by rw [appNo_ok hf, sumApp hc.1 hc.2.1 (by omega)], by omega, by omega⟩
      · cases h

theorem wrap_small {n : Nat} (h : n < 1000) : IntKind.wrap .i64 (n : Int) = n := by
  simp [IntKind.wrap, IntKind.signed, IntKind.bits]; omega

theorem countOf_ok : ∀ (n : Nat) {e : E} {m c : Nat}, SizeOf.sizeOf e ≤ n → countOf e = some (m, c) → e.den (mulVal a b) = (psum a b m (cntM m) + c : Nat) ∧ m < 15 ∧ c ≤ 20 := by
  intro n
  induction n with
  | zero =>
    intro e m c hn
    cases e <;> simp at hn
  | succ n ih =>
    intro e m c hn h
    unfold countOf at h
    split at h
    · rename_i u
      split at h
      · rename_i m' c' hu
        split at h
        · rename_i hc
          cases h
          have hs : SizeOf.sizeOf u ≤ n := by
            simp only [E.op.sizeOf_spec] at hn
            omega
          obtain ⟨h1, h2, h3⟩ := ih hs hu
          refine ⟨?_, h2, by omega⟩
          show IntKind.wrap .i64 (u.den (mulVal a b) + 1) = _
          rw [h1]
          have hp := psum_le a b m (cntM m)
          have hcnt : cntM m ≤ 15 := by unfold cntM; split <;> omega
          have : ((psum a b m (cntM m) + c' : Nat) : Int) + 1 = ((psum a b m (cntM m) + (c' + 1) : Nat) : Int) := by omega
          rw [this, wrap_small (by omega)]
        · cases h
      · cases h
    · split at h
      · rename_i m' c' hp
        split at h
        · rename_i hc
          cases h
          obtain ⟨h1, h2, h3⟩ := partOf_ok (a := a) (b := b) hp
          refine ⟨?_, h2, by omega⟩
          rw [h1, hc.1, Nat.add_zero]
        · cases h
      · cases h

theorem bitA_app {i : Nat} (h : i < 8) : (bitA i).den (mulVal a b) = (bitN a i : Nat) := by
  show ((mulApp a b (10 + i) : Nat) : Int) = _
  unfold mulApp
  rw [if_neg (by omega), if_neg (by omega), if_pos (by omega), if_pos (by omega), Nat.add_sub_cancel_left]
theorem bitB_app {i : Nat} (h : i < 8) : (bitB i).den (mulVal a b) = (bitN b i : Nat) := by
  show ((mulApp a b (20 + i) : Nat) : Int) = _
  unfold mulApp
  rw [if_neg (by omega), if_neg (by omega), if_pos (by omega), if_neg (by omega), if_pos (by omega), Nat.add_sub_cancel_left]
theorem bitN_div (n k : Nat) : bitN n k = n / 2 ^ k % 2 := Nat.toNat_testBit n k
theorem shr_rem (n k : Nat) (hk : k ≤ 7) : ((IOp.shr .u8).fn (n : Int) (k : Nat)).tmod 2 = (bitN n k : Nat) := by
  have e : (IOp.shr .u8).fn (n : Int) (k : Nat) = (n : Int).fdiv (2 ^ (min (Int.toNat (k : Nat)) 8)) := rfl
  rw [e, Int.toNat_natCast, Nat.min_eq_left (by omega), bitN_div]
  have h2 : ((2 : Int) ^ k) = ((2 ^ k : Nat) : Int) := by simp
  rw [h2, Int.fdiv_eq_ediv_of_nonneg _ (Int.natCast_nonneg _)]
  rfl

theorem bitOf_ok {e r : E} (h : bitOf e = some r) : r.den (mulVal a b) = (e.den (mulVal a b)).tmod 2 := by
  unfold bitOf at h
  split at h
  · rename_i f
    split at h
    · rename_i hf
      cases h
      subst hf
      rw [bitA_app (by decide), bitN_div]
      show _ = ((a : Nat) : Int).tmod 2
      rw [Nat.pow_zero, Nat.div_one]; rfl
    · split at h
      · rename_i h0 hf
        cases h
        subst hf
        rw [bitB_app (by decide), bitN_div]
        show _ = ((b : Nat) : Int).tmod 2
        rw [Nat.pow_zero, Nat.div_one]; rfl
      · cases h
  · rename_i f n
    split at h
    · rename_i hn
      have hk : n = (n.toNat : Int) := by omega
      split at h
      · rename_i hf
        cases h
        subst hf
        rw [bitA_app (by omega)]
        show _ = ((IOp.shr .u8).fn ((a : Nat) : Int) n).tmod 2
        rw [hk, shr_rem _ _ (by omega), Int.toNat_natCast]
      · split at h
        · rename_i h0 hf
          cases h
          subst hf
          rw [bitB_app (by omega)]
          show _ = ((IOp.shr .u8).fn ((b : Nat) : Int) n).tmod 2
          rw [hk, shr_rem _ _ (by omega), Int.toNat_natCast]
        · cases h
    · cases h
  · cases h

theorem parE_app {m : Nat} (h : m < 15) : (parE m).den (mulVal a b) = (bitN (clm a b) m : Nat) := by
  show ((mulApp a b (300 + m) : Nat) : Int) = _
  rw [parApp' (by omega) (by omega)]
  unfold parApp
  rw [if_pos (by omega), Nat.add_sub_cancel_left]
theorem oddE_app {m : Nat} (h : m < 15) : (oddE m).den (mulVal a b) = (1 - bitN (clm a b) m : Nat) := by
  show ((mulApp a b (320 + m) : Nat) : Int) = _
  rw [parApp' (by omega) (by omega)]
  unfold parApp
  rw [if_neg (by omega), if_pos (by omega), Nat.add_sub_cancel_left]
theorem proE_app {i k : Nat} (hi : i < 8) (hk : k < 8) : (proE i k).den (mulVal a b) = (bitN a i * bitN b k : Nat) := by
  show ((mulApp a b (400 + 8 * i + k) : Nat) : Int) = _
  rw [proApp (by omega) (by omega)]
  have h1 : (400 + 8 * i + k - 400) / 8 = i := by omega
  have h2 : (400 + 8 * i + k - 400) % 8 = k := by omega
  rw [h1, h2]
theorem sumE_app {m c : Nat} (hm : m < 15) (hc : c ≤ 8) : (sumE m c).den (mulVal a b) = (psum a b m c : Nat) := by
  show ((mulApp a b (100 + 10 * m + c) : Nat) : Int) = _
  have h1 : (100 + 10 * m + c - 100) / 10 = m := by omega
  have h2 : (100 + 10 * m + c - 100) % 10 = c := by omega
  rw [sumApp (by omega) (by omega) (by omega), h1, h2]

theorem mulRw_ok (ha : a < 256) (e e' : E) (h : mulRw e = some e') : e'.den (mulVal a b) = e.den (mulVal a b) := by
  unfold mulRw at h
  split at h
  · rename_i x
    split at h
    · rename_i r hr
      cases h
      exact bitOf_ok hr
    · split at h
      · rename_i m c hc
        obtain ⟨h1, h2, _⟩ := countOf_ok (a := a) (b := b) _ (Nat.le_refl _) hc
        cases h
        show _ = (x.den (mulVal a b)).tmod 2
        rw [h1]
        have hp := psum_clm (b := b) ha h2
        have e : (((psum a b m (cntM m) + c : Nat) : Int)).tmod 2 = (((psum a b m (cntM m) + c) % 2 : Nat) : Int) := rfl
        have hb := bitN_le (clm a b) m
        rw [e]
        split
        · rw [parE_app h2]; congr 1; omega
        · rw [oddE_app h2]; congr 1; omega
      · cases h
  · rename_i x y
    split at h
    · rename_i f g hf hg
      split at h
      · rename_i hc
        cases h
        rw [proE_app (by omega) (by omega)]
        show _ = IntKind.wrap .i64 (x.den (mulVal a b) * y.den (mulVal a b))
        have e1 : x.den (mulVal a b) = (bitN a (f - 10) : Nat) := by
          rw [appNo_ok hf]
          unfold mulApp
          rw [if_neg (by omega), if_neg (by omega), if_pos (by omega), if_pos (by omega)]
        have e2 : y.den (mulVal a b) = (bitN b (g - 20) : Nat) := by
          rw [appNo_ok hg]
          unfold mulApp
          rw [if_neg (by omega), if_neg (by omega), if_pos (by omega), if_neg (by omega), if_pos (by omega)]
        have h3 : bitN a (f - 10) * bitN b (g - 20) ≤ 1 * 1 := Nat.mul_le_mul (bitN_le _ _) (bitN_le _ _)
        rw [e1, e2, ← Int.natCast_mul, wrap_small (by omega)]
      · cases h
    · cases h
  · rename_i u v
    split at h
    · rename_i m c i k hu hv
      split at h
      · rename_i hc
        cases h
        obtain ⟨h1, h2, h3⟩ := partOf_ok (a := a) (b := b) hu
        obtain ⟨g1, g2, g3⟩ := proOf_ok (a := a) (b := b) hv
        rw [sumE_app h2 (by omega)]
        show _ = IntKind.wrap .i64 (u.den (mulVal a b) + v.den (mulVal a b))
        have hp := psum_le a b m c
        have hq : bitN a i * bitN b k ≤ 1 * 1 := Nat.mul_le_mul (bitN_le _ _) (bitN_le _ _)
        have e3 : m - (m - 7 + c) = k := by omega
        rw [h1, g1, ← Int.natCast_add, wrap_small (by omega), psum, ← hc.2.1, show m - i = k by omega]
      · cases h
    · cases h
  · cases h
end

/-- what is known of the three highest bits -/
def factsM (h : Nat) : List (C × Bool) := [(.cmp .eq (parE 14) (.lit 1), h.testBit 2), (.cmp .eq (parE 13) (.lit 1), h.testBit 1), (.cmp .eq (parE 12) (.lit 1), h.testBit 0)]
noncomputable def plainEnv (h : Nat) : Env := { P := Try.prog, rvar := fun _ => none, rapp := mulRange, facts := factsM h, rw := mulRw, sums := fun _ => none, loud := fun _ => false }
theorem par_fact {a b m : Nat} (hm : m < 15) : (C.cmp .eq (parE m) (.lit 1)).den (mulVal a b) = (clm a b).testBit m := by
  show CO.fn .eq ((parE m).den (mulVal a b)) 1 = _
  rw [parE_app hm]
  unfold bitN
  cases (clm a b).testBit m <;> rfl
theorem plainEnv_ok {a b : Nat} (ha : a < 256) (hb : b < 256) : EnvOk (plainEnv (clm a b >>> 12)) (mulVal a b) := by
  refine ⟨⟨?_, fun f r l h => mulRange_ok ha hb f r l h, ?_, fun e e' h => mulRw_ok ha e e' h⟩, by kernel_rfl, ?_⟩
  · intro i r h; cases h
  · intro c x h
    have h : (c, x) ∈ factsM (clm a b >>> 12) := h
    simp only [factsM, List.mem_cons, List.mem_nil_iff, or_false, Prod.mk.injEq] at h
    rcases h with ⟨rfl, rfl⟩ | ⟨rfl, rfl⟩ | ⟨rfl, rfl⟩ <;> rw [par_fact (by decide), Nat.testBit_shiftRight]
  · intro f s h; cases h

/-! ### The tree of the product -/
def parAt (s m : Nat) : E := bif s.testBit m then oddE m else parE m
def leafM (s : Nat) : SVal :=
  .int .u8 (.op (.conv .u8) (.op (.add .i64) (.op (.add .i64) (.op (.add .i64) (.op (.add .i64) (.op (.add .i64) (.op (.add .i64) (.op (.add .i64) (parAt s 0) (.op (.shl .i64) (parAt s 1) (.lit 1))) (.op (.shl .i64) (parAt s 2) (.lit 2)))
    (.op (.shl .i64) (parAt s 3) (.lit 3))) (.op (.shl .i64) (parAt s 4) (.lit 4))) (.op (.shl .i64) (parAt s 5) (.lit 5))) (.op (.shl .i64) (parAt s 6) (.lit 6))) (.op (.shl .i64) (parAt s 7) (.lit 7))) (.lit 0))
def treeM : List Nat → Nat → Tree SVal
  | [], s => .leaf (leafM s)
  | m :: l, s => .fork (.cmp .eq (parAt s m) (.lit 1)) (treeM l (s ^^^ 2 ^ (m - 4) ^^^ 2 ^ (m - 5) ^^^ 2 ^ (m - 7) ^^^ 2 ^ (m - 8))) (treeM l s)
def maskM (m : Nat) : Nat := 2 ^ (m - 4) ^^^ 2 ^ (m - 5) ^^^ 2 ^ (m - 7) ^^^ 2 ^ (m - 8)
def startM (h : Nat) : Nat := (bif h.testBit 2 then maskM 14 else 0) ^^^ (bif h.testBit 1 then maskM 13 else 0) ^^^ (bif h.testBit 0 then maskM 12 else 0)
def mulTree (h : Nat) : Tree SVal := treeM [11, 10, 9, 8] (startM h)
theorem mul_eval0 : givesT (callT (plainEnv 0) 100 300 56 [u8 mX, u8 mY]) (mulTree 0) = true := by kernel_rfl
theorem mul_eval1 : givesT (callT (plainEnv 1) 100 300 56 [u8 mX, u8 mY]) (mulTree 1) = true := by kernel_rfl
theorem mul_eval2 : givesT (callT (plainEnv 2) 100 300 56 [u8 mX, u8 mY]) (mulTree 2) = true := by kernel_rfl
theorem mul_eval3 : givesT (callT (plainEnv 3) 100 300 56 [u8 mX, u8 mY]) (mulTree 3) = true := by kernel_rfl
theorem mul_eval4 : givesT (callT (plainEnv 4) 100 300 56 [u8 mX, u8 mY]) (mulTree 4) = true := by kernel_rfl
theorem mul_eval5 : givesT (callT (plainEnv 5) 100 300 56 [u8 mX, u8 mY]) (mulTree 5) = true := by kernel_rfl
theorem mul_eval6 : givesT (callT (plainEnv 6) 100 300 56 [u8 mX, u8 mY]) (mulTree 6) = true := by kernel_rfl
theorem mul_eval7 : givesT (callT (plainEnv 7) 100 300 56 [u8 mX, u8 mY]) (mulTree 7) = true := by kernel_rfl
theorem plain_evals : ∀ h, h < 8 → givesT (callT (plainEnv h) 100 300 56 [u8 mX, u8 mY]) (mulTree h) = true
  | 0, _ => mul_eval0
  | 1, _ => mul_eval1
  | 2, _ => mul_eval2
  | 3, _ => mul_eval3
  | 4, _ => mul_eval4
  | 5, _ => mul_eval5
  | 6, _ => mul_eval6
  | 7, _ => mul_eval7
  | _ + 8, h => by omega

def parOnly : E → Bool
  | .lit _ => true
  | .app f [] => decide (300 ≤ f) && decide (f < 335)
  | .op _ x y => parOnly x && parOnly y
  | _ => false
theorem parOnly_den (a b n : Nat) : ∀ (s : Nat) {e : E}, SizeOf.sizeOf e ≤ s → parOnly e = true → n = clm a b → e.den (mulVal a b) = e.den (parVal n) := by
  intro s
  induction s with
  | zero =>
    intro e hs
    cases e <;> simp at hs
  | succ s ih =>
    intro e hs h hn
    cases e with
    | lit x => rfl
    | var i => cases h
    | op o x y =>
      simp only [parOnly, Bool.and_eq_true] at h
      simp only [E.op.sizeOf_spec] at hs
      show o.fn (x.den _) (y.den _) = o.fn (x.den _) (y.den _)
      rw [ih (by omega) h.1 hn, ih (by omega) h.2 hn]
    | sel l x => cases h
    | app f l =>
      cases l with
      | nil =>
        simp only [parOnly, Bool.and_eq_true, decide_eq_true_eq] at h
        show ((mulApp a b f : Nat) : Int) = (parApp n f : Nat)
        rw [parApp' h.1 h.2, hn]
      | cons x l => cases h

def parTree : Tree SVal → Bool
  | .leaf (.int .u8 e) => parOnly e
  | .fork (.cmp .eq x (.lit 1)) t u => parOnly x && parTree t && parTree u
  | _ => false
theorem parTree_pick (a b : Nat) : ∀ {t : Tree SVal}, parTree t = true → ∃ e, pick (mulVal a b) t = .int .u8 e ∧ pick (parVal (clm a b)) t = .int .u8 e ∧ e.den (mulVal a b) = e.den (parVal (clm a b))
  | .leaf v, h => by
    unfold parTree at h
    split at h
    · rename_i e he
      cases he
      exact ⟨e, rfl, rfl, parOnly_den a b _ _ (Nat.le_refl _) h rfl⟩
    · rename_i he; cases he
    · cases h
  | .fork c t u, h => by
    unfold parTree at h
    split at h
    · rename_i he; cases he
    · rename_i x t' u' he
      cases he
      simp only [Bool.and_eq_true] at h
      obtain ⟨e1, p1, q1, d1⟩ := parTree_pick a b h.1.2
      obtain ⟨e2, p2, q2, d2⟩ := parTree_pick a b h.2
      have hx := parOnly_den a b _ _ (Nat.le_refl _) h.1.1 rfl
      have hc : (C.cmp .eq x (.lit 1)).den (mulVal a b) = (C.cmp .eq x (.lit 1)).den (parVal (clm a b)) := by
        show CO.fn .eq (x.den _) 1 = CO.fn .eq (x.den _) 1
        rw [hx]
      simp only [pick, hc]
      cases (C.cmp .eq x (.lit 1)).den (parVal (clm a b))
      · exact ⟨e2, p2, q2, d2⟩
      · exact ⟨e1, p1, q1, d1⟩
    · cases h
theorem mulTree_par {h : Nat} (hh : h < 8) : parTree (mulTree h) = true := of_upTo (p := fun h => parTree (mulTree h)) (n := 8) (by decide +kernel) hh
theorem parAt_den (n s m : Nat) (hm : m < 15) : (parAt s m).den (parVal n) = (bitN (n ^^^ s) m : Nat) := by
  unfold parAt
  have h1 : (parE m).den (parVal n) = (bitN n m : Nat) := by
    show ((parApp n (300 + m) : Nat) : Int) = _
    unfold parApp
    rw [if_pos (by omega), Nat.add_sub_cancel_left]
  have h2 : (oddE m).den (parVal n) = (1 - bitN n m : Nat) := by
    show ((parApp n (320 + m) : Nat) : Int) = _
    unfold parApp
    rw [if_neg (by omega), if_pos (by omega), Nat.add_sub_cancel_left]
  have h3 : bitN (n ^^^ s) m = (Bool.xor (n.testBit m) (s.testBit m)).toNat := by
    unfold bitN
    rw [Nat.testBit_xor]
  rw [h3]
  cases hs : s.testBit m
  · show (parE m).den (parVal n) = _
    rw [h1]
    unfold bitN
    cases n.testBit m <;> rfl
  · show (oddE m).den (parVal n) = _
    rw [h2]
    unfold bitN
    cases n.testBit m <;> rfl

/-- what is turned at the end, by the bits from the eighth on -/
def goes (q : Nat) : List Nat → Nat → Nat
  | [], s => s
  | m :: l, s => bif Bool.xor (q.testBit (m - 8)) (s.testBit m) then goes q l (s ^^^ 2 ^ (m - 4) ^^^ 2 ^ (m - 5) ^^^ 2 ^ (m - 7) ^^^ 2 ^ (m - 8)) else goes q l s
theorem pick_treeM (n : Nat) : ∀ (l : List Nat) (s : Nat), (∀ m ∈ l, 8 ≤ m ∧ m < 15) → pick (parVal n) (treeM l s) = leafM (goes (n >>> 8) l s)
  | [], s, _ => rfl
  | m :: l, s, h => by
    obtain ⟨hm8, hm⟩ := h m (by simp)
    have hd := parAt_den n s m hm
    have hb : Bool.xor ((n >>> 8).testBit (m - 8)) (s.testBit m) = (n ^^^ s).testBit m := by
      rw [Nat.testBit_shiftRight, Nat.testBit_xor, show 8 + (m - 8) = m by omega]
    have hc : (C.cmp .eq (parAt s m) (.lit 1)).den (parVal n) = (n ^^^ s).testBit m := by
      show CO.fn .eq ((parAt s m).den (parVal n)) 1 = _
      rw [hd]
      unfold bitN
      cases (n ^^^ s).testBit m <;> rfl
    simp only [treeM, pick, goes, hc, hb]
    rw [pick_treeM n l _ (fun m hm => h m (by simp [hm])), pick_treeM n l s (fun m hm => h m (by simp [hm]))]
    cases (n ^^^ s).testBit m <;> rfl

theorem fn_add_small {x y : Nat} (h : x + y < 1000) : (IOp.add .i64).fn (x : Int) (y : Int) = ((x + y : Nat) : Int) := by
  show IntKind.wrap .i64 ((x : Int) + (y : Int)) = _
  rw [← Int.natCast_add, wrap_small h]
theorem fn_shl_small {x k : Nat} (hx : x ≤ 1) (hk : k ≤ 7) : (IOp.shl .i64).fn (x : Int) (k : Int) = ((x * 2 ^ k : Nat) : Int) := by
  have e : (IOp.shl .i64).fn (x : Int) (k : Int) = IntKind.wrap .i64 ((x : Int) * 2 ^ (min (Int.toNat (k : Int)) 64)) := rfl
  have h1 : 2 ^ k ≤ 2 ^ 7 := Nat.pow_le_pow_right (by decide) hk
  have h2 : x * 2 ^ k ≤ 1 * 2 ^ 7 := Nat.mul_le_mul hx h1
  rw [e, Int.toNat_natCast, Nat.min_eq_left (by omega), show ((x : Int) * 2 ^ k) = ((x * 2 ^ k : Nat) : Int) by simp, wrap_small (by omega)]
def leafE (s : Nat) : E :=
  .op (.conv .u8) (.op (.add .i64) (.op (.add .i64) (.op (.add .i64) (.op (.add .i64) (.op (.add .i64) (.op (.add .i64) (.op (.add .i64) (parAt s 0) (.op (.shl .i64) (parAt s 1) (.lit 1))) (.op (.shl .i64) (parAt s 2) (.lit 2)))
    (.op (.shl .i64) (parAt s 3) (.lit 3))) (.op (.shl .i64) (parAt s 4) (.lit 4))) (.op (.shl .i64) (parAt s 5) (.lit 5))) (.op (.shl .i64) (parAt s 6) (.lit 6))) (.op (.shl .i64) (parAt s 7) (.lit 7))) (.lit 0)
theorem leafE_den (n s : Nat) : (leafE s).den (parVal n) = ((n ^^^ s) % 256 : Nat) := by
  have p := fun m (hm : m < 15) => parAt_den n s m hm
  have q := fun m => bitN_le (n ^^^ s) m
  have d := fun m => bitN_div (n ^^^ s) m
  have sh : ∀ k : Nat, k ≤ 7 → (E.op (.shl .i64) (parAt s k) (.lit (k : Int))).den (parVal n) = (bitN (n ^^^ s) k * 2 ^ k : Nat) := by
    intro k hk
    show (IOp.shl .i64).fn ((parAt s k).den (parVal n)) (k : Int) = _
    rw [p k (by omega), fn_shl_small (q k) hk]
  have q0 := q 0
  have q1 := q 1
  have q2 := q 2
  have q3 := q 3
  have q4 := q 4
  have q5 := q 5
  have q6 := q 6
  have q7 := q 7
  have s1 : (E.op (.add .i64) (parAt s 0) (.op (.shl .i64) (parAt s 1) (.lit 1))).den (parVal n) = (bitN (n ^^^ s) 0 + bitN (n ^^^ s) 1 * 2 : Nat) := by
    show (IOp.add .i64).fn ((parAt s 0).den (parVal n)) ((E.op (.shl .i64) (parAt s 1) (.lit ((1 : Nat) : Int))).den (parVal n)) = _
    rw [p 0 (by decide), sh 1 (by decide), fn_add_small (by omega)]
  have step : ∀ (x : E) (v k : Nat), x.den (parVal n) = (v : Nat) → v < 500 → k ≤ 7 → (E.op (.add .i64) x (.op (.shl .i64) (parAt s k) (.lit (k : Int)))).den (parVal n) = (v + bitN (n ^^^ s) k * 2 ^ k : Nat) := by
    intro x v k hx hv hk
    show (IOp.add .i64).fn (x.den (parVal n)) ((E.op (.shl .i64) (parAt s k) (.lit (k : Int))).den (parVal n)) = _
    have h1 : 2 ^ k ≤ 2 ^ 7 := Nat.pow_le_pow_right (by decide) hk
    have h2 : bitN (n ^^^ s) k * 2 ^ k ≤ 1 * 2 ^ 7 := Nat.mul_le_mul (q k) h1
    rw [hx, sh k hk, fn_add_small (by omega)]
  have s2 := step _ _ 2 s1 (by omega) (by decide)
  have s3 := step _ _ 3 s2 (by omega) (by decide)
  have s4 := step _ _ 4 s3 (by omega) (by decide)
  have s5 := step _ _ 5 s4 (by omega) (by decide)
  have s6 := step _ _ 6 s5 (by omega) (by decide)
  have s7 := step _ _ 7 s6 (by omega) (by decide)
  show IntKind.wrap .u8 ((E.op (.add .i64) _ (.op (.shl .i64) (parAt s 7) (.lit 7))).den (parVal n)) = _
  have s7' := s7
  have w : ∀ m : Nat, m < 256 → IntKind.wrap .u8 (m : Int) = m := by
    intro m hm
    simp [IntKind.wrap, IntKind.signed, IntKind.bits]; omega
  refine (congrArg (IntKind.wrap .u8) s7').trans ?_
  rw [w _ (by omega)]
  rw [d 0, d 1, d 2, d 3, d 4, d 5, d 6, d 7]
  congr 1
  omega
def hiR (q : Nat) : Nat := bit q 0 27 ^^^ (bit q 1 54 ^^^ (bit q 2 108 ^^^ (bit q 3 216 ^^^ (bit q 4 171 ^^^ (bit q 5 77 ^^^ bit q 6 154)))))
theorem red_hi (n : Nat) : red n = n % 2 ^ 8 ^^^ hiR (n >>> 8) := by
  unfold red hiR bit
  simp only [Nat.testBit_shiftRight, Nat.reduceAdd]
theorem goes_hi : upTo 128 (fun q => decide (goes q [11, 10, 9, 8] (startM (q >>> 4)) % 2 ^ 8 = hiR q)) = true := by decide +kernel
theorem goes_red {n : Nat} (h : n < 32768) : (n ^^^ goes (n >>> 8) [11, 10, 9, 8] (startM (n >>> 12))) % 256 = red n := by
  have hq : n >>> 8 < 128 := by rw [Nat.shiftRight_eq_div_pow]; omega
  have hg := of_decide_eq_true (of_upTo goes_hi hq)
  have e12 : n >>> 8 >>> 4 = n >>> 12 := by rw [← Nat.shiftRight_add]
  rw [e12] at hg
  rw [red_hi, ← hg]
  show (n ^^^ _) % 2 ^ 8 = _
  rw [Nat.xor_mod_two_pow]
theorem bit_lt {x k v n : Nat} (h : v < 2 ^ n) : bit x k v < 2 ^ n := by
  unfold bit
  cases x.testBit k
  · exact Nat.two_pow_pos n
  · exact h
theorem clm_lt {a b : Nat} (ha : a < 256) : clm a b < 32768 := by
  have h : ∀ k, k < 8 → a <<< k < 2 ^ 15 := by
    intro k hk
    rw [Nat.shiftLeft_eq]
    have h1 : 2 ^ k ≤ 2 ^ 7 := Nat.pow_le_pow_right (by decide) (by omega)
    have h2 : a * 2 ^ k ≤ 255 * 2 ^ 7 := Nat.mul_le_mul (by omega) h1
    omega
  unfold clm
  show _ < 2 ^ 15
  repeat' first
    | exact bit_lt (h _ (by decide))
    | refine Nat.xor_lt_two_pow ?_ ?_

theorem refMul_ret {a b : Nat} (ha : a < 256) (hb : b < 256) : Ret 56 [.int .u8 a, .int .u8 b] (.int .u8 (gm a b : Nat)) := by
  intro w
  have hn := clm_lt (b := b) ha
  have h8 : clm a b >>> 12 < 8 := by rw [Nat.shiftRight_eq_div_pow]; omega
  have h := plain_evals _ h8
  cases hc : callT (plainEnv (clm a b >>> 12)) 100 300 56 [u8 mX, u8 mY] with
  | none => rw [hc] at h; cases h
  | some u =>
    rw [hc] at h
    obtain rfl := sameTree_eq h
    have := callT_ok (plainEnv_ok ha hb) 100 300 hc ((flats_rv (show flats [u8 mX, u8 mY] = true from rfl)).2 rfl) w
    have e0 : denVs (mulVal a b) [u8 mX, u8 mY] = [.int .u8 (a : Nat), .int .u8 (b : Nat)] := rfl
    rw [e0] at this
    obtain ⟨e, h1, h2, h3⟩ := parTree_pick a b (mulTree_par h8)
    have hp : pick (parVal (clm a b)) (mulTree (clm a b >>> 12)) = leafM (goes (clm a b >>> 8) [11, 10, 9, 8] (startM (clm a b >>> 12))) := pick_treeM _ _ _ (by decide)
    rw [hp] at h2
    have he : leafE (goes (clm a b >>> 8) [11, 10, 9, 8] (startM (clm a b >>> 12))) = e := by
      have h2 : SVal.int .u8 (leafE (goes (clm a b >>> 8) [11, 10, 9, 8] (startM (clm a b >>> 12)))) = .int .u8 e := h2
      exact SVal.int.inj h2 |>.2
    rw [h1] at this
    simp only [denV] at this
    rw [h3, ← he, leafE_den, goes_red hn, ← gm_red ha] at this
    exact this
end
end Go.Proofs.Ytaeklgfdknbncaa
