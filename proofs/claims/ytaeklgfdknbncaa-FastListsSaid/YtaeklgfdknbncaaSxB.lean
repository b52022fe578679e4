/-
  The evaluator's integers, ranges and tests stand for what the model computes. Conditions: none beside the hypotheses of each theorem.
-/
import Derived.Test.YtaeklgfdknbncaaSxA
namespace Go.Sx

theorem IntKind.same_eq {a b : IntKind} (h : IntKind.same a b = true) : a = b := by
  cases a <;> cases b <;> first | rfl | cases h

theorem IOp.same_eq {a b : IOp} (h : a.same b = true) : a = b := by
  cases a <;> cases b <;> simp only [IOp.same] at h <;> first | rfl | cases h | (rw [IntKind.same_eq h])

theorem CO.same_eq {a b : CO} (h : a.same b = true) : a = b := by
  cases a <;> cases b <;> first | rfl | cases h

mutual
theorem E.same_eq : ∀ {a b : E}, a.same b = true → a = b
  | .lit _, b, h => by cases b <;> simp [E.same] at h; rw [h]
  | .var _, b, h => by cases b <;> simp [E.same] at h; rw [h]
  | .op o a c, b, h => by
    cases b <;> simp [E.same] at h
    rw [IOp.same_eq h.1.1, E.same_eq h.1.2, E.same_eq h.2]
  | .sel l a, b, h => by
    cases b <;> simp [E.same] at h
    rw [E.same_eq h.1, E.sames_eq h.2]
  | .app f l, b, h => by
    cases b <;> simp [E.same] at h
    rw [h.1, E.sames_eq h.2]
theorem E.sames_eq : ∀ {a b : List E}, E.sames a b = true → a = b
  | [], b, h => by cases b <;> simp [E.sames] at h; rfl
  | x :: l, b, h => by
    cases b <;> simp [E.sames] at h
    rw [E.same_eq h.1, E.sames_eq h.2]
end

theorem C.same_eq : ∀ {a b : C}, a.same b = true → a = b
  | .lit _, b, h => by cases b <;> simp [C.same] at h; rw [h]
  | .var _, b, h => by cases b <;> simp [C.same] at h; rw [h]
  | .cmp o a c, b, h => by
    cases b <;> simp [C.same] at h
    rw [CO.same_eq h.1.1, E.same_eq h.1.2, E.same_eq h.2]
  | .not a, b, h => by cases b <;> simp [C.same] at h; rw [C.same_eq h]
  | .and a c, b, h => by cases b <;> simp [C.same] at h; rw [C.same_eq h.1, C.same_eq h.2]
  | .iff a c, b, h => by cases b <;> simp [C.same] at h; rw [C.same_eq h.1, C.same_eq h.2]

structure CtxOk (Γ : Ctx) (ρ : Val) : Prop where
  rvar : ∀ i r, Γ.rvar i = some r → r.1 ≤ ρ.int i ∧ ρ.int i ≤ r.2
  rapp : ∀ f r l, Γ.rapp f = some r → r.1 ≤ ρ.app f l ∧ ρ.app f l ≤ r.2
  facts : ∀ c b, (c, b) ∈ Γ.facts → c.den ρ = b
  rw : ∀ e e', Γ.rw e = some e' → e'.den ρ = e.den ρ

/-! ## Kinds -/
theorem two_pow_bits (k : IntKind) : (2 : Int) ^ k.bits = 2 * 2 ^ (k.bits - 1) ∧ (0 : Int) < 2 ^ (k.bits - 1) := by
  cases k <;> simp [IntKind.bits]

theorem wrap_range (k : IntKind) (x : Int) : k.min ≤ k.wrap x ∧ k.wrap x ≤ k.max := by
  cases k <;> simp [IntKind.wrap, IntKind.min, IntKind.max, IntKind.signed, IntKind.bits] <;> (try split) <;> omega

theorem wrap_in (k : IntKind) {x : Int} (h1 : k.min ≤ x) (h2 : x ≤ k.max) : k.wrap x = x := by
  cases k <;> simp [IntKind.wrap, IntKind.min, IntKind.max, IntKind.signed, IntKind.bits] at * <;> (try split) <;> omega

theorem min_le_zero (k : IntKind) : k.min ≤ 0 := by cases k <;> simp [IntKind.min, IntKind.signed, IntKind.bits]
theorem zero_le_max (k : IntKind) : 0 ≤ k.max := by cases k <;> simp [IntKind.max, IntKind.signed, IntKind.bits]
theorem max_lt (k : IntKind) : k.max < 2 ^ k.bits := by cases k <;> simp [IntKind.max, IntKind.signed, IntKind.bits]

theorem toNat_ofInt (n : Nat) (x : Int) : ((BitVec.ofInt n x).toNat : Int) = x % 2 ^ n := by
  rw [BitVec.toNat_ofInt]
  have e : ((2 ^ n : Nat) : Int) = (2 : Int) ^ n := by simp
  have : (0 : Int) < 2 ^ n := Int.pow_pos (by omega)
  have h2 : 0 ≤ x % (2 ^ n : Int) := Int.emod_nonneg _ (by omega)
  rw [e]
  omega

theorem wrap_mod (k : IntKind) (x : Int) : k.wrap (x % 2 ^ k.bits) = k.wrap x := by
  simp only [IntKind.wrap, Int.emod_emod_of_dvd _ (Int.dvd_refl _)]

theorem wrap_ofInt (k : IntKind) (x : Int) : k.wrap (BitVec.ofInt k.bits x).toNat = k.wrap x := by
  rw [toNat_ofInt, wrap_mod]

theorem ofInt_zero_xor (k : IntKind) (x : Int) : BitVec.ofInt k.bits x ^^^ BitVec.ofInt k.bits 0 = BitVec.ofInt k.bits x := by
  simp
theorem and_le_right (k : IntKind) {x y m : Int} (h0 : 0 ≤ y) (hm : y ≤ m) (hk : m ≤ k.max) :
    0 ≤ (IOp.and k).fn x y ∧ (IOp.and k).fn x y ≤ m := by
  simp only [IOp.fn]
  have h1 : ((BitVec.ofInt k.bits x &&& BitVec.ofInt k.bits y).toNat : Int) ≤ (BitVec.ofInt k.bits y).toNat := by
    rw [BitVec.toNat_and]; exact Int.ofNat_le.2 Nat.and_le_right
  have h2 : ((BitVec.ofInt k.bits y).toNat : Int) = y := by
    rw [toNat_ofInt, Int.emod_eq_of_lt h0 (by have := max_lt k; omega)]
  rw [wrap_in k (by have := min_le_zero k; omega) (by omega)]
  omega

theorem and_le_left (k : IntKind) {x y m : Int} (h0 : 0 ≤ x) (hm : x ≤ m) (hk : m ≤ k.max) :
    0 ≤ (IOp.and k).fn x y ∧ (IOp.and k).fn x y ≤ m := by
  have := and_le_right k (x := y) h0 hm hk
  simp only [IOp.fn] at *
  rwa [BitVec.and_comm]

/-! ## Ranges -/
def In (o : Option (Int × Int)) (x : Int) : Prop := ∀ r, o = some r → r.1 ≤ x ∧ x ≤ r.2

theorem inside_ok {k : IntKind} {lo hi x y : Int} (hy : y = k.wrap x) (h1 : lo ≤ x) (h2 : x ≤ hi) : In (inside (kr k) lo hi) y := by
  intro r hr
  unfold inside kr at hr
  have hw := wrap_range k x
  split at hr
  · rename_i h
    cases hr
    simp only at h ⊢
    rw [hy, wrap_in k (by omega) (by omega)]
    exact ⟨h1, h2⟩
  · cases hr
    rw [hy]; exact hw

theorem kr_ok (k : IntKind) (x : Int) : In (some (kr k)) (k.wrap x) := by
  intro r hr; cases hr; exact wrap_range k x

theorem shr_ok {x a1 a2 : Int} {n : Nat} (h0 : 0 ≤ a1) (h1 : a1 ≤ x) (h2 : x ≤ a2) : 0 ≤ x.fdiv (2 ^ n) ∧ x.fdiv (2 ^ n) ≤ a2 / 2 ^ n := by
  have hp : (0 : Int) < 2 ^ n := Int.pow_pos (by omega)
  rw [Int.fdiv_eq_ediv_of_nonneg _ (by omega)]
  exact ⟨Int.ediv_nonneg (by omega) (by omega), Int.ediv_le_ediv hp h2⟩

theorem rngOp_ok (o : IOp) {a b : Option (Int × Int)} {x y : Int} (ha : In a x) (hb : In b y) : In (rngOp o a b) (o.fn x y) := by
  cases o with
  | add k =>
    simp only [rngOp]
    split
    · rename_i a b
      have := ha _ rfl; have := hb _ rfl
      exact inside_ok rfl (by omega) (by omega)
    · exact kr_ok k _
  | sub k =>
    simp only [rngOp]
    split
    · rename_i a b
      have := ha _ rfl; have := hb _ rfl
      exact inside_ok rfl (by omega) (by omega)
    · exact kr_ok k _
  | mul k =>
    simp only [rngOp]
    split
    · rename_i a b
      have h1 := ha _ rfl; have h2 := hb _ rfl
      split
      · refine inside_ok rfl ?_ ?_
        · exact Int.mul_le_mul h1.1 h2.1 (by omega) (by omega)
        · exact Int.mul_le_mul h1.2 h2.2 (by omega) (by omega)
      · exact kr_ok k _
    · exact kr_ok k _
  | and k =>
    simp only [rngOp]
    split
    · rename_i b
      have h2 := hb _ rfl
      split
      · rename_i h
        intro r hr; cases hr
        exact and_le_right k (by omega) h2.2 h.2
      · exact kr_ok k _
    · rename_i a _
      have h1 := ha _ rfl
      split
      · rename_i h
        intro r hr; cases hr
        exact and_le_left k (by omega) h1.2 h.2
      · exact kr_ok k _
    · exact kr_ok k _
  | or k => exact kr_ok k _
  | xor k => exact kr_ok k _
  | andNot k => exact kr_ok k _
  | shl k => exact kr_ok k _
  | quo k => exact kr_ok k _
  | shr k =>
    simp only [rngOp]
    split
    · rename_i a b
      have h1 := ha _ rfl; have h2 := hb _ rfl
      split
      · rename_i h
        intro r hr; cases hr
        have hy : y = b.1 := by omega
        simp only [IOp.fn]
        rw [Nat.min_eq_left (by omega), hy]
        exact shr_ok h.1 h1.1 h1.2
      · intro r hr; cases hr
    · intro r hr; cases hr
  | rem =>
    simp only [rngOp]
    split
    · rename_i a b
      have h1 := ha _ rfl; have h2 := hb _ rfl
      split
      · rename_i h
        have hy : y = b.1 := by omega
        split
        · intro r hr; cases hr
          simp only [IOp.fn]
          rw [Int.tmod_eq_emod_of_nonneg (by omega)]
          have := Int.emod_nonneg x (b := y) (by omega)
          have := Int.emod_lt_of_pos x (b := y) (by omega)
          omega
        · intro r hr; cases hr
          simp only [IOp.fn]
          have h3 := Int.lt_tmod_of_pos x (b := y) (by omega)
          have h4 := Int.tmod_lt_of_pos x (b := y) (by omega)
          omega
      · intro r hr; cases hr
    · intro r hr; cases hr
  | conv k =>
    simp only [rngOp]
    split
    · rename_i a
      have h1 := ha _ rfl
      exact inside_ok rfl h1.1 h1.2
    · exact kr_ok k _
  | imax =>
    simp only [rngOp]
    split
    · have h1 := ha _ rfl; have h2 := hb _ rfl
      intro r hr; cases hr
      simp only [IOp.fn]
      split <;> omega
    · intro r hr; cases hr
  | imin =>
    simp only [rngOp]
    split
    · have h1 := ha _ rfl; have h2 := hb _ rfl
      intro r hr; cases hr
      simp only [IOp.fn]
      split <;> omega
    · intro r hr; cases hr

theorem rng_ok {Γ : Ctx} {ρ : Val} (h : CtxOk Γ ρ) : ∀ (d : Nat) (e : E), In (rng Γ d e) (e.den ρ)
  | d, .lit n => by
    intro r hr
    have : rng Γ d (.lit n) = some (n, n) := by cases d <;> rfl
    rw [this] at hr; cases hr; simp [E.den]
  | d, .var i => by
    intro r hr
    have : rng Γ d (.var i) = Γ.rvar i := by cases d <;> rfl
    rw [this] at hr
    simpa [E.den] using h.rvar i r hr
  | 0, .op o a b => by intro r hr; cases hr
  | d + 1, .op o a b => by
    simp only [rng, E.den]
    exact rngOp_ok o (rng_ok h d a) (rng_ok h d b)
  | d, .sel l e => by intro r hr; cases d <;> cases hr
  | 0, .app f l => by intro r hr; cases hr
  | d + 1, .app f l => by
    intro r hr
    simp only [rng] at hr
    simpa [E.den] using h.rapp f r _ hr

theorem within_ok {Γ : Ctx} {ρ : Val} (h : CtxOk Γ ρ) {k : IntKind} {e : E} (hw : within Γ k e = true) : k.min ≤ e.den ρ ∧ e.den ρ ≤ k.max := by
  unfold within at hw
  split at hw
  · rename_i r hr
    have := rng_ok h _ _ _ hr
    simp at hw
    omega
  · cases hw

theorem lit?_eq {e : E} {n : Int} (h : e.lit? = some n) : e = .lit n := by
  cases e <;> simp [E.lit?] at h; rw [h]

theorem fn_conv (k : IntKind) {x y : Int} (h : k.min ≤ x ∧ x ≤ k.max) : (IOp.conv k).fn x y = x := wrap_in k h.1 h.2
theorem fn_xor_zero (k : IntKind) {x : Int} (h : k.min ≤ x ∧ x ≤ k.max) : (IOp.xor k).fn x 0 = x := by
  simp only [IOp.fn, ofInt_zero_xor, wrap_ofInt, wrap_in k h.1 h.2]
theorem fn_zero_xor (k : IntKind) {x : Int} (h : k.min ≤ x ∧ x ≤ k.max) : (IOp.xor k).fn 0 x = x := by
  simp only [IOp.fn]; rw [BitVec.xor_comm]; exact fn_xor_zero k h
theorem fn_or_zero (k : IntKind) {x : Int} (h : k.min ≤ x ∧ x ≤ k.max) : (IOp.or k).fn x 0 = x := by
  have : BitVec.ofInt k.bits x ||| BitVec.ofInt k.bits 0 = BitVec.ofInt k.bits x := by simp
  simp only [IOp.fn, this, wrap_ofInt, wrap_in k h.1 h.2]
theorem fn_zero_or (k : IntKind) {x : Int} (h : k.min ≤ x ∧ x ≤ k.max) : (IOp.or k).fn 0 x = x := by
  simp only [IOp.fn]; rw [BitVec.or_comm]; exact fn_or_zero k h
theorem fn_shr_zero (k : IntKind) (x : Int) : (IOp.shr k).fn x 0 = x := by simp [IOp.fn]
theorem fn_shl_zero (k : IntKind) {x : Int} (h : k.min ≤ x ∧ x ≤ k.max) : (IOp.shl k).fn x 0 = x := by
  simp [IOp.fn, wrap_in k h.1 h.2]

theorem fn_add_zero (k : IntKind) {x : Int} (h : k.min ≤ x ∧ x ≤ k.max) : (IOp.add k).fn x 0 = x := by simp [IOp.fn, wrap_in k h.1 h.2]
theorem fn_zero_add (k : IntKind) {x : Int} (h : k.min ≤ x ∧ x ≤ k.max) : (IOp.add k).fn 0 x = x := by simp [IOp.fn, wrap_in k h.1 h.2]
theorem fn_mul_one (k : IntKind) {x : Int} (h : k.min ≤ x ∧ x ≤ k.max) : (IOp.mul k).fn x 1 = x := by simp [IOp.fn, wrap_in k h.1 h.2]
theorem fn_one_mul (k : IntKind) {x : Int} (h : k.min ≤ x ∧ x ≤ k.max) : (IOp.mul k).fn 1 x = x := by simp [IOp.fn, wrap_in k h.1 h.2]
theorem wrap_zero (k : IntKind) : k.wrap 0 = 0 := by cases k <;> rfl

theorem swap_ok {Γ : Ctx} {ρ : Val} (h : CtxOk Γ ρ) (e : E) : (swap Γ e).den ρ = e.den ρ := by
  unfold swap
  split
  · rename_i e' he; exact h.rw e e' he
  · rfl

theorem mk_ok {Γ : Ctx} {ρ : Val} (h : CtxOk Γ ρ) (o : IOp) (a b : E) : (mk Γ o a b).den ρ = o.fn (a.den ρ) (b.den ρ) := by
  unfold mk
  split
  · rename_i x y hx hy
    rw [lit?_eq hx, lit?_eq hy]; rfl
  · cases o with
    | conv k =>
      simp only
      split
      · rename_i hw; rw [fn_conv k (within_ok h hw)]
      · rw [swap_ok h]; simp [E.den, IOp.fn]
    | xor k =>
      simp only
      split
      · rename_i hw; rw [lit?_eq hw.1]; simp only [E.den]; rw [fn_xor_zero k (within_ok h hw.2)]
      · split
        · rename_i hw; rw [lit?_eq hw.1]; simp only [E.den]; rw [fn_zero_xor k (within_ok h hw.2)]
        · rw [swap_ok h]; rfl
    | or k =>
      simp only
      split
      · rename_i hw; rw [lit?_eq hw.1]; simp only [E.den]; rw [fn_or_zero k (within_ok h hw.2)]
      · split
        · rename_i hw; rw [lit?_eq hw.1]; simp only [E.den]; rw [fn_zero_or k (within_ok h hw.2)]
        · rw [swap_ok h]; rfl
    | add k =>
      simp only
      split
      · rename_i hw; rw [lit?_eq hw.1]; simp only [E.den]; rw [fn_add_zero k (within_ok h hw.2)]
      · split
        · rename_i hw; rw [lit?_eq hw.1]; simp only [E.den]; rw [fn_zero_add k (within_ok h hw.2)]
        · rw [swap_ok h]; rfl
    | mul k =>
      simp only
      split
      · rename_i hw
        rcases hw with hw | hw <;> rw [lit?_eq hw] <;> simp [E.den, IOp.fn, wrap_zero]
      · split
        · rename_i hw; rw [lit?_eq hw.1]; simp only [E.den]; rw [fn_mul_one k (within_ok h hw.2)]
        · split
          · rename_i hw; rw [lit?_eq hw.1]; simp only [E.den]; rw [fn_one_mul k (within_ok h hw.2)]
          · rw [swap_ok h]; rfl
    | shr k =>
      simp only
      split
      · rename_i hw; rw [lit?_eq hw]; simp only [E.den]; rw [fn_shr_zero]
      · rw [swap_ok h]; rfl
    | shl k =>
      simp only
      split
      · rename_i hw; rw [lit?_eq hw.1]; simp only [E.den]; rw [fn_shl_zero k (within_ok h hw.2)]
      · rw [swap_ok h]; rfl
    | _ => exact swap_ok h _

theorem mkApp_ok {Γ : Ctx} {ρ : Val} (h : CtxOk Γ ρ) (f : Nat) (args : List E) : (mkApp Γ f args).den ρ = ρ.app f (E.dens ρ args) := swap_ok h _

theorem lookC_mem {c : C} : ∀ {l : List (C × Bool)} {b : Bool}, lookC c l = some b → (c, b) ∈ l
  | [], _, h => by cases h
  | (d, b') :: l, b, h => by
    simp only [lookC] at h
    split at h
    · rename_i hs
      cases h
      rw [C.same_eq hs]; simp
    · exact List.mem_cons_of_mem _ (lookC_mem h)

theorem known_ok {Γ : Ctx} {ρ : Val} (h : CtxOk Γ ρ) (c : C) : (known Γ c).den ρ = c.den ρ := by
  unfold known
  split
  · rename_i b hb; rw [h.facts c b (lookC_mem hb)]; rfl
  · rfl

theorem byRange_ok {o : CO} {r s : Int × Int} {x y : Int} {v : Bool} (h : byRange o r s = some v) (hx : r.1 ≤ x ∧ x ≤ r.2) (hy : s.1 ≤ y ∧ y ≤ s.2) : o.fn x y = v := by
  cases o <;> simp only [byRange] at h <;> split at h <;> (try split at h) <;> simp at h <;> subst h <;> simp [CO.fn] <;> omega

theorem mkCmp_ok {Γ : Ctx} {ρ : Val} (h : CtxOk Γ ρ) (o : CO) (a b : E) : (mkCmp Γ o a b).den ρ = o.fn (a.den ρ) (b.den ρ) := by
  unfold mkCmp
  split
  · rename_i x y hx hy
    rw [lit?_eq hx, lit?_eq hy]; rfl
  · split
    · rename_i hs
      rw [E.same_eq hs]
      cases o <;> simp [C.den, CO.atSame, CO.fn]
    · split
      · rename_i r s hr hs
        split
        · rename_i v hv
          rw [byRange_ok hv (rng_ok h _ _ _ hr) (rng_ok h _ _ _ hs)]; rfl
        · rw [known_ok h]; rfl
      · rw [known_ok h]; rfl

theorem mkNot_ok {Γ : Ctx} {ρ : Val} (h : CtxOk Γ ρ) (c : C) : (mkNot Γ c).den ρ = !c.den ρ := by
  unfold mkNot
  split
  · rfl
  · rw [known_ok h]; rfl

theorem mkAnd_ok (ρ : Val) (c d : C) : (mkAnd c d).den ρ = (c.den ρ && d.den ρ) := by
  unfold mkAnd
  split <;> simp [C.den]

theorem mkIff_ok {Γ : Ctx} {ρ : Val} (h : CtxOk Γ ρ) (c d : C) : (mkIff Γ c d).den ρ = (c.den ρ == d.den ρ) := by
  unfold mkIff
  split
  · simp [C.den]
  · simp [C.den]
  · rw [mkNot_ok h]; simp [C.den]
  · rw [mkNot_ok h]; simp [C.den]
  · split
    · rename_i hs; rw [C.same_eq hs]; simp [C.den]
    · rw [known_ok h]; rfl

end Go.Sx
