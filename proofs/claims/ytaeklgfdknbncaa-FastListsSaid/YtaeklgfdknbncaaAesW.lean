/-
  Rewriting rules for bytes, words and tables: sound. Conditions: none beside the hypotheses of each theorem.
-/
import Derived.Test.YtaeklgfdknbncaaAesR
namespace Go.Aes
noncomputable section
open Go.Sx

/-! ## Rules -/
def isZero : E → Bool
  | .lit n => decide (n = 0)
  | _ => false

def coefF (k : Nat) (e : E) : E := if k = 0 then gmE 2 e else if k = 1 then gmE 3 e else e
def coefB (k : Nat) (e : E) : E := if k = 0 then gmE 14 e else if k = 1 then gmE 11 e else if k = 2 then gmE 13 e else gmE 9 e
def termF (i : Nat) (X : E) (r : Nat) : E := coefF ((r + 4 - i % 4) % 4) (sE (byteE (shI (i / 4 * 4 + r)) X))
def termB (i : Nat) (X : E) (r : Nat) : E := coefB ((r + 4 - i % 4) % 4) (bkE (byteE (unI (i / 4 * 4 + r)) X))
def xorT (a b : E) : E := .op (.xor .u8) a b
def chainF (i : Nat) (X K : E) : E := xorT (xorT (xorT (xorT (byteE i K) (termF i X 0)) (termF i X 1)) (termF i X 2)) (termF i X 3)
def chainB (i : Nat) (X K : E) : E := xorT (xorT (xorT (xorT (byteE i K) (termB i X 0)) (termB i X 1)) (termB i X 2)) (termB i X 3)

/-- the state in a term of a chain -/
def inner : E → Option E
  | .app _ [.app _ [X]] => some X
  | .app _ [_, .app _ [.app _ [X]]] => some X
  | _ => none

/-- of which round key, of which key -/
def keyOf (e : E) : Nat × E :=
  match e with
  | .app g [k] => if 400 ≤ g ∧ g < 410 then (g - 400, k) else (0, e)
  | _ => (0, e)

def keyPat (i : Nat) (K : E) (r : Nat) : E := if i = 0 then xorT (sE (byteE (12 + (i + 1) % 4) K)) (.lit (rcon r)) else sE (byteE (12 + (i + 1) % 4) K)

/-- byte i of round key r + 1 of k, if that is what the sum is -/
def keyStep (i : Nat) (K : E) (b : E) : Option E :=
  let r := (keyOf K).1
  let k := (keyOf K).2
  if r < 10 ∧ isState k = true ∧ K.same (keyE r k) = true then
    if i < 4 then
      if b.same (keyPat i K r) = true then some (byteE i (keyE (r + 1) k)) else none
    else if b.same (byteE (i - 4) (keyE (r + 1) k)) = true then some (byteE i (keyE (r + 1) k)) else none
  else none

def xorP (a b : E) : Option E :=
  match a, b with
  | .app fa [sa], .app fb [sb] =>
    if 100 ≤ fa ∧ fa < 116 then
      if fb = fa then some (byteE (fa - 100) (addE sa sb))
      else keyStep (fa - 100) sa b
    else if 100 ≤ fb ∧ fb < 116 then
      match inner a with
      | some X =>
        if a.same (sE (byteE (shI (fb - 100)) X)) = true then some (byteE (fb - 100) (addE (shiftE (subE X)) sb))
        else if a.same (bkE (byteE (unI (fb - 100)) X)) = true then some (byteE (fb - 100) (addE (unsubE (unshiftE X)) sb))
        else none
      | none => none
    else none
  | .app fa [sa], .op _ _ _ => if 100 ≤ fa ∧ fa < 116 then keyStep (fa - 100) sa b else none
  | .op _ (.op _ (.op _ (.app fk [K]) m0) _) _, _ =>
    if 100 ≤ fk ∧ fk < 116 then
      match inner m0 with
      | some X =>
        if (xorT a b).same (chainF (fk - 100) X K) = true then some (byteE (fk - 100) (addE (mixE (shiftE (subE X))) K))
        else if (xorT a b).same (chainB (fk - 100) X K) = true then some (byteE (fk - 100) (addE (unmixE (unsubE (unshiftE X))) K))
        else none
      | none => none
    else none
  | _, _ => none

def xorB (a b : E) : E :=
  match a.lit?, b.lit? with
  | some x, some y => .lit ((IOp.xor .u8).fn x y)
  | some x, none => if x = 0 ∧ isByte b = true then b else xorT a b
  | none, some y => if y = 0 ∧ isByte a = true then a else xorT a b
  | none, none => if isByte a = true ∧ isByte b = true then (xorP a b).getD (xorT a b) else xorT a b

/-! Words -/
def wordOf (e : E) : Option (E × E × E × E) :=
  match e with
  | .lit n => if 0 ≤ n ∧ n < 4294967296 then some (.lit (n.toNat / 16777216 : Nat), .lit (n.toNat / 65536 % 256 : Nat), .lit (n.toNat / 256 % 256 : Nat), .lit (n.toNat % 256 : Nat)) else none
  | .app f [a, b, c, d] => if f = 6 ∧ isByte a = true ∧ isByte b = true ∧ isByte c = true ∧ isByte d = true then some (a, b, c, d) else none
  | e => if isByte e = true then some (.lit 0, .lit 0, .lit 0, e) else none

def mkWord (a b c d : E) : E :=
  if isZero a = true ∧ isZero b = true ∧ isZero c = true then d else
  match a.lit?, b.lit?, c.lit?, d.lit? with
  | some x, some y, some z, some u => .lit (word x.toNat y.toNat z.toNat u.toNat : Nat)
  | _, _, _, _ => .app 6 [a, b, c, d]

def orB (a b : E) : Option E := if isZero a = true then some b else if isZero b = true then some a else none

def ruleOp (o : IOp) (x y : E) : Option E :=
  match o with
  | .xor .u8 => some (xorB x y)
  | .conv .u8 => (wordOf x).map fun w => w.2.2.2
  | .shl .u32 => match wordOf x, y with
    | some (_, b, c, d), .lit n => if n = 8 then some (mkWord b c d (.lit 0)) else if n = 16 then some (mkWord c d (.lit 0) (.lit 0)) else if n = 24 then some (mkWord d (.lit 0) (.lit 0) (.lit 0)) else none
    | _, _ => none
  | .shr .u32 => match wordOf x, y with
    | some (a, b, c, _), .lit n => if n = 8 then some (mkWord (.lit 0) a b c) else if n = 16 then some (mkWord (.lit 0) (.lit 0) a b) else if n = 24 then some a else none
    | _, _ => none
  | .xor .u32 => match wordOf x, wordOf y with
    | some (a, b, c, d), some (a', b', c', d') => some (mkWord (xorB a a') (xorB b b') (xorB c c') (xorB d d'))
    | _, _ => none
  | .or .u32 => match wordOf x, wordOf y with
    | some (a, b, c, d), some (a', b', c', d') => match orB a a', orB b b', orB c c', orB d d' with
      | some a, some b, some c, some d => some (mkWord a b c d)
      | _, _, _, _ => none
    | _, _ => none
  | _ => none

def nats (l : List Nat) : List E := l.map fun n : Nat => .lit (n : Int)
def tableF : List Nat := (List.range 256).map fun n => word (gm 2 (sb n)) (sb n) (sb n) (gm 3 (sb n))
def tableB : List Nat := (List.range 256).map fun n => word (gm 14 (bk n)) (gm 9 (bk n)) (gm 13 (bk n)) (gm 11 (bk n))

def ruleSel (l : List E) (e : E) : Option E :=
  if isByte e = true then
    if E.sames l (nats sboxL) = true then some (sE e)
    else if E.sames l (nats tableF) = true then some (mkWord (gmE 2 (sE e)) (sE e) (sE e) (gmE 3 (sE e)))
    else if E.sames l (nats tableB) = true then some (mkWord (gmE 14 (bkE e)) (gmE 9 (bkE e)) (gmE 13 (bkE e)) (gmE 11 (bkE e)))
    else none
  else none

def aesRw : E → Option E
  | .op o a b => ruleOp o a b
  | .sel l e => ruleSel l e
  | _ => none

/-! ## Soundness -/
section
variable {st : Nat → Nat} {int : Nat → Int} {bool : Nat → Bool}

theorem xor8 (a b : Nat) (ha : a < 256) (hb : b < 256) : (IOp.xor .u8).fn (a : Int) (b : Int) = ((a ^^^ b : Nat) : Int) := by
  have h : (IOp.xor .u8).fn (a : Int) (b : Int) = IntKind.wrap .u8 ((BitVec.ofInt 8 (a : Int) ^^^ BitVec.ofInt 8 (b : Int)).toNat : Int) := rfl
  rw [h, BitVec.ofInt_natCast, BitVec.ofInt_natCast, BitVec.toNat_xor, BitVec.toNat_ofNat, BitVec.toNat_ofNat, Nat.mod_eq_of_lt ha, Nat.mod_eq_of_lt hb]
  have := xor_lt ha hb
  simp [IntKind.wrap, IntKind.signed, IntKind.bits]; omega

theorem xorT_den {a b : E} {n m : Nat} (hn : n < 256) (hm : m < 256) (ha : a.den (aesVal st int bool) = n) (hb : b.den (aesVal st int bool) = m) : (xorT a b).den (aesVal st int bool) = (n ^^^ m : Nat) := by
  simp only [xorT, E.den, ha, hb]; exact xor8 n m hn hm

def coefNF (k n : Nat) : Nat := if k = 0 then gm 2 n else if k = 1 then gm 3 n else n
def coefNB (k n : Nat) : Nat := if k = 0 then gm 14 n else if k = 1 then gm 11 n else if k = 2 then gm 13 n else gm 9 n

theorem coefNF_lt {k n : Nat} (h : n < 256) : coefNF k n < 256 := by
  unfold coefNF; split
  · exact gm_lt (by decide)
  · split
    · exact gm_lt (by decide)
    · exact h
theorem coefNB_lt (k n : Nat) : coefNB k n < 256 := by
  unfold coefNB; split
  · exact gm_lt (by decide)
  · split
    · exact gm_lt (by decide)
    · split <;> exact gm_lt (by decide)

theorem termF_den {i : Nat} (X : E) (r : Nat) :
    (termF i X r).den (aesVal st int bool) = (coefNF ((r + 4 - i % 4) % 4) (sb (byte (shI (i / 4 * 4 + r)) (num (aesVal st int bool) X))) : Nat) := by
  have h := sE_den (st := st) (int := int) (bool := bool) (byte_lt _ _) (byteE_den (st := st) (int := int) (bool := bool) (shI (i / 4 * 4 + r)) (shI_lt _) X)
  unfold termF coefF coefNF
  split
  · exact gmE_den (by decide) h
  · split
    · exact gmE_den (by decide) h
    · exact h
theorem termB_den {i : Nat} (X : E) (r : Nat) :
    (termB i X r).den (aesVal st int bool) = (coefNB ((r + 4 - i % 4) % 4) (bk (byte (unI (i / 4 * 4 + r)) (num (aesVal st int bool) X))) : Nat) := by
  have h := bkE_den (st := st) (int := int) (bool := bool) (byte_lt _ _) (byteE_den (st := st) (int := int) (bool := bool) (unI (i / 4 * 4 + r)) (unI_lt _) X)
  unfold termB coefB coefNB
  split
  · exact gmE_den (by decide) h
  · split
    · exact gmE_den (by decide) h
    · split
      · exact gmE_den (by decide) h
      · exact gmE_den (by decide) h

theorem columnF (i : Nat) (y : Nat → Nat) (k : Nat) :
    k ^^^ coefNF ((0 + 4 - i % 4) % 4) (y (i / 4 * 4 + 0)) ^^^ coefNF ((1 + 4 - i % 4) % 4) (y (i / 4 * 4 + 1)) ^^^ coefNF ((2 + 4 - i % 4) % 4) (y (i / 4 * 4 + 2)) ^^^ coefNF ((3 + 4 - i % 4) % 4) (y (i / 4 * 4 + 3)) =
    mixC (y i) (y (at4 i 1)) (y (at4 i 2)) (y (at4 i 3)) ^^^ k := by
  have hi : i = i / 4 * 4 + i % 4 := by omega
  have hq : i % 4 < 4 := Nat.mod_lt _ (by decide)
  unfold at4
  generalize hm : i / 4 * 4 = m at *
  generalize hr : i % 4 = q at *
  subst hi
  match q, hq with
  | 0, _ => simp [coefNF, mixC]; simp only [Nat.xor_assoc, xor_left_comm, Nat.xor_comm]
  | 1, _ => simp [coefNF, mixC]; simp only [Nat.xor_assoc, xor_left_comm, Nat.xor_comm]
  | 2, _ => simp [coefNF, mixC]; simp only [Nat.xor_assoc, xor_left_comm, Nat.xor_comm]
  | 3, _ => simp [coefNF, mixC]; simp only [xor_left_comm, Nat.xor_comm]

theorem columnB (i : Nat) (y : Nat → Nat) (k : Nat) :
    k ^^^ coefNB ((0 + 4 - i % 4) % 4) (y (i / 4 * 4 + 0)) ^^^ coefNB ((1 + 4 - i % 4) % 4) (y (i / 4 * 4 + 1)) ^^^ coefNB ((2 + 4 - i % 4) % 4) (y (i / 4 * 4 + 2)) ^^^ coefNB ((3 + 4 - i % 4) % 4) (y (i / 4 * 4 + 3)) =
    unmixC (y i) (y (at4 i 1)) (y (at4 i 2)) (y (at4 i 3)) ^^^ k := by
  have hi : i = i / 4 * 4 + i % 4 := by omega
  have hq : i % 4 < 4 := Nat.mod_lt _ (by decide)
  unfold at4
  generalize hm : i / 4 * 4 = m at *
  generalize hr : i % 4 = q at *
  subst hi
  match q, hq with
  | 0, _ => simp [coefNB, unmixC]; simp only [xor_left_comm, Nat.xor_comm]
  | 1, _ => simp [coefNB, unmixC]; simp only [Nat.xor_assoc, xor_left_comm, Nat.xor_comm]
  | 2, _ => simp [coefNB, unmixC]; simp only [Nat.xor_assoc, xor_left_comm, Nat.xor_comm]
  | 3, _ => simp [coefNB, unmixC]; simp only [Nat.xor_assoc, xor_left_comm, Nat.xor_comm]

theorem chainF_den {i : Nat} (hi : i < 16) (X K : E) : (chainF i X K).den (aesVal st int bool) = (byteE i (addE (mixE (shiftE (subE X))) K)).den (aesVal st int bool) := by
  have ht := fun r => termF_den (st := st) (int := int) (bool := bool) (i := i) X r
  have hl : ∀ r, coefNF ((r + 4 - i % 4) % 4) (sb (byte (shI (i / 4 * 4 + r)) (num (aesVal st int bool) X))) < 256 := fun r => coefNF_lt (sb_lt (byte_lt _ _))
  have hk := byteE_den (st := st) (int := int) (bool := bool) i hi K
  have h1 := xorT_den (byte_lt _ _) (hl 0) hk (ht 0)
  have h2 := xorT_den (xor_lt (byte_lt _ _) (hl 0)) (hl 1) h1 (ht 1)
  have h3 := xorT_den (xor_lt (xor_lt (byte_lt _ _) (hl 0)) (hl 1)) (hl 2) h2 (ht 2)
  have h4 := xorT_den (xor_lt (xor_lt (xor_lt (byte_lt _ _) (hl 0)) (hl 1)) (hl 2)) (hl 3) h3 (ht 3)
  rw [byteE_den i hi, num_of (addE_den _ _), num_of (mixE_den _), num_of (shiftE_den _), num_of (subE_den _), byte_add _ _ hi, byte_mix _ hi]
  have e : ∀ p, p < 16 → byte p (shiftS (subS (num (aesVal st int bool) X))) = sb (byte (shI p) (num (aesVal st int bool) X)) := fun p hp => by
    rw [byte_shift _ hp, byte_sub _ (shI_lt _)]
  rw [e i hi, e _ (at4_lt 1 hi), e _ (at4_lt 2 hi), e _ (at4_lt 3 hi)]
  refine h4.trans ?_
  rw [columnF i (fun p => sb (byte (shI p) (num (aesVal st int bool) X)))]

theorem chainB_den {i : Nat} (hi : i < 16) (X K : E) : (chainB i X K).den (aesVal st int bool) = (byteE i (addE (unmixE (unsubE (unshiftE X))) K)).den (aesVal st int bool) := by
  have ht := fun r => termB_den (st := st) (int := int) (bool := bool) (i := i) X r
  have hl : ∀ r, coefNB ((r + 4 - i % 4) % 4) (bk (byte (unI (i / 4 * 4 + r)) (num (aesVal st int bool) X))) < 256 := fun r => coefNB_lt _ _
  have hk := byteE_den (st := st) (int := int) (bool := bool) i hi K
  have h1 := xorT_den (byte_lt _ _) (hl 0) hk (ht 0)
  have h2 := xorT_den (xor_lt (byte_lt _ _) (hl 0)) (hl 1) h1 (ht 1)
  have h3 := xorT_den (xor_lt (xor_lt (byte_lt _ _) (hl 0)) (hl 1)) (hl 2) h2 (ht 2)
  have h4 := xorT_den (xor_lt (xor_lt (xor_lt (byte_lt _ _) (hl 0)) (hl 1)) (hl 2)) (hl 3) h3 (ht 3)
  rw [byteE_den i hi, num_of (addE_den _ _), num_of (unmixE_den _), num_of (unsubE_den _), num_of (unshiftE_den _), byte_add _ _ hi, byte_unmix _ hi]
  have e : ∀ p, p < 16 → byte p (unsubS (unshiftS (num (aesVal st int bool) X))) = bk (byte (unI p) (num (aesVal st int bool) X)) := fun p hp => by
    rw [byte_unsub _ hp, byte_unshift _ hp]
  rw [e i hi, e _ (at4_lt 1 hi), e _ (at4_lt 2 hi), e _ (at4_lt 3 hi)]
  refine h4.trans ?_
  rw [columnB i (fun p => bk (byte (unI p) (num (aesVal st int bool) X)))]

theorem app_byte {f : Nat} (h0 : 100 ≤ f) (h1 : f < 116) (s : E) : (E.app f [s]).den (aesVal st int bool) = (byte (f - 100) (num (aesVal st int bool) s) : Nat) := by
  show ((appN st f [s.den _] : Nat) : Int) = _
  unfold appN
  rw [if_neg (by omega), if_pos h1]; rfl

theorem keyStep_ok {i : Nat} (hi : i < 16) {K b e : E} {m : Nat} (hb : b.den (aesVal st int bool) = m) (h : keyStep i K b = some e) :
    e.den (aesVal st int bool) = (byte i (num (aesVal st int bool) K) ^^^ m : Nat) := by
  unfold keyStep at h
  generalize (keyOf K).1 = r at h
  generalize (keyOf K).2 = k at h
  simp only at h
  split at h
  · rename_i hc
    obtain ⟨hr, hs, hK⟩ := hc
    have hKn : num (aesVal st int bool) K = keyR r (num (aesVal st int bool) k) := by
      rw [E.same_eq hK]; exact num_of (keyE_den (by omega) hs)
    have hK1 := keyE_den (st := st) (int := int) (bool := bool) (r := r + 1) (by omega) hs
    split at h
    · rename_i hi4
      split at h
      · rename_i hbs
        cases h
        rw [byteE_den i hi, num_of hK1, key_first _ _ _ hi4, hKn]
        congr 2
        have hS := sE_den (st := st) (int := int) (bool := bool) (byte_lt _ _) (byteE_den (st := st) (int := int) (bool := bool) (12 + (i + 1) % 4) (by omega) K)
        rw [E.same_eq hbs, keyPat] at hb
        split at hb
        · rename_i h0
          rw [if_pos h0]
          have := xorT_den (sb_lt (byte_lt _ _)) (rcon_lt r) hS (show (E.lit (rcon r)).den (aesVal st int bool) = (rcon r : Nat) from rfl)
          rw [this, hKn] at hb
          exact Int.ofNat_inj.1 hb
        · rename_i h0
          rw [if_neg h0, Nat.xor_zero]
          rw [hS, hKn] at hb
          exact Int.ofNat_inj.1 hb
      · cases h
    · rename_i hi4
      split at h
      · rename_i hbs
        cases h
        rw [byteE_den i hi, num_of hK1]
        rw [E.same_eq hbs, byteE_den (i - 4) (by omega), num_of hK1] at hb
        have hb' := Int.ofNat_inj.1 hb
        have := key_later r (num (aesVal st int bool) k) (i - 4) (by omega)
        rw [Nat.sub_add_cancel (by omega)] at this
        rw [this, hKn, hb']
      · cases h
  · cases h

theorem xorP_ok {a b e : E} {n m : Nat} (hn : n < 256) (hm : m < 256) (ha : a.den (aesVal st int bool) = n) (hb : b.den (aesVal st int bool) = m) (h : xorP a b = some e) :
    e.den (aesVal st int bool) = (n ^^^ m : Nat) := by
  unfold xorP at h
  split at h
  · rename_i fa sa fb sb'
    split at h
    · rename_i hfa
      have hA := app_byte (st := st) (int := int) (bool := bool) hfa.1 hfa.2 sa
      rw [ha] at hA
      have hn' := Int.ofNat_inj.1 hA
      split at h
      · rename_i hfb
        cases h
        have hB := app_byte (st := st) (int := int) (bool := bool) hfa.1 hfa.2 sb'
        rw [← hfb, hb] at hB
        have hm' := Int.ofNat_inj.1 hB
        rw [byteE_den _ (by omega), num_of (addE_den _ _), byte_add _ _ (by omega), hn', hm', hfb]
      · rw [hn']; exact keyStep_ok (by omega) hb h
    · split at h
      · rename_i hfb
        have hB := app_byte (st := st) (int := int) (bool := bool) hfb.1 hfb.2 sb'
        rw [hb] at hB
        have hm' := Int.ofNat_inj.1 hB
        split at h
        · rename_i X hX
          split at h
          · rename_i hs
            cases h
            rw [E.same_eq hs, sE_den (byte_lt _ _) (byteE_den _ (shI_lt _) X)] at ha
            have hn' := Int.ofNat_inj.1 ha
            rw [byteE_den _ (by omega), num_of (addE_den _ _), byte_add _ _ (by omega), num_of (shiftE_den _), num_of (subE_den _), byte_shift _ (by omega), byte_sub _ (shI_lt _), hn', hm']
          · split at h
            · rename_i hs
              cases h
              rw [E.same_eq hs, bkE_den (byte_lt _ _) (byteE_den _ (unI_lt _) X)] at ha
              have hn' := Int.ofNat_inj.1 ha
              rw [byteE_den _ (by omega), num_of (addE_den _ _), byte_add _ _ (by omega), num_of (unsubE_den _), num_of (unshiftE_den _), byte_unsub _ (by omega), byte_unshift _ (by omega), hn', hm']
            · cases h
        · cases h
      · cases h
  · rename_i fa sa o x y
    split at h
    · rename_i hfa
      have hA := app_byte (st := st) (int := int) (bool := bool) hfa.1 hfa.2 sa
      rw [ha] at hA
      rw [Int.ofNat_inj.1 hA]
      exact keyStep_ok (by omega) hb h
    · cases h
  · rename_i fk K m0 _ _ _
    split at h
    · rename_i hfk
      split at h
      · rename_i X hX
        split at h
        · rename_i hs
          cases h
          rw [← chainF_den (by omega), ← E.same_eq hs]
          exact xorT_den hn hm ha hb
        · split at h
          · rename_i hs
            cases h
            rw [← chainB_den (by omega), ← E.same_eq hs]
            exact xorT_den hn hm ha hb
          · cases h
      · cases h
    · cases h
  · cases h

theorem xorB_any (a b : E) : (xorB a b).den (aesVal st int bool) = (xorT a b).den (aesVal st int bool) := by
  unfold xorB
  split
  · rename_i x y hx hy
    rw [lit?_some hx, lit?_some hy]; rfl
  · rename_i x hx hy
    split
    · rename_i h
      obtain ⟨m, hm, hb⟩ := isByte_ok (st := st) (int := int) (bool := bool) h.2
      rw [lit?_some hx, h.1, xorT_den (a := .lit 0) (n := 0) (by decide) hm rfl hb, hb, Nat.zero_xor]
    · rfl
  · rename_i y hx hy
    split
    · rename_i h
      obtain ⟨n, hn, ha⟩ := isByte_ok (st := st) (int := int) (bool := bool) h.2
      rw [lit?_some hy, h.1, xorT_den (b := .lit 0) (m := 0) hn (by decide) ha rfl, ha, Nat.xor_zero]
    · rfl
  · split
    · rename_i h
      obtain ⟨n, hn, ha⟩ := isByte_ok (st := st) (int := int) (bool := bool) h.1
      obtain ⟨m, hm, hb⟩ := isByte_ok (st := st) (int := int) (bool := bool) h.2
      cases hp : xorP a b with
      | none => rfl
      | some e => rw [Option.getD_some, xorP_ok hn hm ha hb hp, xorT_den hn hm ha hb]
    · rfl

/-! ## Words -/
theorem isByte_xorB {a b : E} (ha : isByte a = true) (hb : isByte b = true) : ∃ n m : Nat, n < 256 ∧ m < 256 ∧ a.den (aesVal st int bool) = n ∧ b.den (aesVal st int bool) = m ∧ (xorB a b).den (aesVal st int bool) = (n ^^^ m : Nat) := by
  obtain ⟨n, hn, ha⟩ := isByte_ok (st := st) (int := int) (bool := bool) ha
  obtain ⟨m, hm, hb⟩ := isByte_ok (st := st) (int := int) (bool := bool) hb
  exact ⟨n, m, hn, hm, ha, hb, by rw [xorB_any, xorT_den hn hm ha hb]⟩

/-- four bytes, and what they stand for -/
def Bytes4 (v : Val) (w : E × E × E × E) (a b c d : Nat) : Prop :=
  (w.1.den v = a ∧ w.2.1.den v = b ∧ w.2.2.1.den v = c ∧ w.2.2.2.den v = d) ∧ a < 256 ∧ b < 256 ∧ c < 256 ∧ d < 256

theorem word_div (n : Nat) (h : n < 4294967296) : word (n / 16777216) (n / 65536 % 256) (n / 256 % 256) (n % 256) = n := by unfold word; omega

theorem word_app (l : List Int) (a b c d : Nat) (ha : a < 256) (hb : b < 256) (hc : c < 256) (hd : d < 256) (h : l = [(a : Int), (b : Int), (c : Int), (d : Int)]) : appN st 6 l = word a b c d := by
  subst h
  simp [appN, smallC, arg, Nat.mod_eq_of_lt ha, Nat.mod_eq_of_lt hb, Nat.mod_eq_of_lt hc, Nat.mod_eq_of_lt hd]

theorem wordOf_ok {e : E} {w : E × E × E × E} (h : wordOf e = some w) : ∃ a b c d, Bytes4 (aesVal st int bool) w a b c d ∧ e.den (aesVal st int bool) = (word a b c d : Nat) := by
  unfold wordOf at h
  split at h
  · rename_i n
    split at h
    · rename_i hn
      cases h
      refine ⟨n.toNat / 16777216, n.toNat / 65536 % 256, n.toNat / 256 % 256, n.toNat % 256, ⟨⟨rfl, rfl, rfl, rfl⟩, by omega, by omega, by omega, by omega⟩, ?_⟩
      rw [word_div _ (by omega)]
      simp only [E.den]; omega
    · cases h
  · rename_i f a b c d
    split at h
    · rename_i hc
      cases h
      obtain ⟨h0, h1, h2, h3, h4⟩ := hc
      obtain ⟨a', la, ha⟩ := isByte_ok (st := st) (int := int) (bool := bool) h1
      obtain ⟨b', lb, hb⟩ := isByte_ok (st := st) (int := int) (bool := bool) h2
      obtain ⟨c', lc, hc⟩ := isByte_ok (st := st) (int := int) (bool := bool) h3
      obtain ⟨d', ld, hd⟩ := isByte_ok (st := st) (int := int) (bool := bool) h4
      refine ⟨a', b', c', d', ⟨⟨ha, hb, hc, hd⟩, la, lb, lc, ld⟩, ?_⟩
      subst h0
      show ((appN st 6 _ : Nat) : Int) = _
      rw [word_app (st := st) _ a' b' c' d' la lb lc ld]
      simp only [E.dens]
      rw [ha, hb, hc, hd]
    · cases h
  · split at h
    · rename_i hb
      cases h
      obtain ⟨d, ld, hd⟩ := isByte_ok (st := st) (int := int) (bool := bool) hb
      refine ⟨0, 0, 0, d, ⟨⟨rfl, rfl, rfl, hd⟩, by decide, by decide, by decide, ld⟩, ?_⟩
      rw [hd]; simp [word]
    · cases h

theorem isZero_ok {e : E} (h : isZero e = true) : e = .lit 0 := by
  cases e with
  | lit n => simp only [isZero, decide_eq_true_eq] at h; rw [h]
  | _ => cases h

theorem mkWord_ok {w : E × E × E × E} {a b c d : Nat} (h : Bytes4 (aesVal st int bool) w a b c d) : (mkWord w.1 w.2.1 w.2.2.1 w.2.2.2).den (aesVal st int bool) = (word a b c d : Nat) := by
  obtain ⟨x, y, z, u⟩ := w
  obtain ⟨⟨ha, hb, hc, hd⟩, la, lb, lc, ld⟩ := h
  simp only at ha hb hc hd ⊢
  unfold mkWord
  split
  · rename_i h0
    rw [isZero_ok h0.1] at ha
    rw [isZero_ok h0.2.1] at hb
    rw [isZero_ok h0.2.2] at hc
    have e1 : a = 0 := Int.ofNat_inj.1 ha.symm
    have e2 : b = 0 := Int.ofNat_inj.1 hb.symm
    have e3 : c = 0 := Int.ofNat_inj.1 hc.symm
    rw [hd, e1, e2, e3]; simp [word]
  · split
    · rename_i x' y' z' u' hx hy hz hu
      rw [lit?_some hx] at ha
      rw [lit?_some hy] at hb
      rw [lit?_some hz] at hc
      rw [lit?_some hu] at hd
      simp only [E.den] at ha hb hc hd ⊢
      rw [ha, hb, hc, hd]; rfl
    · show ((appN st 6 _ : Nat) : Int) = _
      rw [word_app (st := st) _ a b c d la lb lc ld]
      simp only [E.dens]
      rw [ha, hb, hc, hd]

theorem wrap32 {n : Nat} (h : n < 4294967296) : IntKind.wrap .u32 (n : Int) = n := by
  simp [IntKind.wrap, IntKind.signed, IntKind.bits]; omega

theorem word_lt {a b c d : Nat} (ha : a < 256) (hb : b < 256) (hc : c < 256) (hd : d < 256) : word a b c d < 4294967296 := by unfold word; omega

theorem shl32 (x : Nat) (k : Nat) (hk : k ≤ 32) : (IOp.shl .u32).fn (x : Int) (k : Int) = ((x * 2 ^ k % 4294967296 : Nat) : Int) := by
  simp only [IOp.fn, IntKind.bits, Int.toNat_natCast, Nat.min_eq_left hk]
  rw [show ((x : Int) * 2 ^ k) = ((x * 2 ^ k : Nat) : Int) by simp]
  simp [IntKind.wrap, IntKind.signed, IntKind.bits]

theorem shr32 (x : Nat) (k : Nat) (hk : k ≤ 32) : (IOp.shr .u32).fn (x : Int) (k : Int) = ((x / 2 ^ k : Nat) : Int) := by
  simp only [IOp.fn, IntKind.bits, Int.toNat_natCast, Nat.min_eq_left hk]
  rw [show ((2 : Int) ^ k) = ((2 ^ k : Nat) : Int) by simp, Int.fdiv_eq_ediv_of_nonneg _ (Int.natCast_nonneg _)]
  exact (Int.natCast_ediv _ _).symm

theorem xor_digit (x y b c : Nat) (hb : b < 256) (hc : c < 256) : (x * 256 + b) ^^^ (y * 256 + c) = (x ^^^ y) * 256 + (b ^^^ c) := by
  have h1 := Nat.xor_div_two_pow (n := 8) (a := x * 256 + b) (b := y * 256 + c)
  have h2 := Nat.xor_mod_two_pow (n := 8) (a := x * 256 + b) (b := y * 256 + c)
  have l := xor_lt hb hc
  rw [show (2 : Nat) ^ 8 = 256 from rfl, show (x * 256 + b) / 256 = x by omega, show (y * 256 + c) / 256 = y by omega] at h1
  rw [show (2 : Nat) ^ 8 = 256 from rfl, show (x * 256 + b) % 256 = b by omega, show (y * 256 + c) % 256 = c by omega] at h2
  omega

theorem or_digit (x y b c : Nat) (hb : b < 256) (hc : c < 256) : (x * 256 + b) ||| (y * 256 + c) = (x ||| y) * 256 + (b ||| c) := by
  have h1 := Nat.or_div_two_pow (n := 8) (a := x * 256 + b) (b := y * 256 + c)
  have h2 := Nat.or_mod_two_pow (n := 8) (a := x * 256 + b) (b := y * 256 + c)
  have l : b ||| c < 256 := Nat.or_lt_two_pow (n := 8) hb hc
  rw [show (2 : Nat) ^ 8 = 256 from rfl, show (x * 256 + b) / 256 = x by omega, show (y * 256 + c) / 256 = y by omega] at h1
  rw [show (2 : Nat) ^ 8 = 256 from rfl, show (x * 256 + b) % 256 = b by omega, show (y * 256 + c) % 256 = c by omega] at h2
  omega

theorem word_xor {a b c d a' b' c' d' : Nat} (hb : b < 256) (hc : c < 256) (hd : d < 256) (hb' : b' < 256) (hc' : c' < 256) (hd' : d' < 256) :
    word a b c d ^^^ word a' b' c' d' = word (a ^^^ a') (b ^^^ b') (c ^^^ c') (d ^^^ d') := by
  unfold word; rw [xor_digit _ _ _ _ hd hd', xor_digit _ _ _ _ hc hc', xor_digit _ _ _ _ hb hb']
theorem word_or {a b c d a' b' c' d' : Nat} (hb : b < 256) (hc : c < 256) (hd : d < 256) (hb' : b' < 256) (hc' : c' < 256) (hd' : d' < 256) :
    word a b c d ||| word a' b' c' d' = word (a ||| a') (b ||| b') (c ||| c') (d ||| d') := by
  unfold word; rw [or_digit _ _ _ _ hd hd', or_digit _ _ _ _ hc hc', or_digit _ _ _ _ hb hb']

theorem xor32 (a b : Nat) (ha : a < 4294967296) (hb : b < 4294967296) : (IOp.xor .u32).fn (a : Int) (b : Int) = ((a ^^^ b : Nat) : Int) := by
  have h : (IOp.xor .u32).fn (a : Int) (b : Int) = IntKind.wrap .u32 ((BitVec.ofInt 32 (a : Int) ^^^ BitVec.ofInt 32 (b : Int)).toNat : Int) := rfl
  rw [h, BitVec.ofInt_natCast, BitVec.ofInt_natCast, BitVec.toNat_xor, BitVec.toNat_ofNat, BitVec.toNat_ofNat, Nat.mod_eq_of_lt ha, Nat.mod_eq_of_lt hb]
  exact wrap32 (Nat.xor_lt_two_pow (n := 32) ha hb)
theorem or32 (a b : Nat) (ha : a < 4294967296) (hb : b < 4294967296) : (IOp.or .u32).fn (a : Int) (b : Int) = ((a ||| b : Nat) : Int) := by
  have h : (IOp.or .u32).fn (a : Int) (b : Int) = IntKind.wrap .u32 ((BitVec.ofInt 32 (a : Int) ||| BitVec.ofInt 32 (b : Int)).toNat : Int) := rfl
  rw [h, BitVec.ofInt_natCast, BitVec.ofInt_natCast, BitVec.toNat_or, BitVec.toNat_ofNat, BitVec.toNat_ofNat, Nat.mod_eq_of_lt ha, Nat.mod_eq_of_lt hb]
  exact wrap32 (Nat.or_lt_two_pow (n := 32) ha hb)

theorem orB_ok {x y z : E} {a b : Nat} (hx : x.den (aesVal st int bool) = a) (hy : y.den (aesVal st int bool) = b) (h : orB x y = some z) : z.den (aesVal st int bool) = (a ||| b : Nat) := by
  unfold orB at h
  split at h
  · rename_i h0
    cases h
    rw [isZero_ok h0] at hx
    have : a = 0 := Int.ofNat_inj.1 hx.symm
    rw [hy, this, Nat.zero_or]
  · split at h
    · rename_i h0
      cases h
      rw [isZero_ok h0] at hy
      have : b = 0 := Int.ofNat_inj.1 hy.symm
      rw [hx, this, Nat.or_zero]
    · cases h

theorem xorB_den {x y : E} {a b : Nat} (la : a < 256) (lb : b < 256) (hx : x.den (aesVal st int bool) = a) (hy : y.den (aesVal st int bool) = b) : (xorB x y).den (aesVal st int bool) = (a ^^^ b : Nat) := by
  rw [xorB_any, xorT_den la lb hx hy]

theorem or_lt8 {a b : Nat} (ha : a < 256) (hb : b < 256) : a ||| b < 256 := Nat.or_lt_two_pow (n := 8) ha hb

theorem ruleOp_ok {o : IOp} {x y e : E} (h : ruleOp o x y = some e) : e.den (aesVal st int bool) = (E.op o x y).den (aesVal st int bool) := by
  unfold ruleOp at h
  split at h
  · cases h; exact xorB_any x y
  · cases hw : wordOf x with
    | none => rw [hw] at h; cases h
    | some w =>
      rw [hw] at h; cases h
      obtain ⟨a, b, c, d, ⟨⟨_, _, _, hd⟩, _, _, _, ld⟩, hx⟩ := wordOf_ok (st := st) (int := int) (bool := bool) hw
      rw [hd, E.den, hx]
      simp [IOp.fn, IntKind.wrap, IntKind.signed, IntKind.bits, word]; omega
  · split at h
    · rename_i w b c d n hw
      obtain ⟨a', b', c', d', ⟨⟨_, hb, hc, hd⟩, la, lb, lc, ld⟩, hx⟩ := wordOf_ok (st := st) (int := int) (bool := bool) hw
      simp only at hb hc hd
      split at h
      · rename_i hn
        cases h
        rw [mkWord_ok (a := b') (b := c') (c := d') (d := 0) (w := (b, c, d, .lit 0)) ⟨⟨hb, hc, hd, rfl⟩, lb, lc, ld, by decide⟩, hn, E.den, hx]
        refine Eq.trans ?_ (shl32 _ 8 (by decide)).symm
        congr 1; unfold word; omega
      · split at h
        · rename_i hn
          cases h
          rw [mkWord_ok (a := c') (b := d') (c := 0) (d := 0) (w := (c, d, .lit 0, .lit 0)) ⟨⟨hc, hd, rfl, rfl⟩, lc, ld, by decide, by decide⟩, hn, E.den, hx]
          refine Eq.trans ?_ (shl32 _ 16 (by decide)).symm
          congr 1; unfold word; omega
        · split at h
          · rename_i hn
            cases h
            rw [mkWord_ok (a := d') (b := 0) (c := 0) (d := 0) (w := (d, .lit 0, .lit 0, .lit 0)) ⟨⟨hd, rfl, rfl, rfl⟩, ld, by decide, by decide, by decide⟩, hn, E.den, hx]
            refine Eq.trans ?_ (shl32 _ 24 (by decide)).symm
            congr 1; unfold word; omega
          · cases h
    · cases h
  · split at h
    · rename_i a b c w n hw
      obtain ⟨a', b', c', d', ⟨⟨ha, hb, hc, hd⟩, la, lb, lc, ld⟩, hx⟩ := wordOf_ok (st := st) (int := int) (bool := bool) hw
      simp only at ha hb hc hd
      split at h
      · rename_i hn
        cases h
        rw [mkWord_ok (a := 0) (b := a') (c := b') (d := c') (w := (.lit 0, a, b, c)) ⟨⟨rfl, ha, hb, hc⟩, by decide, la, lb, lc⟩, hn, E.den, hx]
        refine Eq.trans ?_ (shr32 _ 8 (by decide)).symm
        congr 1; unfold word; omega
      · split at h
        · rename_i hn
          cases h
          rw [mkWord_ok (a := 0) (b := 0) (c := a') (d := b') (w := (.lit 0, .lit 0, a, b)) ⟨⟨rfl, rfl, ha, hb⟩, by decide, by decide, la, lb⟩, hn, E.den, hx]
          refine Eq.trans ?_ (shr32 _ 16 (by decide)).symm
          congr 1; unfold word; omega
        · split at h
          · rename_i hn
            cases h
            rw [ha, hn, E.den, hx]
            refine Eq.trans ?_ (shr32 _ 24 (by decide)).symm
            congr 1; unfold word; omega
          · cases h
    · cases h
  · split at h
    · rename_i a b c d a' b' c' d' hw hw'
      cases h
      obtain ⟨na, nb, nc, nd, ⟨⟨ha, hb, hc, hd⟩, la, lb, lc, ld⟩, hx⟩ := wordOf_ok (st := st) (int := int) (bool := bool) hw
      obtain ⟨ma, mb, mc, md, ⟨⟨ha', hb', hc', hd'⟩, la', lb', lc', ld'⟩, hy⟩ := wordOf_ok (st := st) (int := int) (bool := bool) hw'
      simp only at ha hb hc hd ha' hb' hc' hd'
      rw [mkWord_ok (w := (xorB a a', xorB b b', xorB c c', xorB d d')) ⟨⟨xorB_den la la' ha ha', xorB_den lb lb' hb hb', xorB_den lc lc' hc hc', xorB_den ld ld' hd hd'⟩, xor_lt la la', xor_lt lb lb', xor_lt lc lc', xor_lt ld ld'⟩]
      rw [E.den, hx, hy, xor32 _ _ (word_lt la lb lc ld) (word_lt la' lb' lc' ld'), word_xor lb lc ld lb' lc' ld']
    · cases h
  · split at h
    · rename_i a b c d a' b' c' d' hw hw'
      obtain ⟨na, nb, nc, nd, ⟨⟨ha, hb, hc, hd⟩, la, lb, lc, ld⟩, hx⟩ := wordOf_ok (st := st) (int := int) (bool := bool) hw
      obtain ⟨ma, mb, mc, md, ⟨⟨ha', hb', hc', hd'⟩, la', lb', lc', ld'⟩, hy⟩ := wordOf_ok (st := st) (int := int) (bool := bool) hw'
      simp only at ha hb hc hd ha' hb' hc' hd'
      split at h
      · rename_i oa ob oc od ea eb ec ed
        cases h
        rw [mkWord_ok (w := (oa, ob, oc, od)) ⟨⟨orB_ok ha ha' ea, orB_ok hb hb' eb, orB_ok hc hc' ec, orB_ok hd hd' ed⟩, or_lt8 la la', or_lt8 lb lb', or_lt8 lc lc', or_lt8 ld ld'⟩]
        rw [E.den, hx, hy, or32 _ _ (word_lt la lb lc ld) (word_lt la' lb' lc' ld'), word_or lb lc ld lb' lc' ld']
      · cases h
    · cases h
  · cases h

theorem nats_den (l : List Nat) (v : Val) (n : Nat) : (E.dens v (nats l)).getD n 0 = (l.getD n 0 : Nat) := by
  induction l generalizing n with
  | nil => simp [nats, E.dens]
  | cons a l ih =>
    cases n with
    | zero => simp [nats, E.dens, E.den]
    | succ n => simpa [nats, E.dens] using ih n

theorem range_get {f : Nat → Nat} {n : Nat} (h : n < 256) : ((List.range 256).map f).getD n 0 = f n := by
  simp [List.getD_eq_getElem?_getD, h]

theorem ruleSel_ok {l : List E} {x e : E} (h : ruleSel l x = some e) : e.den (aesVal st int bool) = (E.sel l x).den (aesVal st int bool) := by
  unfold ruleSel at h
  split at h
  · rename_i hb
    obtain ⟨n, hn, hx⟩ := isByte_ok (st := st) (int := int) (bool := bool) hb
    have hs := sE_den (st := st) (int := int) (bool := bool) hn hx
    have hk := bkE_den (st := st) (int := int) (bool := bool) hn hx
    split at h
    · rename_i hl
      cases h
      rw [hs, E.sames_eq hl, E.den, hx, Int.toNat_natCast, nats_den]; rfl
    · split at h
      · rename_i hl
        cases h
        rw [mkWord_ok (w := (gmE 2 (sE x), sE x, sE x, gmE 3 (sE x))) ⟨⟨gmE_den (by decide) hs, hs, hs, gmE_den (by decide) hs⟩, gm_lt (by decide), sb_lt hn, sb_lt hn, gm_lt (by decide)⟩,
          E.sames_eq hl, E.den, hx, Int.toNat_natCast, nats_den, tableF, range_get hn]
      · split at h
        · rename_i hl
          cases h
          rw [mkWord_ok (w := (gmE 14 (bkE x), gmE 9 (bkE x), gmE 13 (bkE x), gmE 11 (bkE x))) ⟨⟨gmE_den (by decide) hk, gmE_den (by decide) hk, gmE_den (by decide) hk, gmE_den (by decide) hk⟩,
            gm_lt (by decide), gm_lt (by decide), gm_lt (by decide), gm_lt (by decide)⟩, E.sames_eq hl, E.den, hx, Int.toNat_natCast, nats_den, tableB, range_get hn]
        · cases h
  · cases h

theorem aesRw_ok (e e' : E) (h : aesRw e = some e') : e'.den (aesVal st int bool) = e.den (aesVal st int bool) := by
  unfold aesRw at h
  split at h
  · exact ruleOp_ok h
  · exact ruleSel_ok h
  · cases h
end
end
end Go.Aes
