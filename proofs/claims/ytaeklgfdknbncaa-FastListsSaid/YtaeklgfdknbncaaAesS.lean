/-
  States of 16 bytes as numbers, the steps on them, their inverses, and round keys. Conditions: none beside the hypotheses of each theorem.
-/
import Derived.Test.YtaeklgfdknbncaaAesM
namespace Go.Aes
noncomputable section

/-! ## States of 16 bytes as numbers -/
def byte (i s : Nat) : Nat := s / 256 ^ i % 256

def mkN : Nat → (Nat → Nat) → Nat
  | 0, _ => 0
  | n + 1, f => f 0 % 256 + 256 * mkN n (fun i => f (i + 1))

def mk16 (f : Nat → Nat) : Nat := mkN 16 f

theorem byte_lt (i s : Nat) : byte i s < 256 := Nat.mod_lt _ (by decide)

theorem byte_zero (s : Nat) : byte 0 s = s % 256 := by simp [byte]
theorem byte_succ (i s : Nat) : byte (i + 1) s = byte i (s / 256) := by
  unfold byte
  rw [Nat.div_div_eq_div_mul, Nat.pow_succ, Nat.mul_comm]

theorem byte_mkN : ∀ {n : Nat} {f : Nat → Nat} {i : Nat}, i < n → byte i (mkN n f) = f i % 256
  | 0, _, _, h => by omega
  | n + 1, f, 0, _ => by rw [byte_zero, mkN]; omega
  | n + 1, f, i + 1, h => by
    rw [byte_succ, mkN, show (f 0 % 256 + 256 * mkN n fun i => f (i + 1)) / 256 = mkN n fun i => f (i + 1) by omega]
    exact byte_mkN (f := fun i => f (i + 1)) (Nat.lt_of_succ_lt_succ h)

theorem mkN_lt : ∀ (n : Nat) (f : Nat → Nat), mkN n f < 256 ^ n
  | 0, _ => by simp [mkN]
  | n + 1, f => by
    have := mkN_lt n fun i => f (i + 1)
    rw [mkN, Nat.pow_succ]
    omega

theorem byte_ext : ∀ {n s t : Nat}, s < 256 ^ n → t < 256 ^ n → (∀ i, i < n → byte i s = byte i t) → s = t
  | 0, s, t, hs, ht, _ => by simp at hs ht; omega
  | n + 1, s, t, hs, ht, h => by
    have h0 := h 0 (by omega)
    rw [byte_zero, byte_zero] at h0
    have h1 : s / 256 = t / 256 := byte_ext (n := n) (by rw [Nat.pow_succ] at hs; omega) (by rw [Nat.pow_succ] at ht; omega) fun i hi => by
      have := h (i + 1) (by omega)
      rwa [byte_succ, byte_succ] at this
    omega

def big : Nat := 256 ^ 16

theorem byte_mk {f : Nat → Nat} {i : Nat} (h : i < 16) : byte i (mk16 f) = f i % 256 := byte_mkN h
theorem mk_lt (f : Nat → Nat) : mk16 f < big := mkN_lt 16 f
theorem byte_mk' {f : Nat → Nat} {i : Nat} (h : i < 16) (hf : f i < 256) : byte i (mk16 f) = f i := by rw [byte_mk h, Nat.mod_eq_of_lt hf]
theorem ext16 {s t : Nat} (hs : s < big) (ht : t < big) (h : ∀ i, i < 16 → byte i s = byte i t) : s = t := byte_ext hs ht h

/-! ## The steps -/
def at4 (i j : Nat) : Nat := i / 4 * 4 + (i % 4 + j) % 4
def shI (i : Nat) : Nat := (i + 4 * (i % 4)) % 16
def unI (i : Nat) : Nat := (i + 12 * (i % 4)) % 16

def subS (s : Nat) : Nat := mk16 fun i => sb (byte i s)
def unsubS (s : Nat) : Nat := mk16 fun i => bk (byte i s)
def shiftS (s : Nat) : Nat := mk16 fun i => byte (shI i) s
def unshiftS (s : Nat) : Nat := mk16 fun i => byte (unI i) s
def mixS (s : Nat) : Nat := mk16 fun i => mixC (byte i s) (byte (at4 i 1) s) (byte (at4 i 2) s) (byte (at4 i 3) s)
def unmixS (s : Nat) : Nat := mk16 fun i => unmixC (byte i s) (byte (at4 i 1) s) (byte (at4 i 2) s) (byte (at4 i 3) s)
def addS (s k : Nat) : Nat := mk16 fun i => byte i s ^^^ byte i k

theorem mixC_lt {a b c d : Nat} (hc : c < 256) (hd : d < 256) : mixC a b c d < 256 :=
  xor_lt (xor_lt (xor_lt (gm_lt (by decide)) (gm_lt (by decide))) hc) hd
theorem unmixC_lt (a b c d : Nat) : unmixC a b c d < 256 :=
  xor_lt (xor_lt (xor_lt (gm_lt (by decide)) (gm_lt (by decide))) (gm_lt (by decide))) (gm_lt (by decide))

theorem byte_sub {i : Nat} (s : Nat) (h : i < 16) : byte i (subS s) = sb (byte i s) := byte_mk' h (sb_lt (byte_lt _ _))
theorem byte_unsub {i : Nat} (s : Nat) (h : i < 16) : byte i (unsubS s) = bk (byte i s) := byte_mk' h (bk_lt (byte_lt _ _))
theorem byte_shift {i : Nat} (s : Nat) (h : i < 16) : byte i (shiftS s) = byte (shI i) s := byte_mk' h (byte_lt _ _)
theorem byte_unshift {i : Nat} (s : Nat) (h : i < 16) : byte i (unshiftS s) = byte (unI i) s := byte_mk' h (byte_lt _ _)
theorem byte_mix {i : Nat} (s : Nat) (h : i < 16) : byte i (mixS s) = mixC (byte i s) (byte (at4 i 1) s) (byte (at4 i 2) s) (byte (at4 i 3) s) := byte_mk' h (mixC_lt (byte_lt _ _) (byte_lt _ _))
theorem byte_unmix {i : Nat} (s : Nat) (h : i < 16) : byte i (unmixS s) = unmixC (byte i s) (byte (at4 i 1) s) (byte (at4 i 2) s) (byte (at4 i 3) s) := byte_mk' h (unmixC_lt _ _ _ _)
theorem byte_add {i : Nat} (s k : Nat) (h : i < 16) : byte i (addS s k) = byte i s ^^^ byte i k := byte_mk' h (xor_lt (byte_lt _ _) (byte_lt _ _))

theorem shI_lt (i : Nat) : shI i < 16 := Nat.mod_lt _ (by decide)
theorem unI_lt (i : Nat) : unI i < 16 := Nat.mod_lt _ (by decide)
theorem at4_lt {i : Nat} (j : Nat) (h : i < 16) : at4 i j < 16 := by unfold at4; omega

theorem unI_shI {i : Nat} (h : i < 16) : unI (shI i) = i := by unfold unI shI; omega
theorem shI_unI {i : Nat} (h : i < 16) : shI (unI i) = i := by unfold unI shI; omega
theorem at4_at4 (i j k : Nat) : at4 (at4 i j) k = at4 i (j + k) := by unfold at4; omega
theorem at4_four (i : Nat) : at4 i 4 = i := by unfold at4; omega
theorem at4_five (i : Nat) : at4 i 5 = at4 i 1 := by unfold at4; omega
theorem at4_six (i : Nat) : at4 i 6 = at4 i 2 := by unfold at4; omega

theorem unsub_sub {s : Nat} (h : s < big) : unsubS (subS s) = s := ext16 (mk_lt _) h fun i hi => by
  rw [byte_unsub _ hi, byte_sub _ hi, bk_sb (byte_lt _ _)]
theorem sub_unsub {s : Nat} (h : s < big) : subS (unsubS s) = s := ext16 (mk_lt _) h fun i hi => by
  rw [byte_sub _ hi, byte_unsub _ hi, sb_bk (byte_lt _ _)]
theorem unshift_shift {s : Nat} (h : s < big) : unshiftS (shiftS s) = s := ext16 (mk_lt _) h fun i hi => by
  rw [byte_unshift _ hi, byte_shift _ (unI_lt _), shI_unI hi]
theorem shift_unshift {s : Nat} (h : s < big) : shiftS (unshiftS s) = s := ext16 (mk_lt _) h fun i hi => by
  rw [byte_shift _ hi, byte_unshift _ (shI_lt _), unI_shI hi]
theorem unmix_mixS {s : Nat} (h : s < big) : unmixS (mixS s) = s := ext16 (mk_lt _) h fun i hi => by
  rw [byte_unmix _ hi, byte_mix _ hi, byte_mix _ (at4_lt 1 hi), byte_mix _ (at4_lt 2 hi), byte_mix _ (at4_lt 3 hi)]
  simp only [at4_at4, Nat.reduceAdd, at4_four, at4_five, at4_six]
  exact unmix_mix (byte_lt _ _) (byte_lt _ _) (byte_lt _ _) (byte_lt _ _)
theorem mix_unmixS {s : Nat} (h : s < big) : mixS (unmixS s) = s := ext16 (mk_lt _) h fun i hi => by
  rw [byte_mix _ hi, byte_unmix _ hi, byte_unmix _ (at4_lt 1 hi), byte_unmix _ (at4_lt 2 hi), byte_unmix _ (at4_lt 3 hi)]
  simp only [at4_at4, Nat.reduceAdd, at4_four, at4_five, at4_six]
  exact mix_unmix (byte_lt _ _) (byte_lt _ _) (byte_lt _ _) (byte_lt _ _)
theorem add_add {s : Nat} (k : Nat) (h : s < big) : addS (addS s k) k = s := ext16 (mk_lt _) h fun i hi => by
  rw [byte_add _ _ hi, byte_add _ _ hi, Nat.xor_assoc, Nat.xor_self, Nat.xor_zero]
theorem sub_shift (s : Nat) : subS (shiftS s) = shiftS (subS s) := ext16 (mk_lt _) (mk_lt _) fun i hi => by
  rw [byte_sub _ hi, byte_shift _ hi, byte_shift _ hi, byte_sub _ (shI_lt _)]
theorem shift_add (s k : Nat) : shiftS (addS s k) = addS (shiftS s) (shiftS k) := ext16 (mk_lt _) (mk_lt _) fun i hi => by
  rw [byte_shift _ hi, byte_add _ _ (shI_lt _), byte_add _ _ hi, byte_shift _ hi, byte_shift _ hi]
theorem mixC_xor (a b c d a' b' c' d' : Nat) : mixC (a ^^^ a') (b ^^^ b') (c ^^^ c') (d ^^^ d') = mixC a b c d ^^^ mixC a' b' c' d' := by
  simp only [mixC, gm_xor, Nat.xor_assoc, xor_left_comm, Nat.xor_comm]
theorem unmixC_xor (a b c d a' b' c' d' : Nat) : unmixC (a ^^^ a') (b ^^^ b') (c ^^^ c') (d ^^^ d') = unmixC a b c d ^^^ unmixC a' b' c' d' := by
  simp only [unmixC, gm_xor, Nat.xor_assoc, xor_left_comm, Nat.xor_comm]
theorem mix_add (s k : Nat) : mixS (addS s k) = addS (mixS s) (mixS k) := ext16 (mk_lt _) (mk_lt _) fun i hi => by
  rw [byte_mix _ hi, byte_add _ _ hi, byte_add _ _ hi, byte_add _ _ (at4_lt 1 hi), byte_add _ _ (at4_lt 2 hi), byte_add _ _ (at4_lt 3 hi), byte_mix _ hi, byte_mix _ hi, mixC_xor]
theorem unmix_add (s k : Nat) : unmixS (addS s k) = addS (unmixS s) (unmixS k) := ext16 (mk_lt _) (mk_lt _) fun i hi => by
  rw [byte_unmix _ hi, byte_add _ _ hi, byte_add _ _ hi, byte_add _ _ (at4_lt 1 hi), byte_add _ _ (at4_lt 2 hi), byte_add _ _ (at4_lt 3 hi), byte_unmix _ hi, byte_unmix _ hi, unmixC_xor]

/-! ## Round keys -/
def rcon (r : Nat) : Nat := [1, 2, 4, 8, 16, 32, 64, 128, 27, 54].getD r 0
def kb (r s : Nat) : Nat → Nat → Nat
  | 0, k => byte k s ^^^ (sb (byte (12 + (k + 1) % 4) s) ^^^ (if k = 0 then rcon r else 0))
  | q + 1, k => byte (4 * (q + 1) + k) s ^^^ kb r s q k
def keyNext (r s : Nat) : Nat := mk16 fun i => kb r s (i / 4) (i % 4)
def keyR : Nat → Nat → Nat
  | 0, s => s % big
  | r + 1, s => keyNext r (keyR r s)

theorem rcon_lt (r : Nat) : rcon r < 256 := by
  unfold rcon
  by_cases h : r < 10
  · exact of_decide_eq_true (of_upTo (p := fun r => decide ([1, 2, 4, 8, 16, 32, 64, 128, 27, 54].getD r 0 < 256)) (by decide) h)
  · rw [List.getD_eq_getElem?_getD, List.getElem?_eq_none (by simp; omega)]; decide

theorem kb_lt (r s k : Nat) : ∀ q, kb r s q k < 256
  | 0 => by
    refine xor_lt (byte_lt _ _) (xor_lt (sb_lt (byte_lt _ _)) ?_)
    split
    · exact rcon_lt r
    · decide
  | q + 1 => xor_lt (byte_lt _ _) (kb_lt r s k q)

theorem big_pos : 0 < big := by decide +kernel

theorem keyR_lt : ∀ (r s : Nat), keyR r s < big
  | 0, s => Nat.mod_lt s big_pos
  | r + 1, s => by rw [keyR, keyNext]; exact mk_lt _

/-- a round key's first word -/
theorem key_first (r s i : Nat) (h : i < 4) : byte i (keyR (r + 1) s) = byte i (keyR r s) ^^^ (sb (byte (12 + (i + 1) % 4) (keyR r s)) ^^^ (if i = 0 then rcon r else 0)) := by
  rw [keyR, keyNext, byte_mk' (f := fun i => kb r (keyR r s) (i / 4) (i % 4)) (by omega) (kb_lt _ _ _ _), show i / 4 = 0 by omega, show i % 4 = i by omega]
  rfl
/-- its other words -/
theorem key_later (r s i : Nat) (h : i + 4 < 16) : byte (i + 4) (keyR (r + 1) s) = byte (i + 4) (keyR r s) ^^^ byte i (keyR (r + 1) s) := by
  rw [keyR, keyNext, byte_mk' (f := fun i => kb r (keyR r s) (i / 4) (i % 4)) h (kb_lt _ _ _ _), byte_mk' (f := fun i => kb r (keyR r s) (i / 4) (i % 4)) (by omega) (kb_lt _ _ _ _), show (i + 4) / 4 = i / 4 + 1 by omega, show (i + 4) % 4 = i % 4 by omega]
  rw [kb, show 4 * (i / 4 + 1) + i % 4 = i + 4 by omega]

/-! ## The tables' steps -/
theorem xor4 (k a b c d : Nat) : k ^^^ a ^^^ b ^^^ c ^^^ d = (a ^^^ b ^^^ c ^^^ d) ^^^ k := by
  simp only [xor_left_comm, Nat.xor_comm]
end
end Go.Aes
