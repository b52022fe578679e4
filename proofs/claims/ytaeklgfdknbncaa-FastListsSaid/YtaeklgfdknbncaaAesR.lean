/-
  Terms for bytes, states and steps, with what cancels. Conditions: none beside the hypotheses of each theorem.
-/
import Derived.Test.YtaeklgfdknbncaaAesS
namespace Go.Aes
noncomputable section
open Go.Sx

/-! ## Applications -/
def arg (l : List Int) (i : Nat) : Nat := (l.getD i 0).toNat

def word (a b c d : Nat) : Nat := ((a * 256 + b) * 256 + c) * 256 + d

/-- rotating a byte to the left -/
def rotl (n k : Nat) : Nat := n * 2 ^ k % 256 + n / 2 ^ (8 - k)
def aff (n : Nat) : Nat := n ^^^ 99 ^^^ rotl n 1 ^^^ rotl n 2 ^^^ rotl n 3 ^^^ rotl n 4

/-- 1 the S-box, 2 its way back, 3 the product, 4 the affine map, 5 doubling, 6 a word of four bytes -/
def smallC (f : Nat) (l : List Int) : Nat :=
  if f = 1 then sb (arg l 0 % 256) else if f = 2 then bk (arg l 0 % 256) else if f = 3 then gm (arg l 0 % 256) (arg l 1) else
  if f = 4 then aff (arg l 0 % 256) % 256 else if f = 5 then dbl (arg l 0 % 256) else if f = 6 then word (arg l 0 % 256) (arg l 1 % 256) (arg l 2 % 256) (arg l 3 % 256) else 0

/-- the steps on states -/
def stepC (f : Nat) (l : List Int) : Nat :=
  if f = 300 then subS (arg l 0) else if f = 301 then shiftS (arg l 0) else if f = 302 then mixS (arg l 0) else if f = 303 then addS (arg l 0) (arg l 1) else
  if f = 304 then unsubS (arg l 0) else if f = 305 then unshiftS (arg l 0) else if f = 306 then unmixS (arg l 0) else 0

/-- 100 + i: byte i of a state; 116 .. 299: states; 300 ..: steps; 400 + r: round keys; 500 ..: bytes -/
def appN (st : Nat → Nat) (f : Nat) (l : List Int) : Nat :=
  if f < 100 then smallC f l else if f < 116 then byte (f - 100) (arg l 0) else if f < 300 then st f % big else if f < 400 then stepC f l else if f < 500 then keyR (f - 400) (arg l 0) else st f % 256

def aesVal (st : Nat → Nat) (int : Nat → Int) (bool : Nat → Bool) : Val := { int, bool, app := fun f l => (appN st f l : Int) }

def aesRange (f : Nat) : Option (Int × Int) :=
  if f = 6 then some (0, 4294967295) else if f < 116 then some (0, 255) else if f < 500 then none else some (0, 255)

/-! ## Bytes and states among terms -/
def isByte : E → Bool
  | .lit n => decide (0 ≤ n) && decide (n ≤ 255)
  | .app f _ => !(Nat.beq f 6) && (Nat.blt f 116 || Nat.ble 500 f)
  | .op (.xor .u8) _ _ => true
  | _ => false

def isState : E → Bool
  | .lit n => decide (0 ≤ n) && decide (n < (big : Int))
  | .app f _ => Nat.ble 116 f && Nat.blt f 500
  | _ => false

def byteE (i : Nat) (s : E) : E :=
  match s.lit? with
  | some n => .lit (byte i n.toNat : Nat)
  | none => .app (100 + i) [s]

def sE (e : E) : E :=
  match e.lit? with
  | some n => .lit (sb (n.toNat % 256) : Nat)
  | none => .app 1 [e]
def bkE (e : E) : E :=
  match e.lit? with
  | some n => .lit (bk (n.toNat % 256) : Nat)
  | none => .app 2 [e]
def gmE (c : Nat) (e : E) : E :=
  match e.lit? with
  | some n => .lit (gm (c % 256) n.toNat : Nat)
  | none => .app 3 [.lit c, e]

/-! ## Steps, with what cancels -/
def sub0 (s : E) : E :=
  match s with
  | .lit n => .lit (subS n.toNat : Nat)
  | .app g [x] => if g = 304 ∧ isState x = true then x else .app 300 [s]
  | s => .app 300 [s]
def shift0 (s : E) : E :=
  match s with
  | .lit n => .lit (shiftS n.toNat : Nat)
  | .app g [x] => if g = 305 ∧ isState x = true then x else .app 301 [s]
  | s => .app 301 [s]
def mix0 (s : E) : E :=
  match s with
  | .lit n => .lit (mixS n.toNat : Nat)
  | .app g [x] => if g = 306 ∧ isState x = true then x else .app 302 [s]
  | s => .app 302 [s]
def unsubE (s : E) : E :=
  match s with
  | .lit n => .lit (unsubS n.toNat : Nat)
  | .app g [x] => if g = 300 ∧ isState x = true then x else .app 304 [s]
  | s => .app 304 [s]
def unshiftE (s : E) : E :=
  match s with
  | .lit n => .lit (unshiftS n.toNat : Nat)
  | .app g [x] => if g = 301 ∧ isState x = true then x else .app 305 [s]
  | s => .app 305 [s]
def unmix0 (s : E) : E :=
  match s with
  | .lit n => .lit (unmixS n.toNat : Nat)
  | .app g [x] => if g = 302 ∧ isState x = true then x else .app 306 [s]
  | s => .app 306 [s]
def addE (a k : E) : E :=
  match a, k with
  | .lit n, .lit m => .lit (addS n.toNat m.toNat : Nat)
  | .app g [x, k'], k => if g = 303 ∧ isState x = true ∧ k.same k' = true then x else .app 303 [a, k]
  | a, k => .app 303 [a, k]

def subE (s : E) : E :=
  match s with
  | .app g [x] => if g = 301 then shift0 (sub0 x) else sub0 s
  | s => sub0 s
def shiftE (s : E) : E :=
  match s with
  | .app g [a, b] => if g = 303 then addE (shift0 a) (shift0 b) else shift0 s
  | s => shift0 s
def mixE (s : E) : E :=
  match s with
  | .app g [a, b] => if g = 303 then addE (mix0 a) (mix0 b) else mix0 s
  | s => mix0 s
def unmixE (s : E) : E :=
  match s with
  | .app g [a, b] => if g = 303 then addE (unmix0 a) (unmix0 b) else unmix0 s
  | s => unmix0 s
def keyE (r : Nat) (k : E) : E := if r = 0 then k else
  match k.lit? with
  | some n => .lit (keyR r n.toNat : Nat)
  | none => .app (400 + r) [k]

section
variable {st : Nat → Nat} {int : Nat → Int} {bool : Nat → Bool}

/-- what a state term stands for -/
def num (v : Val) (e : E) : Nat := (e.den v).toNat

theorem small_lt (f : Nat) (l : List Int) (h : f ≠ 6) : smallC f l < 256 := by
  unfold smallC
  rw [if_neg (c := f = 6) h]
  repeat' split
  · exact sb_lt (Nat.mod_lt _ (by decide))
  · exact bk_lt (Nat.mod_lt _ (by decide))
  · exact gm_lt (Nat.mod_lt _ (by decide))
  · exact Nat.mod_lt _ (by decide)
  · exact dbl_lt (Nat.mod_lt _ (by decide))
  · decide

theorem isByte_ok {e : E} (h : isByte e = true) : ∃ n : Nat, n < 256 ∧ e.den (aesVal st int bool) = n := by
  cases e with
  | lit n =>
    simp only [isByte, Bool.and_eq_true, decide_eq_true_eq] at h
    exact ⟨n.toNat, by omega, by simp only [E.den]; omega⟩
  | app f l =>
    simp only [isByte, Bool.and_eq_true, Bool.or_eq_true, Bool.not_eq_true', Nat.blt_eq, Nat.ble_eq] at h
    refine ⟨appN st f (E.dens _ l), ?_, rfl⟩
    unfold appN
    split
    · exact small_lt _ _ (by rintro rfl; exact absurd h.1 (by decide))
    · split
      · exact byte_lt _ _
      · rename_i h1 h2
        rw [if_neg (by omega), if_neg (by omega), if_neg (by omega)]
        exact Nat.mod_lt _ (by decide)
  | op o a b =>
    cases o with
    | xor k =>
      cases k <;> try (cases h; done)
      have hr := wrap_range .u8 ((BitVec.ofInt 8 (a.den (aesVal st int bool)) ^^^ BitVec.ofInt 8 (b.den (aesVal st int bool))).toNat : Int)
      have e : (E.op (.xor .u8) a b).den (aesVal st int bool) = IntKind.wrap .u8 ((BitVec.ofInt 8 (a.den (aesVal st int bool)) ^^^ BitVec.ofInt 8 (b.den (aesVal st int bool))).toNat : Int) := rfl
      rw [← e] at hr
      simp only [IntKind.min, IntKind.max, IntKind.signed, IntKind.bits] at hr
      simp at hr
      refine ⟨((E.op (.xor .u8) a b).den (aesVal st int bool)).toNat, by omega, by omega⟩
    | _ => cases h
  | _ => cases h

theorem stepC_lt (f : Nat) (l : List Int) : stepC f l < big := by
  unfold stepC
  by_cases h0 : f = 300
  · rw [if_pos h0]; exact mk_lt _
  rw [if_neg h0]
  by_cases h1 : f = 301
  · rw [if_pos h1]; exact mk_lt _
  rw [if_neg h1]
  by_cases h2 : f = 302
  · rw [if_pos h2]; exact mk_lt _
  rw [if_neg h2]
  by_cases h3 : f = 303
  · rw [if_pos h3]; exact mk_lt _
  rw [if_neg h3]
  by_cases h4 : f = 304
  · rw [if_pos h4]; exact mk_lt _
  rw [if_neg h4]
  by_cases h5 : f = 305
  · rw [if_pos h5]; exact mk_lt _
  rw [if_neg h5]
  by_cases h6 : f = 306
  · rw [if_pos h6]; exact mk_lt _
  rw [if_neg h6]
  exact big_pos

theorem isState_ok {e : E} (h : isState e = true) : num (aesVal st int bool) e < big ∧ e.den (aesVal st int bool) = num (aesVal st int bool) e := by
  cases e with
  | lit n =>
    simp only [isState, Bool.and_eq_true, decide_eq_true_eq] at h
    simp only [num, E.den]
    generalize big = B at *
    omega
  | app f l =>
    simp only [isState, Bool.and_eq_true, Nat.blt_eq, Nat.ble_eq] at h
    have e : (E.app f l).den (aesVal st int bool) = (appN st f (E.dens _ l) : Nat) := rfl
    have hl : appN st f (E.dens (aesVal st int bool) l) < big := by
      unfold appN
      rw [if_neg (by omega), if_neg (by omega)]
      split
      · exact Nat.mod_lt _ big_pos
      · split
        · exact stepC_lt _ _
        · rw [if_pos h.2]; exact keyR_lt _ _
    unfold num
    rw [e, Int.toNat_natCast]
    exact ⟨hl, rfl⟩
  | _ => cases h

theorem lit?_some {e : E} {n : Int} (h : e.lit? = some n) : e = .lit n := lit?_eq h

theorem byteE_den (i : Nat) (hi : i < 16) (s : E) : (byteE i s).den (aesVal st int bool) = (byte i (num (aesVal st int bool) s) : Nat) := by
  unfold byteE
  split
  · rename_i n hn; rw [lit?_some hn]; rfl
  · show ((appN st (100 + i) [s.den _] : Nat) : Int) = _
    unfold appN
    rw [if_neg (by omega), if_pos (by omega), Nat.add_sub_cancel_left]
    rfl

theorem sE_den {e : E} {n : Nat} (hn : n < 256) (h : e.den (aesVal st int bool) = n) : (sE e).den (aesVal st int bool) = (sb n : Nat) := by
  unfold sE
  split
  · rename_i m hm
    rw [lit?_some hm] at h
    simp only [E.den] at h ⊢
    rw [h, Int.toNat_natCast, Nat.mod_eq_of_lt hn]
  · show ((appN st 1 [e.den _] : Nat) : Int) = _
    rw [h]
    simp [appN, smallC, arg, Nat.mod_eq_of_lt hn]

theorem bkE_den {e : E} {n : Nat} (hn : n < 256) (h : e.den (aesVal st int bool) = n) : (bkE e).den (aesVal st int bool) = (bk n : Nat) := by
  unfold bkE
  split
  · rename_i m hm
    rw [lit?_some hm] at h
    simp only [E.den] at h ⊢
    rw [h, Int.toNat_natCast, Nat.mod_eq_of_lt hn]
  · show ((appN st 2 [e.den _] : Nat) : Int) = _
    rw [h]
    simp [appN, smallC, arg, Nat.mod_eq_of_lt hn]

theorem gmE_den {c : Nat} (hc : c < 256) {e : E} {n : Nat} (h : e.den (aesVal st int bool) = n) : (gmE c e).den (aesVal st int bool) = (gm c n : Nat) := by
  unfold gmE
  split
  · rename_i m hm
    rw [lit?_some hm] at h
    simp only [E.den] at h ⊢
    rw [h, Int.toNat_natCast, Nat.mod_eq_of_lt hc]
  · show ((appN st 3 [(E.lit c).den _, e.den _] : Nat) : Int) = _
    rw [h]
    simp [appN, smallC, arg, E.den, Nat.mod_eq_of_lt hc]

/-! The steps' terms -/
theorem app_step {f : Nat} (h1 : 300 ≤ f) (h2 : f < 400) (l : List E) : (E.app f l).den (aesVal st int bool) = (stepC f (E.dens (aesVal st int bool) l) : Nat) := by
  show ((appN st f _ : Nat) : Int) = _
  unfold appN
  rw [if_neg (by omega), if_neg (by omega), if_neg (by omega), if_pos h2]

theorem one_step {f : Nat} {F : Nat → Nat} (h1 : 300 ≤ f) (h2 : f < 400) (hF : ∀ n : Int, stepC f [n] = F n.toNat) (s : E) : (E.app f [s]).den (aesVal st int bool) = (F (num (aesVal st int bool) s) : Nat) := by
  rw [app_step h1 h2]
  show ((stepC f [s.den _] : Nat) : Int) = _
  rw [hF]; rfl

theorem den_sub (s : E) : (E.app 300 [s]).den (aesVal st int bool) = (subS (num (aesVal st int bool) s) : Nat) := one_step (by decide) (by decide) (fun _ => rfl) s
theorem den_shift (s : E) : (E.app 301 [s]).den (aesVal st int bool) = (shiftS (num (aesVal st int bool) s) : Nat) := one_step (by decide) (by decide) (fun _ => rfl) s
theorem den_mix (s : E) : (E.app 302 [s]).den (aesVal st int bool) = (mixS (num (aesVal st int bool) s) : Nat) := one_step (by decide) (by decide) (fun _ => rfl) s
theorem den_unsub (s : E) : (E.app 304 [s]).den (aesVal st int bool) = (unsubS (num (aesVal st int bool) s) : Nat) := one_step (by decide) (by decide) (fun _ => rfl) s
theorem den_unshift (s : E) : (E.app 305 [s]).den (aesVal st int bool) = (unshiftS (num (aesVal st int bool) s) : Nat) := one_step (by decide) (by decide) (fun _ => rfl) s
theorem den_unmix (s : E) : (E.app 306 [s]).den (aesVal st int bool) = (unmixS (num (aesVal st int bool) s) : Nat) := one_step (by decide) (by decide) (fun _ => rfl) s
theorem den_add (s k : E) : (E.app 303 [s, k]).den (aesVal st int bool) = (addS (num (aesVal st int bool) s) (num (aesVal st int bool) k) : Nat) := by
  rw [app_step (by decide) (by decide)]; rfl

theorem num_of {e : E} {n : Nat} (h : e.den (aesVal st int bool) = n) : num (aesVal st int bool) e = n := by
  unfold num; rw [h, Int.toNat_natCast]

theorem sub0_den (s : E) : (sub0 s).den (aesVal st int bool) = (subS (num (aesVal st int bool) s) : Nat) := by
  unfold sub0
  split
  · rfl
  · rename_i g x
    split
    · rename_i h
      obtain ⟨h1, h2⟩ := isState_ok (st := st) (int := int) (bool := bool) h.2
      rw [h.1, num_of (den_unsub x), sub_unsub h1]; exact h2
    · exact den_sub _
  · exact den_sub _
theorem shift0_den (s : E) : (shift0 s).den (aesVal st int bool) = (shiftS (num (aesVal st int bool) s) : Nat) := by
  unfold shift0
  split
  · rfl
  · rename_i g x
    split
    · rename_i h
      obtain ⟨h1, h2⟩ := isState_ok (st := st) (int := int) (bool := bool) h.2
      rw [h.1, num_of (den_unshift x), shift_unshift h1]; exact h2
    · exact den_shift _
  · exact den_shift _
theorem mix0_den (s : E) : (mix0 s).den (aesVal st int bool) = (mixS (num (aesVal st int bool) s) : Nat) := by
  unfold mix0
  split
  · rfl
  · rename_i g x
    split
    · rename_i h
      obtain ⟨h1, h2⟩ := isState_ok (st := st) (int := int) (bool := bool) h.2
      rw [h.1, num_of (den_unmix x), mix_unmixS h1]; exact h2
    · exact den_mix _
  · exact den_mix _
theorem unsubE_den (s : E) : (unsubE s).den (aesVal st int bool) = (unsubS (num (aesVal st int bool) s) : Nat) := by
  unfold unsubE
  split
  · rfl
  · rename_i g x
    split
    · rename_i h
      obtain ⟨h1, h2⟩ := isState_ok (st := st) (int := int) (bool := bool) h.2
      rw [h.1, num_of (den_sub x), unsub_sub h1]; exact h2
    · exact den_unsub _
  · exact den_unsub _
theorem unshiftE_den (s : E) : (unshiftE s).den (aesVal st int bool) = (unshiftS (num (aesVal st int bool) s) : Nat) := by
  unfold unshiftE
  split
  · rfl
  · rename_i g x
    split
    · rename_i h
      obtain ⟨h1, h2⟩ := isState_ok (st := st) (int := int) (bool := bool) h.2
      rw [h.1, num_of (den_shift x), unshift_shift h1]; exact h2
    · exact den_unshift _
  · exact den_unshift _
theorem unmix0_den (s : E) : (unmix0 s).den (aesVal st int bool) = (unmixS (num (aesVal st int bool) s) : Nat) := by
  unfold unmix0
  split
  · rfl
  · rename_i g x
    split
    · rename_i h
      obtain ⟨h1, h2⟩ := isState_ok (st := st) (int := int) (bool := bool) h.2
      rw [h.1, num_of (den_mix x), unmix_mixS h1]; exact h2
    · exact den_unmix _
  · exact den_unmix _
theorem addE_den (a k : E) : (addE a k).den (aesVal st int bool) = (addS (num (aesVal st int bool) a) (num (aesVal st int bool) k) : Nat) := by
  unfold addE
  split
  · rfl
  · rename_i g x k'
    split
    · rename_i h
      obtain ⟨h1, h2⟩ := isState_ok (st := st) (int := int) (bool := bool) h.2.1
      rw [h.1, num_of (den_add x k'), E.same_eq h.2.2, add_add _ h1]; exact h2
    · exact den_add _ _
  · exact den_add _ _
theorem subE_den (s : E) : (subE s).den (aesVal st int bool) = (subS (num (aesVal st int bool) s) : Nat) := by
  unfold subE
  split
  · rename_i g x
    split
    · rename_i h
      rw [shift0_den, num_of (sub0_den x), h, num_of (den_shift x), sub_shift]
    · exact sub0_den _
  · exact sub0_den _
theorem shiftE_den (s : E) : (shiftE s).den (aesVal st int bool) = (shiftS (num (aesVal st int bool) s) : Nat) := by
  unfold shiftE
  split
  · rename_i g a b
    split
    · rename_i h
      rw [addE_den, num_of (shift0_den a), num_of (shift0_den b), h, num_of (den_add a b), shift_add]
    · exact shift0_den _
  · exact shift0_den _
theorem mixE_den (s : E) : (mixE s).den (aesVal st int bool) = (mixS (num (aesVal st int bool) s) : Nat) := by
  unfold mixE
  split
  · rename_i g a b
    split
    · rename_i h
      rw [addE_den, num_of (mix0_den a), num_of (mix0_den b), h, num_of (den_add a b), mix_add]
    · exact mix0_den _
  · exact mix0_den _
theorem unmixE_den (s : E) : (unmixE s).den (aesVal st int bool) = (unmixS (num (aesVal st int bool) s) : Nat) := by
  unfold unmixE
  split
  · rename_i g a b
    split
    · rename_i h
      rw [addE_den, num_of (unmix0_den a), num_of (unmix0_den b), h, num_of (den_add a b), unmix_add]
    · exact unmix0_den _
  · exact unmix0_den _
theorem keyE_den {r : Nat} (hr : r < 100) {k : E} (hk : isState k = true) : (keyE r k).den (aesVal st int bool) = (keyR r (num (aesVal st int bool) k) : Nat) := by
  obtain ⟨h1, h2⟩ := isState_ok (st := st) (int := int) (bool := bool) hk
  unfold keyE
  split
  · rename_i h; rw [h, keyR, Nat.mod_eq_of_lt h1]; exact h2
  · split
    · rename_i n hn; rw [lit?_some hn]; rfl
    · show ((appN st (400 + r) [k.den _] : Nat) : Int) = _
      unfold appN
      rw [if_neg (by omega), if_neg (by omega), if_neg (by omega), if_neg (by omega), if_pos (by omega), Nat.add_sub_cancel_left]
      rfl
end
end
end Go.Aes
