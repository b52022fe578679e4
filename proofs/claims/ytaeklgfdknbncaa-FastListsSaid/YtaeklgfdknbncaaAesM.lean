/-
  The S-box, the field of 256 elements and the mixing of a column. Conditions: none beside the hypotheses of each theorem.
-/
import Derived.Test.YtaeklgfdknbncaaSxN
namespace Go.Aes
noncomputable section
def sboxL : List Nat := [
  99, 124, 119, 123, 242, 107, 111, 197, 48, 1, 103, 43, 254, 215, 171, 118, 202, 130, 201, 125, 250, 89, 71, 240, 173, 212, 162, 175, 156, 164, 114, 192,
  183, 253, 147, 38, 54, 63, 247, 204, 52, 165, 229, 241, 113, 216, 49, 21, 4, 199, 35, 195, 24, 150, 5, 154, 7, 18, 128, 226, 235, 39, 178, 117,
  9, 131, 44, 26, 27, 110, 90, 160, 82, 59, 214, 179, 41, 227, 47, 132, 83, 209, 0, 237, 32, 252, 177, 91, 106, 203, 190, 57, 74, 76, 88, 207,
  208, 239, 170, 251, 67, 77, 51, 133, 69, 249, 2, 127, 80, 60, 159, 168, 81, 163, 64, 143, 146, 157, 56, 245, 188, 182, 218, 33, 16, 255, 243, 210,
  205, 12, 19, 236, 95, 151, 68, 23, 196, 167, 126, 61, 100, 93, 25, 115, 96, 129, 79, 220, 34, 42, 144, 136, 70, 238, 184, 20, 222, 94, 11, 219,
  224, 50, 58, 10, 73, 6, 36, 92, 194, 211, 172, 98, 145, 149, 228, 121, 231, 200, 55, 109, 141, 213, 78, 169, 108, 86, 244, 234, 101, 122, 174, 8,
  186, 120, 37, 46, 28, 166, 180, 198, 232, 221, 116, 31, 75, 189, 139, 138, 112, 62, 181, 102, 72, 3, 246, 14, 97, 53, 87, 185, 134, 193, 29, 158,
  225, 248, 152, 17, 105, 217, 142, 148, 155, 30, 135, 233, 206, 85, 40, 223, 140, 161, 137, 13, 191, 230, 66, 104, 65, 153, 45, 15, 176, 84, 187, 22]

def backL : List Nat := [
  82, 9, 106, 213, 48, 54, 165, 56, 191, 64, 163, 158, 129, 243, 215, 251, 124, 227, 57, 130, 155, 47, 255, 135, 52, 142, 67, 68, 196, 222, 233, 203,
  84, 123, 148, 50, 166, 194, 35, 61, 238, 76, 149, 11, 66, 250, 195, 78, 8, 46, 161, 102, 40, 217, 36, 178, 118, 91, 162, 73, 109, 139, 209, 37,
  114, 248, 246, 100, 134, 104, 152, 22, 212, 164, 92, 204, 93, 101, 182, 146, 108, 112, 72, 80, 253, 237, 185, 218, 94, 21, 70, 87, 167, 141, 157, 132,
  144, 216, 171, 0, 140, 188, 211, 10, 247, 228, 88, 5, 184, 179, 69, 6, 208, 44, 30, 143, 202, 63, 15, 2, 193, 175, 189, 3, 1, 19, 138, 107,
  58, 145, 17, 65, 79, 103, 220, 234, 151, 242, 207, 206, 240, 180, 230, 115, 150, 172, 116, 34, 231, 173, 53, 133, 226, 249, 55, 232, 28, 117, 223, 110,
  71, 241, 26, 113, 29, 41, 197, 137, 111, 183, 98, 14, 170, 24, 190, 27, 252, 86, 62, 75, 198, 210, 121, 32, 154, 219, 192, 254, 120, 205, 90, 244,
  31, 221, 168, 51, 136, 7, 199, 49, 177, 18, 16, 89, 39, 128, 236, 95, 96, 81, 127, 169, 25, 181, 74, 13, 45, 229, 122, 159, 147, 201, 156, 239,
  160, 224, 59, 77, 174, 42, 245, 176, 200, 235, 187, 60, 131, 83, 153, 97, 23, 43, 4, 126, 186, 119, 214, 38, 225, 105, 20, 99, 85, 33, 12, 125]

/-! ## The S-box and the field -/
def sb (n : Nat) : Nat := sboxL.getD n 0
def bk (n : Nat) : Nat := backL.getD n 0

def dbl (n : Nat) : Nat := if n < 128 then 2 * n else (2 * n - 256) ^^^ 27

def bit (x k b : Nat) : Nat := bif x.testBit k then b else 0

/-- the product of two bytes -/
def gm (c x : Nat) : Nat :=
  bit x 0 c ^^^ (bit x 1 (dbl c) ^^^ (bit x 2 (dbl (dbl c)) ^^^ (bit x 3 (dbl (dbl (dbl c))) ^^^ (bit x 4 (dbl (dbl (dbl (dbl c)))) ^^^ (bit x 5 (dbl (dbl (dbl (dbl (dbl c))))) ^^^
    (bit x 6 (dbl (dbl (dbl (dbl (dbl (dbl c)))))) ^^^ bit x 7 (dbl (dbl (dbl (dbl (dbl (dbl (dbl c)))))))))))))

theorem bit_xor (x y k b : Nat) : bit (x ^^^ y) k b = bit x k b ^^^ bit y k b := by
  simp only [bit, Nat.testBit_xor]
  cases x.testBit k <;> cases y.testBit k <;> simp

theorem xor_left_comm (a b c : Nat) : a ^^^ (b ^^^ c) = b ^^^ (a ^^^ c) := by rw [← Nat.xor_assoc, Nat.xor_comm a b, Nat.xor_assoc]

theorem gm_xor (c x y : Nat) : gm c (x ^^^ y) = gm c x ^^^ gm c y := by
  simp only [gm, bit_xor]
  simp only [Nat.xor_assoc, xor_left_comm]

theorem xor_lt {a b : Nat} (ha : a < 256) (hb : b < 256) : a ^^^ b < 256 := Nat.xor_lt_two_pow (n := 8) ha hb

theorem dbl_lt {a : Nat} (h : a < 256) : dbl a < 256 := by
  unfold dbl; split
  · omega
  · exact xor_lt (by omega) (by decide)

theorem bit_lt {x k b : Nat} (h : b < 256) : bit x k b < 256 := by
  unfold bit; cases x.testBit k <;> simp [h]

theorem gm_lt {c x : Nat} (h : c < 256) : gm c x < 256 := by
  have h1 := dbl_lt h
  have h2 := dbl_lt h1
  have h3 := dbl_lt h2
  have h4 := dbl_lt h3
  have h5 := dbl_lt h4
  have h6 := dbl_lt h5
  have h7 := dbl_lt h6
  exact xor_lt (bit_lt h) (xor_lt (bit_lt h1) (xor_lt (bit_lt h2) (xor_lt (bit_lt h3) (xor_lt (bit_lt h4) (xor_lt (bit_lt h5) (xor_lt (bit_lt h6) (bit_lt h7)))))))

def upTo (n : Nat) (p : Nat → Bool) : Bool := (List.range n).all p

theorem of_upTo {n : Nat} {p : Nat → Bool} (h : upTo n p = true) {i : Nat} (hi : i < n) : p i = true :=
  List.all_eq_true.1 h i (List.mem_range.2 hi)

theorem sb_lt {n : Nat} (h : n < 256) : sb n < 256 := by
  simpa using of_upTo (p := fun n => decide (sb n < 256)) (show upTo 256 _ = true by decide +kernel) h
theorem bk_lt {n : Nat} (h : n < 256) : bk n < 256 := by
  simpa using of_upTo (p := fun n => decide (bk n < 256)) (show upTo 256 _ = true by decide +kernel) h
theorem bk_sb {n : Nat} (h : n < 256) : bk (sb n) = n := by
  simpa using of_upTo (p := fun n => decide (bk (sb n) = n)) (show upTo 256 _ = true by decide +kernel) h
theorem sb_bk {n : Nat} (h : n < 256) : sb (bk n) = n := by
  simpa using of_upTo (p := fun n => decide (sb (bk n) = n)) (show upTo 256 _ = true by decide +kernel) h

theorem gm_one {x : Nat} (h : x < 256) : gm 1 x = x := by
  simpa using of_upTo (p := fun x => decide (gm 1 x = x)) (show upTo 256 _ = true by decide +kernel) h

/-! ## Mixing a column -/
def mixC (a b c d : Nat) : Nat := gm 2 a ^^^ gm 3 b ^^^ c ^^^ d
def unmixC (a b c d : Nat) : Nat := gm 14 a ^^^ gm 11 b ^^^ gm 13 c ^^^ gm 9 d

theorem unmix_mix {a b c d : Nat} (ha : a < 256) (hb : b < 256) (hc : c < 256) (hd : d < 256) :
    unmixC (mixC a b c d) (mixC b c d a) (mixC c d a b) (mixC d a b c) = a := by
  simp only [unmixC, mixC, gm_xor]
  have e1 : gm 14 (gm 2 a) ^^^ gm 11 a ^^^ gm 13 a ^^^ gm 9 (gm 3 a) = a := of_decide_eq_true (of_upTo (p := fun a => decide (gm 14 (gm 2 a) ^^^ gm 11 a ^^^ gm 13 a ^^^ gm 9 (gm 3 a) = a)) (by decide +kernel) ha)
  have e2 : gm 14 (gm 3 b) ^^^ gm 11 (gm 2 b) ^^^ gm 13 b ^^^ gm 9 b = 0 := of_decide_eq_true (of_upTo (p := fun b => decide (gm 14 (gm 3 b) ^^^ gm 11 (gm 2 b) ^^^ gm 13 b ^^^ gm 9 b = 0)) (by decide +kernel) hb)
  have e3 : gm 14 c ^^^ gm 11 (gm 3 c) ^^^ gm 13 (gm 2 c) ^^^ gm 9 c = 0 := of_decide_eq_true (of_upTo (p := fun c => decide (gm 14 c ^^^ gm 11 (gm 3 c) ^^^ gm 13 (gm 2 c) ^^^ gm 9 c = 0)) (by decide +kernel) hc)
  have e4 : gm 14 d ^^^ gm 11 d ^^^ gm 13 (gm 3 d) ^^^ gm 9 (gm 2 d) = 0 := of_decide_eq_true (of_upTo (p := fun d => decide (gm 14 d ^^^ gm 11 d ^^^ gm 13 (gm 3 d) ^^^ gm 9 (gm 2 d) = 0)) (by decide +kernel) hd)
  calc _ = (gm 14 (gm 2 a) ^^^ gm 11 a ^^^ gm 13 a ^^^ gm 9 (gm 3 a)) ^^^ (gm 14 (gm 3 b) ^^^ gm 11 (gm 2 b) ^^^ gm 13 b ^^^ gm 9 b) ^^^
          (gm 14 c ^^^ gm 11 (gm 3 c) ^^^ gm 13 (gm 2 c) ^^^ gm 9 c) ^^^ (gm 14 d ^^^ gm 11 d ^^^ gm 13 (gm 3 d) ^^^ gm 9 (gm 2 d)) := by
        simp only [Nat.xor_assoc, xor_left_comm, Nat.xor_comm]
    _ = a := by rw [e1, e2, e3, e4]; simp

theorem mix_unmix {a b c d : Nat} (ha : a < 256) (hb : b < 256) (hc : c < 256) (hd : d < 256) :
    mixC (unmixC a b c d) (unmixC b c d a) (unmixC c d a b) (unmixC d a b c) = a := by
  simp only [unmixC, mixC, gm_xor]
  have e1 : gm 2 (gm 14 a) ^^^ gm 3 (gm 9 a) ^^^ gm 13 a ^^^ gm 11 a = a := of_decide_eq_true (of_upTo (p := fun a => decide (gm 2 (gm 14 a) ^^^ gm 3 (gm 9 a) ^^^ gm 13 a ^^^ gm 11 a = a)) (by decide +kernel) ha)
  have e2 : gm 2 (gm 11 b) ^^^ gm 3 (gm 14 b) ^^^ gm 9 b ^^^ gm 13 b = 0 := of_decide_eq_true (of_upTo (p := fun b => decide (gm 2 (gm 11 b) ^^^ gm 3 (gm 14 b) ^^^ gm 9 b ^^^ gm 13 b = 0)) (by decide +kernel) hb)
  have e3 : gm 2 (gm 13 c) ^^^ gm 3 (gm 11 c) ^^^ gm 14 c ^^^ gm 9 c = 0 := of_decide_eq_true (of_upTo (p := fun c => decide (gm 2 (gm 13 c) ^^^ gm 3 (gm 11 c) ^^^ gm 14 c ^^^ gm 9 c = 0)) (by decide +kernel) hc)
  have e4 : gm 2 (gm 9 d) ^^^ gm 3 (gm 13 d) ^^^ gm 11 d ^^^ gm 14 d = 0 := of_decide_eq_true (of_upTo (p := fun d => decide (gm 2 (gm 9 d) ^^^ gm 3 (gm 13 d) ^^^ gm 11 d ^^^ gm 14 d = 0)) (by decide +kernel) hd)
  calc _ = (gm 2 (gm 14 a) ^^^ gm 3 (gm 9 a) ^^^ gm 13 a ^^^ gm 11 a) ^^^ (gm 2 (gm 11 b) ^^^ gm 3 (gm 14 b) ^^^ gm 9 b ^^^ gm 13 b) ^^^
          (gm 2 (gm 13 c) ^^^ gm 3 (gm 11 c) ^^^ gm 14 c ^^^ gm 9 c) ^^^ (gm 2 (gm 9 d) ^^^ gm 3 (gm 13 d) ^^^ gm 11 d ^^^ gm 14 d) := by
        simp only [Nat.xor_assoc, xor_left_comm, Nat.xor_comm]
    _ = a := by rw [e1, e2, e3, e4]; simp
end
end Go.Aes
