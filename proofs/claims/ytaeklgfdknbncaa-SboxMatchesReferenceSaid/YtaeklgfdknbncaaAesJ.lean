/-
  The law SboxMatchesReference of mooringlaw04 holds for every argument. Conditions: none beside the hypotheses of each theorem.
-/
import Derived.Test.YtaeklgfdknbncaaAesI
namespace Go.Proofs.Ytaeklgfdknbncaa
noncomputable section
open Go.ChangeShapes Go.WideShapes Go.ChangeAt Go.RowKit Go.Sx Go.Aes

/-! ### The inverse, which is looked for -/
def gmSum : List SVal → Option SVal
  | [.int .u8 x, .int .u8 y] => if isByte x = true ∧ isByte y = true then some (u8 (.app 3 [x, y])) else none
  | _ => none
theorem Gm_good : Good 56 gmSum := by
  intro st int bool
  have key : ∀ {args v}, gmSum args = some v → ∃ x y, args = [.int .u8 x, .int .u8 y] ∧ isByte x = true ∧ isByte y = true ∧ v = u8 (.app 3 [x, y]) := by
    intro args v h
    unfold gmSum at h
    split at h
    · rename_i x y
      split at h
      · rename_i hc; cases h; exact ⟨x, y, rfl, hc.1, hc.2, rfl⟩
      · cases h
    · cases h
  refine ⟨?_, ?_⟩
  · intro args v h
    obtain ⟨x, y, rfl, _, _, rfl⟩ := key h
    exact ⟨rfl, rfl⟩
  · intro args v h w
    obtain ⟨x, y, rfl, hx, hy, rfl⟩ := key h
    obtain ⟨n, hn, e1⟩ := isByte_ok (st := st) (int := int) (bool := bool) hx
    obtain ⟨m, hm, e2⟩ := isByte_ok (st := st) (int := int) (bool := bool) hy
    simp only [denVs, denV, u8]
    have e3 : (E.app 3 [x, y]).den (aesVal st int bool) = (gm n m : Nat) := by
      show ((appN st 3 [x.den _, y.den _] : Nat) : Int) = _
      rw [e1, e2]
      simp [appN, smallC, arg, Nat.mod_eq_of_lt hn]
    rw [e1, e2, e3]
    exact refMul_ret hn hm w

def invL : List Nat := [0, 1, 141, 246, 203, 82, 123, 209, 232, 79, 41, 192, 176, 225, 229, 199, 116, 180, 170, 75, 153, 43, 96, 95, 88, 63, 253, 204, 255, 64, 238, 178, 58, 110, 90, 241, 85, 77, 168, 201, 193, 10, 152, 21, 48, 68, 162, 194, 44, 69, 146, 108, 243, 57, 102, 66, 242, 53, 32, 111, 119, 187, 89, 25, 29, 254, 55, 103, 45, 49, 245, 105, 167, 100, 171, 19, 84, 37, 233, 9, 237, 92, 5, 202, 76, 36, 135, 191, 24, 62, 34, 240, 81, 236, 97, 23, 22, 94, 175, 211, 73, 166, 54, 67, 244, 71, 145, 223, 51, 147, 33, 59, 121, 183, 151, 133, 16, 181, 186, 60, 182, 112, 208, 6, 161, 250, 129, 130, 131, 126, 127, 128, 150, 115, 190, 86, 155, 158, 149, 217, 247, 2, 185, 164, 222, 106, 50, 109, 216, 138, 132, 114, 42, 20, 159, 136, 249, 220, 137, 154, 251, 124, 46, 195, 143, 184, 101, 72, 38, 200, 18, 74, 206, 231, 210, 98, 12, 224, 31, 239, 17, 117, 120, 113, 165, 142, 118, 61, 189, 188, 134, 87, 11, 40, 47, 163, 218, 212, 228, 15, 169, 39, 83, 4, 27, 252, 172, 230, 122, 7, 174, 99, 197, 219, 226, 234, 148, 139, 196, 213, 157, 248, 144, 107, 177, 13, 214, 235, 198, 14, 207, 173, 8, 78, 215, 227, 93, 80, 30, 179, 91, 35, 56, 52, 104, 70, 3, 140, 221, 156, 125, 160, 205, 26, 65, 28]
def inv (n : Nat) : Nat := invL.getD n 0
def combG : List Nat → Tree SVal
  | [] => .leaf (u8 (.lit 0))
  | i :: l => .fork (.cmp .eq (.app 3 [b0, .lit (i : Int)]) (.lit 1)) (.leaf (u8 (.lit (i : Int)))) (combG l)
theorem inv_eval : givesT (callT (env [(56, gmSum)] []) 100 2000 25 [u8 b0]) (combG (List.range 256)) = true := by kernel_rfl
/-- the first factor whose product is 1 -/
def firstG (n : Nat) : List Nat → Nat
  | [] => 0
  | i :: l => bif Nat.beq (gm n i) 1 then i else firstG n l
theorem pick_comb {n : Nat} (hn : n < 256) : ∀ (l : List Nat), (∀ i ∈ l, i < 256) → pick (val (byteSt n)) (combG l) = u8 (.lit (firstG n l : Nat))
  | [], _ => rfl
  | i :: l, h => by
    have hi := h i (by simp)
    have e : (E.app 3 [b0, .lit (i : Int)]).den (val (byteSt n)) = (gm n i : Nat) := by
      show ((appN (byteSt n) 3 [b0.den (val (byteSt n)), (i : Int)] : Nat) : Int) = _
      rw [b0_den hn]
      simp [appN, smallC, arg, Nat.mod_eq_of_lt hn]
    have hc : (C.cmp .eq (.app 3 [b0, .lit (i : Int)]) (.lit 1)).den (val (byteSt n)) = Nat.beq (gm n i) 1 := by
      show CO.fn .eq ((E.app 3 [b0, .lit (i : Int)]).den (val (byteSt n))) 1 = _
      rw [e]
      show (((gm n i : Nat) : Int) == 1) = _
      rw [Bool.eq_iff_iff, beq_iff_eq, Nat.beq_eq]
      omega
    simp only [combG, pick, firstG, hc]
    rw [pick_comb hn l (fun i hi => h i (by simp [hi]))]
    cases Nat.beq (gm n i) 1 <;> rfl
def invP (n : Nat) : Bool := Nat.beq (firstG n (List.range 256)) (inv n)
theorem inv_check0 : upTo 64 (fun n => invP n) = true := by decide +kernel
theorem inv_check1 : upTo 64 (fun n => invP (64 + n)) = true := by decide +kernel
theorem inv_check2 : upTo 64 (fun n => invP (128 + n)) = true := by decide +kernel
theorem inv_check3 : upTo 64 (fun n => invP (192 + n)) = true := by decide +kernel
theorem inv_first {n : Nat} (hn : n < 256) : firstG n (List.range 256) = inv n := by
  have key : ∀ k, (∀ i, i < 64 → invP (k + i) = true) → k ≤ n → n < k + 64 → firstG n (List.range 256) = inv n := by
    intro k h h1 h2
    have := h (n - k) (by omega)
    rw [show k + (n - k) = n by omega] at this
    exact Nat.eq_of_beq_eq_true this
  by_cases h1 : n < 64
  · exact key 0 (fun i hi => by rw [Nat.zero_add]; exact of_upTo inv_check0 hi) (by omega) (by omega)
  · by_cases h2 : n < 128
    · exact key 64 (fun i hi => of_upTo inv_check1 hi) (by omega) (by omega)
    · by_cases h3 : n < 192
      · exact key 128 (fun i hi => of_upTo inv_check2 hi) (by omega) (by omega)
      · exact key 192 (fun i hi => of_upTo inv_check3 hi) (by omega) (by omega)
theorem inv_ret : ∀ n : Nat, n < 256 → Ret 25 [.int .u8 n] (.int .u8 (inv n : Nat)) := by
  intro n hn w
  have h := tree_calls (.cons Gm_good .nil) (byteSt n) 100 2000 (f := 25) (args := [u8 b0]) rfl inv_eval w
  rw [pick_comb hn _ (fun i hi => List.mem_range.1 hi), inv_first hn] at h
  simp only [denVs, denV, u8] at h
  rw [b0_den hn] at h
  exact h

/-! ### SboxMatchesReference -/
def i2 : E := .app 602 []
def invSum : List SVal → Option SVal
  | [.int .u8 e] => if e.same b0 = true then some (u8 i2) else none
  | _ => none
def invSt (x : Nat) (f : Nat) : Nat := if f = 602 then inv x else x
theorem inv_lt {x : Nat} (h : x < 256) : inv x < 256 := of_decide_eq_true (of_upTo (p := fun x => decide (inv x < 256)) (by decide +kernel) h)
theorem sb_inv {x : Nat} (h : x < 256) : sb x = aff (inv x) % 256 := of_decide_eq_true (of_upTo (p := fun x => decide (sb x = aff (inv x) % 256)) (by decide +kernel) h)
theorem invSt_b {x : Nat} (h : x < 256) : b0.den (val (invSt x)) = x := by
  have e : b0.den (val (invSt x)) = (x % 256 : Nat) := rfl
  rw [e, Nat.mod_eq_of_lt h]
theorem invSt_i {x : Nat} (h : x < 256) : i2.den (val (invSt x)) = (inv x : Nat) := by
  have e : i2.den (val (invSt x)) = (inv x % 256 : Nat) := rfl
  rw [e, Nat.mod_eq_of_lt (inv_lt h)]
theorem invSum_ok {x : Nat} (h : x < 256) : PureSum Try.prog (val (invSt x)) 25 invSum := by
  have key : ∀ {args v}, invSum args = some v → args = [.int .u8 b0] ∧ v = u8 i2 := by
    intro args v h
    unfold invSum at h
    split at h
    · rename_i e
      split at h
      · rename_i hc; cases h; exact ⟨by rw [E.same_eq hc], rfl⟩
      · cases h
    · cases h
  refine ⟨?_, ?_⟩
  · intro args v h
    obtain ⟨rfl, rfl⟩ := key h
    exact ⟨rfl, rfl⟩
  · intro args v hv w
    obtain ⟨rfl, rfl⟩ := key hv
    simp only [denVs, denV, u8]
    rw [invSt_b h, invSt_i h]
    exact inv_ret x h w

def yesB : SVal := .bool (.lit true)
def invF : List (C × Bool) := [(.cmp .eq (sE b0) (affE i2), true)]
def sumsI (f : Nat) : Option (Hp → List SVal → Option (SVal × List SObj)) := bif Nat.beq f 25 then some (pureSum invSum) else sumsL sums2 f
noncomputable def envI : Env := { env sums2 invF with sums := sumsI }
theorem envI_ok {x : Nat} (hx : x < 256) : EnvOk envI (val (invSt x)) := by
  have h : EnvOk (env sums2 invF) (val (invSt x)) := env_ok goods2 fun c b hm => by
    simp only [invF, List.mem_cons, List.mem_nil_iff, or_false, Prod.mk.injEq] at hm
    obtain ⟨rfl, rfl⟩ := hm
    show CO.fn .eq ((sE b0).den (val (invSt x))) ((affE i2).den (val (invSt x))) = true
    have s0 : (sE b0).den (val (invSt x)) = (sb x : Nat) := sE_den hx (invSt_b hx)
    have a0 : (affE i2).den (val (invSt x)) = (aff (inv x) % 256 : Nat) := affE_den (inv_lt hx) (invSt_i hx)
    rw [s0, a0, sb_inv hx]
    simp [CO.fn]
  refine ⟨⟨h.ctx.rvar, h.ctx.rapp, h.ctx.facts, h.ctx.rw⟩, h.mixed, fun f s hs => ?_⟩
  have hs : sumsI f = some s := hs
  unfold sumsI at hs
  cases hb : Nat.beq f 25 with
  | true =>
    rw [hb] at hs
    obtain rfl : pureSum invSum = s := Option.some.inj hs
    obtain rfl : f = 25 := Nat.eq_of_beq_eq_true hb
    exact (invSum_ok hx).ok
  | false =>
    rw [hb] at hs
    exact h.sums f s hs

theorem wf8 {x : Int} (h : (Lit.int .u8 x).wf = true) : ∃ n : Nat, x = n ∧ n < 256 := by
  have : 0 ≤ x ∧ x ≤ 255 := by simpa [Lit.wf, IntKind.min, IntKind.max, IntKind.signed, IntKind.bits] using h
  exact ⟨x.toNat, by omega, by omega⟩
theorem sboxRef_eval : gives (callV envI (runV envI 600) 0 [] 5 [u8 b0]) yesB = true := by kernel_rfl
theorem sboxRef_calls (x : Int) (hx : (Lit.int .u8 x).wf = true) (w : World) : Calls Try.prog 5 #[.int .u8 x] w fun e w' => e = .returned (.bool true) ∧ Below w.heap.size w w' := by
  obtain ⟨x, rfl, lx⟩ := wf8 hx
  have := gives_calls (envI_ok lx) 600 sboxRef_eval ((flats_rv (by rfl)).2 rfl) w
  simp only [denVs, denV, u8] at this
  rw [invSt_b lx] at this
  exact this

set_option maxRecDepth 100000 in
theorem sboxRef_lifted (os : Os) (started : os.Started) (H : Type) (enc : TypeId × Value → H) :
    ReturnsInHanded {} Try.checked os 5 .any (Rows.sboxMatchesReferenceSpec.pre6 enc Try.prog Try.f5 Rows.sboxMatchesReferenceRow.domain false) (Rows.sboxMatchesReferenceSpec.post enc Try.prog Try.f5 false true false false) := by
  refine returnsInHanded_of_change (C := Try.checked) own started (by kernel_rfl) Try.func5
    (ChangeSpec.witness6 (enc := enc) (C := Try.checked) false ⟨#[], #[.int .u8 0], []⟩ 8 (by kernel_rfl) (by kernel_rfl) (by kernel_rfl) (by kernel_rfl)) ?_
  intro W base args ds gs before hval0 hW _ _
  have hval : ∀ (j : Nat) t v, Try.f5.params[j]? = some t → args[j]? = some v → Value.okWide Try.prog W .any base t v := hval0
  have hW' := hW
  obtain ⟨p, q, hA0, hV, rfl, hfz, hnd⟩ := hW
  have hA : DataW.TrodAll enc Try.prog W 0 (fun _ => true) true Try.f5.params.toList args.toList ds p := hA0
  rw [Try.params5] at hA hval
  obtain ⟨v0, vs0, d0, ds0, p0, q0, hargs, rfl, rfl, h0, r0⟩ := trodAll_cons hA
  obtain ⟨rfl, rfl, rfl⟩ := trodAll_nil r0
  obtain rfl : args = #[v0] := by cases args; simp_all
  obtain ⟨x0, rfl, rfl, rfl, w0⟩ := open_int Try.underlying5 (hval 0 5 v0 rfl rfl) h0
  refine (sboxRef_calls x0 w0 W).mono fun e W' ⟨he, hb⟩ => ?_
  exact ⟨_, he, law_post (tb := 4) laidOut rfl Try.underlying4 (by kernel_rfl) (by decide +kernel) (fun ds h => by
    match ds, h with
    | [_], _ => rfl) hW' hb⟩

theorem sboxRef_holds : Rows.SboxMatchesReferenceSaid :=
  OpenClaim.holds_of_wide 5 Try.f5 rfl rfl rfl rfl rfl rfl rfl ⟨rfl, rfl, rfl, rfl, rfl⟩ rfl rfl rfl rfl rfl (by kernel_rfl) Try.func5 (by kernel_rfl)
    (of_decide_eq_true (by kernel_rfl)) (by unfold Func.isWrapper; rw [if_neg (of_decide_eq_false (by kernel_rfl))]; exact ⟨rfl, rfl⟩)
    (fun os started H enc _ => sboxRef_lifted os started H enc)

end
end Go.Proofs.Ytaeklgfdknbncaa
