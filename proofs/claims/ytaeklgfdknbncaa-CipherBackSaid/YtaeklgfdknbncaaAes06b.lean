/-
  The law CipherBack of mooringlaw06 holds for every argument. Conditions: none beside the hypotheses of each theorem.
-/
import Derived.Test.YtaeklgfdknbncaaAes06
namespace Go.Proofs.Ytaeklgfdknbncaa
noncomputable section
open Go.ChangeShapes Go.WideShapes Go.ChangeAt Go.RowKit Go.Sx Go.Aes

/-! ### Encrypting is injective -/
def c0 : E := .app 252 []
def roundE (k s : E) (r : Nat) : E := addE (mixE (shiftE (subE s))) (keyE r k)
def roundsE (k s : E) : Nat → E
  | 0 => addE s k
  | r + 1 => roundE k (roundsE k s r) (r + 1)
def encE (k s : E) : E := addE (shiftE (subE (roundsE k s 9))) (keyE 10 k)

def roundN (k s r : Nat) : Nat := addS (mixS (shiftS (subS s))) (keyR r k)
def roundsN (k s : Nat) : Nat → Nat
  | 0 => addS s k
  | r + 1 => roundN k (roundsN k s r) (r + 1)
def encN (k s : Nat) : Nat := addS (shiftS (subS (roundsN k s 9))) (keyR 10 k)

theorem add_inj {a b k : Nat} (ha : a < big) (hb : b < big) (h : addS a k = addS b k) : a = b := by
  rw [← add_add k ha, h, add_add k hb]
theorem sub_inj {a b : Nat} (ha : a < big) (hb : b < big) (h : subS a = subS b) : a = b := by
  rw [← unsub_sub ha, h, unsub_sub hb]
theorem shift_inj {a b : Nat} (ha : a < big) (hb : b < big) (h : shiftS a = shiftS b) : a = b := by
  rw [← unshift_shift ha, h, unshift_shift hb]
theorem mix_inj {a b : Nat} (ha : a < big) (hb : b < big) (h : mixS a = mixS b) : a = b := by
  rw [← unmix_mixS ha, h, unmix_mixS hb]

theorem rounds_lt (k s : Nat) : ∀ r, roundsN k s r < big
  | 0 => by rw [roundsN, addS]; exact mk_lt _
  | r + 1 => by rw [roundsN, roundN, addS]; exact mk_lt _
theorem subS_lt (s : Nat) : subS s < big := by rw [subS]; exact mk_lt _
theorem shiftS_lt (s : Nat) : shiftS s < big := by rw [shiftS]; exact mk_lt _
theorem mixS_lt (s : Nat) : mixS s < big := by rw [mixS]; exact mk_lt _

theorem round_inj {k a b r : Nat} (ha : a < big) (hb : b < big) (h : roundN k a r = roundN k b r) : a = b := by
  unfold roundN at h
  have h1 := add_inj (mixS_lt _) (mixS_lt _) h
  have h2 := mix_inj (shiftS_lt _) (shiftS_lt _) h1
  have h3 := shift_inj (subS_lt _) (subS_lt _) h2
  exact sub_inj ha hb h3

theorem rounds_zero (k s : Nat) : roundsN k s 0 = addS s k := by rw [roundsN]
theorem rounds_succ (k s r : Nat) : roundsN k s (r + 1) = roundN k (roundsN k s r) (r + 1) := by rw [roundsN]
theorem rounds_inj {k a b : Nat} (ha : a < big) (hb : b < big) (r : Nat) (h : roundsN k a r = roundsN k b r) : a = b := by
  induction r with
  | zero =>
    rw [rounds_zero, rounds_zero] at h
    exact add_inj ha hb h
  | succ r ih =>
    rw [rounds_succ, rounds_succ] at h
    exact ih (round_inj (rounds_lt _ _ _) (rounds_lt _ _ _) h)
theorem enc_inj {k a b : Nat} (ha : a < big) (hb : b < big) (h : encN k a = encN k b) : a = b := by
  unfold encN at h
  have h1 := add_inj (shiftS_lt _) (shiftS_lt _) h
  have h2 := shift_inj (subS_lt _) (subS_lt _) h1
  exact rounds_inj ha hb 9 (sub_inj (rounds_lt _ _ _) (rounds_lt _ _ _) h2)
theorem enc_lt (k a : Nat) : encN k a < big := by rw [encN, addS]; exact mk_lt _

section
variable {st : Nat → Nat} {int : Nat → Int} {bool : Nat → Bool}
theorem rounds_num {k s : E} (hk : isState k = true) : ∀ r, r < 50 → num (aesVal st int bool) (roundsE k s r) = roundsN (num (aesVal st int bool) k) (num (aesVal st int bool) s) r
  | 0, _ => num_of (addE_den s k)
  | r + 1, h => by
    rw [roundsE, roundE, num_of (addE_den _ _), num_of (mixE_den _), num_of (shiftE_den _), num_of (subE_den _), rounds_num hk r (by omega), num_of (keyE_den (by omega) hk)]; rfl
theorem enc_num {k s : E} (hk : isState k = true) : num (aesVal st int bool) (encE k s) = encN (num (aesVal st int bool) k) (num (aesVal st int bool) s) := by
  rw [encE, num_of (addE_den _ _), num_of (shiftE_den _), num_of (subE_den _), rounds_num hk 9 (by decide), num_of (keyE_den (by decide) hk)]; rfl

def eqs (s t : E) : List Nat → C
  | [] => .lit true
  | [i] => .cmp .eq (byteE i s) (byteE i t)
  | i :: l => .and (.cmp .eq (byteE i s) (byteE i t)) (eqs s t l)

theorem eqs_den (s t : E) : ∀ (l : List Nat), (∀ i ∈ l, i < 16) → ((eqs s t l).den (aesVal st int bool) = true ↔ ∀ i ∈ l, byte i (num (aesVal st int bool) s) = byte i (num (aesVal st int bool) t))
  | [], _ => by simp [eqs, C.den]
  | [i], h => by
    have hi := h i (by simp)
    simp only [eqs, C.den, CO.fn, byteE_den i hi, beq_iff_eq, List.mem_singleton, forall_eq]
    exact Int.ofNat_inj
  | i :: j :: l, h => by
    have hi := h i (by simp)
    have ih := eqs_den s t (j :: l) (fun x hx => h x (by simp only [List.mem_cons] at hx ⊢; exact .inr hx))
    simp only [eqs, C.den, CO.fn, byteE_den i hi, Bool.and_eq_true, beq_iff_eq, Int.ofNat_inj] at ih ⊢
    rw [ih]
    simp

def all16 : List Nat := List.range 16
theorem eqs_all {s t : E} (hs : num (aesVal st int bool) s < big) (ht : num (aesVal st int bool) t < big) : (eqs s t all16).den (aesVal st int bool) = decide (num (aesVal st int bool) s = num (aesVal st int bool) t) := by
  rw [Bool.eq_iff_iff, eqs_den s t all16 (fun i hi => List.mem_range.1 hi), decide_eq_true_eq]
  constructor
  · intro h; exact ext16 hs ht fun i hi => h i (List.mem_range.2 hi)
  · intro h i _; rw [h]

def encFact (k a b : E) : C := .iff (eqs (encE k a) (encE k b) all16) (eqs a b all16)
theorem encFact_ok {k a b : E} (hk : isState k = true) (ha : isState a = true) (hb : isState b = true) : (encFact k a b).den (aesVal st int bool) = true := by
  have la := (isState_ok (st := st) (int := int) (bool := bool) ha).1
  have lb := (isState_ok (st := st) (int := int) (bool := bool) hb).1
  rw [encFact, C.den, eqs_all (by rw [enc_num hk]; exact enc_lt _ _) (by rw [enc_num hk]; exact enc_lt _ _), eqs_all la lb, enc_num hk, enc_num hk]
  rw [beq_iff_eq, Bool.eq_iff_iff, decide_eq_true_eq, decide_eq_true_eq]
  exact ⟨enc_inj la lb, fun h => by rw [h]⟩
end

def backFacts : List (C × Bool) := [(encFact k0 v0 c0, true)]
def threeSt (a k b : Nat) (f : Nat) : Nat := if f = 250 then a else if f = 251 then k else b
def blocks3 : List SVal := [.agg (unpackE k0), .agg (unpackE v0), .agg (unpackE c0)]
theorem back_eval : gives (callV (env sums6 backFacts) (runV (env sums6 backFacts) 600) 0 [] 9 blocks3) yes = true := by kernel_rfl

theorem back_calls (k : List Int) (lk : k.length = 16) (bk : ∀ x ∈ k, 0 ≤ x ∧ x ≤ 255) (a : List Int) (la : a.length = 16) (ba : ∀ x ∈ a, 0 ≤ x ∧ x ≤ 255) (b : List Int) (lb : b.length = 16) (bb : ∀ x ∈ b, 0 ≤ x ∧ x ≤ 255) (w : World) :
    Calls Try.prog 9 #[.agg ⟨k.map (Value.int .u8)⟩, .agg ⟨a.map (Value.int .u8)⟩, .agg ⟨b.map (Value.int .u8)⟩] w fun e w' => e = .returned (.bool true) ∧ Below w.heap.size w w' := by
  rw [packL_val lk bk, packL_val la ba, packL_val lb bb]
  have hk : packL k < big := mk_lt _
  have ha : packL a < big := mk_lt _
  have hb : packL b < big := mk_lt _
  have hΓ : EnvOk (env sums6 backFacts) (val (threeSt (packL a) (packL k) (packL b))) := env_ok goods6 fun c x hm => by
    simp only [backFacts, List.mem_singleton, Prod.mk.injEq] at hm
    obtain ⟨rfl, rfl⟩ := hm
    exact encFact_ok rfl rfl rfl
  have := gives_calls hΓ 600 back_eval ((flats_rv (by simp only [blocks3, flats, flat_block, Bool.and_self])).2 rfl) w
  simp only [denVs, blocks3] at this
  have ea : num (val (threeSt (packL a) (packL k) (packL b))) v0 = packL a := by
    have e : v0.den (val (threeSt (packL a) (packL k) (packL b))) = (packL a % big : Nat) := rfl
    rw [show num (val (threeSt (packL a) (packL k) (packL b))) v0 = packL a % big from num_of e, Nat.mod_eq_of_lt ha]
  have ek : num (val (threeSt (packL a) (packL k) (packL b))) k0 = packL k := by
    have e : k0.den (val (threeSt (packL a) (packL k) (packL b))) = (packL k % big : Nat) := rfl
    rw [show num (val (threeSt (packL a) (packL k) (packL b))) k0 = packL k % big from num_of e, Nat.mod_eq_of_lt hk]
  have eb : num (val (threeSt (packL a) (packL k) (packL b))) c0 = packL b := by
    have e : c0.den (val (threeSt (packL a) (packL k) (packL b))) = (packL b % big : Nat) := rfl
    rw [show num (val (threeSt (packL a) (packL k) (packL b))) c0 = packL b % big from num_of e, Nat.mod_eq_of_lt hb]
  rw [show denV (val (threeSt (packL a) (packL k) (packL b))) (.agg (unpackE v0)) = blockV (packL a) from block_den ea,
    show denV (val (threeSt (packL a) (packL k) (packL b))) (.agg (unpackE k0)) = blockV (packL k) from block_den ek,
    show denV (val (threeSt (packL a) (packL k) (packL b))) (.agg (unpackE c0)) = blockV (packL b) from block_den eb] at this
  exact this

set_option maxRecDepth 100000 in
theorem back_lifted (os : Os) (started : os.Started) (H : Type) (enc : TypeId × Value → H) :
    ReturnsInHanded {} Try.checked os 9 .any (Rows.cipherBackSpec.pre6 enc Try.prog Try.f9 Rows.cipherBackRow.domain false) (Rows.cipherBackSpec.post enc Try.prog Try.f9 false true false false) := by
  refine returnsInHanded_of_change (C := Try.checked) own started (by kernel_rfl) Try.func9
    (ChangeSpec.witness6 (enc := enc) (C := Try.checked) false ⟨#[], #[.agg #[.int .u8 0, .int .u8 0, .int .u8 0, .int .u8 0, .int .u8 0, .int .u8 0, .int .u8 0, .int .u8 0, .int .u8 0, .int .u8 0, .int .u8 0, .int .u8 0, .int .u8 0, .int .u8 0, .int .u8 0, .int .u8 0], .agg #[.int .u8 0, .int .u8 0, .int .u8 0, .int .u8 0, .int .u8 0, .int .u8 0, .int .u8 0, .int .u8 0, .int .u8 0, .int .u8 0, .int .u8 0, .int .u8 0, .int .u8 0, .int .u8 0, .int .u8 0, .int .u8 0], .agg #[.int .u8 0, .int .u8 0, .int .u8 0, .int .u8 0, .int .u8 0, .int .u8 0, .int .u8 0, .int .u8 0, .int .u8 0, .int .u8 0, .int .u8 0, .int .u8 0, .int .u8 0, .int .u8 0, .int .u8 0, .int .u8 0]], []⟩ 8 (by kernel_rfl) (by kernel_rfl) (by kernel_rfl) (by kernel_rfl)) ?_
  intro W base args ds gs before hval0 hW _ _
  have hval : ∀ (j : Nat) t v, Try.f9.params[j]? = some t → args[j]? = some v → Value.okWide Try.prog W .any base t v := hval0
  have hW' := hW
  obtain ⟨p, q, hA0, hV, rfl, hfz, hnd⟩ := hW
  have hA : DataW.TrodAll enc Try.prog W 0 (fun _ => true) true Try.f9.params.toList args.toList ds p := hA0
  rw [Try.params9] at hA hval
  obtain ⟨v0, vs0, d0, ds0, p0, q0, hargs, rfl, rfl, h0, r0⟩ := trodAll_cons hA
  obtain ⟨v1, vs1, d1, ds1, p1, q1, rfl, rfl, rfl, h1, r1⟩ := trodAll_cons r0
  obtain ⟨v2, vs2, d2, ds2, p2, q2, rfl, rfl, rfl, h2, r2⟩ := trodAll_cons r1
  obtain ⟨rfl, rfl, rfl⟩ := trodAll_nil r2
  obtain rfl : args = #[v0, v1, v2] := by cases args; simp_all
  obtain ⟨x0, rfl, l0, b0⟩ := open_bytes Try.underlying35 Try.underlying5 (by kernel_rfl) (by kernel_rfl) (hval 0 35 v0 rfl rfl) h0
  obtain ⟨x1, rfl, l1, b1⟩ := open_bytes Try.underlying35 Try.underlying5 (by kernel_rfl) (by kernel_rfl) (hval 1 35 v1 rfl rfl) h1
  obtain ⟨x2, rfl, l2, b2⟩ := open_bytes Try.underlying35 Try.underlying5 (by kernel_rfl) (by kernel_rfl) (hval 2 35 v2 rfl rfl) h2
  refine (back_calls x0 l0 b0 x1 l1 b1 x2 l2 b2 W).mono fun e W' ⟨he, hb⟩ => ?_
  exact ⟨_, he, law_post (tb := 4) laidOut rfl Try.underlying4 (by kernel_rfl) (by decide +kernel) (fun ds h => by
    match ds, h with
    | [_, _, _], _ => rfl) hW' hb⟩

theorem back_holds : Rows.CipherBackSaid :=
  OpenClaim.holds_of_wide 9 Try.f9 rfl rfl rfl rfl rfl rfl rfl ⟨rfl, rfl, rfl, rfl, rfl⟩ rfl rfl rfl rfl rfl (by kernel_rfl) Try.func9 (by kernel_rfl)
    (of_decide_eq_true (by kernel_rfl)) (by unfold Func.isWrapper; rw [if_neg (of_decide_eq_false (by kernel_rfl))]; exact ⟨rfl, rfl⟩)
    (fun os started H enc _ => back_lifted os started H enc)

end
end Go.Proofs.Ytaeklgfdknbncaa
