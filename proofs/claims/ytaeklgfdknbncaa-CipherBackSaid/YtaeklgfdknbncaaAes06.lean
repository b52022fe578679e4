/-
  The laws CipherMatchesReference, CipherSteps, CipherLinear and CipherRounds of mooringlaw06 hold for every argument. Conditions: none beside the hypotheses of each theorem.
-/
import Derived.Test.YtaeklgfdknbncaaAesP4
namespace Go.Proofs.Ytaeklgfdknbncaa
noncomputable section
open Go.ChangeShapes Go.WideShapes Go.ChangeAt Go.RowKit Go.Sx Go.Aes

/-! ### Blocks that come in -/
def packL (ns : List Int) : Nat := mk16 fun i => (ns.getD i 0).toNat

theorem packL_val {ns : List Int} (hl : ns.length = 16) (hb : ∀ x ∈ ns, 0 ≤ x ∧ x ≤ 255) : Value.agg ⟨ns.map (Value.int .u8)⟩ = blockV (packL ns) := by
  unfold blockV
  congr 2
  apply List.ext_getElem?
  intro i
  by_cases hi : i < 16
  · have hi' : i < ns.length := by omega
    rw [List.getElem?_map, List.getElem?_map, List.getElem?_eq_getElem hi', List.getElem?_range hi]
    simp only [Option.map_some]
    congr 2
    have := hb _ (List.getElem_mem hi')
    unfold packL
    rw [byte_mk hi, List.getD_eq_getElem?_getD, List.getElem?_eq_getElem hi', Option.getD_some]
    omega
  · rw [List.getElem?_eq_none (by simp only [List.length_map]; omega), List.getElem?_eq_none (by simp only [List.length_map, List.length_range]; omega)]

/-! ### The laws of mooringlaw06 -/
def sums3 : List (Nat × Sum) := (34, stateSum subE) :: (35, stateSum shiftE) :: (36, stateSum mixE) :: (41, addSum) :: (43, stateSum unsubE) :: (44, stateSum unshiftE) :: (45, stateSum unmixE) ::
  (38, gridSubSum) :: (39, gridSum shiftE) :: (40, gridSum mixE) :: (42, gridAddSum) :: (46, keysSum) :: (58, keysSum) :: sums2
theorem goods3 : Goods sums3 := .cons Sub_good (.cons Shift_good (.cons Mix_good (.cons Add_good (.cons Unsub_good (.cons Unshift_good (.cons Unmix_good
  (.cons GridSub_good (.cons GridShift_good (.cons GridMix_good (.cons GridAdd_good (.cons Keys_good (.cons RefKeys_good goods2))))))))))))

def yes : SVal := .bool (.lit true)
theorem Awake06_good : Good 28 (constSum yes) := const_eval goods3 600 rfl (by kernel_rfl)
def sums6 : List (Nat × Sum) := (28, constSum yes) :: sums3
theorem goods6 : Goods sums6 := .cons Awake06_good goods3

def blocks2 : List SVal := [.agg (unpackE k0), .agg (unpackE v0)]
abbrev Two (f : Nat) : Prop := ∀ (k : List Int) (_ : k.length = 16) (_ : ∀ x ∈ k, 0 ≤ x ∧ x ≤ 255) (b : List Int) (_ : b.length = 16) (_ : ∀ x ∈ b, 0 ≤ x ∧ x ≤ 255) (w : World),
    Calls Try.prog f #[.agg ⟨k.map (Value.int .u8)⟩, .agg ⟨b.map (Value.int .u8)⟩] w fun e w' => e = .returned (.bool true) ∧ Below w.heap.size w w'

theorem law2 {l : List (Nat × Sum)} (hl : Goods l) {f : Nat} (m : Nat) (h : gives (callV (env l []) (runV (env l []) m) 0 [] f blocks2) yes = true) : Two f := by
  intro k lk bk b lb bb w
  rw [packL_val lk bk, packL_val lb bb]
  have hk : packL k < big := mk_lt _
  have hb : packL b < big := mk_lt _
  have := eval_calls hl (twoSt (packL b) (packL k)) m (f := f) (args := blocks2) (by simp only [blocks2, flats, flat_block, Bool.and_self]) h w
  simp only [denVs, blocks2] at this
  rw [show denV (val (twoSt (packL b) (packL k))) (.agg (unpackE v0)) = blockV (packL b) from block_den (v0_num hb), show denV (val (twoSt (packL b) (packL k))) (.agg (unpackE k0)) = blockV (packL k) from block_den (k0_num hk)] at this
  exact this

theorem matches_eval : gives (callV (env sums6 []) (runV (env sums6 []) 600) 0 [] 7 blocks2) yes = true := by kernel_rfl
theorem steps_eval : gives (callV (env sums6 []) (runV (env sums6 []) 600) 0 [] 8 blocks2) yes = true := by kernel_rfl
theorem linear_eval : gives (callV (env sums6 []) (runV (env sums6 []) 600) 0 [] 10 blocks2) yes = true := by kernel_rfl
theorem rounds_eval : gives (callV (env sums6 []) (runV (env sums6 []) 600) 0 [] 11 blocks2) yes = true := by kernel_rfl

theorem matches_calls : Two 7 := law2 goods6 600 matches_eval
theorem steps_calls : Two 8 := law2 goods6 600 steps_eval
theorem linear_calls : Two 10 := law2 goods6 600 linear_eval
theorem rounds_calls : Two 11 := law2 goods6 600 rounds_eval

set_option maxRecDepth 100000 in
theorem matches_lifted (os : Os) (started : os.Started) (H : Type) (enc : TypeId × Value → H) :
    ReturnsInHanded {} Try.checked os 7 .any (Rows.cipherMatchesReferenceSpec.pre6 enc Try.prog Try.f7 Rows.cipherMatchesReferenceRow.domain false) (Rows.cipherMatchesReferenceSpec.post enc Try.prog Try.f7 false true false false) := by
  refine returnsInHanded_of_change (C := Try.checked) own started (by kernel_rfl) Try.func7
    (ChangeSpec.witness6 (enc := enc) (C := Try.checked) false ⟨#[], #[.agg #[.int .u8 0, .int .u8 0, .int .u8 0, .int .u8 0, .int .u8 0, .int .u8 0, .int .u8 0, .int .u8 0, .int .u8 0, .int .u8 0, .int .u8 0, .int .u8 0, .int .u8 0, .int .u8 0, .int .u8 0, .int .u8 0], .agg #[.int .u8 0, .int .u8 0, .int .u8 0, .int .u8 0, .int .u8 0, .int .u8 0, .int .u8 0, .int .u8 0, .int .u8 0, .int .u8 0, .int .u8 0, .int .u8 0, .int .u8 0, .int .u8 0, .int .u8 0, .int .u8 0]], []⟩ 8 (by kernel_rfl) (by kernel_rfl) (by kernel_rfl) (by kernel_rfl)) ?_
  intro W base args ds gs before hval0 hW _ _
  have hval : ∀ (j : Nat) t v, Try.f7.params[j]? = some t → args[j]? = some v → Value.okWide Try.prog W .any base t v := hval0
  have hW' := hW
  obtain ⟨p, q, hA0, hV, rfl, hfz, hnd⟩ := hW
  have hA : DataW.TrodAll enc Try.prog W 0 (fun _ => true) true Try.f7.params.toList args.toList ds p := hA0
  rw [Try.params7] at hA hval
  obtain ⟨v0, vs0, d0, ds0, p0, q0, hargs, rfl, rfl, h0, r0⟩ := trodAll_cons hA
  obtain ⟨v1, vs1, d1, ds1, p1, q1, rfl, rfl, rfl, h1, r1⟩ := trodAll_cons r0
  obtain ⟨rfl, rfl, rfl⟩ := trodAll_nil r1
  obtain rfl : args = #[v0, v1] := by cases args; simp_all
  obtain ⟨x0, rfl, l0, b0⟩ := open_bytes Try.underlying35 Try.underlying5 (by kernel_rfl) (by kernel_rfl) (hval 0 35 v0 rfl rfl) h0
  obtain ⟨x1, rfl, l1, b1⟩ := open_bytes Try.underlying35 Try.underlying5 (by kernel_rfl) (by kernel_rfl) (hval 1 35 v1 rfl rfl) h1
  refine (matches_calls x0 l0 b0 x1 l1 b1 W).mono fun e W' ⟨he, hb⟩ => ?_
  exact ⟨_, he, law_post (tb := 4) laidOut rfl Try.underlying4 (by kernel_rfl) (by decide +kernel) (fun ds h => by
    match ds, h with
    | [_, _], _ => rfl) hW' hb⟩

theorem matches_holds : Rows.CipherMatchesReferenceSaid :=
  OpenClaim.holds_of_wide 7 Try.f7 rfl rfl rfl rfl rfl rfl rfl ⟨rfl, rfl, rfl, rfl, rfl⟩ rfl rfl rfl rfl rfl (by kernel_rfl) Try.func7 (by kernel_rfl)
    (of_decide_eq_true (by kernel_rfl)) (by unfold Func.isWrapper; rw [if_neg (of_decide_eq_false (by kernel_rfl))]; exact ⟨rfl, rfl⟩)
    (fun os started H enc _ => matches_lifted os started H enc)

set_option maxRecDepth 100000 in
theorem steps_lifted (os : Os) (started : os.Started) (H : Type) (enc : TypeId × Value → H) :
    ReturnsInHanded {} Try.checked os 8 .any (Rows.cipherStepsSpec.pre6 enc Try.prog Try.f8 Rows.cipherStepsRow.domain false) (Rows.cipherStepsSpec.post enc Try.prog Try.f8 false true false false) := by
  refine returnsInHanded_of_change (C := Try.checked) own started (by kernel_rfl) Try.func8
    (ChangeSpec.witness6 (enc := enc) (C := Try.checked) false ⟨#[], #[.agg #[.int .u8 0, .int .u8 0, .int .u8 0, .int .u8 0, .int .u8 0, .int .u8 0, .int .u8 0, .int .u8 0, .int .u8 0, .int .u8 0, .int .u8 0, .int .u8 0, .int .u8 0, .int .u8 0, .int .u8 0, .int .u8 0], .agg #[.int .u8 0, .int .u8 0, .int .u8 0, .int .u8 0, .int .u8 0, .int .u8 0, .int .u8 0, .int .u8 0, .int .u8 0, .int .u8 0, .int .u8 0, .int .u8 0, .int .u8 0, .int .u8 0, .int .u8 0, .int .u8 0]], []⟩ 8 (by kernel_rfl) (by kernel_rfl) (by kernel_rfl) (by kernel_rfl)) ?_
  intro W base args ds gs before hval0 hW _ _
  have hval : ∀ (j : Nat) t v, Try.f8.params[j]? = some t → args[j]? = some v → Value.okWide Try.prog W .any base t v := hval0
  have hW' := hW
  obtain ⟨p, q, hA0, hV, rfl, hfz, hnd⟩ := hW
  have hA : DataW.TrodAll enc Try.prog W 0 (fun _ => true) true Try.f8.params.toList args.toList ds p := hA0
  rw [Try.params8] at hA hval
  obtain ⟨v0, vs0, d0, ds0, p0, q0, hargs, rfl, rfl, h0, r0⟩ := trodAll_cons hA
  obtain ⟨v1, vs1, d1, ds1, p1, q1, rfl, rfl, rfl, h1, r1⟩ := trodAll_cons r0
  obtain ⟨rfl, rfl, rfl⟩ := trodAll_nil r1
  obtain rfl : args = #[v0, v1] := by cases args; simp_all
  obtain ⟨x0, rfl, l0, b0⟩ := open_bytes Try.underlying35 Try.underlying5 (by kernel_rfl) (by kernel_rfl) (hval 0 35 v0 rfl rfl) h0
  obtain ⟨x1, rfl, l1, b1⟩ := open_bytes Try.underlying35 Try.underlying5 (by kernel_rfl) (by kernel_rfl) (hval 1 35 v1 rfl rfl) h1
  refine (steps_calls x0 l0 b0 x1 l1 b1 W).mono fun e W' ⟨he, hb⟩ => ?_
  exact ⟨_, he, law_post (tb := 4) laidOut rfl Try.underlying4 (by kernel_rfl) (by decide +kernel) (fun ds h => by
    match ds, h with
    | [_, _], _ => rfl) hW' hb⟩

theorem steps_holds : Rows.CipherStepsSaid :=
  OpenClaim.holds_of_wide 8 Try.f8 rfl rfl rfl rfl rfl rfl rfl ⟨rfl, rfl, rfl, rfl, rfl⟩ rfl rfl rfl rfl rfl (by kernel_rfl) Try.func8 (by kernel_rfl)
    (of_decide_eq_true (by kernel_rfl)) (by unfold Func.isWrapper; rw [if_neg (of_decide_eq_false (by kernel_rfl))]; exact ⟨rfl, rfl⟩)
    (fun os started H enc _ => steps_lifted os started H enc)

set_option maxRecDepth 100000 in
theorem linear_lifted (os : Os) (started : os.Started) (H : Type) (enc : TypeId × Value → H) :
    ReturnsInHanded {} Try.checked os 10 .any (Rows.cipherLinearSpec.pre6 enc Try.prog Try.f10 Rows.cipherLinearRow.domain false) (Rows.cipherLinearSpec.post enc Try.prog Try.f10 false true false false) := by
  refine returnsInHanded_of_change (C := Try.checked) own started (by kernel_rfl) Try.func10
    (ChangeSpec.witness6 (enc := enc) (C := Try.checked) false ⟨#[], #[.agg #[.int .u8 0, .int .u8 0, .int .u8 0, .int .u8 0, .int .u8 0, .int .u8 0, .int .u8 0, .int .u8 0, .int .u8 0, .int .u8 0, .int .u8 0, .int .u8 0, .int .u8 0, .int .u8 0, .int .u8 0, .int .u8 0], .agg #[.int .u8 0, .int .u8 0, .int .u8 0, .int .u8 0, .int .u8 0, .int .u8 0, .int .u8 0, .int .u8 0, .int .u8 0, .int .u8 0, .int .u8 0, .int .u8 0, .int .u8 0, .int .u8 0, .int .u8 0, .int .u8 0]], []⟩ 8 (by kernel_rfl) (by kernel_rfl) (by kernel_rfl) (by kernel_rfl)) ?_
  intro W base args ds gs before hval0 hW _ _
  have hval : ∀ (j : Nat) t v, Try.f10.params[j]? = some t → args[j]? = some v → Value.okWide Try.prog W .any base t v := hval0
  have hW' := hW
  obtain ⟨p, q, hA0, hV, rfl, hfz, hnd⟩ := hW
  have hA : DataW.TrodAll enc Try.prog W 0 (fun _ => true) true Try.f10.params.toList args.toList ds p := hA0
  rw [Try.params10] at hA hval
  obtain ⟨v0, vs0, d0, ds0, p0, q0, hargs, rfl, rfl, h0, r0⟩ := trodAll_cons hA
  obtain ⟨v1, vs1, d1, ds1, p1, q1, rfl, rfl, rfl, h1, r1⟩ := trodAll_cons r0
  obtain ⟨rfl, rfl, rfl⟩ := trodAll_nil r1
  obtain rfl : args = #[v0, v1] := by cases args; simp_all
  obtain ⟨x0, rfl, l0, b0⟩ := open_bytes Try.underlying35 Try.underlying5 (by kernel_rfl) (by kernel_rfl) (hval 0 35 v0 rfl rfl) h0
  obtain ⟨x1, rfl, l1, b1⟩ := open_bytes Try.underlying35 Try.underlying5 (by kernel_rfl) (by kernel_rfl) (hval 1 35 v1 rfl rfl) h1
  refine (linear_calls x0 l0 b0 x1 l1 b1 W).mono fun e W' ⟨he, hb⟩ => ?_
  exact ⟨_, he, law_post (tb := 4) laidOut rfl Try.underlying4 (by kernel_rfl) (by decide +kernel) (fun ds h => by
    match ds, h with
    | [_, _], _ => rfl) hW' hb⟩

theorem linear_holds : Rows.CipherLinearSaid :=
  OpenClaim.holds_of_wide 10 Try.f10 rfl rfl rfl rfl rfl rfl rfl ⟨rfl, rfl, rfl, rfl, rfl⟩ rfl rfl rfl rfl rfl (by kernel_rfl) Try.func10 (by kernel_rfl)
    (of_decide_eq_true (by kernel_rfl)) (by unfold Func.isWrapper; rw [if_neg (of_decide_eq_false (by kernel_rfl))]; exact ⟨rfl, rfl⟩)
    (fun os started H enc _ => linear_lifted os started H enc)

set_option maxRecDepth 100000 in
theorem rounds_lifted (os : Os) (started : os.Started) (H : Type) (enc : TypeId × Value → H) :
    ReturnsInHanded {} Try.checked os 11 .any (Rows.cipherRoundsSpec.pre6 enc Try.prog Try.f11 Rows.cipherRoundsRow.domain false) (Rows.cipherRoundsSpec.post enc Try.prog Try.f11 false true false false) := by
  refine returnsInHanded_of_change (C := Try.checked) own started (by kernel_rfl) Try.func11
    (ChangeSpec.witness6 (enc := enc) (C := Try.checked) false ⟨#[], #[.agg #[.int .u8 0, .int .u8 0, .int .u8 0, .int .u8 0, .int .u8 0, .int .u8 0, .int .u8 0, .int .u8 0, .int .u8 0, .int .u8 0, .int .u8 0, .int .u8 0, .int .u8 0, .int .u8 0, .int .u8 0, .int .u8 0], .agg #[.int .u8 0, .int .u8 0, .int .u8 0, .int .u8 0, .int .u8 0, .int .u8 0, .int .u8 0, .int .u8 0, .int .u8 0, .int .u8 0, .int .u8 0, .int .u8 0, .int .u8 0, .int .u8 0, .int .u8 0, .int .u8 0]], []⟩ 8 (by kernel_rfl) (by kernel_rfl) (by kernel_rfl) (by kernel_rfl)) ?_
  intro W base args ds gs before hval0 hW _ _
  have hval : ∀ (j : Nat) t v, Try.f11.params[j]? = some t → args[j]? = some v → Value.okWide Try.prog W .any base t v := hval0
  have hW' := hW
  obtain ⟨p, q, hA0, hV, rfl, hfz, hnd⟩ := hW
  have hA : DataW.TrodAll enc Try.prog W 0 (fun _ => true) true Try.f11.params.toList args.toList ds p := hA0
  rw [Try.params11] at hA hval
  obtain ⟨v0, vs0, d0, ds0, p0, q0, hargs, rfl, rfl, h0, r0⟩ := trodAll_cons hA
  obtain ⟨v1, vs1, d1, ds1, p1, q1, rfl, rfl, rfl, h1, r1⟩ := trodAll_cons r0
  obtain ⟨rfl, rfl, rfl⟩ := trodAll_nil r1
  obtain rfl : args = #[v0, v1] := by cases args; simp_all
  obtain ⟨x0, rfl, l0, b0⟩ := open_bytes Try.underlying35 Try.underlying5 (by kernel_rfl) (by kernel_rfl) (hval 0 35 v0 rfl rfl) h0
  obtain ⟨x1, rfl, l1, b1⟩ := open_bytes Try.underlying35 Try.underlying5 (by kernel_rfl) (by kernel_rfl) (hval 1 35 v1 rfl rfl) h1
  refine (rounds_calls x0 l0 b0 x1 l1 b1 W).mono fun e W' ⟨he, hb⟩ => ?_
  exact ⟨_, he, law_post (tb := 4) laidOut rfl Try.underlying4 (by kernel_rfl) (by decide +kernel) (fun ds h => by
    match ds, h with
    | [_, _], _ => rfl) hW' hb⟩

theorem rounds_holds : Rows.CipherRoundsSaid :=
  OpenClaim.holds_of_wide 11 Try.f11 rfl rfl rfl rfl rfl rfl rfl ⟨rfl, rfl, rfl, rfl, rfl⟩ rfl rfl rfl rfl rfl (by kernel_rfl) Try.func11 (by kernel_rfl)
    (of_decide_eq_true (by kernel_rfl)) (by unfold Func.isWrapper; rw [if_neg (of_decide_eq_false (by kernel_rfl))]; exact ⟨rfl, rfl⟩)
    (fun os started H enc _ => rounds_lifted os started H enc)

end
end Go.Proofs.Ytaeklgfdknbncaa
