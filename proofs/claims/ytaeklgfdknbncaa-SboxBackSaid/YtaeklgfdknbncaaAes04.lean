/-
  The laws SboxBack, SboxWords and SboxFixed of mooringlaw04 hold for every argument. Conditions: none beside the hypotheses of each theorem.
-/
import Derived.Test.YtaeklgfdknbncaaAesP4
namespace Go.Proofs.Ytaeklgfdknbncaa
noncomputable section
open Go.ChangeShapes Go.WideShapes Go.ChangeAt Go.RowKit Go.Sx Go.Aes

/-! ### The laws of mooringlaw04 -/
def sums4 : List (Nat × Sum) := (20, refBackSum) :: sums2
theorem goods4 : Goods sums4 := .cons RefBack_good goods2

def b1 : E := .app 601 []
def twoB (x y : Nat) (f : Nat) : Nat := if f = 600 then x else y
theorem twoB0 {x y : Nat} (h : x < 256) : b0.den (val (twoB x y)) = x := by
  have e : b0.den (val (twoB x y)) = (x % 256 : Nat) := rfl
  rw [e, Nat.mod_eq_of_lt h]
theorem twoB1 {x y : Nat} (h : y < 256) : b1.den (val (twoB x y)) = y := by
  have e : b1.den (val (twoB x y)) = (y % 256 : Nat) := rfl
  rw [e, Nat.mod_eq_of_lt h]

theorem wf8 {x : Int} (h : (Lit.int .u8 x).wf = true) : ∃ n : Nat, x = n ∧ n < 256 := by
  have : 0 ≤ x ∧ x ≤ 255 := by simpa [Lit.wf, IntKind.min, IntKind.max, IntKind.signed, IntKind.bits] using h
  exact ⟨x.toNat, by omega, by omega⟩
theorem wf32 {x : Int} (h : (Lit.int .u32 x).wf = true) : ∃ n : Nat, x = n ∧ n < 4294967296 := by
  have : 0 ≤ x ∧ x ≤ 4294967295 := by simpa [Lit.wf, IntKind.min, IntKind.max, IntKind.signed, IntKind.bits] using h
  exact ⟨x.toNat, by omega, by omega⟩

def yesB : SVal := .bool (.lit true)
def backF : List (C × Bool) := [(.cmp .eq (bkE (sE b0)) b0, true), (.cmp .eq (sE (bkE b0)) b0, true), (.iff (.cmp .eq (sE b0) (sE b1)) (.cmp .eq b0 b1), true)]
theorem sboxBack_eval : gives (callV (env sums4 backF) (runV (env sums4 backF) 600) 0 [] 3 [u8 b0, u8 b1]) yesB = true := by kernel_rfl

theorem sboxBack_calls (x : Int) (hx : (Lit.int .u8 x).wf = true) (y : Int) (hy : (Lit.int .u8 y).wf = true) (w : World) :
    Calls Try.prog 3 #[.int .u8 x, .int .u8 y] w fun e w' => e = .returned (.bool true) ∧ Below w.heap.size w w' := by
  obtain ⟨x, rfl, lx⟩ := wf8 hx
  obtain ⟨y, rfl, ly⟩ := wf8 hy
  have e0 := twoB0 (y := y) lx
  have e1 := twoB1 (x := x) ly
  have s0 : (sE b0).den (val (twoB x y)) = (sb x : Nat) := sE_den lx e0
  have s1 : (sE b1).den (val (twoB x y)) = (sb y : Nat) := sE_den ly e1
  have k0 : (bkE b0).den (val (twoB x y)) = (bk x : Nat) := bkE_den lx e0
  have t0 : (bkE (sE b0)).den (val (twoB x y)) = (x : Nat) := (bkE_den (sb_lt lx) s0).trans (by rw [bk_sb lx])
  have t1 : (sE (bkE b0)).den (val (twoB x y)) = (x : Nat) := (sE_den (bk_lt lx) k0).trans (by rw [sb_bk lx])
  have hΓ : EnvOk (env sums4 backF) (val (twoB x y)) := env_ok goods4 fun c b hm => by
    simp only [backF, List.mem_cons, List.mem_nil_iff, or_false, Prod.mk.injEq] at hm
    rcases hm with ⟨rfl, rfl⟩ | ⟨rfl, rfl⟩ | ⟨rfl, rfl⟩
    · show CO.fn .eq ((bkE (sE b0)).den (val (twoB x y))) (b0.den (val (twoB x y))) = true
      rw [t0, e0]; simp [CO.fn]
    · show CO.fn .eq ((sE (bkE b0)).den (val (twoB x y))) (b0.den (val (twoB x y))) = true
      rw [t1, e0]; simp [CO.fn]
    · show (CO.fn .eq ((sE b0).den (val (twoB x y))) ((sE b1).den (val (twoB x y))) == CO.fn .eq (b0.den (val (twoB x y))) (b1.den (val (twoB x y)))) = true
      rw [s0, s1, e0, e1, beq_iff_eq, Bool.eq_iff_iff]
      simp only [CO.fn, beq_iff_eq, Int.ofNat_inj]
      exact ⟨fun h => by rw [← bk_sb lx, h, bk_sb ly], fun h => by rw [h]⟩
  have := gives_calls hΓ 600 sboxBack_eval ((flats_rv (by rfl)).2 rfl) w
  simp only [denVs, denV, u8] at this
  rw [e0, e1] at this
  exact this

/-! SboxWords -/
def c2 : E := .app 602 []
def c3 : E := .app 603 []
def fourB (x : Nat) (f : Nat) : Nat := if f = 600 then x / 16777216 else if f = 601 then x / 65536 else if f = 602 then x / 256 else x
def wordB : E := .app 6 [b0, b1, c2, c3]
theorem sboxWords_eval : gives (callV (env sums4 []) (runV (env sums4 []) 600) 0 [] 4 [u32 wordB]) yesB = true := by kernel_rfl
theorem wordB_den {x : Nat} (h : x < 4294967296) : wordB.den (val (fourB x)) = x := by
  have e : wordB.den (val (fourB x)) = (word (x / 16777216 % 256 % 256) (x / 65536 % 256 % 256) (x / 256 % 256 % 256) (x % 256 % 256) : Nat) := rfl
  rw [e]; unfold word; omega
theorem sboxWords_calls (x : Int) (hx : (Lit.int .u32 x).wf = true) (w : World) : Calls Try.prog 4 #[.int .u32 x] w fun e w' => e = .returned (.bool true) ∧ Below w.heap.size w w' := by
  obtain ⟨x, rfl, lx⟩ := wf32 hx
  have := eval_calls goods4 (fourB x) 600 (f := 4) (args := [u32 wordB]) rfl sboxWords_eval w
  simp only [denVs, denV, u32] at this
  rw [wordB_den lx] at this
  exact this

/-! SboxFixed -/
def fixF : List (C × Bool) := [(.cmp .ne (sE b0) b0, true), (.cmp .ne (sE b0) (.op (.sub .u8) (.lit 255) b0), true), (.cmp .eq (xorT (affE b0) (affE b1)) (xorT (affE (xorT b0 b1)) (.lit 99)), true)]
theorem sboxFixed_eval : gives (callV (env sums4 fixF) (runV (env sums4 fixF) 1000) 0 [] 6 [u8 b0, u8 b1]) yesB = true := by kernel_rfl
theorem sb_ne {x : Nat} (h : x < 256) : sb x ≠ x ∧ sb x ≠ 255 - x := of_decide_eq_true (of_upTo (p := fun x => decide (sb x ≠ x ∧ sb x ≠ 255 - x)) (by decide +kernel) h)
theorem rotl_eq {n k : Nat} (h : n < 256) (hk : k < 5) : rotl n k = ((n <<< k) % 2 ^ 8) ^^^ (n >>> (8 - k)) :=
  of_decide_eq_true (of_upTo (p := fun k => decide (rotl n k = ((n <<< k) % 2 ^ 8) ^^^ (n >>> (8 - k)))) (of_upTo (p := fun n => upTo 5 fun k => decide (rotl n k = ((n <<< k) % 2 ^ 8) ^^^ (n >>> (8 - k)))) (by decide +kernel) h) hk)
theorem xor_lt8 {x y : Nat} (h : x < 256) (k : y < 256) : x ^^^ y < 256 := Nat.xor_lt_two_pow (n := 8) h k
theorem rotl_xor {x y k : Nat} (hx : x < 256) (hy : y < 256) (hk : k < 5) : rotl (x ^^^ y) k = rotl x k ^^^ rotl y k := by
  rw [rotl_eq hx hk, rotl_eq hy hk, rotl_eq (xor_lt8 hx hy) hk, Nat.shiftLeft_xor_distrib, Nat.shiftRight_xor_distrib, Nat.xor_mod_two_pow]
  ac_rfl
theorem aff_xor {x y : Nat} (hx : x < 256) (hy : y < 256) : aff x ^^^ aff y = aff (x ^^^ y) ^^^ 99 := by
  unfold aff
  rw [rotl_xor hx hy (by decide), rotl_xor hx hy (by decide), rotl_xor hx hy (by decide), rotl_xor hx hy (by decide)]
  ac_nf
theorem aff_lin {x y : Nat} (hx : x < 256) (hy : y < 256) : (aff x % 256) ^^^ (aff y % 256) = (aff (x ^^^ y) % 256) ^^^ 99 := by
  have h := aff_xor hx hy
  have := congrArg (· % 2 ^ 8) h
  simp only [Nat.xor_mod_two_pow] at this
  exact this
theorem sboxFixed_calls (x : Int) (hx : (Lit.int .u8 x).wf = true) (y : Int) (hy : (Lit.int .u8 y).wf = true) (w : World) :
    Calls Try.prog 6 #[.int .u8 x, .int .u8 y] w fun e w' => e = .returned (.bool true) ∧ Below w.heap.size w w' := by
  obtain ⟨x, rfl, lx⟩ := wf8 hx
  obtain ⟨y, rfl, ly⟩ := wf8 hy
  have e0 := twoB0 (y := y) lx
  have e1 := twoB1 (x := x) ly
  have s0 : (sE b0).den (val (twoB x y)) = (sb x : Nat) := sE_den lx e0
  have a0 : (affE b0).den (val (twoB x y)) = (aff x % 256 : Nat) := affE_den lx e0
  have a1 : (affE b1).den (val (twoB x y)) = (aff y % 256 : Nat) := affE_den ly e1
  have x0 : (xorT b0 b1).den (val (twoB x y)) = (x ^^^ y : Nat) := xorT_den lx ly e0 e1
  have ax : (affE (xorT b0 b1)).den (val (twoB x y)) = (aff (x ^^^ y) % 256 : Nat) := affE_den (xor_lt lx ly) x0
  have l : ∀ n, aff n % 256 < 256 := fun n => Nat.mod_lt _ (by decide)
  have hΓ : EnvOk (env sums4 fixF) (val (twoB x y)) := env_ok goods4 fun c b hm => by
    simp only [fixF, List.mem_cons, List.mem_nil_iff, or_false, Prod.mk.injEq] at hm
    rcases hm with ⟨rfl, rfl⟩ | ⟨rfl, rfl⟩ | ⟨rfl, rfl⟩
    · show CO.fn .ne ((sE b0).den (val (twoB x y))) (b0.den (val (twoB x y))) = true
      rw [s0, e0]
      have := (sb_ne lx).1
      simp only [CO.fn, bne_iff_ne, ne_eq, Int.ofNat_inj]; exact this
    · show CO.fn .ne ((sE b0).den (val (twoB x y))) ((IOp.sub .u8).fn 255 (b0.den (val (twoB x y)))) = true
      have e : (IOp.sub .u8).fn 255 (x : Int) = ((255 - x : Nat) : Int) := by
        simp [IOp.fn, IntKind.wrap, IntKind.signed, IntKind.bits]; omega
      rw [s0, e0, e]
      have := (sb_ne lx).2
      simp only [CO.fn, bne_iff_ne, ne_eq, Int.ofNat_inj]; exact this
    · show CO.fn .eq ((xorT (affE b0) (affE b1)).den (val (twoB x y))) ((xorT (affE (xorT b0 b1)) (.lit 99)).den (val (twoB x y))) = true
      have h1 : (xorT (affE b0) (affE b1)).den (val (twoB x y)) = _ := xorT_den (l _) (l _) a0 a1
      have h2 : (xorT (affE (xorT b0 b1)) (.lit 99)).den (val (twoB x y)) = _ := xorT_den (m := 99) (l _) (by decide) ax rfl
      rw [h1, h2, aff_lin lx ly]; simp [CO.fn]
  have := gives_calls hΓ 1000 sboxFixed_eval ((flats_rv (by rfl)).2 rfl) w
  simp only [denVs, denV, u8] at this
  rw [e0, e1] at this
  exact this

set_option maxRecDepth 100000 in
theorem sboxBack_lifted (os : Os) (started : os.Started) (H : Type) (enc : TypeId × Value → H) :
    ReturnsInHanded {} Try.checked os 3 .any (Rows.sboxBackSpec.pre6 enc Try.prog Try.f3 Rows.sboxBackRow.domain false) (Rows.sboxBackSpec.post enc Try.prog Try.f3 false true false false) := by
  refine returnsInHanded_of_change (C := Try.checked) own started (by kernel_rfl) Try.func3
    (ChangeSpec.witness6 (enc := enc) (C := Try.checked) false ⟨#[], #[.int .u8 0, .int .u8 0], []⟩ 8 (by kernel_rfl) (by kernel_rfl) (by kernel_rfl) (by kernel_rfl)) ?_
  intro W base args ds gs before hval0 hW _ _
  have hval : ∀ (j : Nat) t v, Try.f3.params[j]? = some t → args[j]? = some v → Value.okWide Try.prog W .any base t v := hval0
  have hW' := hW
  obtain ⟨p, q, hA0, hV, rfl, hfz, hnd⟩ := hW
  have hA : DataW.TrodAll enc Try.prog W 0 (fun _ => true) true Try.f3.params.toList args.toList ds p := hA0
  rw [Try.params3] at hA hval
  obtain ⟨v0, vs0, d0, ds0, p0, q0, hargs, rfl, rfl, h0, r0⟩ := trodAll_cons hA
  obtain ⟨v1, vs1, d1, ds1, p1, q1, rfl, rfl, rfl, h1, r1⟩ := trodAll_cons r0
  obtain ⟨rfl, rfl, rfl⟩ := trodAll_nil r1
  obtain rfl : args = #[v0, v1] := by cases args; simp_all
  obtain ⟨x0, rfl, rfl, rfl, w0⟩ := open_int Try.underlying5 (hval 0 5 v0 rfl rfl) h0
  obtain ⟨x1, rfl, rfl, rfl, w1⟩ := open_int Try.underlying5 (hval 1 5 v1 rfl rfl) h1
  refine (sboxBack_calls x0 w0 x1 w1 W).mono fun e W' ⟨he, hb⟩ => ?_
  exact ⟨_, he, law_post (tb := 4) laidOut rfl Try.underlying4 (by kernel_rfl) (by decide +kernel) (fun ds h => by
    match ds, h with
    | [_, _], _ => rfl) hW' hb⟩

theorem sboxBack_holds : Rows.SboxBackSaid :=
  OpenClaim.holds_of_wide 3 Try.f3 rfl rfl rfl rfl rfl rfl rfl ⟨rfl, rfl, rfl, rfl, rfl⟩ rfl rfl rfl rfl rfl (by kernel_rfl) Try.func3 (by kernel_rfl)
    (of_decide_eq_true (by kernel_rfl)) (by unfold Func.isWrapper; rw [if_neg (of_decide_eq_false (by kernel_rfl))]; exact ⟨rfl, rfl⟩)
    (fun os started H enc _ => sboxBack_lifted os started H enc)

set_option maxRecDepth 100000 in
theorem sboxWords_lifted (os : Os) (started : os.Started) (H : Type) (enc : TypeId × Value → H) :
    ReturnsInHanded {} Try.checked os 4 .any (Rows.sboxWordsSpec.pre6 enc Try.prog Try.f4 Rows.sboxWordsRow.domain false) (Rows.sboxWordsSpec.post enc Try.prog Try.f4 false true false false) := by
  refine returnsInHanded_of_change (C := Try.checked) own started (by kernel_rfl) Try.func4
    (ChangeSpec.witness6 (enc := enc) (C := Try.checked) false ⟨#[], #[.int .u32 0], []⟩ 8 (by kernel_rfl) (by kernel_rfl) (by kernel_rfl) (by kernel_rfl)) ?_
  intro W base args ds gs before hval0 hW _ _
  have hval : ∀ (j : Nat) t v, Try.f4.params[j]? = some t → args[j]? = some v → Value.okWide Try.prog W .any base t v := hval0
  have hW' := hW
  obtain ⟨p, q, hA0, hV, rfl, hfz, hnd⟩ := hW
  have hA : DataW.TrodAll enc Try.prog W 0 (fun _ => true) true Try.f4.params.toList args.toList ds p := hA0
  rw [Try.params4] at hA hval
  obtain ⟨v0, vs0, d0, ds0, p0, q0, hargs, rfl, rfl, h0, r0⟩ := trodAll_cons hA
  obtain ⟨rfl, rfl, rfl⟩ := trodAll_nil r0
  obtain rfl : args = #[v0] := by cases args; simp_all
  obtain ⟨x0, rfl, rfl, rfl, w0⟩ := open_int Try.underlying28 (hval 0 28 v0 rfl rfl) h0
  refine (sboxWords_calls x0 w0 W).mono fun e W' ⟨he, hb⟩ => ?_
  exact ⟨_, he, law_post (tb := 4) laidOut rfl Try.underlying4 (by kernel_rfl) (by decide +kernel) (fun ds h => by
    match ds, h with
    | [_], _ => rfl) hW' hb⟩

theorem sboxWords_holds : Rows.SboxWordsSaid :=
  OpenClaim.holds_of_wide 4 Try.f4 rfl rfl rfl rfl rfl rfl rfl ⟨rfl, rfl, rfl, rfl, rfl⟩ rfl rfl rfl rfl rfl (by kernel_rfl) Try.func4 (by kernel_rfl)
    (of_decide_eq_true (by kernel_rfl)) (by unfold Func.isWrapper; rw [if_neg (of_decide_eq_false (by kernel_rfl))]; exact ⟨rfl, rfl⟩)
    (fun os started H enc _ => sboxWords_lifted os started H enc)

set_option maxRecDepth 100000 in
theorem sboxFixed_lifted (os : Os) (started : os.Started) (H : Type) (enc : TypeId × Value → H) :
    ReturnsInHanded {} Try.checked os 6 .any (Rows.sboxFixedSpec.pre6 enc Try.prog Try.f6 Rows.sboxFixedRow.domain false) (Rows.sboxFixedSpec.post enc Try.prog Try.f6 false true false false) := by
  refine returnsInHanded_of_change (C := Try.checked) own started (by kernel_rfl) Try.func6
    (ChangeSpec.witness6 (enc := enc) (C := Try.checked) false ⟨#[], #[.int .u8 0, .int .u8 0], []⟩ 8 (by kernel_rfl) (by kernel_rfl) (by kernel_rfl) (by kernel_rfl)) ?_
  intro W base args ds gs before hval0 hW _ _
  have hval : ∀ (j : Nat) t v, Try.f6.params[j]? = some t → args[j]? = some v → Value.okWide Try.prog W .any base t v := hval0
  have hW' := hW
  obtain ⟨p, q, hA0, hV, rfl, hfz, hnd⟩ := hW
  have hA : DataW.TrodAll enc Try.prog W 0 (fun _ => true) true Try.f6.params.toList args.toList ds p := hA0
  rw [Try.params6] at hA hval
  obtain ⟨v0, vs0, d0, ds0, p0, q0, hargs, rfl, rfl, h0, r0⟩ := trodAll_cons hA
  obtain ⟨v1, vs1, d1, ds1, p1, q1, rfl, rfl, rfl, h1, r1⟩ := trodAll_cons r0
  obtain ⟨rfl, rfl, rfl⟩ := trodAll_nil r1
  obtain rfl : args = #[v0, v1] := by cases args; simp_all
  obtain ⟨x0, rfl, rfl, rfl, w0⟩ := open_int Try.underlying5 (hval 0 5 v0 rfl rfl) h0
  obtain ⟨x1, rfl, rfl, rfl, w1⟩ := open_int Try.underlying5 (hval 1 5 v1 rfl rfl) h1
  refine (sboxFixed_calls x0 w0 x1 w1 W).mono fun e W' ⟨he, hb⟩ => ?_
  exact ⟨_, he, law_post (tb := 4) laidOut rfl Try.underlying4 (by kernel_rfl) (by decide +kernel) (fun ds h => by
    match ds, h with
    | [_, _], _ => rfl) hW' hb⟩

theorem sboxFixed_holds : Rows.SboxFixedSaid :=
  OpenClaim.holds_of_wide 6 Try.f6 rfl rfl rfl rfl rfl rfl rfl ⟨rfl, rfl, rfl, rfl, rfl⟩ rfl rfl rfl rfl rfl (by kernel_rfl) Try.func6 (by kernel_rfl)
    (of_decide_eq_true (by kernel_rfl)) (by unfold Func.isWrapper; rw [if_neg (of_decide_eq_false (by kernel_rfl))]; exact ⟨rfl, rfl⟩)
    (fun os started H enc _ => sboxFixed_lifted os started H enc)

end
end Go.Proofs.Ytaeklgfdknbncaa
