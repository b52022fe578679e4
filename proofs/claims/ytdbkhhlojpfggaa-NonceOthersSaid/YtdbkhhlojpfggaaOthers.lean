/-
  NonceOthers of mooringlaw15: the law holds for every argument. Conditions: none beside the given statement.
-/
import Derived.Test.YtdbkhhlojpfggaaSxK
import Derived.Test.YtdbkhhlojpfggaaRows
namespace Go.Proofs.Ytdbkhhlojpfggaa
open Go.ChangeShapes Go.WideShapes Go.ChangeAt Go.RowKit Go.Sx

theorem own : ownKnob Try.prog.godebug = none := by kernel_rfl
theorem laidOut : laidOutB Try.prog = true := by kernel_rfl

noncomputable def env (rv : Nat → Option (Int × Int)) (facts : List (C × Bool)) : Env :=
  { P := Try.prog, rvar := rv, rapp := fun _ => none, facts, calcs := fun _ _ => none, sums := fun _ => none, loud := fun _ => false }

theorem env_ok {rv : Nat → Option (Int × Int)} {facts : List (C × Bool)} {ρ : Val} (h1 : ∀ i r, rv i = some r → r.1 ≤ ρ.int i ∧ ρ.int i ≤ r.2) (h2 : ∀ c b, (c, b) ∈ facts → c.den ρ = b) : EnvOk (env rv facts) ρ := by
  refine ⟨⟨h1, ?_, h2, ?_⟩, by kernel_rfl, ?_⟩
  · intro f r l h; cases h
  · intro f ns r h; cases h
  · intro f s h; cases h

def vals (f : Nat → Int) : Val := { int := f, bool := fun _ => false, app := fun _ _ => 0 }

/-! ### NonceOthers -/
def oRv : Nat → Option (Int × Int) := fun _ => none
def oFacts : List (C × Bool) := [(.cmp .eq (.var 0) (.lit 0), false)]

theorem others_zero : isTrue (callV (env oRv []) (runV (env oRv []) 1000) 0 [] 4 [.int .i64 (.lit 0)]) = true := by kernel_rfl
theorem others_else : isTrue (callV (env oRv oFacts) (runV (env oRv oFacts) 1000) 0 [] 4 [.int .i64 (.var 0)]) = true := by kernel_rfl

theorem others_calls (d : Int) (w : World) : Calls Try.prog 4 #[.int .i64 d] w fun e w' => e = .returned (.bool true) ∧ Below w.heap.size w w' := by
  by_cases h : d = 0
  · subst h
    exact true_calls (ρ := vals fun _ => 0) (env_ok (by intro i r h; cases h) (by simp)) 1000 others_zero (vs := [.int .i64 0]) ⟨_, _, rfl, rfl, rfl⟩ (Rh.empty w) (by simp)
  · refine true_calls (ρ := vals fun _ => d) (env_ok (by intro i r h; cases h) ?_) 1000 others_else (vs := [.int .i64 d]) ⟨_, _, rfl, rfl, rfl⟩ (Rh.empty w) (by simp)
    intro c b hm
    simp only [oFacts, List.mem_singleton, Prod.mk.injEq] at hm
    obtain ⟨rfl, rfl⟩ := hm
    simp [C.den, CO.fn, E.den, vals, h]

set_option maxRecDepth 100000 in
theorem others_lifted (os : Os) (started : os.Started) (H : Type) (enc : TypeId × Value → H) :
    ReturnsInHanded {} Try.checked os 4 .any (Rows.nonceOthersSpec.pre6 enc Try.prog Try.f4 Rows.nonceOthersRow.domain false) (Rows.nonceOthersSpec.post enc Try.prog Try.f4 false true false false) := by
  refine returnsInHanded_of_change (C := Try.checked) own started (by kernel_rfl) Try.func4
    (ChangeSpec.witness6 (enc := enc) (C := Try.checked) false ⟨#[], #[.int .i64 0], []⟩ 8 (by kernel_rfl) (by kernel_rfl) (by kernel_rfl) (by kernel_rfl)) ?_
  intro W base args ds gs before hval0 hW _ _
  have hval : ∀ (j : Nat) t v, Try.f4.params[j]? = some t → args[j]? = some v → Value.okWide Try.prog W .any base t v := hval0
  have hW' := hW
  obtain ⟨p, q, hA0, hV, rfl, hfz, hnd⟩ := hW
  have hA : DataW.TrodAll enc Try.prog W 0 (fun _ => true) true Try.f4.params.toList args.toList ds p := hA0
  rw [Try.params4] at hA hval
  obtain ⟨v0, vs0, d0, ds0, p0, q0, hargs, rfl, rfl, h0, r0⟩ := trodAll_cons hA
  obtain ⟨rfl, rfl, rfl⟩ := trodAll_nil r0
  obtain rfl : args = #[v0] := by cases args; simp_all
  obtain ⟨d, rfl, rfl, rfl, wd⟩ := open_int Try.underlying3 (hval 0 3 v0 rfl rfl) h0
  refine (others_calls d W).mono fun e W' ⟨he, hb⟩ => ?_
  exact ⟨_, he, law_post (tb := 4) laidOut rfl Try.underlying4 (by kernel_rfl) (by decide +kernel) (fun ds h => by
    match ds, h with
    | [d], _ => rfl) hW' hb⟩

theorem others_holds : Rows.NonceOthersSaid :=
  OpenClaim.holds_of_wide 4 Try.f4 rfl rfl rfl rfl rfl rfl rfl ⟨rfl, rfl, rfl, rfl, rfl⟩ rfl rfl rfl rfl rfl (by kernel_rfl) Try.func4 (by kernel_rfl)
    (of_decide_eq_true (by kernel_rfl)) (by unfold Func.isWrapper; rw [if_neg (of_decide_eq_false (by kernel_rfl))]; exact ⟨rfl, rfl⟩)
    (fun os started H enc _ => others_lifted os started H enc)
end Go.Proofs.Ytdbkhhlojpfggaa
