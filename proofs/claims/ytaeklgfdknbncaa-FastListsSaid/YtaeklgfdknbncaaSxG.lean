/-
  Calls and control: the same, but for regions that draw their order. Conditions: none beside the hypotheses of each theorem.
-/
import Derived.Test.YtaeklgfdknbncaaSxF
import Derived.Scope
import Derived.LoopN
namespace Go.Sx
section
variable {ρ : Val} {φ : Phi}

theorem tmp_ok {tmps : List SVal} {a : Array Value} (h : RvL ρ φ tmps a.toList) (t : Nat) : Rv ρ φ ((nth tmps t).getD undefS) (a.getD t undef) := by
  rw [nth_eq]
  cases ht : tmps[t]? with
  | none =>
    have hl := h.length
    have : a.size ≤ t := by
      have := List.getElem?_eq_none_iff.1 ht
      simp at hl; omega
    simp [Array.getElem?_eq_none this, undef_ok]
  | some s =>
    obtain ⟨v, hv, hs⟩ := h.get ht
    have : a[t]? = some v := by simpa using hv
    simpa [this] using hs

theorem evT_ok {tmps : List SVal} {a : Act} (h : RvL ρ φ tmps a.tmps.toList) {x : Operand} {s : SVal} (he : evT tmps x = some s) : Rv ρ φ s (a.eval x) := by
  cases x with
  | tmp t => cases he; exact tmp_ok h t
  | const v => exact ofValue_ok he
  | global g => cases he
  | func f => cases he; exact ⟨[], [], rfl, rfl, rfl⟩

theorem put_ok {tmps : List SVal} {a : Act} (h : RvL ρ φ tmps a.tmps.toList) (d : Option Tmp) {s : SVal} {v : Value} (hv : Rv ρ φ s v) : RvL ρ φ (put tmps d s) (a.put d v).tmps.toList := by
  cases d with
  | none => exact h
  | some d =>
    simp only [put, Act.put, upd_eq, Array.toList_setIfInBounds]
    exact h.set d hv

theorem put_defers (a : Act) (d : Option Tmp) (v : Value) : (a.put d v).defers = a.defers := by cases d <;> rfl

theorem loadRes {Γ : Ctx} {hp : Hp} {w : World} {tmps : List SVal} {a : Array Value} (h : RvL ρ φ tmps a.toList) (hR : Rh ρ φ hp w) {r : ResultVar} {s : SVal} (hr : resultV Γ hp tmps r = some s) :
    ∃ v, (match r with | .tmp t => pure (a.getD t undef) | .cell x t => do loadVar t (← asAddr (a.getD x undef)) : Sem Value).run Γ.P w = .ok v w ∧ Rv ρ φ s v := by
  cases r with
  | tmp t => cases hr; exact ⟨_, rfl, tmp_ok h t⟩
  | cell x t =>
    simp only [resultV] at hr
    have hx := tmp_ok h x
    split at hr
    · rename_i i off he
      rw [he] at hx
      obtain ⟨y, hy, e⟩ := hx
      obtain ⟨v, hv, hs⟩ := loadV_ok hr hR hy
      exact ⟨v, by simp only [e, asAddr, Sem.run_bind, Sem.run_pure, Result.andThen_ok, hv], hs⟩
    · cases hr

theorem loadResults {Γ : Ctx} {hp : Hp} {w : World} {tmps : List SVal} {a : Array Value} (h : RvL ρ φ tmps a.toList) (hR : Rh ρ φ hp w) : ∀ {rs : List ResultVar} {ss : List SVal}, resultVs Γ hp tmps rs = some ss →
    ∃ vs, (rs.mapM fun r => (match r with | .tmp t => pure (a.getD t undef) | .cell x t => do loadVar t (← asAddr (a.getD x undef)) : Sem Value)).run Γ.P w = .ok vs w ∧ RvL ρ φ ss vs
  | [], ss, hs => by cases hs; exact ⟨[], rfl, rfl⟩
  | r :: rs, ss, hs => by
    simp only [resultVs] at hs
    split at hs
    · rename_i v l hv hl
      cases hs
      obtain ⟨x, hx, h1⟩ := loadRes h hR hv
      obtain ⟨xs, hxs, h2⟩ := loadResults h hR hl
      refine ⟨x :: xs, ?_, x, xs, rfl, h1, h2⟩
      rw [List.mapM_cons]
      simp only [Sem.run_bind, Sem.run_pure]
      rw [hx]
      simp only [Result.andThen_ok, hxs]
    · cases hs

theorem results_ok {Γ : Ctx} {hp : Hp} {w : World} {tmps : List SVal} {a : Array Value} {fn : Func} {ss : List SVal} (h : RvL ρ φ tmps a.toList) (hR : Rh ρ φ hp w) (hs : resultVs Γ hp tmps fn.results.toList = some ss) :
    ∃ v, (results fn a).run Γ.P w = .ok v w ∧ Rv ρ φ (oneOrTuple ss) v := by
  obtain ⟨vs, hvs, hl⟩ := loadResults h hR hs
  have hm : (fn.results.mapM fun r => (match r with | .tmp t => pure (a.getD t undef) | .cell x t => do loadVar t (← asAddr (a.getD x undef)) : Sem Value)).run Γ.P w = .ok vs.toArray w := by
    rw [← Array.toArray_toList (xs := fn.results)]
    simp only [List.mapM_toArray, Sem.run_map]
    rw [hvs]
    rfl
  unfold results
  simp only [Sem.run_bind]
  refine ⟨if h : vs.toArray.size = 1 then vs.toArray[0] else .tuple vs.toArray, ?_, ?_⟩
  · exact (congrArg (fun r => Result.andThen r _) hm).trans rfl
  · have hlen := hl.length
    match ss, vs, hl, hlen with
    | [s], [v], ⟨v', r, e, hv, hr⟩, _ =>
      obtain ⟨rfl, rfl⟩ := List.cons.inj e
      simpa [oneOrTuple] using hv
    | [], [], _, _ => exact ⟨[], rfl, rfl⟩
    | s :: s2 :: l, v :: v2 :: r, hl, _ =>
      simp only [oneOrTuple]
      exact ⟨_, by simp, hl⟩

theorem wantedS_ok {ops : Array Oper} {tmps : List SVal} {a : Array Value} {o : Oper} {b : Bool} (h : RvL ρ φ tmps a.toList) (hw : wantedS ops.toList tmps o = some b) : Region.wanted o (yielded ops a) = b := by
  unfold wantedS at hw
  unfold Region.wanted
  split at hw
  · rename_i hg; cases hw; rw [hg]
  · rename_i j want hg
    rw [hg]
    simp only
    unfold yieldedS at hw
    unfold yielded
    rw [nth_eq] at hw
    have e : ops.toList[j]? = ops[j]? := by simp
    rw [e] at hw
    cases hd : (ops[j]?).bind (·.dst) with
    | none => rw [hd] at hw; cases hw; simp
    | some d =>
      rw [hd] at hw
      simp only [Option.bind_some]
      simp only [nth_eq] at hw
      cases ht : tmps[d]? with
      | none =>
        rw [ht] at hw; cases hw
        have hl := h.length
        have : a.size ≤ d := by
          have := List.getElem?_eq_none_iff.1 ht
          simp at hl; omega
        simp [Array.getElem?_eq_none this]
      | some s =>
        rw [ht] at hw
        obtain ⟨v, hv, hs⟩ := h.get ht
        have hav : a[d]? = some v := by simpa using hv
        rw [hav]
        cases s with
        | bool c =>
          rw [show v = _ from hs]
          cases c <;> simp at hw
          rename_i b0
          subst hw
          simp only [C.den]
          cases b0 <;> cases want <;> rfl
        | int k e => cases hw; rw [show v = _ from hs]; simp
        | str bs => cases hw; rw [show v = _ from hs]; simp
        | ptr x =>
          cases hw
          cases x with
          | none => rw [show v = _ from hs]; simp
          | some x => obtain ⟨y, _, e⟩ := hs; rw [e]; simp
        | pix i off len e => cases hw; obtain ⟨y, _, _, _, e⟩ := hs; rw [e]; simp
        | slice x len cap =>
          cases hw
          cases x with
          | none => obtain ⟨n, c, e, _⟩ := hs; rw [e]; simp
          | some x => obtain ⟨q, n, c, _, e, _⟩ := hs; rw [e]; simp
        | agg cs => cases hw; obtain ⟨vs, e, _⟩ := hs; rw [e]; simp
        | tuple cs => cases hw; obtain ⟨vs, e, _⟩ := hs; rw [e]; simp
        | func f x y => cases hw; obtain ⟨xs, ys, e, _⟩ := hs; rw [e]; simp
        | nilFunc => cases hw; rw [show v = _ from hs]; simp
        | nilIface => cases hw; rw [show v = _ from hs]; simp
        | iface t s => cases hw; obtain ⟨x, e, _⟩ := hs; rw [e]; simp

/-! ## Calls -/
def Ex.is : Ex → Exit → Prop
  | .normal, .normal => True
  | .exit i, .exit j => i = j
  | .ret, .ret => True
  | _, _ => False

def Post (ρ : Val) (ro : Nat) (hp : Hp) (φ : Phi) (w : World) (x : Ex) (st' : St) : Exit → Act → World → Prop := fun e a' w' =>
  x.is e ∧ a'.defers = [] ∧ ∃ φ', RvL ρ φ' st'.tmps a'.tmps.toList ∧ Rh ρ φ' st'.hp w' ∧ Step ro hp φ w st'.hp φ' w'

def RunOk (Γ : Env) (ρ : Val) (run : Run) : Prop := ∀ (c : Code) (ro : Nat) (st : St) (x : Ex) (st' : St), run c ro st = some (x, st') →
  ∀ (φ : Phi) (a : Act) (w : World), RvL ρ φ st.tmps a.tmps.toList → Rh ρ φ st.hp w → a.defers = [] → c.wp Γ.P (Post ρ ro st.hp φ w x st') a w

structure EnvOk (Γ : Env) (ρ : Val) : Prop where
  ctx : CtxOk Γ.toCtx ρ
  mixed : Γ.P.follows .mixedOrders = true
  sums : ∀ f s, Γ.sums f = some s → ∀ hp args v os, s hp args = some (v, os) → ∀ φ vs w, RvL ρ φ args vs → Rh ρ φ hp w →
    Calls Γ.P f ⟨vs⟩ w fun e w' => ∃ val ψ, e = .returned val ∧ Rv ρ (φ ++ ψ) v val ∧ Rh ρ (φ ++ ψ) (hp ++ os) w' ∧ Step hp.length hp φ w (hp ++ os) (φ ++ ψ) w'

/-- what the class of an operation says of its step -/
def ClsOk (c : Cls) (hp : Hp) (φ : Phi) (w : World) (hp' : Hp) (φ' : Phi) (w' : World) : Prop :=
  match c with
  | .P => w' = w ∧ φ' = φ ∧ hp' = hp
  | .Q => φ' = φ ∧ hp' = hp ∧ Step hp.length hp φ w hp φ w'
  | .A => Step hp.length hp φ w hp' φ' w'
  | .W => True

variable {Γ : Env}

theorem callV_ok {run : Run} (hΓ : EnvOk Γ ρ) (hrun : RunOk Γ ρ run) {ro : Nat} {hp hp' : Hp} {f : Nat} {args : List SVal} {v : SVal} {c : Cls} (h : callV Γ run ro hp f args = some (v, hp', c))
    {vs : List Value} {w : World} (hargs : RvL ρ φ args vs) (hR : Rh ρ φ hp w) :
    (callFunc f ⟨vs⟩).run Γ.P w = .ok (.enter f ⟨vs⟩) w ∧
      Calls Γ.P f ⟨vs⟩ w fun e w' => ∃ val φ', e = .returned val ∧ Rv ρ φ' v val ∧ Rh ρ φ' hp' w' ∧ Step ro hp φ w hp' φ' w' ∧ ClsOk c hp φ w hp' φ' w' := by
  unfold callV at h
  split at h
  · cases h
  · rename_i fn hfn
    split at h
    · cases h
    · rename_i code hcode
      split at h
      · cases h
      · rename_i hname
        have hcall : (callFunc f ⟨vs⟩).run Γ.P w = .ok (.enter f ⟨vs⟩) w := by
          simp [callFunc, hfn, hname, hcode]
        refine ⟨hcall, ?_⟩
        split at h
        · rename_i s hs
          split at h
          · rename_i v0 hv0
            cases h
            refine (hΓ.sums f s hs hp args v [] hv0 φ vs w hargs hR).mono ?_
            rintro e w' ⟨val, ψ, rfl, h1, h2, h3⟩
            have hψ : ψ = [] := by
              have := h2.len
              have := hR.len
              simp at *
              exact List.eq_nil_of_length_eq_zero (by omega)
            subst hψ
            simp only [List.append_nil] at h1 h2 h3
            exact ⟨val, φ, rfl, h1, h2, h3.weaken (.inr (Nat.le_refl _)), rfl, rfl, h3⟩
          · rename_i v0 os _ hv0
            cases h
            refine (hΓ.sums f s hs hp args v os hv0 φ vs w hargs hR).mono ?_
            rintro e w' ⟨val, ψ, rfl, h1, h2, h3⟩
            exact ⟨val, _, rfl, h1, h2, h3.weaken (.inr (Nat.le_refl _)), trivial⟩
          · cases h
        · simp only at h
          split at h
          · cases h
          · rename_i x st' hex hrun'
            split at h
            · rename_i rs hrs
              have hb : RvL ρ φ (args ++ List.replicate (fn.ntmps - args.length) undefS) ((⟨vs⟩ : Array Value) ++ Array.replicate (fn.ntmps - (⟨vs⟩ : Array Value).size) undef).toList := by
                have hl := hargs.length
                simp only [Array.toList_append, Array.toList_replicate, List.size_toArray, hl]
                exact hargs.append (RvL.replicate undef_ok _)
              have hwp := hrun code _ _ _ _ hrun' φ { tmps := (⟨vs⟩ : Array Value) ++ Array.replicate (fn.ntmps - (⟨vs⟩ : Array Value).size) undef, defers := [] } w hb hR rfl
              have hq : ∀ e a' w', Post ρ (if Γ.loud f then ro else hp.length) hp φ w x st' e a' w' →
                  bodyPost Γ.P fn (fun e w' => ∃ val φ', e = .returned val ∧ Rv ρ φ' (oneOrTuple rs) val ∧ Rh ρ φ' st'.hp w' ∧ Step (if Γ.loud f then ro else hp.length) hp φ w st'.hp φ' w') e a' w' := by
                rintro e a' w' ⟨hx, hd, φ', h1, h2, h3⟩
                obtain ⟨val, hval, hrel⟩ := results_ok h1 h2 hrs
                cases x with
                | exit i => exact (hex i rfl).elim
                | normal =>
                  cases e <;> try exact hx.elim
                  exact ⟨hd, val, hval, val, φ', rfl, hrel, h2, h3⟩
                | ret =>
                  cases e <;> try exact hx.elim
                  exact ⟨hd, val, hval, val, φ', rfl, hrel, h2, h3⟩
              have hC := calls_of_wp hfn hcode (wp_mono hwp hq)
              refine hC.mono ?_
              rintro e w' ⟨val, φ', rfl, h1, h2, h3⟩
              split at h
              · rename_i hloud
                cases h
                rw [if_pos hloud] at h3
                exact ⟨val, φ', rfl, h1, h2, h3, trivial⟩
              · rename_i hloud
                rw [if_neg hloud] at h3
                split at h
                · rename_i hcl
                  cases h
                  obtain ⟨ψ, e, hψ⟩ := h3.pre
                  subst e
                  rw [hR.len] at hcl
                  have hk : Step hp.length hp φ w hp φ w' :=
                    ⟨h3.os, h3.tape, h3.output, h3.size, ⟨[], by simp⟩, fun i o h => ⟨o, h, rfl⟩, fun _ _ _ => rfl, h3.block⟩
                  exact ⟨val, φ, rfl, h1.clean hcl, hR.keep h3, hk.weaken (.inr (Nat.le_refl _)), rfl, rfl, hk⟩
                · cases h
                  exact ⟨val, φ', rfl, h1, h2, h3.weaken (.inr (Nat.le_refl _)), trivial⟩
            · cases h
          · cases h

theorem oper_wp {run : Run} (hΓ : EnvOk Γ ρ) (hrun : RunOk Γ ρ run) {ro : Nat} {ev : Ev} {hp hp' : Hp} {o : Oper} {v : SVal} {c : Cls} (h : operV Γ run ro ev hp o.op = some (v, hp', c))
    {a : Act} {w : World} (hev : ∀ x ∈ o.op.operands, ∀ s, ev x = some s → Rv ρ φ s (a.eval x)) (hR : Rh ρ φ hp w)
    {K : Act → World → Prop} {Q : Exit → Act → World → Prop}
    (hK : ∀ val w' φ', Rv ρ φ' v val → Rh ρ φ' hp' w' → Step ro hp φ w hp' φ' w' → ClsOk c hp φ w hp' φ' w' → K (a.put o.dst val) w') : o.wp Γ.P a w K Q := by
  unfold operV at h
  split at h
  · rename_i v0 hv0
    cases h
    obtain ⟨val, hval, hs⟩ := pure_ok hΓ.ctx hv0 hev w
    unfold Oper.wp
    rw [hval]
    exact hK val w φ hs hR (Step.refl ..) ⟨rfl, rfl, rfl⟩
  · split at h
    · rename_i f args ats hop
      split at h
      · rename_i g first captured vs hf hvs
        rw [hop] at hev
        have hfe := hev f (by simp [Op.operands, Call.operands]) _ hf
        obtain ⟨xs, ys, e, hx, hy⟩ := hfe
        have hr := evals_ok (ec := a.eval) (fun x hx => hev x (by simp [Op.operands, Call.operands]; right; simpa using hx)) hvs
        have hargs : RvL ρ φ (first ++ vs ++ captured) (xs ++ args.toList.map a.eval ++ ys) := (hx.append hr).append hy
        obtain ⟨h1, h2⟩ := callV_ok hΓ hrun h hargs hR
        have hrun1 : (execOp a.eval o).run Γ.P w = .ok (.enter g ⟨xs ++ args.toList.map a.eval ++ ys⟩) w := by
          simp only [execOp, hop, resolve, e, Deferred.ofValue, Sem.run_bind, Sem.run_pure, Result.andThen_ok, invoke]
          rw [array_map args a.eval]
          simpa using h1
        unfold Oper.wp
        rw [hrun1]
        refine h2.mono ?_
        rintro e w' ⟨val, φ', rfl, k1, k2, k3, k4⟩
        exact hK val w' φ' k1 k2 k3 k4
      · cases h
    · obtain ⟨val, w', φ', hd, k1, k2, k3, k4⟩ := mem_ok hΓ.ctx h hev hR
      have hcls : ClsOk c hp φ w hp' φ' w' := by
        cases c with
        | P => exact k4.elim
        | Q => obtain ⟨rfl, rfl, rfl⟩ := k4; exact ⟨rfl, rfl, Step.refl ..⟩
        | A => exact k4
        | W => trivial
      unfold Oper.wp
      rcases hd with hd | ⟨hd, rfl⟩
      · rw [hd]; exact hK val w' φ' k1 k2 k3 hcls
      · rw [hd]; exact hK undef w' φ' k1 k2 k3 hcls

/-! ## Regions in the order of the text -/
theorem opsV_ok {run : Run} (hΓ : EnvOk Γ ρ) (hrun : RunOk Γ ρ run) {ro : Nat} {ops : Array Oper} {Q : Exit → Act → World → Prop} : ∀ {l : List Oper} {k : Nat} {st st' : St}, (∀ j, l[j]? = ops[k + j]?) →
    opsV Γ run ro ops.toList l st = some st' → ∀ {φ : Phi} {a : Act} {w : World}, RvL ρ φ st.tmps a.tmps.toList → Rh ρ φ st.hp w → a.defers = [] →
    (∀ φ' a' w', RvL ρ φ' st'.tmps a'.tmps.toList → Rh ρ φ' st'.hp w' → a'.defers = [] → Step ro st.hp φ w st'.hp φ' w' → Q .normal a' w') → wpOps Γ.P ops Q (List.range' k l.length) a w
  | [], k, st, st', _, h, φ, a, w, h1, h2, h3, hQ => by
    cases h
    exact hQ φ a w h1 h2 h3 (Step.refl ..)
  | o :: l, k, st, st', hl, h, φ, a, w, h1, h2, h3, hQ => by
    have ho : ops[k]? = some o := by simpa using (hl 0).symm
    have hl' : ∀ j, l[j]? = ops[k + 1 + j]? := fun j => by have := hl (j + 1); simpa [Nat.add_assoc, Nat.add_comm 1 j] using this
    simp only [List.length_cons, List.range'_succ, wpOps, ho]
    simp only [opsV] at h
    split at h
    · rename_i st1 c h0
      unfold oneV at h0
      split at h0
      · rename_i hw
        rw [if_pos (wantedS_ok h1 hw)]
        split at h0
        · rename_i v hp1 c1 hop
          cases h0
          refine .inl (oper_wp hΓ hrun hop (fun x _ s hs => evT_ok h1 hs) h2 ?_)
          intro val w' φ' k1 k2 k3 _
          obtain ⟨ψ, e, _⟩ := k3.pre
          have hm : RvL ρ φ' st.tmps a.tmps.toList := by rw [e]; exact h1.mono ψ
          exact opsV_ok hΓ hrun hl' h (put_ok hm o.dst k1) k2 (by rw [put_defers]; exact h3) fun φ'' a'' w'' j1 j2 j3 j4 => hQ φ'' a'' w'' j1 j2 j3 (k3.trans h2.len j4)
        · cases h0
      · rename_i hw
        have := wantedS_ok h1 hw
        rw [if_neg (by rw [this]; exact Bool.false_ne_true)]
        cases h0
        exact opsV_ok hΓ hrun hl' h (put_ok h1 o.dst undef_ok) h2 (by rw [put_defers]; exact h3) hQ
      · cases h0
    · cases h

/-- what is asked of the regions that draw their order (proved below) -/
def DrawOk (Γ : Env) (ρ : Val) (run : Run) : Prop := ∀ (id : Nat) (ops : Array Oper) (ro : Nat) (st st' : St) (cs : List Cls), opsC Γ run ro ops.toList ops.toList st = some (st', cs) → orderOk ops.toList cs = true →
  ∀ (φ : Phi) (a : Act) (w : World), RvL ρ φ st.tmps a.tmps.toList → Rh ρ φ st.hp w → a.defers = [] → (Code.region id ops true).wp Γ.P (Post ρ ro st.hp φ w .normal st') a w

/-! ## Control -/
theorem rounds_mono {P : Program} {c : Code} {Q Q' : Exit → Act → World → Prop} (hq : ∀ e a w, Q e a w → Q' e a w) : ∀ (n : Nat) (a : Act) (w : World), Code.rounds P c Q n a w → Code.rounds P c Q' n a w
  | 0, _, _, h => h
  | n + 1, a, w, h => wp_mono (show c.wp P (Exit.then (Code.rounds P c Q n) Q) a w from h) fun e a w h => by
    cases e <;> first | exact rounds_mono hq n a w h | exact hq _ _ _ h

theorem Post.trans {ro : Nat} {hp hp1 : Hp} {φ φ1 : Phi} {w w1 : World} {x : Ex} {st' : St} (hl : hp.length = φ.length) (h : Step ro hp φ w hp1 φ1 w1) : ∀ {e a' w'}, Post ρ ro hp1 φ1 w1 x st' e a' w' → Post ρ ro hp φ w x st' e a' w'
  | _, _, _, ⟨h1, h2, φ', h3, h4, h5⟩ => ⟨h1, h2, φ', h3, h4, h.trans hl h5⟩

def RoundsOk (Γ : Env) (ρ : Val) (n : Nat) : Prop := ∀ (c : Code) (ro : Nat) (st : St) (x : Ex) (st' : St), runV Γ n (.loop c) ro st = some (x, st') →
  ∀ (φ : Phi) (a : Act) (w : World), RvL ρ φ st.tmps a.tmps.toList → Rh ρ φ st.hp w → a.defers = [] → Code.rounds Γ.P c (Post ρ ro st.hp φ w x st') n a w

theorem runV_zero : runV Γ 0 = fun _ _ _ => none := rfl
theorem runV_succ (n : Nat) : runV Γ (n + 1) = stepV Γ (runV Γ n) := rfl

theorem run_ok (hΓ : EnvOk Γ ρ) (hdraw : ∀ run, RunOk Γ ρ run → DrawOk Γ ρ run) : ∀ n, RunOk Γ ρ (runV Γ n) ∧ RoundsOk Γ ρ n
  | 0 => by
    constructor
    · intro c ro st x st' h; rw [runV_zero] at h; cases h
    · intro c ro st x st' h; rw [runV_zero] at h; cases h
  | n + 1 => by
    obtain ⟨ih, ihr⟩ := run_ok hΓ hdraw n
    have hloop : RoundsOk Γ ρ (n + 1) := by
      intro c ro st x st' h φ a w h1 h2 h3
      rw [runV_succ] at h
      simp only [stepV] at h
      rw [rounds_succ]
      split at h
      · rename_i st1 hc
        refine wp_mono (ih c ro st .normal st1 hc φ a w h1 h2 h3) ?_
        rintro e a1 w1 ⟨hx, hd, φ1, k1, k2, k3⟩
        cases e <;> try exact hx.elim
        exact rounds_mono (fun e a w hp => hp.trans h2.len k3) n a1 w1 (ihr c ro st1 x st' h φ1 a1 w1 k1 k2 hd)
      · rename_i hne
        refine wp_mono (ih c ro st x st' h φ a w h1 h2 h3) ?_
        rintro e a1 w1 hp
        cases e with
        | normal =>
          obtain ⟨hx, _⟩ := hp
          cases x with
          | normal => exact (hne st' h).elim
          | exit i => exact hx.elim
          | ret => exact hx.elim
        | _ => exact hp
    refine ⟨?_, hloop⟩
    intro c ro st x st' h φ a w h1 h2 h3
    rw [runV_succ] at h
    cases c <;> simp only [stepV] at h <;> try (cases h; done)
    case skip => cases h; exact wp_skip ⟨trivial, h3, φ, h1, h2, Step.refl ..⟩
    case region id ops d =>
      cases d with
      | false =>
        simp only at h
        cases ho : opsV Γ (runV Γ n) ro ops.toList ops.toList st with
        | none => rw [ho] at h; cases h
        | some st1 =>
          rw [ho] at h; cases h
          refine wp_region ?_
          have := opsV_ok (Q := Post ρ ro st.hp φ w .normal st') hΓ ih (k := 0) (fun j => by simp) ho h1 h2 h3 (fun φ' a' w' j1 j2 j3 j4 => ⟨trivial, j3, φ', j1, j2, j4⟩)
          rw [List.range_eq_range']
          simpa using this
      | true =>
        simp only at h
        split at h
        · rename_i st1 cs ho
          split at h
          · rename_i hord
            cases h
            exact hdraw _ ih id ops ro st st' cs ho hord φ a w h1 h2 h3
          · cases h
        · cases h
    case seq c d =>
      split at h
      · rename_i st1 hc
        refine wp_seq (wp_mono (ih c ro st .normal st1 hc φ a w h1 h2 h3) ?_)
        rintro e a1 w1 ⟨hx, hd, φ1, k1, k2, k3⟩
        cases e <;> try exact hx.elim
        exact wp_mono (ih d ro st1 x st' h φ1 a1 w1 k1 k2 hd) fun e a w hp => hp.trans h2.len k3
      · rename_i hne
        refine wp_seq (wp_mono (ih c ro st x st' h φ a w h1 h2 h3) ?_)
        rintro e a1 w1 hp
        cases e with
        | normal =>
          obtain ⟨hx, _⟩ := hp
          cases x with
          | normal => exact (hne st' h).elim
          | exit i => exact hx.elim
          | ret => exact hx.elim
        | _ => exact hp
    case cond c s t =>
      split at h
      · rename_i hc
        have := evT_ok h1 hc
        exact wp_cond_true this (ih s ro st x st' h φ a w h1 h2 h3)
      · rename_i hc
        have := evT_ok h1 hc
        exact wp_cond_false this (ih t ro st x st' h φ a w h1 h2 h3)
      · cases h
    case block id c =>
      split at h
      · rename_i j st1 hc
        refine wp_block (wp_mono (ih c ro st (.exit j) st1 hc φ a w h1 h2 h3) ?_)
        rintro e a1 w1 ⟨hx, hr⟩
        cases e <;> try exact hx.elim
        rename_i i
        have hx' : j = i := hx
        subst hx'
        simp only [Exit.inBlock]
        split at h
        · rename_i hj; cases h; rw [if_pos hj]; exact ⟨trivial, hr⟩
        · rename_i hj; cases h; rw [if_neg hj]; exact ⟨rfl, hr⟩
      · rename_i hne
        refine wp_block (wp_mono (ih c ro st x st' h φ a w h1 h2 h3) ?_)
        rintro e a1 w1 hp
        cases e with
        | exit i =>
          obtain ⟨hx, _⟩ := hp
          cases x with
          | exit j => exact (hne j st' h).elim
          | normal => exact hx.elim
          | ret => exact hx.elim
        | _ => exact hp
    case loop c => exact wp_loop_rounds (n + 1) (hloop c ro st x st' (by rw [runV_succ]; exact h) φ a w h1 h2 h3)
    case exit id => cases h; exact wp_exit ⟨rfl, h3, φ, h1, h2, Step.refl ..⟩
    case scope c =>
      refine wp_scope_straight (wp_mono (ih c ro st x st' h φ a w h1 h2 h3) ?_)
      rintro e a1 w1 hp
      cases e with
      | goto l => obtain ⟨hx, _⟩ := hp; cases x <;> exact hx.elim
      | _ => exact hp
    case label l => cases h; exact wp_label ⟨trivial, h3, φ, h1, h2, Step.refl ..⟩
    case ret => cases h; exact wp_ret ⟨trivial, h3, φ, h1, h2, Step.refl ..⟩

end
end Go.Sx
