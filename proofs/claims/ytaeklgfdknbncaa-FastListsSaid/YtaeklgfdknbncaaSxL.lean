/-
  Flat results, summaries of functions, and evaluation by cases. Conditions: none beside the hypotheses of each theorem.
-/
import Derived.Test.YtaeklgfdknbncaaSxK
namespace Go.Sx
noncomputable section
open Go.ChangeShapes Go.WideShapes Go.ChangeAt Go.RowKit
section
variable {ρ : Val} {φ : Phi}

/-! ## Flat values: integers, bools and aggregates of them -/
mutual
def flat : SVal → Bool
  | .int _ _ => true
  | .bool _ => true
  | .agg cs => flats cs
  | .tuple cs => flats cs
  | _ => false
def flats : List SVal → Bool
  | [] => true
  | s :: l => flat s && flats l
end

mutual
def denV (ρ : Val) : SVal → Value
  | .int k e => .int k (e.den ρ)
  | .bool c => .bool (c.den ρ)
  | .agg cs => .agg ⟨denVs ρ cs⟩
  | .tuple cs => .tuple ⟨denVs ρ cs⟩
  | _ => .nilFunc
def denVs (ρ : Val) : List SVal → List Value
  | [] => []
  | s :: l => denV ρ s :: denVs ρ l
end

mutual
theorem flat_rv : ∀ {s : SVal}, flat s = true → ∀ {v : Value}, Rv ρ φ s v ↔ v = denV ρ s
  | .int _ _, _, v => by simp [Rv, denV]
  | .bool _, _, v => by simp [Rv, denV]
  | .agg cs, h, v => by
    simp only [flat] at h
    constructor
    · rintro ⟨vs, rfl, hv⟩; rw [(flats_rv h).1 hv]; rfl
    · rintro rfl; exact ⟨_, rfl, (flats_rv h).2 rfl⟩
  | .tuple cs, h, v => by
    simp only [flat] at h
    constructor
    · rintro ⟨vs, rfl, hv⟩; rw [(flats_rv h).1 hv]; rfl
    · rintro rfl; exact ⟨_, rfl, (flats_rv h).2 rfl⟩
  | .str _, h, _ => by cases h
  | .ptr _, h, _ => by cases h
  | .pix .., h, _ => by cases h
  | .slice .., h, _ => by cases h
  | .func .., h, _ => by cases h
  | .nilFunc, h, _ => by cases h
  | .nilIface, h, _ => by cases h
  | .iface .., h, _ => by cases h
theorem flats_rv : ∀ {l : List SVal}, flats l = true → ∀ {vs : List Value}, RvL ρ φ l vs ↔ vs = denVs ρ l
  | [], _, vs => by simp [RvL, denVs]
  | s :: l, h, vs => by
    simp only [flats, Bool.and_eq_true] at h
    constructor
    · rintro ⟨v, r, rfl, h1, h2⟩; rw [(flat_rv h.1).1 h1, (flats_rv h.2).1 h2]; rfl
    · rintro rfl; exact ⟨_, _, rfl, (flat_rv h.1).2 rfl, (flats_rv h.2).2 rfl⟩
end

mutual
def SVal.same : SVal → SVal → Bool
  | .int k a, .int j b => IntKind.same k j && a.same b
  | .bool a, .bool b => a.same b
  | .agg l, .agg m => SVal.sames l m
  | .tuple l, .tuple m => SVal.sames l m
  | _, _ => false
def SVal.sames : List SVal → List SVal → Bool
  | [], [] => true
  | a :: l, b :: m => a.same b && SVal.sames l m
  | _, _ => false
end

mutual
theorem SVal.same_eq : ∀ {a b : SVal}, a.same b = true → a = b ∧ flat a = true
  | .int k a, b, h => by
    cases b <;> try (cases h; done)
    simp only [SVal.same, Bool.and_eq_true] at h
    exact ⟨by rw [IntKind.same_eq h.1, E.same_eq h.2], rfl⟩
  | .bool a, b, h => by
    cases b <;> try (cases h; done)
    simp only [SVal.same] at h
    exact ⟨by rw [C.same_eq h], rfl⟩
  | .agg l, b, h => by
    cases b <;> try (cases h; done)
    simp only [SVal.same] at h
    exact ⟨by rw [(SVal.sames_eq h).1], (SVal.sames_eq h).2⟩
  | .tuple l, b, h => by
    cases b <;> try (cases h; done)
    simp only [SVal.same] at h
    exact ⟨by rw [(SVal.sames_eq h).1], (SVal.sames_eq h).2⟩
  | .str _, _, h => by cases h
  | .ptr _, _, h => by cases h
  | .pix .., _, h => by cases h
  | .slice .., _, h => by cases h
  | .func .., _, h => by cases h
  | .nilFunc, _, h => by cases h
  | .nilIface, _, h => by cases h
  | .iface .., _, h => by cases h
theorem SVal.sames_eq : ∀ {a b : List SVal}, SVal.sames a b = true → a = b ∧ flats a = true
  | [], b, h => by cases b <;> first | exact ⟨rfl, rfl⟩ | cases h
  | x :: l, b, h => by
    cases b with
    | nil => cases h
    | cons y m =>
      simp only [SVal.sames, Bool.and_eq_true] at h
      obtain ⟨e1, f1⟩ := SVal.same_eq h.1
      obtain ⟨e2, f2⟩ := SVal.sames_eq h.2
      exact ⟨by rw [e1, e2], by simp [flats, f1, f2]⟩
end

/-! ## Calls that leave memory as it was -/
theorem Step.of_below {hp : Hp} {w w' : World} (h : Below w.heap.size w w') : Step hp.length hp φ w hp φ w' :=
  ⟨h.os, h.tape, h.output, h.size, ⟨[], by simp⟩, fun _ o h => ⟨o, h, rfl⟩, fun _ _ _ => rfl, fun b hb _ => h.block b hb⟩

variable {Γ : Env}

/-- the result of a call is this flat value -/
def gives (r : Option (SVal × Hp × Cls)) (v : SVal) : Bool :=
  match r with
  | some (u, _, _) => u.same v
  | none => false

theorem gives_calls (hΓ : EnvOk Γ ρ) (n : Nat) {f : Nat} {args : List SVal} {v : SVal} (h : gives (callV Γ (runV Γ n) 0 [] f args) v = true) {vs : List Value} (hargs : RvL ρ [] args vs) (w : World) :
    Calls Γ.P f ⟨vs⟩ w fun e w' => e = .returned (denV ρ v) ∧ Below w.heap.size w w' := by
  cases hc : callV Γ (runV Γ n) 0 [] f args with
  | none => rw [hc] at h; cases h
  | some r =>
    obtain ⟨u, hp', c⟩ := r
    rw [hc] at h
    obtain ⟨rfl, hf⟩ := SVal.same_eq h
    refine (calls_ok hΓ n hc hargs (Rh.empty w)).mono ?_
    rintro e w' ⟨val, φ', rfl, h1, _, h3, _⟩
    exact ⟨by rw [(flat_rv hf).1 h1], h3.below (by simp)⟩

/-- Summaries that touch no memory. -/
structure PureSum (P : Program) (ρ : Val) (f : Nat) (s : List SVal → Option SVal) : Prop where
  flat : ∀ args v, s args = some v → flats args = true ∧ flat v = true
  calls : ∀ args v, s args = some v → ∀ w, Calls P f ⟨denVs ρ args⟩ w fun e w' => e = .returned (denV ρ v) ∧ Below w.heap.size w w'

def pureSum (s : List SVal → Option SVal) : Hp → List SVal → Option (SVal × List SObj) := fun _ args => (s args).map fun v => (v, [])

theorem PureSum.ok {P : Program} {f : Nat} {s : List SVal → Option SVal} (h : PureSum P ρ f s) : ∀ hp args v os, pureSum s hp args = some (v, os) → ∀ φ vs w, RvL ρ φ args vs → Rh ρ φ hp w →
    Calls P f ⟨vs⟩ w fun e w' => ∃ val ψ, e = .returned val ∧ Rv ρ (φ ++ ψ) v val ∧ Rh ρ (φ ++ ψ) (hp ++ os) w' ∧ Step hp.length hp φ w (hp ++ os) (φ ++ ψ) w' := by
  intro hp args v os hs φ vs w hvs hR
  cases hv : s args with
  | none => rw [pureSum, hv] at hs; cases hs
  | some u =>
    rw [pureSum, hv] at hs; cases hs
    obtain ⟨f1, f2⟩ := h.flat args v hv
    rw [(flats_rv f1).1 hvs]
    refine (h.calls args v hv w).mono ?_
    rintro e w' ⟨rfl, hb⟩
    refine ⟨_, [], rfl, (flat_rv f2).2 rfl, ?_, ?_⟩
    · simpa using hR.keep (Step.of_below hb)
    · simpa using Step.of_below hb

/-! ## Trees of cases -/
inductive Tree (α : Type) where
  | leaf (x : α)
  | fork (c : C) (a b : Tree α)

def pick {α : Type} (ρ : Val) : Tree α → α
  | .leaf x => x
  | .fork c a b => bif c.den ρ then pick ρ a else pick ρ b

abbrev Facts := List (C × Bool)

def Tree.bind {α β : Type} (f : Facts → α → Option (Tree β)) : Facts → Tree α → Option (Tree β)
  | fs, .leaf x => f fs x
  | fs, .fork c a b => match Tree.bind f ((c, true) :: fs) a, Tree.bind f ((c, false) :: fs) b with
    | some a, some b => some (.fork c a b)
    | _, _ => none

def Holds (ρ : Val) (fs : Facts) : Prop := ∀ c b, (c, b) ∈ fs → c.den ρ = b

theorem Holds.cons {fs : Facts} (h : Holds ρ fs) {c : C} {b : Bool} (hc : c.den ρ = b) : Holds ρ ((c, b) :: fs) := by
  intro c' b' hm
  rcases List.mem_cons.1 hm with e | hm
  · cases e; exact hc
  · exact h c' b' hm

theorem Tree.bind_ok {α β : Type} {f : Facts → α → Option (Tree β)} : ∀ {fs : Facts} {t : Tree α} {u : Tree β}, Tree.bind f fs t = some u → Holds ρ fs →
    ∃ fs' u', Holds ρ fs' ∧ f fs' (pick ρ t) = some u' ∧ pick ρ u = pick ρ u'
  | fs, .leaf x, u, h, hf => ⟨fs, u, hf, h, rfl⟩
  | fs, .fork c a b, u, h, hf => by
    simp only [Tree.bind] at h
    split at h
    · rename_i a' b' ha hb
      cases h
      cases hc : c.den ρ with
      | true =>
        obtain ⟨fs', u', h1, h2, h3⟩ := Tree.bind_ok ha (hf.cons hc)
        exact ⟨fs', u', h1, by simpa [pick, hc] using h2, by simpa [pick, hc] using h3⟩
      | false =>
        obtain ⟨fs', u', h1, h2, h3⟩ := Tree.bind_ok hb (hf.cons hc)
        exact ⟨fs', u', h1, by simpa [pick, hc] using h2, by simpa [pick, hc] using h3⟩
    · cases h

def Tree.map {α β : Type} (f : α → β) : Tree α → Tree β
  | .leaf x => .leaf (f x)
  | .fork c a b => .fork c (a.map f) (b.map f)

theorem pick_map {α β : Type} (f : α → β) : ∀ (t : Tree α), pick ρ (t.map f) = f (pick ρ t)
  | .leaf _ => rfl
  | .fork c a b => by
    simp only [Tree.map, pick]
    rw [pick_map f a, pick_map f b]
    cases c.den ρ <;> rfl

def withFacts (Γ : Env) (fs : Facts) : Env := { Γ with facts := fs ++ Γ.facts }

theorem withFacts_ok (hΓ : EnvOk Γ ρ) {fs : Facts} (hf : Holds ρ fs) : EnvOk (withFacts Γ fs) ρ :=
  ⟨⟨hΓ.ctx.rvar, hΓ.ctx.rapp, fun c b hm => by
    rcases List.mem_append.1 hm with h | h
    · exact hf c b h
    · exact hΓ.ctx.facts c b h, hΓ.ctx.rw⟩, hΓ.mixed, hΓ.sums⟩

abbrev TRun := Facts → Code → Nat → St → Option (Tree (Ex × St))

def unblock (id : Nat) : Ex × St → Ex × St
  | (.exit j, st) => if j = id then (.normal, st) else (.exit j, st)
  | r => r

noncomputable def stepT (Γ : Env) (m : Nat) (run : TRun) (fs : Facts) (c : Code) (ro : Nat) (st : St) : Option (Tree (Ex × St)) :=
  match c with
  | .seq a b => match run fs a ro st with
    | some t => t.bind (fun fs' r => match r with
      | (.normal, st') => run fs' b ro st'
      | r => some (.leaf r)) fs
    | none => none
  | .cond c a b => match evT st.tmps c with
    | some (.bool (.lit true)) => run fs a ro st
    | some (.bool (.lit false)) => run fs b ro st
    | some (.bool c) => match run ((c, true) :: fs) a ro st, run ((c, false) :: fs) b ro st with
      | some t, some u => some (.fork c t u)
      | _, _ => none
    | _ => none
  | .block id c => (run fs c ro st).map fun t => t.map (unblock id)
  | .loop c => match run fs c ro st with
    | some t => t.bind (fun fs' r => match r with
      | (.normal, st') => run fs' (.loop c) ro st'
      | r => some (.leaf r)) fs
    | none => none
  | .scope c => run fs c ro st
  | c => (stepV (withFacts Γ fs) (runV (withFacts Γ fs) m) c ro st).map .leaf

noncomputable def runT (Γ : Env) (m n : Nat) : TRun :=
  Nat.rec (fun _ _ _ _ => none) (fun _ ih => stepT Γ m ih) n

def TreeOk (Γ : Env) (ρ : Val) (run : TRun) : Prop := ∀ (fs : Facts) (c : Code) (ro : Nat) (st : St) (t : Tree (Ex × St)), run fs c ro st = some t → Holds ρ fs →
  ∀ (φ : Phi) (a : Act) (w : World), RvL ρ φ st.tmps a.tmps.toList → Rh ρ φ st.hp w → a.defers = [] → c.wp Γ.P (Post ρ ro st.hp φ w (pick ρ t).1 (pick ρ t).2) a w

def TRoundsOk (Γ : Env) (ρ : Val) (m n : Nat) : Prop := ∀ (fs : Facts) (c : Code) (ro : Nat) (st : St) (t : Tree (Ex × St)), runT Γ m n fs (.loop c) ro st = some t → Holds ρ fs →
  ∀ (φ : Phi) (a : Act) (w : World), RvL ρ φ st.tmps a.tmps.toList → Rh ρ φ st.hp w → a.defers = [] → Code.rounds Γ.P c (Post ρ ro st.hp φ w (pick ρ t).1 (pick ρ t).2) n a w

theorem runT_zero (m : Nat) : runT Γ m 0 = fun _ _ _ _ => none := rfl
theorem runT_succ (m n : Nat) : runT Γ m (n + 1) = stepT Γ m (runT Γ m n) := rfl

theorem tree_ok (hΓ : EnvOk Γ ρ) (m : Nat) : ∀ n, TreeOk Γ ρ (runT Γ m n) ∧ TRoundsOk Γ ρ m n
  | 0 => by
    constructor
    · intro fs c ro st t h; rw [runT_zero] at h; cases h
    · intro fs c ro st t h; rw [runT_zero] at h; cases h
  | n + 1 => by
    obtain ⟨ih, ihr⟩ := tree_ok hΓ m n
    have hloop : TRoundsOk Γ ρ m (n + 1) := by
      intro fs c ro st t h hf φ a w h1 h2 h3
      rw [runT_succ] at h
      simp only [stepT] at h
      rw [rounds_succ]
      split at h
      · rename_i t1 hc
        obtain ⟨fs', u', hf', hu, hp⟩ := Tree.bind_ok h hf
        refine wp_mono (ih fs c ro st t1 hc hf φ a w h1 h2 h3) ?_
        rintro e a1 w1 ⟨hx, hd, φ1, k1, k2, k3⟩
        rw [hp]
        generalize hr : pick ρ t1 = r at *
        obtain ⟨x, st1⟩ := r
        simp only at hu hx k1 k2 k3
        cases x with
        | normal =>
          cases e <;> try exact hx.elim
          simp only at hu
          exact rounds_mono (fun e a w hp => hp.trans h2.len k3) n a1 w1 (ihr fs' c ro st1 u' hu hf' φ1 a1 w1 k1 k2 hd)
        | exit i =>
          cases e <;> try exact hx.elim
          cases hu
          exact ⟨hx, hd, φ1, k1, k2, k3⟩
        | ret =>
          cases e <;> try exact hx.elim
          cases hu
          exact ⟨trivial, hd, φ1, k1, k2, k3⟩
      · cases h
    refine ⟨?_, hloop⟩
    intro fs c ro st t h hf φ a w h1 h2 h3
    rw [runT_succ] at h
    have base : ∀ c, (stepV (withFacts Γ fs) (runV (withFacts Γ fs) m) c ro st).map Tree.leaf = some t → c.wp Γ.P (Post ρ ro st.hp φ w (pick ρ t).1 (pick ρ t).2) a w := by
      intro c h
      cases hc : stepV (withFacts Γ fs) (runV (withFacts Γ fs) m) c ro st with
      | none => rw [hc] at h; cases h
      | some r =>
        rw [hc] at h; cases h
        exact sound (withFacts_ok hΓ hf) (m + 1) c ro st r.1 r.2 hc φ a w h1 h2 h3
    cases c with
    | seq c d =>
      simp only [stepT] at h
      split at h
      · rename_i t1 hc
        obtain ⟨fs', u', hf', hu, hp⟩ := Tree.bind_ok h hf
        refine wp_seq (wp_mono (ih fs c ro st t1 hc hf φ a w h1 h2 h3) ?_)
        rintro e a1 w1 ⟨hx, hd, φ1, k1, k2, k3⟩
        rw [hp]
        generalize hr : pick ρ t1 = r at *
        obtain ⟨x, st1⟩ := r
        simp only at hu hx k1 k2 k3
        cases x with
        | normal =>
          cases e <;> try exact hx.elim
          simp only at hu
          exact wp_mono (ih fs' d ro st1 u' hu hf' φ1 a1 w1 k1 k2 hd) fun e a w hp => hp.trans h2.len k3
        | exit i =>
          cases e <;> try exact hx.elim
          cases hu
          exact ⟨hx, hd, φ1, k1, k2, k3⟩
        | ret =>
          cases e <;> try exact hx.elim
          cases hu
          exact ⟨trivial, hd, φ1, k1, k2, k3⟩
      · cases h
    | cond c s u =>
      simp only [stepT] at h
      split at h
      · rename_i hc
        exact wp_cond_true (evT_ok h1 hc) (ih fs s ro st t h hf φ a w h1 h2 h3)
      · rename_i hc
        exact wp_cond_false (evT_ok h1 hc) (ih fs u ro st t h hf φ a w h1 h2 h3)
      · rename_i b _ _ hc
        have hv := evT_ok h1 hc
        split at h
        · rename_i t1 t2 ht1 ht2
          cases h
          cases hb : b.den ρ with
          | true =>
            rw [show (pick ρ (Tree.fork b t1 t2)) = pick ρ t1 by simp [pick, hb]]
            refine wp_cond_true ?_ (ih _ s ro st t1 ht1 (hf.cons hb) φ a w h1 h2 h3)
            rw [show a.eval c = _ from hv, hb]
          | false =>
            rw [show (pick ρ (Tree.fork b t1 t2)) = pick ρ t2 by simp [pick, hb]]
            refine wp_cond_false ?_ (ih _ u ro st t2 ht2 (hf.cons hb) φ a w h1 h2 h3)
            rw [show a.eval c = _ from hv, hb]
        · cases h
      · cases h
    | block id c =>
      simp only [stepT] at h
      cases hc : runT Γ m n fs c ro st with
      | none => rw [hc] at h; cases h
      | some t1 =>
        rw [hc] at h; cases h
        refine wp_block (wp_mono (ih fs c ro st t1 hc hf φ a w h1 h2 h3) ?_)
        rintro e a1 w1 ⟨hx, hr⟩
        rw [pick_map]
        generalize hq : pick ρ t1 = r at *
        obtain ⟨x, st1⟩ := r
        simp only at hx hr
        cases x with
        | normal => cases e <;> first | exact hx.elim | exact ⟨trivial, hr⟩
        | ret => cases e <;> first | exact hx.elim | exact ⟨trivial, hr⟩
        | exit j =>
          cases e <;> try exact hx.elim
          have hx' : j = _ := hx
          subst hx'
          simp only [Exit.inBlock, unblock]
          split
          · exact ⟨trivial, hr⟩
          · exact ⟨rfl, hr⟩
    | loop c => exact wp_loop_rounds (n + 1) (hloop fs c ro st t (by rw [runT_succ]; exact h) hf φ a w h1 h2 h3)
    | scope c =>
      simp only [stepT] at h
      refine wp_scope_straight (wp_mono (ih fs c ro st t h hf φ a w h1 h2 h3) ?_)
      rintro e a1 w1 hp
      cases e with
      | goto l =>
        obtain ⟨hx, _⟩ := hp
        generalize (pick ρ t).1 = x at hx
        cases x <;> exact hx.elim
      | _ => exact hp
    | _ => exact base _ h

/-- a call by cases: its flat results -/
def leafV (Γ : Env) (fn : Func) (r : Ex × St) : Option SVal :=
  match r with
  | (.exit _, _) => none
  | (_, st) => match resultVs Γ.toCtx st.hp st.tmps fn.results.toList with
    | some vs => if flat (oneOrTuple vs) then some (oneOrTuple vs) else none
    | none => none

def Tree.all {α β : Type} (f : α → Option β) : Tree α → Option (Tree β)
  | .leaf x => (f x).map .leaf
  | .fork c a b => match a.all f, b.all f with
    | some a, some b => some (.fork c a b)
    | _, _ => none

theorem Tree.all_ok {α β : Type} {f : α → Option β} : ∀ {t : Tree α} {u : Tree β}, t.all f = some u → f (pick ρ t) = some (pick ρ u)
  | .leaf x, u, h => by
    simp only [Tree.all] at h
    cases hx : f x with
    | none => rw [hx] at h; cases h
    | some y => rw [hx] at h; cases h; exact hx
  | .fork c a b, u, h => by
    simp only [Tree.all] at h
    split at h
    · rename_i a' b' ha hb
      cases h
      simp only [pick]
      cases c.den ρ with
      | true => exact Tree.all_ok ha
      | false => exact Tree.all_ok hb
    · cases h

noncomputable def callT (Γ : Env) (m n : Nat) (f : Nat) (args : List SVal) : Option (Tree SVal) :=
  match Γ.P.funcs[f]? with
  | none => none
  | some fn =>
    match fn.body with
    | none => none
    | some code =>
      match runT Γ m n [] code 0 { tmps := args ++ List.replicate (fn.ntmps - args.length) undefS, hp := [] } with
      | some t => t.all (leafV Γ fn)
      | none => none

theorem callT_ok (hΓ : EnvOk Γ ρ) (m n : Nat) {f : Nat} {args : List SVal} {t : Tree SVal} (h : callT Γ m n f args = some t) {vs : List Value} (hargs : RvL ρ [] args vs) (w : World) :
    Calls Γ.P f ⟨vs⟩ w fun e w' => e = .returned (denV ρ (pick ρ t)) ∧ Below w.heap.size w w' := by
  unfold callT at h
  split at h
  · cases h
  · rename_i fn hfn
    split at h
    · cases h
    · rename_i code hcode
      split at h
      · rename_i t1 ht
        have hl := Tree.all_ok (ρ := ρ) h
        have hb : RvL ρ [] (args ++ List.replicate (fn.ntmps - args.length) undefS) ((⟨vs⟩ : Array Value) ++ Array.replicate (fn.ntmps - (⟨vs⟩ : Array Value).size) undef).toList := by
          have hl := hargs.length
          simp only [Array.toList_append, Array.toList_replicate, List.size_toArray, hl]
          exact hargs.append (RvL.replicate undef_ok _)
        have hwp := (tree_ok hΓ m n).1 [] code 0 _ t1 ht (by intro c b h; cases h) [] { tmps := (⟨vs⟩ : Array Value) ++ Array.replicate (fn.ntmps - (⟨vs⟩ : Array Value).size) undef, defers := [] } w hb (Rh.empty w) rfl
        generalize hq : pick ρ t1 = r at *
        obtain ⟨x, st'⟩ := r
        have key : ∃ rs, resultVs Γ.toCtx st'.hp st'.tmps fn.results.toList = some rs ∧ flat (oneOrTuple rs) = true ∧ pick ρ t = oneOrTuple rs ∧ ∀ i, x ≠ .exit i := by
          unfold leafV at hl
          split at hl
          · cases hl
          · rename_i hne heq
            cases heq
            split at hl
            · rename_i rs hrs
              split at hl
              · rename_i hfl
                exact ⟨rs, hrs, hfl, (Option.some.inj hl).symm, fun i => by intro e; subst e; exact hne i rfl⟩
              · cases hl
            · cases hl
        obtain ⟨rs, hrs, hfl, hpk, hex⟩ := key
        refine calls_of_wp hfn hcode (wp_mono hwp ?_)
        rintro e a' w' ⟨hx, hd, φ', h1, h2, h3⟩
        obtain ⟨val, hval, hrel⟩ := results_ok h1 h2 hrs
        have hv : val = denV ρ (pick ρ t) := by rw [hpk]; exact (flat_rv hfl).1 hrel
        cases x with
        | exit i => exact (hex i rfl).elim
        | normal =>
          cases e <;> try exact hx.elim
          exact ⟨hd, val, hval, by rw [hv], h3.below (by simp)⟩
        | ret =>
          cases e <;> try exact hx.elim
          exact ⟨hd, val, hval, by rw [hv], h3.below (by simp)⟩
      · cases h
end
end
end Go.Sx
