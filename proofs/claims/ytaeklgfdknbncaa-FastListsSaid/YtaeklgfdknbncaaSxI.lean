/-
  What holds while a region runs in whatever order. Conditions: none beside the hypotheses of each theorem.
-/
import Derived.Test.YtaeklgfdknbncaaSxH
namespace Go.Sx
section
variable {Γ : Env} {run : Run} {ro : Nat} {ops : Array Oper} {st st' : St} {ρ : Val}

def On (listed : Array Bool) (i : Nat) : Prop := listed.getD i false = true
def isO (c : Cls) : Prop := c = .A ∨ c = .W

theorem map_cls {α : Type} {f : α → SVal × Hp × Cls} {x : Option α} {r : SVal × Hp × Cls} {G : SVal × Hp × Cls → Prop} (h : x.map f = some r) (hG : ∀ a, G (f a)) : G r := by
  cases x with
  | none => cases h
  | some a => cases h; exact hG a

def clsFit (hp : Hp) (r : SVal × Hp × Cls) : Prop := r.2.2 ≠ .P ∧ (r.2.2 = .Q → r.2.1 = hp)

theorem appendV_cls {Γ : Ctx} {hp : Hp} {ats : Array TypeId} {s x : SVal} {r : SVal × Hp × Cls} (h : appendV Γ ro hp ats s x = some r) : clsFit hp r := by
  cases s with
  | slice base len cap =>
    simp only [appendV] at h
    unfold appendS at h
    split at h
    · split at h
      · split at h
        · split at h
          · cases base with
            | none =>
              cases cap with
              | known c =>
                cases c with
                | zero =>
                  simp only at h
                  split at h
                  · rename_i n new _ _ _
                    cases hnv : newV hp new with
                    | none => rw [hnv] at h; cases h
                    | some y => rw [hnv] at h; cases h; exact ⟨by simp, by simp⟩
                  · cases h
                | succ _ => cases h
              | rest _ => cases h
              | any => cases h
            | some p =>
              obtain ⟨i, off⟩ := p
              cases cap with
              | known c =>
                simp only at h
                split at h
                · split at h
                  · split at h
                    · cases h; exact ⟨by simp, by simp⟩
                    · cases h
                  · split at h
                    · split at h
                      · cases h; exact ⟨by simp, by simp⟩
                      · cases h
                    · cases h
                · cases h
              | rest k =>
                cases off with
                | succ _ => cases h
                | zero =>
                  simp only at h
                  split at h
                  · split at h
                    · split at h
                      · cases h; exact ⟨by simp, by simp⟩
                      · cases h
                    · cases h
                  · cases h
              | any => cases h
          · cases h
        · cases h
      · cases h
    · cases h
  | _ => cases h

theorem memV_cls {Γ : Ctx} {ev : Ev} {hp : Hp} {op : Op} {r : SVal × Hp × Cls} (h : memV Γ ro ev hp op = some r) : clsFit hp r := by
  cases op <;> simp only [memV] at h <;> try (cases h; done)
  case load t a =>
    split at h
    · exact map_cls h fun v => ⟨by simp, fun _ => rfl⟩
    · split at h
      · split at h
        · cases h
        · split at h
          · exact map_cls h fun v => ⟨by simp, fun _ => rfl⟩
          · cases h
      · cases h
    · cases h
  case store t a x =>
    split at h
    · exact map_cls h fun v => ⟨by simp, by simp⟩
    · cases h
  case alloc t =>
    split at h
    · exact map_cls h fun v => ⟨by simp, by simp⟩
    · cases h
  case box t x =>
    split at h
    · exact map_cls h fun v => ⟨by simp, by simp⟩
    · cases h
  case buildSlice t n ps =>
    split at h
    · split at h
      · split at h
        · split at h
          · exact map_cls h fun v => ⟨by simp, by simp⟩
          · cases h
        · cases h
      · cases h
    · cases h
  case makeSlice t l c =>
    split at h
    · split at h
      · split at h
        · exact map_cls h fun v => ⟨by simp, by simp⟩
        · cases h
      · cases h
    · cases h
  case call cl =>
    unfold memCall at h
    split at h
    · split at h
      · rename_i s x _
        exact appendV_cls h
      · cases h
    · cases h

theorem callV_cls {hp : Hp} {f : Nat} {args : List SVal} {r : SVal × Hp × Cls} (h : callV Γ run ro hp f args = some r) : clsFit hp r := by
  unfold callV at h
  split at h
  · cases h
  · split at h
    · cases h
    · split at h
      · cases h
      · split at h
        · split at h
          · cases h; exact ⟨by simp, fun _ => rfl⟩
          · cases h; exact ⟨by simp, by simp⟩
          · cases h
        · simp only at h
          split at h
          · cases h
          · split at h
            · split at h
              · cases h; exact ⟨by simp, by simp⟩
              · split at h
                · cases h; exact ⟨by simp, fun _ => rfl⟩
                · cases h; exact ⟨by simp, by simp⟩
            · cases h
          · cases h

theorem operV_cls {ev : Ev} {hp hp' : Hp} {op : Op} {v : SVal} {c : Cls} (h : operV Γ run ro ev hp op = some (v, hp', c)) :
    (c = .P → pureV Γ.toCtx ev op = some v ∧ hp' = hp) ∧ (c = .Q → hp' = hp) := by
  unfold operV at h
  split at h
  · rename_i v0 hv; cases h; exact ⟨fun _ => ⟨hv, rfl⟩, fun _ => rfl⟩
  · have : clsFit hp (v, hp', c) := by
      split at h
      · split at h
        · exact callV_cls h
        · cases h
      · exact memV_cls h
    exact ⟨fun hc => (this.1 hc).elim, this.2⟩

variable (p : Plan Γ run ro ops st st')

theorem Plan.len (i : Nat) (hi : i ≤ ops.size) : (p.S i).tmps.length = st.tmps.length := by
  induction i with
  | zero => rw [p.first]
  | succ i ih =>
    have h := ih (by omega)
    have ho : ops[i]? = some ops[i] := Array.getElem?_eq_getElem (by omega)
    have hput : ∀ (t : List SVal) (x : Option Tmp) (v : SVal), (put t x v).length = t.length := by
      intro t x v; cases x <;> simp [put, upd_eq]
    rcases p.one i _ ho with ⟨_, hp', _, e⟩ | ⟨_, _, _, e⟩ <;> rw [e] <;> simp only [hput] <;> exact h

/-- what a slot holds behind the first i operations of the text -/
theorem Plan.slot (t : Nat) (ht : t < st.tmps.length) (i : Nat) (hi : i ≤ ops.size) :
    (∃ j o, j < i ∧ ops[j]? = some o ∧ o.dst = some t ∧ (p.S i).tmps[t]? = some (p.v j)) ∨
    ((∀ (j : Nat) o, j < i → ops[j]? = some o → o.dst ≠ some t) ∧ (p.S i).tmps[t]? = st.tmps[t]?) := by
  induction i with
  | zero => exact .inr ⟨fun j o hj => by omega, by rw [p.first]⟩
  | succ i ih =>
    have h := ih (by omega)
    have ho : ops[i]? = some ops[i] := Array.getElem?_eq_getElem (by omega)
    have hlen := p.len i (by omega)
    have hn : (p.S (i + 1)).tmps = put (p.S i).tmps ops[i].dst (p.v i) := by
      rcases p.one i _ ho with ⟨_, hp', _, e⟩ | ⟨_, _, _, e⟩ <;> rw [e]
    rw [hn]
    by_cases hd : ops[i].dst = some t
    · left
      refine ⟨i, ops[i], by omega, ho, hd, ?_⟩
      rw [hd]
      simp only [put, upd_eq]
      rw [List.getElem?_set_self (by omega)]
    · have hsame : (put (p.S i).tmps ops[i].dst (p.v i))[t]? = (p.S i).tmps[t]? := by
        cases hx : ops[i].dst with
        | none => rfl
        | some x =>
          simp only [put, upd_eq]
          rw [List.getElem?_set_ne]
          rintro rfl
          exact hd hx
      rw [hsame]
      rcases h with ⟨j, o, h1, h2, h3, h4⟩ | ⟨h1, h2⟩
      · exact .inl ⟨j, o, by omega, h2, h3, h4⟩
      · refine .inr ⟨fun j o hj hoj => ?_, h2⟩
        by_cases hji : j = i
        · subst hji
          have : o = ops[j] := Option.some.inj (hoj.symm.trans ho)
          rw [this]; exact hd
        · exact h1 j o (by omega) hoj

theorem Plan.hpSame (x y : Nat) (hxy : x ≤ y) (hy : y ≤ ops.size) (h : ∀ j, x ≤ j → j < y → p.d j = .P ∨ p.d j = .Q) : (p.S y).hp = (p.S x).hp := by
  induction y with
  | zero => have : x = 0 := by omega
            rw [this]
  | succ y ih =>
    by_cases he : x = y + 1
    · rw [he]
    · rw [← ih (by omega) (by omega) (fun j h1 h2 => h j h1 (by omega))]
      have ho : ops[y]? = some ops[y] := Array.getElem?_eq_getElem (by omega)
      have hd := h y (by omega) (by omega)
      rcases p.one y _ ho with ⟨_, hp', hop, e⟩ | ⟨_, _, _, e⟩
      · rw [e]
        simp only
        rcases hd with hd | hd
        · exact ((operV_cls hop).1 (p.dP y (by omega) hd)).2
        · exact (operV_cls hop).2 (p.dQ y (by omega) hd).1
      · rw [e]

structure Inv (φ0 : Phi) (w0 : World) (listed : Array Bool) (a : Act) (w : World) : Prop where
  size : listed.size = ops.size
  closed : ∀ (j : Nat) o, ops[j]? = some o → On listed j → ∀ e ∈ binding o, On listed e
  defers : a.defers = []
  tsize : a.tmps.size = st.tmps.length
  old : ∀ (t : Nat) s, st.tmps[t]? = some s → (∀ (j : Nat) o, ops[j]? = some o → o.dst = some t → ¬ On listed j) → Rv ρ φ0 s (a.tmps.getD t undef)
  mem : ∃ (φ : Phi) (k : Nat), k ≤ ops.size ∧ (∀ j, j < ops.size → isO (p.d j) → (On listed j ↔ j < k)) ∧ Rh ρ φ (p.S k).hp w ∧ Step ro st.hp φ0 w0 (p.S k).hp φ w ∧
    ((∀ j, j < k → p.d j ≠ .W) → Step st.hp.length st.hp φ0 w0 (p.S k).hp φ w) ∧
    (∀ (j : Nat) o t, ops[j]? = some o → On listed j → o.dst = some t → t < st.tmps.length → Rv ρ φ (p.v j) (a.tmps.getD t undef))
  early : ∀ (j : Nat) o t, ops[j]? = some o → On listed j → (∀ i, i ≤ j → p.d i = .P ∨ p.d i = .Q) → o.dst = some t → t < st.tmps.length → Rv ρ φ0 (p.v j) (a.tmps.getD t undef)

theorem mem_binding {o : Oper} {j : Nat} : j ∈ binding o ↔ ∃ e ∈ o.after, Region.binds .any e = true ∧ e.on = j := by
  unfold binding
  simp only [List.mem_map, List.mem_filter]
  constructor
  · rintro ⟨e, ⟨h1, h2⟩, h3⟩; exact ⟨e, by simpa using h1, h2, h3⟩
  · rintro ⟨e, h1, h2, h3⟩; exact ⟨e, ⟨by simpa using h1, h2⟩, h3⟩

variable {φ0 : Phi} {w0 : World} {listed : Array Bool} {a : Act} {w : World}

/-- all that must come before is there -/
theorem before_on (hcl : ∀ (j : Nat) o, ops[j]? = some o → On listed j → ∀ e ∈ binding o, On listed e) : ∀ (j : Nat) o, ops[j]? = some o → (∀ e ∈ binding o, On listed e) → ∀ x ∈ p.B j, On listed x := by
  intro j
  induction j using Nat.strongRecOn with
  | _ j ih =>
    intro o ho hb x hx
    obtain ⟨y, hy, h⟩ := p.clo j o ho x hx
    rcases h with rfl | ⟨hlt, hxy⟩
    · exact hb _ hy
    · have hyb := p.bind j o ho y hy
      have hlt' : j < ops.size := (Array.getElem?_eq_some_iff.1 ho).1
      have hoy : ops[y]? = some ops[y] := Array.getElem?_eq_getElem (by omega)
      exact ih y hlt _ hoy (hcl y _ hoy (hb y hy)) x hxy

theorem pair_sure {i j : Nat} {oi oj : Oper} (hij : i < j) (hi : ops[i]? = some oi) (hj : ops[j]? = some oj) :
    (∀ t, oi.dst = some t → oj.dst ≠ some t) ∧ (i ∈ p.B j ∨ ((∀ t, oi.dst = some t → t ∉ looks ops.toList oj) ∧ (∀ t, oj.dst = some t → t ∉ looks ops.toList oi) ∧
      (p.d i = .P ∨ p.d j = .P ∨ (p.d i = .Q ∧ (p.d j = .Q ∨ p.d j = .A))))) := by
  have h := p.pair i j oi oj hij hi hj
  simp only [pairOk, Bool.and_eq_true, Bool.or_eq_true, Bool.not_eq_true'] at h
  obtain ⟨h1, h2⟩ := h
  refine ⟨fun t ht ht' => ?_, ?_⟩
  · rw [ht, ht'] at h1; simp [sameDst] at h1
  · rcases h2 with h2 | ⟨⟨h2, h3⟩, h4⟩
    · exact .inl (memN_iff.1 h2)
    · refine .inr ⟨fun t ht hm => ?_, fun t ht hm => ?_, ?_⟩
      · rw [ht] at h2; simp only [looksAt] at h2
        rw [memN_iff.2 hm] at h2; cases h2
      · rw [ht] at h3; simp only [looksAt] at h3
        rw [memN_iff.2 hm] at h3; cases h3
      · cases hdi : p.d i <;> cases hdj : p.d j <;> rw [hdi, hdj] at h4 <;> simp at h4 <;> simp

/-- an operation that may come up now finds in the slots that it looks at what it finds in the order of the text -/
theorem slot_ok (inv : Inv (ρ := ρ) p φ0 w0 listed a w) {i : Nat} {o : Oper} (hi : ops[i]? = some o) (hun : ¬ On listed i) (hb : ∀ e ∈ binding o, On listed e) {φ : Phi} {ψ : Phi} (hφ : φ = φ0 ++ ψ)
    (hv : ∀ (j : Nat) oj t, j < i → ops[j]? = some oj → On listed j → oj.dst = some t → t < st.tmps.length → Rv ρ φ (p.v j) (a.tmps.getD t undef)) {t : Nat} (ht : t ∈ looks ops.toList o) :
    Rv ρ φ (((p.S i).tmps[t]?).getD undefS) (a.tmps.getD t undef) := by
  have hlt : i < ops.size := (Array.getElem?_eq_some_iff.1 hi).1
  by_cases htl : t < st.tmps.length
  · rcases p.slot t htl i (by omega) with ⟨j, oj, h1, h2, h3, h4⟩ | ⟨h1, h2⟩
    · have hon : On listed j := by
        obtain ⟨_, h | ⟨h, _⟩⟩ := pair_sure p h1 h2 hi
        · exact before_on p inv.closed i o hi hb j h
        · exact (h t h3 ht).elim
      rw [h4]
      exact hv j oj t h1 h2 hon h3 htl
    · rw [h2]
      have hs : st.tmps[t]? = some st.tmps[t] := List.getElem?_eq_getElem htl
      rw [hs]
      have := inv.old t _ hs (fun j oj hoj hd hon => by
        rcases Nat.lt_trichotomy j i with hji | hji | hji
        · exact h1 j oj hji hoj hd
        · subst hji; exact hun hon
        · obtain ⟨_, h | ⟨_, h, _⟩⟩ := pair_sure p hji hi hoj
          · exact hun (before_on p inv.closed j oj hoj (inv.closed j oj hoj hon) i h)
          · exact h t hd ht)
      rw [hφ]
      exact this.mono ψ
  · have h1 : (p.S i).tmps[t]? = none := List.getElem?_eq_none (by rw [p.len i (by omega)]; omega)
    have h2 : a.tmps.getD t undef = undef := by
      have : a.tmps[t]? = none := Array.getElem?_eq_none (by rw [inv.tsize]; omega)
      simp [this]
    rw [h1, h2]
    exact undef_ok

theorem wanted_ok (inv : Inv (ρ := ρ) p φ0 w0 listed a w) {i : Nat} {o : Oper} (hi : ops[i]? = some o) (hun : ¬ On listed i) (hb : ∀ e ∈ binding o, On listed e) {φ : Phi} {ψ : Phi} (hφ : φ = φ0 ++ ψ)
    (hv : ∀ (j : Nat) oj t, j < i → ops[j]? = some oj → On listed j → oj.dst = some t → t < st.tmps.length → Rv ρ φ (p.v j) (a.tmps.getD t undef)) {b : Bool} (hw : wantedS ops.toList (p.S i).tmps o = some b) :
    Region.wanted o (yielded ops a.tmps) = b := by
  have hlt : i < ops.size := (Array.getElem?_eq_some_iff.1 hi).1
  -- slots that look as the text's, and are as long
  let a' : Array Value := ⟨(List.range a.tmps.size).map fun t => if t ∈ looks ops.toList o then a.tmps.getD t undef else undef⟩
  let T : List SVal := (List.range a.tmps.size).map fun t => if t ∈ looks ops.toList o then ((p.S i).tmps[t]?).getD undefS else undefS
  have hT : RvL ρ φ T a'.toList := by
    refine RvL.of_get (by simp [T, a']) fun t s v hs hvv => ?_
    simp only [T, a', List.getElem?_map] at hs hvv
    cases hr : (List.range a.tmps.size)[t]? with
    | none => rw [hr] at hs; cases hs
    | some t' =>
      have : t' = t := by
        obtain ⟨h1, h2⟩ := List.getElem?_eq_some_iff.1 hr
        simpa using h2.symm
      subst this
      rw [hr] at hs hvv
      simp only [Option.map_some, Option.some.injEq] at hs hvv
      subst hs; subst hvv
      split
      · rename_i hm; exact slot_ok p inv hi hun hb hφ hv hm
      · exact undef_ok
  have hTl : ∀ t, t ∈ looks ops.toList o → T[t]? = (p.S i).tmps[t]? := by
    intro t ht
    have hl := p.len i (by omega)
    have hs := inv.tsize
    by_cases htl : t < a.tmps.size
    · simp only [T, List.getElem?_map, List.getElem?_range htl, Option.map_some, if_pos ht]
      have h1 : t < (p.S i).tmps.length := by rw [hl, ← hs]; exact htl
      rw [List.getElem?_eq_getElem h1]; rfl
    · have h1 : (p.S i).tmps.length ≤ t := by rw [hl, ← hs]; exact Nat.le_of_not_lt htl
      have h2 : T.length ≤ t := by simp only [T, List.length_map, List.length_range]; exact Nat.le_of_not_lt htl
      rw [List.getElem?_eq_none h1, List.getElem?_eq_none h2]
  have ha : ∀ t, t ∈ looks ops.toList o → a'[t]? = a.tmps[t]? := by
    intro t ht
    by_cases htl : t < a.tmps.size
    · simp [a', htl, ht]
    · have h1 : a.tmps.size ≤ t := Nat.le_of_not_lt htl
      have h2 : a'.size ≤ t := by simp only [a', List.size_toArray, List.length_map, List.length_range]; exact h1
      rw [Array.getElem?_eq_none h1, Array.getElem?_eq_none h2]
  have hg : ∀ g want d, o.guard = some (g, want) → (nth ops.toList g).bind (·.dst) = some d → d ∈ looks ops.toList o := by
    intro g want d h1 h2
    unfold looks
    rw [h1]
    simp [h2]
  have hw' : wantedS ops.toList T o = some b := by
    rw [← hw]
    unfold wantedS
    cases hgd : o.guard with
    | none => rfl
    | some gw =>
      obtain ⟨g, want⟩ := gw
      simp only [yieldedS]
      cases hd : (nth ops.toList g).bind (·.dst) with
      | none => rfl
      | some d =>
        simp only [nth_eq, hTl d (hg g want d hgd hd)]
  have := wantedS_ok (ops := ops) hT hw'
  rw [← this]
  unfold Region.wanted
  cases hgd : o.guard with
  | none => rfl
  | some gw =>
    obtain ⟨g, want⟩ := gw
    simp only
    unfold yielded
    cases hd : (ops[g]?).bind (·.dst) with
    | none => rfl
    | some d =>
      have hd' : (nth ops.toList g).bind (·.dst) = some d := by rw [nth_eq]; simpa using hd
      simp only [Option.bind_some]
      rw [ha d (hg g want d hgd hd')]

theorem eval_ok (inv : Inv (ρ := ρ) p φ0 w0 listed a w) {i : Nat} {o : Oper} (hi : ops[i]? = some o) (hun : ¬ On listed i) (hb : ∀ e ∈ binding o, On listed e) {φ : Phi} {ψ : Phi} (hφ : φ = φ0 ++ ψ)
    (hv : ∀ (j : Nat) oj t, j < i → ops[j]? = some oj → On listed j → oj.dst = some t → t < st.tmps.length → Rv ρ φ (p.v j) (a.tmps.getD t undef)) :
    ∀ x ∈ o.op.operands, ∀ s, evT (p.S i).tmps x = some s → Rv ρ φ s (a.eval x) := by
  intro x hx s hs
  cases x with
  | tmp t =>
    cases hs
    rw [nth_eq]
    refine slot_ok p inv hi hun hb hφ hv ?_
    unfold looks
    refine List.mem_append.2 (.inl ?_)
    exact List.mem_filterMap.2 ⟨.tmp t, by simpa using hx, rfl⟩
  | const v => exact ofValue_ok hs
  | global g => cases hs
  | func f => cases hs; exact ⟨[], [], rfl, rfl, rfl⟩

end
end Go.Sx
