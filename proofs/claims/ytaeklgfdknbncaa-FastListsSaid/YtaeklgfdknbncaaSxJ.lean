/-
  Every order of a region gives what the text's order gives; the evaluator is sound: calls_ok. Conditions: none beside the hypotheses of each theorem.
-/
import Derived.Test.YtaeklgfdknbncaaSxI
namespace Go.Sx
section
variable {Γ : Env} {run : Run} {ro : Nat} {ops : Array Oper} {st st' : St} {ρ : Val}
variable (p : Plan Γ run ro ops st st')
variable {φ0 : Phi} {w0 : World} {listed : Array Bool} {a : Act} {w : World}

theorem on_set {i j : Nat} (hi : i < listed.size) : On (listed.setIfInBounds i true) j ↔ j = i ∨ On listed j := by
  unfold On
  by_cases h : j = i
  · subst h; simp [hi]
  · simp only [h, false_or]
    have : (listed.setIfInBounds i true)[j]? = listed[j]? := by
      rw [Array.getElem?_setIfInBounds]
      rw [if_neg (fun e => h e.symm)]
    simp [Array.getD_eq_getD_getElem?, this]

theorem getD_put (a : Act) (d : Option Tmp) (v : Value) (t : Nat) : (a.put d v).tmps.getD t undef = if d = some t ∧ t < a.tmps.size then v else a.tmps.getD t undef := by
  cases d with
  | none => simp [Act.put]
  | some d =>
    simp only [Act.put, Array.getD_eq_getD_getElem?, Array.getElem?_setIfInBounds, Option.some.injEq]
    by_cases h : d = t
    · subst h
      by_cases h2 : d < a.tmps.size <;> simp [h2]
    · simp [h]

theorem inv_next (inv : Inv (ρ := ρ) p φ0 w0 listed a w) {i : Nat} {o : Oper} (hi : ops[i]? = some o) (hun : ¬ On listed i) (hb : ∀ e ∈ binding o, On listed e) {val : Value} {w' : World} {φ' : Phi}
    (hv : Rv ρ φ' (p.v i) val) (he : (∀ j, j ≤ i → p.d j = .P ∨ p.d j = .Q) → Rv ρ φ0 (p.v i) val)
    (hold : ∀ (j : Nat) oj t, ops[j]? = some oj → On listed j → oj.dst = some t → t < st.tmps.length → Rv ρ φ' (p.v j) (a.tmps.getD t undef))
    (hmem : ∃ k, k ≤ ops.size ∧ (∀ j, j < ops.size → isO (p.d j) → (j = i ∨ On listed j ↔ j < k)) ∧ Rh ρ φ' (p.S k).hp w' ∧ Step ro st.hp φ0 w0 (p.S k).hp φ' w' ∧
      ((∀ j, j < k → p.d j ≠ .W) → Step st.hp.length st.hp φ0 w0 (p.S k).hp φ' w')) :
    Inv (ρ := ρ) p φ0 w0 (listed.setIfInBounds i true) (a.put o.dst val) w' := by
  have hlt : i < ops.size := (Array.getElem?_eq_some_iff.1 hi).1
  have hil : i < listed.size := by rw [inv.size]; exact hlt
  have hon : ∀ j, On (listed.setIfInBounds i true) j ↔ j = i ∨ On listed j := fun j => on_set hil
  have hne : ∀ (j : Nat) oj t, ops[j]? = some oj → j ≠ i → oj.dst = some t → o.dst ≠ some t := by
    intro j oj t hj hji hd hd'
    rcases Nat.lt_or_gt_of_ne hji with h | h
    · exact (pair_sure p h hj hi).1 t hd hd'
    · exact (pair_sure p h hi hj).1 t hd' hd
  obtain ⟨k, k1, k2, k3, k4, k5⟩ := hmem
  refine ⟨by simp [inv.size], ?_, by rw [put_defers]; exact inv.defers, ?_, ?_, ⟨φ', k, k1, ?_, k3, k4, k5, ?_⟩, ?_⟩
  · intro j oj hj hjon e hee
    rw [hon] at hjon ⊢
    rcases hjon with rfl | hjon
    · have : oj = o := Option.some.inj (hj.symm.trans hi)
      subst this
      exact .inr (hb e hee)
    · exact .inr (inv.closed j oj hj hjon e hee)
  · cases hd : o.dst <;> simp [Act.put, inv.tsize]
  · intro t s hs hnone
    have hnd : o.dst ≠ some t := fun hd => hnone i o hi hd ((hon i).2 (.inl rfl))
    rw [getD_put, if_neg (fun h => hnd h.1)]
    exact inv.old t s hs fun j oj hj hd hjon => hnone j oj hj hd ((hon j).2 (.inr hjon))
  · intro j hj hO
    rw [hon]; exact k2 j hj hO
  · intro j oj t hj hjon hd ht
    rw [hon] at hjon
    by_cases hji : j = i
    · subst hji
      have : oj = o := Option.some.inj (hj.symm.trans hi)
      subst this
      rw [getD_put, if_pos ⟨hd, by rw [inv.tsize]; exact ht⟩]
      exact hv
    · rw [getD_put, if_neg (fun h => hne j oj t hj hji hd h.1)]
      exact hold j oj t hj (hjon.resolve_left hji) hd ht
  · intro j oj t hj hjon hearly hd ht
    rw [hon] at hjon
    by_cases hji : j = i
    · subst hji
      have : oj = o := Option.some.inj (hj.symm.trans hi)
      subst this
      rw [getD_put, if_pos ⟨hd, by rw [inv.tsize]; exact ht⟩]
      exact he hearly
    · rw [getD_put, if_neg (fun h => hne j oj t hj hji hd h.1)]
      exact inv.early j oj t hj (hjon.resolve_left hji) hearly hd ht

theorem Step.still {ro n : Nat} {hp hq : Hp} {φ φ1 : Phi} {w w' : World} (h : Step n hp φ w hp φ w') (hn : n = hp.length) : Step ro hq φ1 w hq φ1 w' :=
  ⟨h.os, h.tape, h.output, h.size, ⟨[], by simp⟩, fun i o ho => ⟨o, ho, rfl⟩, fun _ _ _ => rfl, fun b hb _ => h.block b hb fun i o _ _ _ ho _ => by
    rw [hn]; exact (List.getElem?_eq_some_iff.1 ho).1⟩

theorem Rh.still {n : Nat} {hp hq : Hp} {φ φ1 : Phi} {w w' : World} (h : Step n hp φ w hp φ w') (hn : n = hp.length) (hR : Rh ρ φ1 hq w) : Rh ρ φ1 hq w' :=
  ⟨hR.len, fun b hb => Nat.lt_of_lt_of_le (hR.lt b hb) h.size, hR.uniq, fun i o b hi hb => by
    refine (hR.obj i o b hi hb).same (h.block b.1 (hR.lt b (List.mem_of_getElem? hb)) fun j o' _ _ _ ho' _ => ?_)
    rw [hn]; exact (List.getElem?_eq_some_iff.1 ho').1⟩

theorem step_one (hΓ : EnvOk Γ ρ) (hrun : RunOk Γ ρ run) (hR0 : Rh ρ φ0 st.hp w0) (inv : Inv (ρ := ρ) p φ0 w0 listed a w) {i : Nat} (hr : i ∈ Region.ready .any ops listed) {K : Act → World → Prop} {Q : Exit → Act → World → Prop}
    (hK : ∀ a' w', Inv (ρ := ρ) p φ0 w0 (listed.setIfInBounds i true) a' w' → K a' w') : wpOp Γ.P ops Q i K a w := by
  obtain ⟨hunl, o, hi, hall⟩ := mem_ready.1 hr
  have hlt : i < ops.size := (Array.getElem?_eq_some_iff.1 hi).1
  have hun : ¬ On listed i := by
    unfold On
    intro h
    have : i < listed.size := by rw [inv.size]; exact hlt
    simp [this] at h hunl
    rw [h] at hunl; cases hunl
  have hb : ∀ e ∈ binding o, On listed e := by
    intro e he
    obtain ⟨x, h1, h2, h3⟩ := mem_binding.1 he
    rw [← h3]; exact hall x h1 h2
  obtain ⟨φ, k, k1, k2, k3, k4, k5, k6⟩ := inv.mem
  obtain ⟨ψ, hφ, _⟩ := k4.pre
  have hlenS : st.hp.length = φ0.length := hR0.len
  -- what is there of an operation's slots
  have hvφ : ∀ (j : Nat) oj t, j < i → ops[j]? = some oj → On listed j → oj.dst = some t → t < st.tmps.length → Rv ρ φ (p.v j) (a.tmps.getD t undef) := fun j oj t _ h1 h2 h3 h4 => k6 j oj t h1 h2 h3 h4
  have hv0 : (∀ j, j < i → p.d j = .P ∨ p.d j = .Q) → ∀ (j : Nat) oj t, j < i → ops[j]? = some oj → On listed j → oj.dst = some t → t < st.tmps.length → Rv ρ φ0 (p.v j) (a.tmps.getD t undef) :=
    fun h j oj t hj h1 h2 h3 h4 => inv.early j oj t h1 h2 (fun l hl => h l (by omega)) h3 h4
  have hw : ∀ b, wantedS ops.toList (p.S i).tmps o = some b → Region.wanted o (yielded ops a.tmps) = b := fun b hb' => wanted_ok p inv hi hun hb hφ hvφ hb'
  -- memory stays: an operation that is no O
  have hkeep : ¬ isO (p.d i) → ∀ w', Step st.hp.length st.hp φ0 w st.hp φ0 w' ∨ w' = w → ∃ k, k ≤ ops.size ∧ (∀ j, j < ops.size → isO (p.d j) → (j = i ∨ On listed j ↔ j < k)) ∧ Rh ρ φ (p.S k).hp w' ∧ Step ro st.hp φ0 w0 (p.S k).hp φ w' ∧
      ((∀ j, j < k → p.d j ≠ .W) → Step st.hp.length st.hp φ0 w0 (p.S k).hp φ w') := by
    intro hnO w' hw'
    refine ⟨k, k1, fun j hj hO => ?_, ?_⟩
    · have hji : j ≠ i := by rintro rfl; exact hnO hO
      simp only [hji, false_or]
      exact k2 j hj hO
    · rcases hw' with hw' | rfl
      · have hst : ∀ n, Step n (p.S k).hp φ w (p.S k).hp φ w' := fun n => Step.still hw' rfl
        exact ⟨Rh.still hw' rfl k3, k4.trans hlenS (hst _), fun h => (k5 h).trans hlenS (hst _)⟩
      · exact ⟨k3, k4, k5⟩
  unfold wpOp
  rw [hi]
  simp only
  rcases p.one i o hi with ⟨hwt, hp', hop, hS⟩ | ⟨hwf, hvu, hc, hS⟩
  · rw [if_pos (hw true hwt)]
    refine .inl ?_
    cases hd : p.d i with
    | P =>
      have hc := p.dP i hlt hd
      rw [hc] at hop
      obtain ⟨hpv, _⟩ := (operV_cls hop).1 rfl
      obtain ⟨val, hval, hs⟩ := pure_ok hΓ.ctx hpv (eval_ok p inv hi hun hb hφ hvφ) w
      have hs0 : (∀ j, j ≤ i → p.d j = .P ∨ p.d j = .Q) → Rv ρ φ0 (p.v i) val := by
        intro hearly
        obtain ⟨val0, hval0, hs0⟩ := pure_ok hΓ.ctx hpv (eval_ok p inv hi hun hb (ψ := []) (by simp) (hv0 fun j hj => hearly j (by omega))) w
        rw [hval] at hval0
        cases hval0
        exact hs0
      unfold Oper.wp
      rw [hval]
      exact hK _ _ (inv_next p inv hi hun hb hs hs0 k6 (hkeep (by rw [hd]; simp [isO]) w (.inr rfl)))
    | Q =>
      obtain ⟨hc, hearly⟩ := p.dQ i hlt hd
      rw [hc] at hop
      have hearly' : ∀ j, j ≤ i → p.d j = .P ∨ p.d j = .Q := by
        intro j hj
        rcases Nat.lt_or_ge j i with h | h
        · exact hearly j h
        · have : j = i := by omega
          rw [this]; exact .inr hd
      have hhp : (p.S i).hp = st.hp := by
        rw [p.hpSame 0 i (by omega) (by omega) (fun j _ h => hearly j h), p.first]
      rw [hhp] at hop
      have hnoW : ∀ j, j < k → p.d j ≠ .W := by
        intro j hj hW
        have hjn : j < ops.size := by omega
        have hon : On listed j := (k2 j hjn (.inr hW)).2 hj
        have hij : i < j := by
          rcases Nat.lt_trichotomy i j with h | h | h
          · exact h
          · rw [← h, hd] at hW; cases hW
          · rcases hearly j h with h' | h' <;> rw [hW] at h' <;> cases h'
        have hoj : ops[j]? = some ops[j] := Array.getElem?_eq_getElem hjn
        obtain ⟨_, h | ⟨_, _, h⟩⟩ := pair_sure p hij hi hoj
        · exact hun (before_on p inv.closed j _ hoj (inv.closed j _ hoj hon) i h)
        · rw [hd, hW] at h; simp at h
      have hR : Rh ρ φ0 st.hp w := hR0.keep (k5 hnoW)
      refine oper_wp hΓ hrun hop (eval_ok p inv hi hun hb (ψ := []) (by simp) (hv0 hearly)) hR ?_
      rintro val w' φ' h1 h2 h3 ⟨rfl, _, h5⟩
      exact hK _ _ (inv_next p inv hi hun hb (by rw [hφ]; exact h1.mono ψ) (fun _ => h1) k6 (hkeep (by rw [hd]; simp [isO]) w' (.inl h5)))
    | _ =>
      have hO : isO (p.d i) := by rw [hd]; simp [isO]
      have hbefore : ∀ j, j < i → isO (p.d j) → On listed j := by
        intro j hj hOj
        have hoj : ops[j]? = some ops[j] := Array.getElem?_eq_getElem (by omega)
        obtain ⟨_, h | ⟨_, _, h⟩⟩ := pair_sure p hj hoj hi
        · exact before_on p inv.closed i o hi hb j h
        · rcases hOj with hOj | hOj <;> rw [hd, hOj] at h <;> simp at h
      have hbehind : ∀ j, i < j → j < ops.size → isO (p.d j) → ¬ On listed j := by
        intro j hj hjn hOj hon
        have hoj : ops[j]? = some ops[j] := Array.getElem?_eq_getElem hjn
        obtain ⟨_, h | ⟨_, _, h⟩⟩ := pair_sure p hj hi hoj
        · exact hun (before_on p inv.closed j _ hoj (inv.closed j _ hoj hon) i h)
        · rcases hOj with hOj | hOj <;> rw [hd, hOj] at h <;> simp at h
      have hnot : ∀ c, ¬ isO c → c = .P ∨ c = .Q := fun c h => by cases c <;> simp [isO] at h <;> simp
      have hhp : (p.S k).hp = (p.S i).hp := by
        rcases Nat.le_total i k with h | h
        · refine p.hpSame i k h k1 fun j h1 h2 => hnot _ fun hOj => ?_
          have hjn : j < ops.size := by omega
          have := (k2 j hjn hOj).2 h2
          rcases Nat.lt_or_eq_of_le h1 with h3 | h3
          · exact hbehind j h3 hjn hOj this
          · rw [← h3] at this; exact hun this
        · refine (p.hpSame k i h (by omega) fun j h1 h2 => hnot _ fun hOj => ?_).symm
          have := (k2 j (by omega) hOj).1 (hbefore j h2 hOj)
          omega
      rw [hhp] at k3 k4 k5
      refine oper_wp hΓ hrun hop (eval_ok p inv hi hun hb hφ hvφ) k3 ?_
      rintro val w' φ' h1 h2 h3 h4
      obtain ⟨χ, hχ, _⟩ := h3.pre
      have hSi : (p.S (i + 1)).hp = hp' := by rw [hS]
      refine hK _ _ (inv_next p inv hi hun hb h1 (fun hearly => ?_) (fun j oj t g1 g2 g3 g4 => by rw [hχ]; exact (k6 j oj t g1 g2 g3 g4).mono χ) ⟨i + 1, by omega, ?_, by rw [hSi]; exact h2, by rw [hSi]; exact k4.trans hlenS h3, fun hA => ?_⟩)
      · have := hearly i (Nat.le_refl _)
        rw [hd] at this; simp at this
      · intro j hj hOj
        constructor
        · rintro (h | h)
          · omega
          · rcases Nat.lt_or_ge i j with h' | h'
            · exact (hbehind j h' hj hOj h).elim
            · omega
        · intro h
          rcases Nat.lt_or_eq_of_le (Nat.le_of_lt_succ h) with h' | h'
          · exact .inr (hbefore j h' hOj)
          · exact .inl h'
      · rw [hSi]
        have hdi : p.d i = .A := by
          rcases hO with h | h
          · exact h
          · exact (hA i (by omega) h).elim
        have hc := p.dA i hlt hdi
        rw [hc] at h4
        have h5 := k5 fun j hj => ?_
        · exact h5.trans hlenS (Step.weaken h4 (.inr (Nat.le_refl _)))
        · rcases Nat.lt_or_ge j i with h' | h'
          · exact hA j (by omega)
          · rcases Nat.lt_or_eq_of_le h' with h'' | h''
            · intro hW
              have hjn : j < ops.size := by omega
              exact hbehind j h'' hjn (.inr hW) ((k2 j hjn (.inr hW)).2 hj)
            · rw [← h'', hdi]; simp
  · rw [if_neg (by rw [hw false hwf]; exact Bool.false_ne_true)]
    have hv : ∀ φ, Rv ρ φ (p.v i) undef := fun φ => by rw [hvu]; exact undef_ok
    have hO : ¬ isO (p.d i) := by rw [p.cP i hlt hc]; simp [isO]
    exact hK _ _ (inv_next p inv hi hun hb (hv φ) (fun _ => hv φ0) k6 (hkeep hO w (.inr rfl)))

theorem any_ok (hΓ : EnvOk Γ ρ) (hrun : RunOk Γ ρ run) (hR0 : Rh ρ φ0 st.hp w0) {Q : Exit → Act → World → Prop}
    (hQ : ∀ a' w' φ', RvL ρ φ' st'.tmps a'.tmps.toList → Rh ρ φ' st'.hp w' → a'.defers = [] → Step ro st.hp φ0 w0 st'.hp φ' w' → Q .normal a' w') :
    ∀ (f : Nat) (listed : Array Bool) (a : Act) (w : World), (∃ U : List Nat, U.length ≤ f ∧ ∀ j, j < ops.size → ¬ On listed j → j ∈ U) → Inv (ρ := ρ) p φ0 w0 listed a w → wpAny Γ.P .any ops Q f listed a w := by
  have hend : ∀ (listed : Array Bool) (a : Act) (w : World), Region.ready .any ops listed = [] → Inv (ρ := ρ) p φ0 w0 listed a w → Q .normal a w := by
    intro listed a w hr inv
    have hall : ∀ j, j < ops.size → On listed j := by
      intro j
      induction j using Nat.strongRecOn with
      | _ j ih =>
        intro hj
        refine Classical.byContradiction fun hno => ?_
        have hoj : ops[j]? = some ops[j] := Array.getElem?_eq_getElem hj
        have : j ∈ Region.ready .any ops listed := by
          refine mem_ready.2 ⟨?_, ops[j], hoj, fun e he hbd => ?_⟩
          · have hjl : j < listed.size := by rw [inv.size]; exact hj
            unfold On at hno
            simp [hjl] at hno ⊢
            exact hno
          · have := p.bind j _ hoj e.on (mem_binding.2 ⟨e, he, hbd, rfl⟩)
            exact ih e.on this (by omega)
        rw [hr] at this; cases this
    obtain ⟨φ, k, k1, k2, k3, k4, _, k6⟩ := inv.mem
    obtain ⟨ψ, hφ, _⟩ := k4.pre
    have hhp : (p.S k).hp = st'.hp := by
      have e := p.hpSame k ops.size k1 (Nat.le_refl _) fun j h1 h2 => by
        have : ¬ isO (p.d j) := fun hO => by
          have := (k2 j h2 hO).1 (hall j h2)
          omega
        cases hd : p.d j <;> rw [hd] at this <;> simp [isO] at this <;> simp
      rw [p.last] at e
      exact e.symm
    rw [hhp] at k3 k4
    refine hQ a w φ ?_ k3 inv.defers k4
    have hlen := p.len ops.size (Nat.le_refl _)
    rw [p.last] at hlen
    refine RvL.of_get (by have := inv.tsize; simp; omega) fun t s v hs hv => ?_
    have htl : t < st.tmps.length := by
      have := (List.getElem?_eq_some_iff.1 hs).1
      omega
    have hav : a.tmps.getD t undef = v := by
      have : a.tmps[t]? = some v := by simpa using hv
      simp [this]
    rcases p.slot t htl ops.size (Nat.le_refl _) with ⟨j, oj, h1, h2, h3, h4⟩ | ⟨h1, h2⟩
    · rw [p.last, hs] at h4
      cases h4
      rw [← hav]
      exact k6 j oj t h2 (hall j h1) h3 htl
    · rw [p.last, hs] at h2
      rw [← hav, hφ]
      exact (inv.old t s h2.symm fun j oj hj hd _ => h1 j oj (Array.getElem?_eq_some_iff.1 hj).1 hj hd).mono ψ
  intro f
  induction f with
  | zero =>
    rintro listed a w ⟨U, hU, hmem⟩ inv
    have hr : Region.ready .any ops listed = [] := by
      cases hr : Region.ready .any ops listed with
      | nil => rfl
      | cons i l =>
        have hi : i ∈ Region.ready .any ops listed := by rw [hr]; simp
        obtain ⟨hun, o, ho, _⟩ := mem_ready.1 hi
        have hlt : i < ops.size := (Array.getElem?_eq_some_iff.1 ho).1
        have : i ∈ U := hmem i hlt fun h => by
          have hil : i < listed.size := by rw [inv.size]; exact hlt
          unfold On at h
          simp [hil] at h hun
          rw [h] at hun; cases hun
        have : U = [] := List.eq_nil_of_length_eq_zero (by omega)
        subst this
        simp at *
    exact ⟨hr, hend listed a w hr inv⟩
  | succ f ih =>
    rintro listed a w ⟨U, hU, hmem⟩ inv
    refine ⟨fun hr => hend listed a w hr inv, fun i hi => ?_⟩
    refine step_one p hΓ hrun hR0 inv hi fun a' w' inv' => ih _ _ _ ⟨U.erase i, ?_, ?_⟩ inv'
    · obtain ⟨hun, o, ho, _⟩ := mem_ready.1 hi
      have hlt : i < ops.size := (Array.getElem?_eq_some_iff.1 ho).1
      have : i ∈ U := hmem i hlt fun h => by
        have hil : i < listed.size := by rw [inv.size]; exact hlt
        unfold On at h
        simp [hil] at h hun
        rw [h] at hun; cases hun
      rw [List.length_erase_of_mem this]
      omega
    · intro j hj hno
      obtain ⟨hun, o, ho, _⟩ := mem_ready.1 hi
      have hlt : i < ops.size := (Array.getElem?_eq_some_iff.1 ho).1
      have hil : i < listed.size := by rw [inv.size]; exact hlt
      rw [on_set hil] at hno
      have hji : j ≠ i := fun h => hno (.inl h)
      exact (List.mem_erase_of_ne hji).2 (hmem j hj fun h => hno (.inr h))

theorem draw_ok (hΓ : EnvOk Γ ρ) (run : Run) (hrun : RunOk Γ ρ run) : DrawOk Γ ρ run := by
  intro id ops ro st st' cs h ho φ a w h1 h2 h3
  obtain ⟨p⟩ := plan_of h ho
  refine wp_region_any hΓ.mixed ?_
  have hR : Rh ρ φ st.hp { w with drawn := w.drawn + 1 } := ⟨h2.len, h2.lt, h2.uniq, fun i o b hi hb => (h2.obj i o b hi hb).same rfl⟩
  have hS0 : (p.S 0).hp = st.hp := by rw [p.first]
  refine any_ok p (φ0 := φ) (w0 := { w with drawn := w.drawn + 1 }) hΓ hrun hR ?_ ops.size _ a _ ⟨List.range ops.size, by simp, fun j hj _ => List.mem_range.2 hj⟩ ?_
  · intro a' w' φ' k1 k2 k3 k4
    exact ⟨trivial, k3, φ', k1, k2, ⟨k4.os, k4.tape, k4.output, k4.size, k4.pre, k4.rw, k4.low, k4.block⟩⟩
  · have hoff : ∀ j, ¬ On (Array.replicate ops.size false) j := by
      intro j h
      unfold On at h
      by_cases hj : j < ops.size <;> simp [hj] at h
    refine ⟨by simp, fun j o _ h => (hoff j h).elim, h3, by have := h1.length; simpa using this, ?_, ?_, fun j o t _ h => (hoff j h).elim⟩
    · intro t s hs _
      obtain ⟨v, hv, hr⟩ := h1.get hs
      have : a.tmps[t]? = some v := by simpa using hv
      simpa [this] using hr
    · refine ⟨φ, 0, Nat.zero_le _, fun j _ _ => ⟨fun h => (hoff j h).elim, fun h => by omega⟩, by rw [hS0]; exact hR, by rw [hS0]; exact Step.refl .., fun _ => by rw [hS0]; exact Step.refl .., fun j o t _ h => (hoff j h).elim⟩

/-- **What the evaluator finds, the machine does.** -/
theorem sound (hΓ : EnvOk Γ ρ) (n : Nat) : RunOk Γ ρ (runV Γ n) := (run_ok hΓ (fun run h => draw_ok hΓ run h) n).1

theorem calls_ok (hΓ : EnvOk Γ ρ) (n : Nat) {ro : Nat} {hp hp' : Hp} {f : Nat} {args : List SVal} {v : SVal} {c : Cls} (h : callV Γ (runV Γ n) ro hp f args = some (v, hp', c))
    {φ : Phi} {vs : List Value} {w : World} (hargs : RvL ρ φ args vs) (hR : Rh ρ φ hp w) :
    Calls Γ.P f ⟨vs⟩ w fun e w' => ∃ val φ', e = .returned val ∧ Rv ρ φ' v val ∧ Rh ρ φ' hp' w' ∧ Step ro hp φ w hp' φ' w' ∧ ClsOk c hp φ w hp' φ' w' :=
  (callV_ok hΓ (sound hΓ n) h hargs hR).2

end
end Go.Sx
