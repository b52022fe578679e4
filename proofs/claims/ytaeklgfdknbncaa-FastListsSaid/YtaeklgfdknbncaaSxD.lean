/-
  Reading operands, parts and builds of aggregates: what the evaluator gives is what the model gives. Conditions: none beside the hypotheses of each theorem.
-/
import Derived.Test.YtaeklgfdknbncaaSxC
namespace Go.Sx
section
variable {Γ : Ctx} {ρ : Val} {φ : Phi} {ev : Ev} {ec : Operand → Value}

theorem evals_ok : ∀ {l : List Operand} {ss : List SVal}, (∀ x ∈ l, ∀ s, ev x = some s → Rv ρ φ s (ec x)) → evals ev l = some ss → RvL ρ φ ss (l.map ec)
  | [], _, _, h => by cases h; rfl
  | x :: l, ss, hev, h => by
    simp only [evals] at h
    split at h
    · rename_i s r hs hr
      cases h
      exact ⟨_, _, rfl, hev x (by simp) s hs, evals_ok (fun y hy => hev y (by simp [hy])) hr⟩
    · cases h

theorem info_size {P : Program} {t : TypeId} {i : TypeInfo} (h : P.info? t = some i) (w : World) : (sizeOf t).run P w = .ok i.size w := by
  simp [sizeOf, typeInfo, h]

theorem run_isAgg {P : Program} {t : TypeId} {d : TypeDesc} (h : P.underlying t = some d) (w : World) : (isAgg t).run P w = .ok (isAggD d) w := by
  simp only [isAgg, Sem.run_bind, run_underlying h, Result.andThen_ok]
  cases d <;> rfl

theorem readN_ok {cs r : List SVal} {off n : Nat} (h : readN cs off n = some r) : r = (cs.drop off).take n ∧ r.length = n := by
  unfold readN at h
  simp only at h
  split at h
  · rename_i hl; cases h; exact ⟨rfl, hl⟩
  · cases h

theorem partV_ok {t : TypeId} {cs : List SVal} {off : Nat} {s : SVal} {vs : List Value} (h : partV Γ t cs off = some s) (hl : RvL ρ φ cs vs) (w : World) :
    ∃ v, (part t ⟨vs⟩ off).run Γ.P w = .ok v w ∧ Rv ρ φ s v := by
  unfold partV at h
  split at h
  · rename_i d ti hd hi
    unfold part
    simp only [Sem.run_bind, run_isAgg hd, Result.andThen_ok]
    split at h
    · rename_i hagg
      cases hr : readN cs off ti.size with
      | none => rw [hr] at h; cases h
      | some r =>
        rw [hr] at h; cases h
        obtain ⟨e, hlen⟩ := readN_ok hr
        simp only [hagg, if_true, Sem.run_bind, info_size hi, Result.andThen_ok, Sem.run_pure]
        refine ⟨_, rfl, (vs.drop off).take ti.size, ?_, ?_⟩
        · congr 1
          simp
        · rw [e]; exact (hl.drop off).take _
    · rename_i hagg
      rw [nth_eq] at h
      obtain ⟨v, hv, hs⟩ := hl.get h
      simp only [hagg]
      refine ⟨v, ?_, hs⟩
      simp [hv]
  · cases h

theorem litNat_ok {e : E} {n : Nat} (h : litNat e = some n) : e.den ρ = n := by
  unfold litNat at h
  split at h
  · cases h; rfl
  · cases h

theorem zeroV_ok {t : TypeId} {s : SVal} (h : zeroV Γ t = some s) (w : World) : ∃ v, (zeroValue t).run Γ.P w = .ok v w ∧ Rv ρ φ s v := by
  unfold zeroV at h
  split at h
  · rename_i ti hi
    split at h
    · rename_i z hz
      exact ⟨z, by simp [zeroValue, typeInfo, hi, hz], ofValue_ok h⟩
    · cases h
  · cases h

theorem writeN_len (cs : List SVal) (off : Nat) (vs : List SVal) (h : off + vs.length ≤ cs.length) : (writeN cs off vs).length = cs.length := by
  simp [writeN]; omega

theorem writeN_ok {cs vs : List SVal} {xs ys : List Value} {off : Nat} (h : RvL ρ φ cs xs) (k : RvL ρ φ vs ys) :
    RvL ρ φ (writeN cs off vs) (xs.take off ++ (ys ++ xs.drop (off + vs.length))) :=
  (h.take off).append (k.append (h.drop _))

/-! ### build -/
theorem foldl_set_eq (off : Nat) : ∀ (ys : List Value) (xs : List Value) (k : Nat), off + k + ys.length ≤ xs.length →
    ((ys.zipIdx k).foldl (fun (cs : Array Value) (p : Value × Nat) => cs.setIfInBounds (off + p.2) p.1) ⟨xs⟩) = ⟨xs.take (off + k) ++ (ys ++ xs.drop (off + k + ys.length))⟩
  | [], xs, k, _ => by simp
  | y :: ys, xs, k, h => by
    simp only [List.zipIdx_cons, List.foldl_cons]
    have e : (⟨xs⟩ : Array Value).setIfInBounds (off + k) y = ⟨xs.set (off + k) y⟩ := by simp
    rw [e, foldl_set_eq off ys _ (k + 1) (by simp at h ⊢; omega)]
    congr 1
    apply List.ext_getElem?
    intro i
    have hlen : (off + k) < xs.length := by simp at h; omega
    simp only [List.getElem?_append, List.length_take, List.length_set, List.getElem?_take, List.getElem?_set, List.getElem?_drop, List.length_cons]
    simp only [List.length_cons] at h
    rcases Nat.lt_trichotomy i (off + k) with hi | hi | hi
    · have h1 : i < min (off + (k + 1)) xs.length := by omega
      have h2 : i < min (off + k) xs.length := by omega
      have h3 : i < off + (k + 1) := by omega
      have h4 : ¬ off + k = i := by omega
      simp [h1, h2, h3, h4, hi]
    · subst hi
      have h1 : off + k < min (off + (k + 1)) xs.length := by omega
      have h2 : ¬ off + k < min (off + k) xs.length := by omega
      have h3 : off + k < off + (k + 1) := by omega
      have h5 : off + k - min (off + k) xs.length = 0 := by omega
      simp [h1, h2, h3, hlen, h5]
    · have h1 : ¬ i < min (off + (k + 1)) xs.length := by omega
      have h2 : ¬ i < min (off + k) xs.length := by omega
      have h6 : i - min (off + (k + 1)) xs.length = i - (off + k + 1) := by omega
      have h7 : i - min (off + k) xs.length = (i - (off + k + 1)) + 1 := by omega
      simp only [h1, h2, if_false, h6, h7, List.getElem?_cons_succ, Nat.add_lt_add_iff_right]
      split
      · rfl
      · rename_i h8
        have h9 : ¬ off + k = off + (k + 1) + ys.length + (i - (off + k + 1) - ys.length) := by omega
        simp only [h9, if_false]
        congr 1; omega

theorem fillV_ok {pl : Nat → Option (Nat × Nat)} {pc : Nat → Option (Nat × Nat)} (hp : ∀ i r, pl i = some r → pc i = some r) : ∀ {ps : List (Nat × SVal)} {qs : List (Nat × Value)} {cells r : List SVal} {xs : List Value},
    ps.map (·.1) = qs.map (·.1) → RvL ρ φ (ps.map (·.2)) (qs.map (·.2)) → RvL ρ φ cells xs → fillV pl cells ps = some r → ∃ ys, Instr.fill pc ⟨xs⟩ qs = some ⟨ys⟩ ∧ RvL ρ φ r ys
  | [], qs, cells, r, xs, h1, h2, h3, h => by
    cases h
    have : qs = [] := by simpa using h1.symm
    subst this
    exact ⟨xs, rfl, h3⟩
  | (i, s) :: ps, [], cells, r, xs, h1, _, _, _ => by simp at h1
  | (i, s) :: ps, (j, v) :: qs, cells, r, xs, h1, h2, h3, h => by
    simp only [List.map_cons, List.cons.injEq] at h1 h2
    obtain ⟨rfl, h1⟩ := h1
    obtain ⟨v', r', e, hv, hr⟩ := h2
    obtain ⟨rfl, rfl⟩ := List.cons.inj e
    simp only [fillV] at h
    split at h
    · cases h
    · rename_i off size hpl
      split at h
      · rename_i hc
        have hcl := (hv.cells).length
        have hxl := h3.length
        have hvs : v.cells.size = s.cells.length := by simpa using hcl
        simp only [Instr.fill, hp _ _ hpl]
        have hcond : ¬ (v.cells.size ≠ size ∨ off + v.cells.size > xs.length) := by omega
        rw [if_neg (by simpa [Bool.or_eq_true, decide_eq_true_eq] using hcond)]
        have hfold := foldl_set_eq off v.cells.toList xs 0 (by simp; omega)
        have e2 : (v.cells.zipIdx.foldl (fun cs (x : Value × Nat) => match x with | (c, j) => cs.setIfInBounds (off + j) c) (⟨xs⟩ : Array Value)) = ⟨xs.take off ++ (v.cells.toList ++ xs.drop (off + v.cells.toList.length))⟩ := by
          rw [← Array.foldl_toList, Array.toList_zipIdx]
          simpa using hfold
        rw [e2]
        have hlen : v.cells.toList.length = s.cells.length := hcl
        rw [hlen]
        exact fillV_ok hp h1 hr (writeN_ok h3 hv.cells) h
      · cases h

theorem inOrder_ok : ∀ {ps : List (Nat × SVal)} {qs : List (Nat × Value)} {k : Nat} {r : List SVal} {xs : List Value},
    ps.map (·.1) = qs.map (·.1) → RvL ρ φ (ps.map (·.2)) (qs.map (·.2)) → inOrder k ps = some r → xs.length = k + qs.length →
    r = ps.map (·.2) ∧ Instr.fill (fun i => some (i * 1, 1)) ⟨xs⟩ qs = some ⟨xs.take k ++ qs.map (·.2)⟩
  | [], qs, k, r, xs, h1, _, h, hl => by
    cases h
    have : qs = [] := by simpa using h1.symm
    subst this
    refine ⟨rfl, ?_⟩
    simp only [List.length_nil, Nat.add_zero] at hl
    simp [Instr.fill, ← hl]
  | (i, s) :: ps, [], _, _, _, h1, _, _, _ => by simp at h1
  | (i, s) :: ps, (j, v) :: qs, k, r, xs, h1, h2, h, hl => by
    simp only [List.map_cons, List.cons.injEq] at h1 h2
    obtain ⟨rfl, h1⟩ := h1
    obtain ⟨v', r', e, hv, hr⟩ := h2
    obtain ⟨rfl, rfl⟩ := List.cons.inj e
    simp only [inOrder] at h
    split at h
    · rename_i hc
      simp only [Bool.and_eq_true, Nat.beq_eq] at hc
      obtain ⟨rfl, hsc⟩ := hc
      cases hi : inOrder (i + 1) ps with
      | none => rw [hi] at h; cases h
      | some r1 =>
        rw [hi] at h; cases h
        have h1c := hv.oneCell hsc
        have hcs : v.cells = #[v] := by cases v <;> first | rfl | (simp [Value.oneCell'] at h1c)
        simp only [List.length_cons] at hl
        have ih := inOrder_ok (xs := xs.set i v) h1 hr hi (by simp; omega)
        refine ⟨by rw [ih.1]; rfl, ?_⟩
        simp only [Instr.fill, hcs, Nat.mul_one]
        have hx : ¬ (i + 1 > xs.length) := by omega
        simp only [List.size_toArray, List.length_cons, List.length_nil, Nat.zero_add, ne_eq, not_true_eq_false, decide_false, Bool.false_or, hx]
        have e2 : (#[v].zipIdx.foldl (fun (cs : Array Value) (x : Value × Nat) => match x with | (c, j) => cs.setIfInBounds (i + j) c) (⟨xs⟩ : Array Value)) = ⟨xs.set i v⟩ := by
          simp [Array.zipIdx]
        rw [e2]
        have ih2 := ih.2
        simp only [Nat.mul_one] at ih2
        rw [ih2]
        congr 2
        have : i < xs.length := by omega
        have e3 : (xs.set i v).take (i + 1) = xs.take i ++ [v] := by
          rw [List.take_succ_eq_append_getElem (by simpa using this)]
          simp [List.take_set_of_le]
        rw [e3]
        simp
    · cases h

theorem fillArr_ok {size : Nat} {ps : List (Nat × SVal)} {qs : List (Nat × Value)} {cells r : List SVal} {xs : List Value}
    (h1 : ps.map (·.1) = qs.map (·.1)) (h2 : RvL ρ φ (ps.map (·.2)) (qs.map (·.2))) (h3 : RvL ρ φ cells xs) (h : fillArr size cells ps = some r) :
    ∃ ys, Instr.fill (fun i => some (i * size, size)) ⟨xs⟩ qs = some ⟨ys⟩ ∧ RvL ρ φ r ys := by
  unfold fillArr at h
  split at h
  · rename_i vs hvs
    split at h
    · rename_i hl
      cases h
      split at hvs
      · rename_i hs
        subst hs
        have hpl : ps.length = qs.length := by simpa using congrArg List.length h1
        have hx := h3.length
        have hk := inOrder_ok (xs := xs) h1 h2 hvs
        have hv : r = ps.map (·.2) ∧ xs.length = 0 + qs.length := by
          have : ∀ {ps : List (Nat × SVal)} {k : Nat} {r : List SVal}, inOrder k ps = some r → r = ps.map (·.2) := by
            intro ps
            induction ps with
            | nil => intro k r h; cases h; rfl
            | cons p ps ih =>
              intro k r h
              simp only [inOrder] at h
              split at h
              · cases hi : inOrder (k + 1) ps with
                | none => rw [hi] at h; cases h
                | some r1 => rw [hi] at h; cases h; rw [ih hi]; rfl
              · cases h
          have e := this hvs
          refine ⟨e, ?_⟩
          rw [e] at hl
          simp at hl
          omega
        obtain ⟨_, hf⟩ := hk hv.2
        rw [hf]
        exact ⟨_, rfl, by rw [hv.1]; simpa using h2⟩
      · cases hvs
    · exact fillV_ok (fun _ _ h => h) h1 h2 h3 h
  · exact fillV_ok (fun _ _ h => h) h1 h2 h3 h

theorem places_ok : ∀ {l : List Field} {r : List (Nat × Nat)}, places Γ l = some r → ∀ w : World,
    (l.mapM fun (f : Field) => (do pure (f.offset, ← sizeOf f.type) : Sem (Nat × Nat))).run Γ.P w = .ok r w
  | [], r, h, w => by cases h; rfl
  | f :: l, r, h, w => by
    simp only [places] at h
    split at h
    · rename_i ti r1 hi hr
      cases h
      simp only [List.mapM_cons, Sem.run_bind, info_size hi, Result.andThen_ok, Sem.run_pure, places_ok hr w]
    · cases h

theorem zip_fst {α : Type} : ∀ (l : List (Nat × Operand)) (vs : List α), vs.length = l.length → ((l.map (·.1)).zip vs).map (·.1) = l.map (·.1)
  | [], _, _ => by simp
  | p :: l, [], h => by simp at h
  | p :: l, v :: vs, h => by simp [zip_fst l vs (by simpa using h)]
theorem zip_snd {α : Type} : ∀ (l : List (Nat × Operand)) (vs : List α), vs.length = l.length → ((l.map (·.1)).zip vs).map (·.2) = vs
  | [], vs, h => by simp at h; simp [h]
  | p :: l, [], h => by simp at h
  | p :: l, v :: vs, h => by simp [zip_snd l vs (by simpa using h)]

theorem evals_length : ∀ {l : List Operand} {ss : List SVal}, evals ev l = some ss → ss.length = l.length
  | [], _, h => by cases h; rfl
  | x :: l, ss, h => by
    simp only [evals] at h
    split at h
    · rename_i hr; cases h; simp [evals_length hr]
    · cases h

theorem buildV_ok {t : TypeId} {parts : Array (Nat × Operand)} {vs : List SVal} {s : SVal} (hvs : evals ev (parts.toList.map (·.2)) = some vs)
    (hev : RvL ρ φ vs ((parts.toList.map (·.2)).map ec)) (h : buildV Γ t ((parts.toList.map (·.1)).zip vs) = some s) (w : World) :
    ∃ v, (Instr.build t (parts.map fun (i, x) => (i, ec x))).run Γ.P w = .ok v w ∧ Rv ρ φ s v := by
  have hlen := evals_length hvs
  simp only [List.length_map] at hlen
  have hq1 : ((parts.toList.map (·.1)).zip vs).map (·.1) = ((parts.map fun (i, x) => (i, ec x)).toList).map (·.1) := by
    rw [zip_fst _ _ hlen]; simp
  have hq2 : RvL ρ φ (((parts.toList.map (·.1)).zip vs).map (·.2)) (((parts.map fun (i, x) => (i, ec x)).toList).map (·.2)) := by
    rw [zip_snd _ _ hlen]
    have : ((parts.map fun (i, x) => (i, ec x)).toList).map (·.2) = (parts.toList.map (·.2)).map ec := by simp
    rw [this]; exact hev
  unfold buildV at h
  split at h
  · rename_i fields z hu hz
    split at h
    · rename_i pl hpl
      cases hf : fillV (nth pl) z.cells ((parts.toList.map (·.1)).zip vs) with
      | none => rw [hf] at h; cases h
      | some r =>
        rw [hf] at h; cases h
        obtain ⟨zv, hzr, hzv⟩ := zeroV_ok (ρ := ρ) (φ := φ) hz w
        obtain ⟨ys, hys, hr⟩ := fillV_ok (pc := fun i => (⟨pl⟩ : Array (Nat × Nat))[i]?) (fun i r hr => by rw [nth_eq] at hr; simpa using hr) hq1 hq2 hzv.cells hf
        refine ⟨.agg ⟨ys⟩, ?_, ys, rfl, hr⟩
        have hm : (fields.mapM fun (f : Field) => (do pure (f.offset, ← sizeOf f.type) : Sem (Nat × Nat))).run Γ.P w = .ok ⟨pl⟩ w := by
          have := places_ok hpl w
          rw [← Array.toArray_toList (xs := fields)]
          simp only [List.mapM_toArray, Sem.run_map, this, Result.andThen_ok]
        simp only [Instr.build, Sem.run_bind, hzr, Result.andThen_ok, run_underlying hu]
        rw [hm]
        simp only [Result.andThen_ok]
        have e : (⟨zv.cells.toList⟩ : Array Value) = zv.cells := by simp
        rw [e] at hys
        rw [hys]
        rfl
    · cases h
  · rename_i elem z hu hz
    split at h
    · rename_i ti hi
      cases hf : fillArr ti.size z.cells ((parts.toList.map (·.1)).zip vs) with
      | none => rw [hf] at h; cases h
      | some r =>
        rw [hf] at h; cases h
        obtain ⟨zv, hzr, hzv⟩ := zeroV_ok (ρ := ρ) (φ := φ) hz w
        obtain ⟨ys, hys, hr⟩ := fillArr_ok hq1 hq2 hzv.cells hf
        refine ⟨.agg ⟨ys⟩, ?_, ys, rfl, hr⟩
        simp only [Instr.build, Sem.run_bind, hzr, Result.andThen_ok, run_underlying hu, info_size hi]
        have e : (⟨zv.cells.toList⟩ : Array Value) = zv.cells := by simp
        rw [e] at hys
        rw [hys]
        rfl
    · cases h
  · cases h

end
end Go.Sx
