/-
  From a call that returns true to a law's row. Conditions: none beside the hypotheses of each theorem.
-/
import Derived.Test.YtaeklgfdknbncaaSxJ
import Derived.ProofKit
import Derived.OpenShut
namespace Go.Sx
open Go.ChangeShapes Go.WideShapes Go.ChangeAt Go.RowKit

section
variable {H : Type} {enc : TypeId × Value → H} {P : Program}

/-! ## From a call that returns true to a law's row -/
theorem trodAll_stays (hl : laidOutB P = true) {W W' : World} {sp : Nat → Bool} : ∀ {ts : List TypeId} {vs : List Value} {ds : List (DataW H)} {p : List MemPlace},
    DataW.TrodAll enc P W 0 (fun _ => true) true ts vs ds p → (∀ t ∈ ts, P.readableRec t = true ∧ t < P.types.size) → (∀ x ∈ p, W.sameAt W' x) → (∀ x ∈ p, sp x.block = true) → DataW.TrodAll enc P W' 0 sp true ts vs ds p
  | [], [], [], p, h, _, _, _ => h
  | t :: ts, v :: vs, d :: ds, p, h, hr, hs, hp => by
    obtain ⟨p1, p2, h1, h2, e⟩ := h
    subst e
    refine ⟨p1, p2, WideElems.Trod_stays hl (hr t (by simp)).1 (hr t (by simp)).2 h1 (fun x hx => hs x (List.mem_append.2 (.inl hx))) (fun x hx => hp x (List.mem_append.2 (.inl hx))), ?_, rfl⟩
    exact trodAll_stays hl h2 (fun t ht => hr t (by simp [ht])) (fun x hx => hs x (List.mem_append.2 (.inr hx))) (fun x hx => hp x (List.mem_append.2 (.inr hx)))
  | [], _ :: _, _, _, h, _, _, _ => h.elim
  | [], [], _ :: _, _, h, _, _, _ => h.elim
  | _ :: _, [], _, _, h, _, _, _ => h.elim
  | _ :: _, _ :: _, [], _, h, _, _, _ => h.elim

/-- What a law's row asks of the world behind the call. -/
theorem law_post {f : Func} {s : ChangeSpec} {W W' : World} {args : Array Value} {ds gs : List (DataW H)} {before : List MemPlace} {tb : TypeId} (hl : laidOutB P = true) (hvars : s.vars = [])
    (hb : P.underlying tb = some .bool) (hres : f.resultTypes = #[tb]) (hread : ∀ t ∈ f.params.toList, P.readableRec t = true ∧ t < P.types.size)
    (hfn : ∀ ds : List (DataW H), ds.length = f.params.size → s.fn H (ds ++ []) = { results := [.lit (.bool true)], args := ds })
    (hW : DataW.Whole enc P f.params.toList s.vars false W args.toList ds gs before) (hbel : Below W.heap.size W W') : s.post enc P f false true false false W args (.bool true) W' := by
  have hW' := hW
  have hlt := hW.lt
  obtain ⟨p, q, hA, hV, rfl, hfz, hnd⟩ := hW
  have hV' := hV
  rw [hvars] at hV'
  obtain ⟨rfl, rfl⟩ := trodVars_none hV'
  have hlen : ds.length = f.params.size := by
    have : ∀ {ts : List TypeId} {vs : List Value} {ds : List (DataW H)} {p : List MemPlace}, DataW.TrodAll enc P W 0 (fun _ => true) true ts vs ds p → ds.length = ts.length := by
      intro ts
      induction ts with
      | nil => intro vs ds p h; cases vs <;> cases ds <;> first | rfl | exact h.elim
      | cons t ts ih =>
        intro vs ds p h
        cases vs with
        | nil => exact h.elim
        | cons v vs =>
          cases ds with
          | nil => exact h.elim
          | cons d ds =>
            obtain ⟨p1, p2, _, h2, _⟩ := h
            simp [ih h2]
    simpa using this hA
  have hf := hfn ds hlen
  refine ⟨ds, [], p ++ [], [], p, [], hW', ?_, ?_, ?_, hbel.frame _, fun h => by cases h⟩
  · rw [hres, hf]
    exact trodAll_mk1 (shut_bool hb true)
  · rw [hf]
    exact trodAll_stays hl hA hread (fun x hx => hbel.same (hlt x (by simp [hx]))) (fun x hx => by simpa using hlt x (by simp [hx]))
  · rw [hvars, hf]
    exact rfl

end

/-! ## What comes in -/
section
variable {H : Type} {enc : TypeId × Value → H} {P : Program} {W : World}

theorem open_bytes {t e : TypeId} {n : Nat} {v : Value} {d : DataW H} {ps : List MemPlace} {r : Reach} {b0 base : Nat} {sp : Nat → Bool} {held : Bool} (ht : P.underlying t = some (.array n e)) (he : P.underlying e = some (.int .u8))
    (hc : P.cellsOf t = n) (hce : P.cellsOf e = 1) (hok : Value.okWide P W r b0 t v) (h : DataW.Trod enc P W base sp held t v d ps) :
    ∃ ns : List Int, v = .agg ⟨ns.map (Value.int .u8)⟩ ∧ ns.length = n ∧ ∀ x ∈ ns, 0 ≤ x ∧ x ≤ 255 := by
  unfold Value.okWide at hok
  rw [ht] at hok
  obtain ⟨cs, rfl, hsz⟩ := hok
  obtain ⟨fuel, hf⟩ := h
  obtain ⟨xs, m, _, _, hl, hxl, hg⟩ := DataW.trod_array ht hf
  have hget : ∀ i, i < n → ∃ k : Int, cs.toList[i]? = some (.int .u8 k) ∧ 0 ≤ k ∧ k ≤ 255 := by
    intro i hi
    have h1 := hg i hi
    rw [List.getElem?_eq_getElem (by omega)] at h1
    obtain ⟨k, e1, _, hwf⟩ := DataW.trod_int he h1
    rw [hce, Nat.mul_one] at e1
    have : cs.toList[i]? = some (.int .u8 k) := by
      have h2 : ((cs.toList.drop i).take 1)[0]? = some (.int .u8 k) := by
        simp only [Value.cells] at e1
        rw [e1]; rfl
      simpa using h2
    refine ⟨k, this, ?_⟩
    simpa [Lit.wf, IntKind.min, IntKind.max, IntKind.signed, IntKind.bits] using hwf
  have hsz' : cs.toList.length = n := by simpa [hc] using hsz.1
  refine ⟨cs.toList.map (fun v => match v with | .int _ k => k | _ => 0), ?_, by simpa using hsz', ?_⟩
  · congr 1
    apply Array.ext'
    apply List.ext_getElem?
    intro i
    simp only [List.map_map]
    by_cases hi : i < n
    · obtain ⟨k, hk, _⟩ := hget i hi
      rw [hk, List.getElem?_map, hk]; rfl
    · rw [List.getElem?_eq_none (by omega), List.getElem?_eq_none (by simp; omega)]
  · intro x hx
    obtain ⟨v, hv, rfl⟩ := List.mem_map.1 hx
    obtain ⟨i, hi, rfl⟩ := List.getElem_of_mem hv
    obtain ⟨k, hk, hb⟩ := hget i (by omega)
    rw [List.getElem?_eq_getElem hi] at hk
    rw [Option.some.inj hk]
    exact hb
end

section
variable {Γ : Env} {ρ : Val}

def isTrue : Option (SVal × Hp × Cls) → Bool
  | some (.bool (.lit true), _, _) => true
  | _ => false

theorem Step.below {ro : Nat} {hp hp' : Hp} {φ φ' : Phi} {w w' : World} (h : Step ro hp φ w hp' φ' w') (hw : ∀ (i : Nat) o, hp[i]? = some o → o.rw = false) : Below w.heap.size w w' :=
  ⟨h.os, h.tape, h.output, h.size, fun b hb => h.block b hb fun i o _ _ _ ho hrw => by rw [hw i o ho] at hrw; cases hrw⟩

theorem Rh.empty (w : World) : Rh ρ [] [] w := ⟨rfl, by simp, by simp, by simp⟩

/-- A call that the evaluator finds to be true. -/
theorem true_calls (hΓ : EnvOk Γ ρ) (n : Nat) {hp : Hp} {f : Nat} {args : List SVal} (h : isTrue (callV Γ (runV Γ n) 0 hp f args) = true) {φ : Phi} {vs : List Value} {w : World} (hargs : RvL ρ φ args vs) (hR : Rh ρ φ hp w)
    (hw : ∀ (i : Nat) o, hp[i]? = some o → o.rw = false) : Calls Γ.P f ⟨vs⟩ w fun e w' => e = .returned (.bool true) ∧ Below w.heap.size w w' := by
  cases hc : callV Γ (runV Γ n) 0 hp f args with
  | none => rw [hc] at h; cases h
  | some r =>
    obtain ⟨v, hp', c⟩ := r
    rw [hc] at h
    unfold isTrue at h
    split at h
    · rename_i hp1 c1 e
      cases e
      refine (calls_ok hΓ n hc hargs hR).mono ?_
      rintro e w' ⟨val, φ', rfl, h1, _, h3, _⟩
      refine ⟨?_, h3.below hw⟩
      rw [show val = _ from h1]; rfl
    · cases h

theorem bytes_rel {φ : Phi} (ρ : Val) (lo : Nat) : ∀ (ns : List Int), (∀ i (h : i < ns.length), ρ.int (lo + i) = ns[i]) → RvL ρ φ ((List.range' lo ns.length).map fun i => .int .u8 (.var i)) (ns.map (Value.int .u8)) := by
  intro ns h
  refine RvL.of_get (by simp) fun i s v hs hv => ?_
  have hi : i < ns.length := by
    have := (List.getElem?_eq_some_iff.1 hv).1
    simpa using this
  rw [List.getElem?_map, List.getElem?_range' hi] at hs
  rw [List.getElem?_map, List.getElem?_eq_getElem hi] at hv
  simp at hs hv
  subst hs; subst hv
  have := h i hi
  simp [Rv, E.den, this]
end
end Go.Sx
