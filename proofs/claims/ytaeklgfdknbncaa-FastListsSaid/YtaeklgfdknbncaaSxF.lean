/-
  Every operation without control, and every operation on memory: the same. Conditions: none beside the hypotheses of each theorem.
-/
import Derived.Test.YtaeklgfdknbncaaSxE
namespace Go.Sx
section
variable {Γ : Ctx} {ρ : Val} {φ : Phi} {ev : Ev} {ec : Operand → Value}

theorem optEv_ok {x : Option Operand} {s : Option SVal} (h : optEv ev x = some s) (hev : ∀ y, x = some y → ∀ s, ev y = some s → Rv ρ φ s (ec y)) : Ro ρ φ s (x.map ec) := by
  cases x with
  | none => cases h; trivial
  | some y =>
    simp only [optEv] at h
    cases hy : ev y with
    | none => rw [hy] at h; cases h
    | some v => rw [hy] at h; cases h; exact hev y rfl v hy

theorem array_map (xs : Array Operand) (f : Operand → Value) : xs.map f = ⟨xs.toList.map f⟩ := by
  apply Array.ext'; simp

theorem pure_ok (hΓ : CtxOk Γ ρ) {o : Oper} {s : SVal} (h : pureV Γ ev o.op = some s) (hev : ∀ x ∈ o.op.operands, ∀ s, ev x = some s → Rv ρ φ s (ec x)) (w : World) :
    ∃ v, (execOp ec o).run Γ.P w = .ok (.value v) w ∧ Rv ρ φ s v := by
  obtain ⟨dst, op, type, pos, after, guard⟩ := o
  simp only at h hev
  cases op <;> simp only [pureV] at h <;> try (cases h; done)
  case move x => exact ⟨_, rfl, hev x (by simp [Op.operands]) s h⟩
  case assign x => exact ⟨_, rfl, hev x (by simp [Op.operands]) s h⟩
  case pick c a b =>
    have hc := hev c (by simp [Op.operands])
    have ha := hev a (by simp [Op.operands])
    have hb := hev b (by simp [Op.operands])
    split at h
    · rename_i hcv
      have := hc _ hcv
      exact ⟨_, by simp [execOp, show ec c = _ from this, asBool, C.den], ha _ h⟩
    · rename_i hcv
      have := hc _ hcv
      exact ⟨_, by simp [execOp, show ec c = _ from this, asBool, C.den], hb _ h⟩
    · rename_i cc _ _ hcv
      have hcc := hc _ hcv
      split at h
      · rename_i a' hav hbv
        cases h
        have haa := ha _ hav
        have hbb := hb _ hbv
        refine ⟨.bool (cc.den ρ && a'.den ρ), ?_, by simp only [Rv, mkAnd_ok]⟩
        simp only [execOp, show ec c = _ from hcc, asBool, Sem.run_bind, Sem.run_pure, Result.andThen_ok, show ec a = _ from haa, show ec b = _ from hbb, C.den]
        cases cc.den ρ <;> simp
      · cases h
    · cases h
  case build t parts =>
    split at h
    · rename_i vs hvs
      have hr := evals_ok (ec := ec) (fun x hx => hev x (by
        simp only [Op.operands]
        simpa using hx)) hvs
      obtain ⟨v, hv, hs⟩ := buildV_ok hvs hr h w
      exact ⟨v, by simp [execOp, hv], hs⟩
    · cases h
  case nilCheck x =>
    have hx := hev x (by simp [Op.operands])
    split at h
    · rename_i a hxv
      cases h
      obtain ⟨y, hy, e⟩ := hx _ hxv
      exact ⟨_, by simp [execOp, e], y, hy, rfl⟩
    · rename_i i off len e0 hxv
      cases h
      obtain ⟨y, hy, h0, h1, e⟩ := hx _ hxv
      exact ⟨_, by simp [execOp, e], y, hy, h0, h1, rfl⟩
    · rename_i f a b hxv
      cases h
      obtain ⟨xs, ys, e, ha, hb⟩ := hx _ hxv
      exact ⟨_, by simp [execOp, e], xs, ys, rfl, ha, hb⟩
    · cases h
  case binOp op t x y yt =>
    split at h
    · rename_i a b ha hb
      obtain ⟨z, hz, hs⟩ := binV_ok hΓ h (hev x (by simp [Op.operands]) _ ha) (hev y (by simp [Op.operands]) _ hb) x y w
      exact ⟨z, by simp only [execOp, Sem.run_bind] at hz ⊢; rw [hz]; rfl, hs⟩
    · cases h
  case unOp op t x =>
    cases hx : ev x with
    | none => rw [hx] at h; cases h
    | some a =>
      rw [hx] at h
      obtain ⟨z, hz, hs⟩ := unV_ok hΓ h (hev x (by simp [Op.operands]) _ hx) w
      exact ⟨z, by simp [execOp, hz], hs⟩
  case convert a b x =>
    cases hx : ev x with
    | none => rw [hx] at h; cases h
    | some y =>
      rw [hx] at h
      obtain ⟨z, hz, hs⟩ := convV_ok hΓ h (hev x (by simp [Op.operands]) _ hx) w
      exact ⟨z, by simp [execOp, hz], hs⟩
  case sliceToArrayPointer arr x =>
    split at h
    · rename_i n e a len cap hu hx
      split at h
      · rename_i r hr
        split at h
        · rename_i hle
          cases h
          obtain ⟨q, n', c, hy, e1, h1, _⟩ := hev x (by simp [Op.operands]) _ hx
          have hb := rng_ok hΓ _ _ _ hr
          refine ⟨.pointer (some ⟨q.1, q.2.2 + a.2, none⟩), ?_, _, ⟨q, hy, rfl⟩, rfl⟩
          have hn : ¬ n' < n := by omega
          simp [execOp, Instr.arrayAt, run_underlying hu, e1, hn]
        · cases h
      · cases h
    · cases h
  case makeFunc fn first captured =>
    cases fn <;> simp only at h <;> try (cases h; done)
    rename_i f
    split at h
    · rename_i a b ha hb
      cases h
      have h1 := evals_ok (ec := ec) (fun x hx => hev x (by simp [Op.operands]; left; simpa using hx)) ha
      have h2 := evals_ok (ec := ec) (fun x hx => hev x (by simp [Op.operands]; right; simpa using hx)) hb
      refine ⟨.func (.func f) ⟨first.toList.map ec⟩ ⟨captured.toList.map ec⟩, ?_, _, _, rfl, h1, h2⟩
      simp only [execOp, Instr.makeFunc, array_map, Sem.run_bind, Sem.run_pure, Result.andThen_ok]
    · cases h
  case fieldAddr t x fl =>
    split at h
    · rename_i fields i off hu hx
      split at h
      · rename_i f hf
        split at h
        · rename_i ti hi
          split at h
          · cases h
          · rename_i hs
            cases h
            obtain ⟨y, hy, e1⟩ := hev x (by simp [Op.operands]) _ hx
            refine ⟨.pointer (some (y.add f.offset)), ?_, _, add_place hy, rfl⟩
            simp [execOp, Instr.fieldAt, run_underlying hu, hf, Instr.sureAddr, e1, fieldPlace, info_size hi, hs]
        · cases h
      · cases h
    · cases h
  case field t x fl =>
    split at h
    · rename_i fields cs hu hx
      split at h
      · rename_i f hf
        obtain ⟨vs, e1, hl⟩ := hev x (by simp [Op.operands]) _ hx
        obtain ⟨z, hz, hs⟩ := partV_ok h hl w
        refine ⟨z, ?_, hs⟩
        simp [execOp, Instr.field, run_underlying hu, hf, asAgg, e1, hz]
      · cases h
    · cases h
  case indexAddr t x ix =>
    split at h
    · rename_i a b ha hb
      obtain ⟨z, hz, hs⟩ := indexAddrV_ok hΓ h (hev x (by simp [Op.operands]) _ ha) (hev ix (by simp [Op.operands]) _ hb) w
      exact ⟨z, by simp [execOp, hz], hs⟩
    · cases h
  case index t x ix =>
    split at h
    · rename_i a b ha hb
      obtain ⟨z, hz, hs⟩ := indexV_ok hΓ h (hev x (by simp [Op.operands]) _ ha) (hev ix (by simp [Op.operands]) _ hb) w
      exact ⟨z, by simp [execOp, hz], hs⟩
    · cases h
  case slice t x lo hi mx =>
    split at h
    · rename_i a l h' m ha hl hh hm
      obtain ⟨z, hz, hs⟩ := sliceV_ok hΓ h (hev x (by simp [Op.operands]) _ ha)
        (optEv_ok (ec := ec) hl fun y hy => hev y (by simp [Op.operands, hy]))
        (optEv_ok (ec := ec) hh fun y hy => hev y (by simp [Op.operands, hy]))
        (optEv_ok (ec := ec) hm fun y hy => hev y (by simp [Op.operands, hy])) w
      exact ⟨z, by simp [execOp, hz], hs⟩
    · cases h
  case extract t ix =>
    split at h
    · rename_i vs hx
      obtain ⟨xs, e1, hl⟩ := hev t (by simp [Op.operands]) _ hx
      rw [nth_eq] at h
      obtain ⟨v, hv, hs⟩ := hl.get h
      exact ⟨v, by simp [execOp, Instr.extract, e1, hv], hs⟩
    · cases h
  case call c =>
    obtain ⟨callee, args, argTypes⟩ := c
    cases callee <;> simp only at h <;> try (cases h; done)
    rename_i b
    split at h
    · rename_i vs hvs
      have hr := evals_ok (ec := ec) (fun x hx => hev x (by simp [Op.operands, Call.operands]; simpa using hx)) hvs
      obtain ⟨z, hz, hs⟩ := builtinV_ok (ty := type) (cs := args.map fun | .const _ => true | _ => false) hΓ h hr w
      refine ⟨z, ?_, hs⟩
      simp only [execOp, resolve, Sem.run_bind, Sem.run_pure, Result.andThen_ok, invoke, array_map args ec]
      exact hz
    · cases h

/-! ### Memory -/
/-- the operation is carried out: its value, or none (then its slot holds `undef`) -/
def Did (P : Program) (ec : Operand → Value) (o : Oper) (w : World) (v : Value) (w' : World) : Prop :=
  (execOp ec o).run P w = .ok (.value v) w' ∨ ((execOp ec o).run P w = .ok .skip w' ∧ v = undef)

theorem run_newRow (P : Program) (el : TypeId) (cells : Array Value) (w : World) : (newRow el cells).run P w = .ok ⟨w.heap.size, 0, none⟩ (w.alloc (.cells cells el)) := rfl

theorem flat_ok {z : List SVal} {zv : List Value} (h : RvL ρ φ z zv) : ∀ n, RvL ρ φ ((List.replicate n z).flatten) ((List.replicate n zv).flatten)
  | 0 => rfl
  | n + 1 => by simp only [List.replicate_succ, List.flatten_cons]; exact h.append (flat_ok h n)

theorem range_flat (l : List Value) (k : Nat) (hk : l.length = k) (h0 : 0 < k) : ∀ n : Nat, (List.range (n * k)).map (fun x => l.toArray[x % k]!) = (List.replicate n l).flatten
  | 0 => by simp
  | n + 1 => by
    rw [Nat.succ_mul, List.range_add, List.map_append, range_flat l k hk h0 n, List.replicate_succ', List.flatten_append]
    congr 1
    apply List.ext_getElem?
    intro j
    simp only [List.getElem?_map, List.flatten_cons, List.flatten_nil, List.append_nil]
    by_cases hj : j < k
    · rw [List.getElem?_range hj]
      have h1 : (n * k + j) % k = j := by rw [Nat.mul_comm, Nat.mul_add_mod, Nat.mod_eq_of_lt hj]
      have h2 : j < l.length := by omega
      simp [h1, h2]
    · rw [List.getElem?_eq_none (by simp; omega), List.getElem?_eq_none (by omega)]
      rfl

theorem new_ok {hp : Hp} {w : World} {cs : List SVal} {vs tl : List Value} {ex : Bool} (h : Rh ρ φ hp w) (hl : RvL ρ φ cs vs) (hex : ex = true → tl = []) (el : TypeId) :
    Rh ρ (φ ++ [(w.heap.size, vs.length + tl.length, 0)]) (hp ++ [.cells cs ex true]) (w.alloc (.cells ⟨vs ++ tl⟩ el)) ∧
      Step hp.length hp φ w (hp ++ [.cells cs ex true]) (φ ++ [(w.heap.size, vs.length + tl.length, 0)]) (w.alloc (.cells ⟨vs ++ tl⟩ el)) := by
  have hold : ∀ b, b < w.heap.size → (w.alloc (.cells ⟨vs ++ tl⟩ el)).heap[b]? = w.heap[b]? := fun b hb => by
    simp only [World.alloc, Array.getElem?_push]
    rw [if_neg (by omega)]
  have hsplit : ∀ (i : Nat) o b, (hp ++ [SObj.cells cs ex true])[i]? = some o → (φ ++ [(w.heap.size, vs.length + tl.length, 0)])[i]? = some b →
      (i < hp.length ∧ hp[i]? = some o ∧ φ[i]? = some b) ∨ (i = hp.length ∧ o = .cells cs ex true ∧ b = (w.heap.size, vs.length + tl.length, 0)) := by
    intro i o b hi hb
    by_cases hlt : i < hp.length
    · rw [List.getElem?_append_left hlt] at hi
      rw [List.getElem?_append_left (by rw [← h.len]; exact hlt)] at hb
      exact .inl ⟨hlt, hi, hb⟩
    · rw [List.getElem?_append_right (by omega)] at hi
      rw [List.getElem?_append_right (by rw [← h.len]; omega)] at hb
      have e1 : i - hp.length = 0 := by
        rcases Nat.eq_zero_or_pos (i - hp.length) with h0 | h0
        · exact h0
        · rw [List.getElem?_eq_none (by simp; omega)] at hi; cases hi
      have e2 : i - φ.length = 0 := by rw [← h.len]; exact e1
      rw [e1] at hi
      rw [e2] at hb
      cases hi
      cases hb
      exact .inr ⟨by omega, rfl, rfl⟩
  refine ⟨⟨by simp [h.len], ?_, ?_, ?_⟩, ⟨rfl, rfl, rfl, by simp, ⟨_, rfl, by simp⟩, ?_, ?_, fun b hb _ => hold b hb⟩⟩
  · intro b hb
    rcases List.mem_append.1 hb with hb | hb
    · have := h.lt b hb
      simp; omega
    · simp at hb; subst hb; simp
  · intro i j o o' b b' hi hj hlo hlo' hb hb' hbb
    rcases hsplit i o b hi hb with ⟨l1, k1, k2⟩ | ⟨l1, k1, k2⟩ <;> rcases hsplit j o' b' hj hb' with ⟨m1, g1, g2⟩ | ⟨m1, g1, g2⟩
    · exact h.uniq i j o o' b b' k1 g1 hlo hlo' k2 g2 hbb
    · have := h.lt b (List.mem_of_getElem? k2)
      rw [g2] at hbb; simp at hbb; omega
    · have := h.lt b' (List.mem_of_getElem? g2)
      rw [k2] at hbb; simp at hbb; omega
    · omega
  · intro i o b hi hb
    rcases hsplit i o b hi hb with ⟨l1, k1, k2⟩ | ⟨l1, rfl, rfl⟩
    · exact ((h.obj i o b k1 k2).same (hold b.1 (h.lt b (List.mem_of_getElem? k2)))).mono _
    · exact ⟨[], vs, tl, el, (0, 0), by show (w.heap.push _)[w.heap.size]? = _; simp, rfl, fun _ => ⟨rfl, rfl⟩, hex, hl.mono _, rfl⟩
  · intro i o hi
    exact ⟨o, by rw [List.getElem?_append_left (List.getElem?_eq_some_iff.1 hi).1]; exact hi, rfl⟩
  · intro i _ hlt
    rw [List.getElem?_append_left hlt]

theorem Rh.find {hp : Hp} {w : World} (h : Rh ρ φ hp w) {i off : Nat} {cs : List SVal} {ex rw : Bool} {x : Addr} (hi : nth hp i = some (.cells cs ex rw)) (hx : place φ (i, off) x) :
    ∃ b, φ[i]? = some b ∧ x = ⟨b.1, b.2.2 + off, none⟩ ∧ Robj ρ φ (.cells cs ex rw) b w := by
  obtain ⟨b, hb, rfl⟩ := hx
  rw [nth_eq] at hi
  exact ⟨b, hb, rfl, h.obj i _ b hi hb⟩

theorem run_loadN {P : Program} {w : World} {b off n : Nat} {vs : List Value} {arr : Array Value} {el : TypeId} {fr : Nat × Nat} (hb : w.heap[b]? = some (.cells arr el fr))
    (hv : (arr.toList.drop off).take n = vs) (hn : vs.length = n) : (loadCells ⟨b, off, none⟩ n).run P w = .ok vs.toArray w := by
  have := run_loadCells_list (P := P) w ⟨b, off, none⟩ vs (fun j v hj => by
    rw [Addr.add_lit]
    rw [← hv] at hj
    rw [List.getElem?_take] at hj
    split at hj
    · rw [List.getElem?_drop] at hj
      simp [World.cell?, hb]
      simpa using hj
    · cases hj)
  rw [hn] at this
  exact this

/-- cells off .. off + n of a block are read -/
theorem read_ok {P : Program} {w : World} {cs r : List SVal} {vs tl : List Value} {el : TypeId} {fr : Nat × Nat} {b bs off n : Nat} {pre : List Value} (h1 : w.heap[b]? = some (.cells ⟨pre ++ (vs ++ tl)⟩ el fr)) (h0 : pre.length = bs) (h4 : RvL ρ φ cs vs) (hr : readN cs off n = some r) :
    (loadCells ⟨b, bs + off, none⟩ n).run P w = .ok ⟨(vs.drop off).take n⟩ w ∧ RvL ρ φ r ((vs.drop off).take n) := by
  obtain ⟨e, hlen⟩ := readN_ok hr
  have hr4 := (h4.drop off).take n
  rw [← e] at hr4
  have hl := hr4.length
  have hle : off + n ≤ vs.length ∨ n = 0 := by
    simp only [List.length_take, List.length_drop] at hl
    omega
  have hd : ((vs ++ tl).drop off).take n = (vs.drop off).take n := by
    rcases hle with hle | hle
    · rw [List.drop_append_of_le_length (by omega), List.take_append_of_le_length (by simp; omega)]
    · simp [hle]
  have hd' : ((pre ++ (vs ++ tl)).drop (bs + off)).take n = (vs.drop off).take n := by
    rw [← List.drop_drop, List.drop_left' h0, hd]
  exact ⟨run_loadN (P := P) h1 hd' (by rw [hl, hlen]), hr4⟩

theorem loadV_ok {hp : Hp} {w : World} {t : TypeId} {i off : Nat} {s : SVal} {x : Addr} (h : loadV Γ hp t i off = some s) (hR : Rh ρ φ hp w) (hx : place φ (i, off) x) :
    ∃ v, (loadVar t x).run Γ.P w = .ok v w ∧ Rv ρ φ s v := by
  unfold loadV at h
  split at h
  · rename_i d cs ex rw hu hi
    obtain ⟨b, hb, rfl, pre, vs, tl, el, fr, h1, h0, h2, h3, h4, _⟩ := hR.find hi hx
    split at h
    · rename_i hagg
      split at h
      · rename_i ti hti
        cases hr : readN cs off ti.size with
        | none => rw [hr] at h; cases h
        | some r =>
          rw [hr] at h; cases h
          obtain ⟨g1, g2⟩ := read_ok (P := Γ.P) h1 h0 h4 hr
          exact ⟨.agg ⟨(vs.drop off).take ti.size⟩, by simp [loadVar, run_isAgg hu, hagg, info_size hti, g1], _, rfl, g2⟩
      · cases h
    · rename_i hagg
      rw [nth_eq] at h
      obtain ⟨v, hv, hs⟩ := h4.get h
      have hlt : off < vs.length := (List.getElem?_eq_some_iff.1 hv).1
      refine ⟨v, ?_, hs⟩
      have hc : w.cell? ⟨b.1, b.2.2 + off, none⟩ = some v := by
        rw [← h0]
        simp [World.cell?, h1, List.getElem?_append_right, List.getElem?_append_left hlt, hv]
      simp [loadVar, run_isAgg hu, hagg, hc]
  · cases h

/-- some cells of a block are written -/
theorem write_ok {P : Program} {ro : Nat} {hp : Hp} {w : World} {i off : Nat} {cs new : List SVal} {ex : Bool} {ys : List Value} {b : Nat × Nat × Nat} (hR : Rh ρ φ hp w) (hi : nth hp i = some (.cells cs ex true)) (hb : φ[i]? = some b)
    (hv : RvL ρ φ new ys) (hsc : new.all scalar = true) (hle : off + new.length ≤ cs.length) (hro : ro ≤ i) :
    ∃ w', (storeCells ⟨b.1, b.2.2 + off, none⟩ ys).run P w = .ok () w' ∧ Rh ρ φ (upd hp i (.cells (writeN cs off new) ex true)) w' ∧ Step ro hp φ w (upd hp i (.cells (writeN cs off new) ex true)) φ w' := by
  obtain ⟨b', hb', _, pre, vs, tl, el, fr, h1, h0, h2, h3, h4, h5⟩ := hR.find (off := off) hi ⟨b, hb, rfl⟩
  have : b' = b := Option.some.inj (hb'.symm.trans hb)
  subst this
  obtain ⟨rfl, rfl⟩ := h2 rfl
  have h1 : w.heap[b'.1]? = some (.cells ⟨vs ++ tl⟩ el (0, 0)) := h1
  have hz : b'.2.2 = 0 := h0.symm
  rw [hz, Nat.zero_add]
  have hlen := hv.length
  have hvl := h4.length
  have hs := run_storeCells_at P b'.1 off el ys 0 ⟨vs ++ tl⟩ w h1 (by simp; omega) (hv.oneCells hsc)
  have hi' := hi
  rw [nth_eq] at hi'
  have hilt : i < hp.length := (List.getElem?_eq_some_iff.1 hi').1
  have hnew : ((⟨vs ++ tl⟩ : Array Value).toList.take (off + 0) ++ ys ++ (⟨vs ++ tl⟩ : Array Value).toList.drop (off + 0 + ys.length)) =
      (vs.take off ++ (ys ++ vs.drop (off + new.length))) ++ tl := by
    have a1 : (vs ++ tl).take off = vs.take off := List.take_append_of_le_length (by omega)
    have a2 : (vs ++ tl).drop (off + ys.length) = vs.drop (off + ys.length) ++ tl := List.drop_append_of_le_length (by omega)
    rw [hlen] at a2
    simp only [Nat.add_zero, a1, a2, hlen, List.append_assoc]
  rw [hnew] at hs
  refine ⟨w.setRow b'.1 ((vs.take off ++ (ys ++ vs.drop (off + new.length))) ++ tl).toArray, hs, ⟨?_, ?_, ?_, ?_⟩, ⟨rfl, rfl, rfl, by simp, ⟨[], by simp⟩, ?_, ?_, ?_⟩⟩
  · rw [upd_eq]; simp [hR.len]
  · intro c hc; simpa using hR.lt c hc
  · intro j l o o' c c' hj hl hlo hlo' hc hc' hcc
    rw [upd_eq, List.getElem?_set] at hj hl
    have hlive : ∀ (m : Nat) o, (if i = m then (if i < hp.length then some (SObj.cells (writeN cs off new) ex true) else none) else hp[m]?) = some o → o.live = true → ∃ o', hp[m]? = some o' ∧ o'.live = true := by
      intro m o hm hlv
      by_cases him : i = m
      · subst him; exact ⟨_, hi', rfl⟩
      · rw [if_neg him] at hm; exact ⟨o, hm, hlv⟩
    obtain ⟨p1, q1, r1⟩ := hlive j o hj hlo
    obtain ⟨p2, q2, r2⟩ := hlive l o' hl hlo'
    exact hR.uniq j l p1 p2 c c' q1 q2 r1 r2 hc hc' hcc
  · intro j o c hj hc
    rw [upd_eq, List.getElem?_set] at hj
    by_cases hij : i = j
    · subst hij
      rw [if_pos rfl, if_pos hilt] at hj
      cases hj
      have : c = b' := Option.some.inj (hc.symm.trans hb)
      subst this
      exact ⟨[], vs.take off ++ (ys ++ vs.drop (off + new.length)), tl, el, (0, 0), setRow_heap w c.1 _ _ el (0, 0) h1, h0, fun _ => ⟨rfl, rfl⟩, h3, writeN_ok h4 hv, by simp; omega⟩
    · rw [if_neg hij] at hj
      cases o with
      | dead rw => trivial
      | cells cs' ex' rw' =>
        have hne : c.1 ≠ b'.1 := fun e => hij (hR.uniq i j _ _ b' c hi' hj rfl rfl hb hc e.symm)
        exact (hR.obj j _ c hj hc).same (setRow_other w b'.1 c.1 _ hne)
  · intro j o hj
    rw [upd_eq, List.getElem?_set]
    by_cases hij : i = j
    · subst hij
      rw [if_pos rfl, if_pos hilt]
      rw [hi'] at hj; cases hj
      exact ⟨_, rfl, rfl⟩
    · rw [if_neg hij]; exact ⟨o, hj, rfl⟩
  · intro j hj hlt
    rw [upd_eq, List.getElem?_set]
    rw [if_neg (by omega)]
  · intro c hc hw
    refine setRow_other w b'.1 c _ ?_
    rintro rfl
    have := hw i _ b' hb rfl hi' rfl
    omega

theorem storeV_ok {ro : Nat} {hp hp' : Hp} {w : World} {t : TypeId} {i off : Nat} {s : SVal} {v : Value} {x : Addr} (h : storeV Γ ro hp t i off s = some hp') (hR : Rh ρ φ hp w) (hx : place φ (i, off) x) (hv : Rv ρ φ s v) :
    ∃ w', (storeVar t x v).run Γ.P w = .ok () w' ∧ Rh ρ φ hp' w' ∧ Step ro hp φ w hp' φ w' := by
  unfold storeV at h
  split at h
  · rename_i ti cs ex hti hi
    simp only at h
    split at h
    · rename_i hc
      obtain ⟨hsz, hsc, hle, hro⟩ := hc
      cases h
      obtain ⟨b, hb, rfl⟩ := hx
      obtain ⟨w', g1, g2, g3⟩ := write_ok (P := Γ.P) hR hi hb hv.cells hsc hle hro
      refine ⟨w', ?_, g2, g3⟩
      have hlen := hv.cells.length
      have hsz' : ¬ v.cells.size ≠ ti.size := by simp at hlen; omega
      simp only [storeVar, Sem.run_bind, info_size hti, Result.andThen_ok]
      rw [if_neg hsz']
      exact g1
    · cases h
  · cases h

def memCls (c : Cls) (q a : Prop) : Prop :=
  match c with
  | .P => False
  | .Q => q
  | .A => a
  | .W => True

/-! ### append -/
theorem srcCells_ok {hp : Hp} {w : World} {size n : Nat} {x : SVal} {v : Value} {new : List SVal} (h : srcCells hp size x = some (n, new)) (hR : Rh ρ φ hp w) (hx : Rv ρ φ x v) :
    ∃ vs, (Builtin.lenOf v).run Γ.P w = .ok n w ∧ (Builtin.firstCells size n v).run Γ.P w = .ok ⟨vs⟩ w ∧ RvL ρ φ new vs := by
  unfold srcCells at h
  split at h
  · cases h
    obtain ⟨m, c, rfl, hm, _⟩ := hx
    have : m = 0 := by simp [E.den] at hm; exact hm
    subst this
    exact ⟨[], rfl, rfl, rfl⟩
  · rename_i j o len cap
    obtain ⟨q, m, c, hq, rfl, hm, _⟩ := hx
    split at h
    · rename_i n0 cs ex rw hn hj
      cases hr : readN cs o (n0 * size) with
      | none => rw [hr] at h; cases h
      | some r =>
        rw [hr] at h; cases h
        obtain ⟨b, hb, _, pre, vs, tl, el, fr, h1, h0, h2, h3, h4, _⟩ := hR.find (off := o) hj ⟨q, hq, rfl⟩
        have : b = q := Option.some.inj (hb.symm.trans hq)
        subst this
        have hmn : m = n := by have := litNat_ok (ρ := ρ) hn; omega
        subst hmn
        obtain ⟨g1, g2⟩ := read_ok (P := Γ.P) h1 h0 h4 hr
        exact ⟨_, rfl, g1, g2⟩
    · cases h
  · cases h

theorem srcCells_len {hp : Hp} {size n : Nat} {x : SVal} {new : List SVal} (h : srcCells hp size x = some (n, new)) : new.length = n * size := by
  unfold srcCells at h
  split at h
  · cases h; simp
  · split at h
    · rename_i j o len cap _ _ n0 cs ex rw _ _
      cases hr : readN cs o (n0 * size) with
      | none => rw [hr] at h; cases h
      | some r0 => rw [hr] at h; cases h; exact (readN_ok hr).2
    · cases h
  · cases h

theorem growBy_le : ∀ (r n c : Nat), c ≤ 2 * n + 192 → Builtin.growBy n r c ≤ 2 * n + 192
  | 0, n, c, h => h
  | r + 1, n, c, h => by
    simp only [Builtin.growBy]
    split
    · exact h
    · exact growBy_le r n _ (by omega)

theorem next_le (n c : Nat) (h : c ≤ 1048576) (hn : n ≤ 1048576) : Builtin.nextslicecap n c ≤ 4194304 := by
  unfold Builtin.nextslicecap
  split
  · omega
  · split
    · omega
    · rename_i h1 h2
      by_cases hc : c ≤ 2 * n + 192
      · have := growBy_le 4 n c hc; omega
      · have : Builtin.growBy n 4 c = c := by
          simp only [Builtin.growBy]; rw [if_pos (by omega)]
        omega

theorem zeroCells_len (z : Array Value) (n : Nat) : (Builtin.zeroCells z n).size = n * z.size := by simp [Builtin.zeroCells]

theorem notInt_ok {P : Program} {t : Option TypeId} (h : notInt (t.bind P.underlying) = true) : ∃ t0 e, t = some t0 ∧ P.underlying t0 = some (.slice e) := by
  cases t with
  | none => cases h
  | some t0 =>
    simp only [Option.bind_some] at h
    unfold notInt at h
    split at h
    · rename_i e he; exact ⟨t0, e, rfl, he⟩
    · cases h

/-- the part of append where the row grows -/
theorem grow_ok {hp : Hp} {w : World} {elem : TypeId} {ti : TypeInfo} {z : SVal} {sLen n c : Nat} {old new : List SVal} {ov nv : List Value} (hR : Rh ρ φ hp w) (hi : Γ.P.info? elem = some ti) (hz : zeroV Γ elem = some z) (hzl : z.cells.length = ti.size)
    (ho : RvL ρ φ old ov) (hn : RvL ρ φ new nv) (hol : ov.length = sLen * ti.size) (hnl : nv.length = n * ti.size)
    {oldS newS : Sem (Array Value)} (hos : oldS.run Γ.P w.drew = .ok ⟨ov⟩ w.drew) (hns : newS.run Γ.P w.drew = .ok ⟨nv⟩ w.drew) :
    ∃ v w' φ', (do
        let newCap ← choose (.appendCap (sLen + n) c elem)
        askRoom (newCap * (← typeInfo elem).bytes)
        let old ← oldS
        let new ← newS
        let rest := Builtin.zeroCells (← zeroValue elem).cells (newCap - (sLen + n))
        pure (.slice (some (← newRow elem (old ++ new ++ rest))) (sLen + n) newCap) : Sem Value).run Γ.P w = .ok v w' ∧
      Rv ρ φ' (.slice (some (hp.length, 0)) (.lit (sLen + n : Nat)) (.rest ti.size)) v ∧ Rh ρ φ' (hp ++ [.cells (old ++ new) false true]) w' ∧ Step hp.length hp φ w (hp ++ [.cells (old ++ new) false true]) φ' w' := by
  obtain ⟨zv, hzr, hzv⟩ := zeroV_ok (ρ := ρ) (φ := φ) hz w.drew
  have hzlen : zv.cells.size = ti.size := by have := hzv.cells.length; simpa [hzl] using this
  have hRd : Rh ρ φ hp w.drew := ⟨hR.len, hR.lt, hR.uniq, fun i o b h1 h2 => (hR.obj i o b h1 h2).same rfl⟩
  let q : Question := .appendCap (sLen + n) c elem
  let cap := q.cut (w.tape w.drawn q)
  have hcap : sLen + n ≤ cap := by simp [cap, q, Question.cut]
  let rest := Builtin.zeroCells zv.cells (cap - (sLen + n))
  have hrest : rest.size = (cap - (sLen + n)) * ti.size := by simp only [rest, zeroCells_len, hzlen]
  obtain ⟨g1, g2⟩ := new_ok (tl := rest.toList) (ex := false) hRd (ho.append hn) (by simp) elem
  have htot : (ov ++ nv).length + rest.toList.length = cap * ti.size := by
    have e1 : (ov ++ nv).length = (sLen + n) * ti.size := by simp [hol, hnl, Nat.add_mul]
    have e2 : rest.toList.length = (cap - (sLen + n)) * ti.size := by simpa using hrest
    rw [e1, e2, ← Nat.add_mul]
    congr 1; omega
  refine ⟨.slice (some ⟨w.heap.size, 0, none⟩) (sLen + n) cap, _, _, ?_, ⟨(w.heap.size, (ov ++ nv).length + rest.toList.length, 0), sLen + n, cap, ?_, rfl, rfl, hcap, ?_⟩, g1, ⟨g2.os, g2.tape, g2.output, g2.size, g2.pre, g2.rw, g2.low, g2.block⟩⟩
  · have hch : (choose q).run Γ.P w = .ok cap w.drew := by
      show (choose (.appendCap (sLen + n) c elem)).run Γ.P w = _
      rw [run_choose]
      rfl
    have hask : (askRoom (cap * ti.bytes)).run Γ.P w.drew = .ok () w.drew := by
      unfold askRoom
      split <;> rfl
    have hti : (typeInfo elem).run Γ.P w.drew = .ok ti w.drew := by simp [typeInfo, hi]
    have he : (⟨ov⟩ ++ ⟨nv⟩ ++ rest : Array Value) = ⟨(ov ++ nv) ++ rest.toList⟩ := by apply Array.ext'; simp
    simp only [Sem.run_bind]
    rw [show (choose (.appendCap (sLen + n) c elem)).run Γ.P w = .ok cap w.drew from hch]
    simp only [Result.andThen_ok, hti, hask, hos, hns, hzr, Sem.run_pure]
    rw [show (⟨ov⟩ ++ ⟨nv⟩ ++ Builtin.zeroCells zv.cells (cap - (sLen + n)) : Array Value) = ⟨(ov ++ nv) ++ rest.toList⟩ from he, run_newRow]
    rfl
  · simp [hR.len]
  · show 0 + cap * ti.size = (ov ++ nv).length + rest.toList.length
    omega

theorem append_eq {P : Program} {w : World} {ats : Array TypeId} {ty t0 t1 elem e1 : TypeId} {ti : TypeInfo} {base : Option Addr} {sLen sCap n : Nat} {x : Value}
    (h0 : ats[0]? = some t0) (hu : P.underlying t0 = some (.slice elem)) (h1 : ats[1]? = some t1) (hu1 : P.underlying t1 = some (.slice e1)) (hi : P.info? elem = some ti)
    (hn : (Builtin.lenOf x).run P w = .ok n w) (hb0 : 0 < ti.bytes) (hb : ti.bytes ≤ 65536) (hsz : sLen + n ≤ 1048576) (hc : sCap ≤ 1048576 ∨ sLen + n ≤ sCap) :
    (Builtin.append_ ats ty #[.slice base sLen sCap, x]).run P w =
      if sLen + n ≤ sCap then (do
        let new ← Builtin.firstCells ti.size n x
        match base with
          | some a => storeCells (a.add (sLen * ti.size)) new.toList
          | none => pure ()
        pure (.slice base (sLen + n) sCap) : Sem Value).run P w
      else (do
        let newCap ← choose (.appendCap (sLen + n) sCap elem)
        askRoom (newCap * (← typeInfo elem).bytes)
        let old ← Builtin.firstCells ti.size sLen (.slice base sLen sCap)
        let new ← Builtin.firstCells ti.size n x
        let rest := Builtin.zeroCells (← zeroValue elem).cells (newCap - (sLen + n))
        pure (.slice (some (← newRow elem (old ++ new ++ rest))) (sLen + n) newCap) : Sem Value).run P w := by
  have hti : (typeInfo elem).run P w = .ok ti w := by simp [typeInfo, hi]
  by_cases hle : sLen + n ≤ sCap
  · simp only [Builtin.append_, h0, h1, List.getElem?_toArray, List.getElem?_cons_zero, List.getElem?_cons_succ, Sem.run_bind, run_underlying hu, run_underlying hu1, Result.andThen_ok, info_size hi, Sem.run_pure, Bool.false_eq_true, if_false, hn, hle, if_true,
      Bool.not_false]
    cases base <;> simp
  · have hcap := hc.resolve_right hle
    have hnx := next_le (sLen + n) sCap hcap hsz
    have hbig : ¬ (Builtin.nextslicecap (sLen + n) sCap * ti.bytes > 2 ^ 48) := by
      have : Builtin.nextslicecap (sLen + n) sCap * ti.bytes ≤ 4194304 * 65536 := Nat.mul_le_mul hnx hb
      omega
    have hb0' : ¬ ti.bytes = 0 := by omega
    simp only [Builtin.append_, h0, h1, List.getElem?_toArray, List.getElem?_cons_zero, List.getElem?_cons_succ, Sem.run_bind, run_underlying hu, run_underlying hu1, Result.andThen_ok, info_size hi, Sem.run_pure, Bool.false_eq_true, if_false, hn, hle,
      Bool.not_false, if_true, hti, hb0', or_self, and_false, hbig]

theorem upd_live {hp : Hp} {i m : Nat} {o : SObj} {rw : Bool} (h : (hp.set i (.dead rw))[m]? = some o) (hl : o.live = true) : m ≠ i ∧ hp[m]? = some o := by
  rw [List.getElem?_set] at h
  by_cases him : i = m
  · subst him
    rw [if_pos rfl] at h
    split at h
    · cases h; cases hl
    · cases h
  · rw [if_neg him] at h; exact ⟨fun e => him e.symm, h⟩

theorem Rh.kill {hp : Hp} {w : World} (h : Rh ρ φ hp w) (i : Nat) (rw : Bool) : Rh ρ φ (hp.set i (.dead rw)) w := by
  refine ⟨by simp [h.len], h.lt, ?_, ?_⟩
  · intro j l o o' c c' hj hl hlo hlo' hc hc' hcc
    exact h.uniq j l o o' c c' (upd_live hj hlo).2 (upd_live hl hlo').2 hlo hlo' hc hc' hcc
  · intro j o c hj hc
    rw [List.getElem?_set] at hj
    by_cases hij : i = j
    · subst hij
      rw [if_pos rfl] at hj
      split at hj
      · cases hj; trivial
      · cases hj
    · rw [if_neg hij] at hj; exact h.obj j o c hj hc

theorem Step.kill {ro : Nat} {hp : Hp} {w : World} {i : Nat} {o : SObj} (hi : hp[i]? = some o) (hro : ro ≤ i) : Step ro hp φ w (hp.set i (.dead o.rw)) φ w := by
  refine ⟨rfl, rfl, rfl, Nat.le_refl _, ⟨[], by simp⟩, ?_, ?_, fun _ _ _ => rfl⟩
  · intro j o' hj
    rw [List.getElem?_set]
    by_cases hij : i = j
    · subst hij
      have hlt := (List.getElem?_eq_some_iff.1 hi).1
      rw [if_pos rfl, if_pos hlt]
      have : o' = o := Option.some.inj (hj.symm.trans hi)
      exact ⟨_, rfl, by rw [this]; rfl⟩
    · rw [if_neg hij]; exact ⟨o', hj, rfl⟩
  · intro j hj _
    rw [List.getElem?_set, if_neg (by omega)]

/-- a growable row is written on behind its elements: it goes on under a new number -/
theorem extend_ok {P : Program} {ro : Nat} {hp : Hp} {w : World} {i : Nat} {cs old new : List SVal} {ex : Bool} {k m : Nat} {nv : List Value} {b : Nat × Nat × Nat} (hR : Rh ρ φ hp w) (hi : nth hp i = some (.cells cs ex true)) (hb : φ[i]? = some b)
    (hold : readN cs 0 k = some old) (hn : RvL ρ φ new nv) (hsc : new.all scalar = true) (hle : k + nv.length ≤ b.2.1) (hro : ro ≤ i) (hm : m = k) :
    ∃ w', (storeCells ⟨b.1, b.2.2 + m, none⟩ nv).run P w = .ok () w' ∧ Rh ρ (φ ++ [b]) (hp.set i (.dead true) ++ [.cells (old ++ new) false true]) w' ∧ Step ro hp φ w (hp.set i (.dead true) ++ [.cells (old ++ new) false true]) (φ ++ [b]) w' := by
  subst hm
  obtain ⟨b', hb', _, pre, vs, tl, el, fr, h1, h0, h2, h3, h4, h5⟩ := hR.find (off := m) hi ⟨b, hb, rfl⟩
  have : b' = b := Option.some.inj (hb'.symm.trans hb)
  subst this
  obtain ⟨rfl, rfl⟩ := h2 rfl
  have h1 : w.heap[b'.1]? = some (.cells ⟨vs ++ tl⟩ el (0, 0)) := h1
  have hz : b'.2.2 = 0 := h0.symm
  rw [hz, Nat.zero_add]
  obtain ⟨eo, hol⟩ := readN_ok hold
  have hvl := h4.length
  have ho4 := h4.take m
  have heo : old = cs.take m := by rw [eo]; simp
  rw [← heo] at ho4
  have hmv : m ≤ vs.length := by
    have : (cs.take m).length = m := by rw [← heo]; exact hol
    simp at this; omega
  have hs := run_storeCells_at P b'.1 m el nv 0 ⟨vs ++ tl⟩ w h1 (by simp; omega) (hn.oneCells hsc)
  have hi' := hi
  rw [nth_eq] at hi'
  have hilt : i < hp.length := (List.getElem?_eq_some_iff.1 hi').1
  have hbl := hR.lt b' (List.mem_of_getElem? hb)
  have hnew : ((⟨vs ++ tl⟩ : Array Value).toList.take (m + 0) ++ nv ++ (⟨vs ++ tl⟩ : Array Value).toList.drop (m + 0 + nv.length)) = (vs.take m ++ nv) ++ (vs ++ tl).drop (m + nv.length) := by
    simp only [Nat.add_zero]
    rw [List.take_append_of_le_length hmv]
  rw [hnew] at hs
  refine ⟨w.setRow b'.1 ((vs.take m ++ nv) ++ (vs ++ tl).drop (m + nv.length)).toArray, hs, ⟨by simp [hR.len], ?_, ?_, ?_⟩, ⟨rfl, rfl, rfl, by simp, ⟨[b'], rfl, ?_⟩, ?_, ?_, ?_⟩⟩
  · intro c hc
    simp only [List.mem_append, List.mem_singleton] at hc
    rcases hc with hc | rfl
    · simpa using hR.lt c hc
    · simpa using hbl
  · have hsplit : ∀ (j : Nat) o c, (hp.set i (.dead true) ++ [SObj.cells (old ++ new) false true])[j]? = some o → o.live = true → (φ ++ [b'])[j]? = some c →
        (j ≠ i ∧ j < hp.length ∧ hp[j]? = some o ∧ φ[j]? = some c) ∨ (j = hp.length ∧ c = b') := by
      intro j o c hj hl hc
      by_cases hlt : j < hp.length
      · rw [List.getElem?_append_left (by simpa using hlt)] at hj
        rw [List.getElem?_append_left (by rw [← hR.len]; exact hlt)] at hc
        obtain ⟨g1, g2⟩ := upd_live hj hl
        exact .inl ⟨g1, hlt, g2, hc⟩
      · have hjl := (List.getElem?_eq_some_iff.1 hj).1
        simp at hjl
        have e : j = hp.length := by omega
        subst e
        rw [hR.len] at hc
        simp at hc
        exact .inr ⟨rfl, hc.symm⟩
    intro j l o o' c c' hj hl hlo hlo' hc hc' hcc
    rcases hsplit j o c hj hlo hc with ⟨a1, a2, a3, a4⟩ | ⟨a1, a2⟩ <;> rcases hsplit l o' c' hl hlo' hc' with ⟨d1, d2, d3, d4⟩ | ⟨d1, d2⟩
    · exact hR.uniq j l o o' c c' a3 d3 hlo hlo' a4 d4 hcc
    · rw [d2] at hcc
      exact (a1 (hR.uniq j i o _ c b' a3 hi' hlo rfl a4 hb hcc)).elim
    · rw [a2] at hcc
      exact (d1 (hR.uniq l i o' _ c' b' d3 hi' hlo' rfl d4 hb hcc.symm)).elim
    · omega
  · intro j o c hj hc
    by_cases hlt : j < hp.length
    · rw [List.getElem?_append_left (by simpa using hlt)] at hj
      rw [List.getElem?_append_left (by rw [← hR.len]; exact hlt)] at hc
      cases o with
      | dead rw => trivial
      | cells cs' ex' rw' =>
        obtain ⟨g1, g2⟩ := upd_live hj rfl
        have hne : c.1 ≠ b'.1 := fun e => g1 (hR.uniq j i _ _ c b' g2 hi' rfl rfl hc hb e)
        exact ((hR.obj j _ c g2 hc).same (setRow_other w b'.1 c.1 _ hne)).mono _
    · have hjl := (List.getElem?_eq_some_iff.1 hj).1
      simp at hjl
      have e : j = hp.length := by omega
      subst e
      rw [hR.len] at hc
      simp at hc
      subst hc
      have e1 : (hp.set i (.dead true) ++ [SObj.cells (old ++ new) false true])[hp.length]? = some (.cells (old ++ new) false true) := by
        rw [List.getElem?_append_right (by simp)]; simp
      rw [e1] at hj
      cases hj
      refine ⟨[], vs.take m ++ nv, (vs ++ tl).drop (m + nv.length), el, (0, 0), setRow_heap w b'.1 _ _ el (0, 0) h1, h0, fun _ => ⟨rfl, rfl⟩, by simp, (ho4.append hn).mono _, ?_⟩
      simp; omega
  · intro c hc
    simp at hc
    subst hc
    exact .inr ⟨i, _, c, hro, hb, rfl, hi', rfl⟩
  · intro j o hj
    have hlt := (List.getElem?_eq_some_iff.1 hj).1
    rw [List.getElem?_append_left (by simpa using hlt), List.getElem?_set]
    by_cases hij : i = j
    · subst hij
      rw [if_pos rfl, if_pos hlt]
      rw [hi'] at hj; cases hj
      exact ⟨_, rfl, rfl⟩
    · rw [if_neg hij]; exact ⟨o, hj, rfl⟩
  · intro j hj hlt
    rw [List.getElem?_append_left (by simpa using hlt), List.getElem?_set, if_neg (by omega)]
  · intro c hc hw
    refine setRow_other w b'.1 c _ ?_
    rintro rfl
    have := hw i _ b' hb rfl hi' rfl
    omega

theorem appendS_ok {ro : Nat} {hp hp' : Hp} {w : World} {ats : Array TypeId} {ty : TypeId} {base : Option (Nat × Nat)} {len : E} {cap : Cap} {x r : SVal} {u v : Value} {c : Cls} (h : appendS Γ ro hp ats base len cap x = some (r, hp', c)) (hR : Rh ρ φ hp w) (hs : Rv ρ φ (.slice base len cap) u) (hx : Rv ρ φ x v) :
    ∃ z w' φ', (Builtin.append_ ats ty #[u, v]).run Γ.P w = .ok z w' ∧ Rv ρ φ' r z ∧ Rh ρ φ' hp' w' ∧ Step ro hp φ w hp' φ' w' ∧ memCls c False (Step hp.length hp φ w hp' φ' w') := by
  unfold appendS at h
  split at h
  · rename_i elem hu hni
    split at h
    · rename_i ti sLen z hti hsl hz
      split at h
      · rename_i n new hsrc
        split at h
        · rename_i hc
          obtain ⟨hs0, hb0, hb, hsz, hzl, hsc⟩ := hc
          obtain ⟨t1, e1, h1, hu1⟩ := notInt_ok hni
          cases h0 : ats[0]? with
          | none => rw [h0] at hu; cases hu
          | some t0 =>
            rw [h0] at hu
            have hu' : Γ.P.underlying t0 = some (.slice elem) := hu
            have hRd : Rh ρ φ hp w.drew := ⟨hR.len, hR.lt, hR.uniq, fun i o b g1 g2 => (hR.obj i o b g1 g2).same rfl⟩
            obtain ⟨nv, hn1, hn2, hn3⟩ := srcCells_ok hsrc hR hx
            obtain ⟨nv', hn1', hn2', hn3'⟩ := srcCells_ok hsrc hRd hx
            clear hn1'
            have hnlen : ∀ {l : List Value}, RvL ρ φ new l → l.length = n * ti.size := by
              intro l hl
              rw [hl.length]
              exact srcCells_len hsrc
            cases base with
            | none =>
              cases cap with
              | known cN =>
                cases cN with
                | zero =>
                  simp only at h
                  split at h
                  · rename_i hc2
                    cases hnv : newV hp new with
                    | none => rw [hnv] at h; cases h
                    | some hp1 =>
                      rw [hnv] at h; cases h
                      obtain ⟨m, c0, rfl, hm, _, hcap⟩ := hs
                      have hc0 := hcap 0 rfl
                      subst hc0
                      have hm0 : m = sLen := by have := litNat_ok (ρ := ρ) hsl; omega
                      subst hm0
                      have hle : ¬ m + n ≤ 0 := by omega
                      rw [append_eq h0 hu' h1 hu1 hti hn1 hb0 hb hsz (.inl (by omega)), if_neg hle]
                      obtain ⟨z', w', φ', k1, k2, k3, k4⟩ := grow_ok (c := 0) (sLen := m) (n := n) (old := []) (ov := []) hR hti hz hzl rfl hn3' (by rw [hc2.1]; simp) (hnlen hn3') (oldS := Builtin.firstCells ti.size m (.slice none m 0)) (newS := Builtin.firstCells ti.size n v) rfl hn2'
                      exact ⟨z', w', φ', k1, k2, k3, k4.weaken (.inr (Nat.le_refl _)), k4⟩
                  · cases h
                | succ _ => cases h
              | rest _ => cases h
              | any => cases h
            | some p =>
              obtain ⟨i, off⟩ := p
              cases cap with
              | known cN =>
                simp only at h
                obtain ⟨q, m, c0, hq, rfl, hm, hmc, hcap⟩ := hs
                have hcap' : c0 = cN := hcap
                subst hcap'
                have hm0 : m = sLen := by have := litNat_ok (ρ := ρ) hsl; omega
                subst hm0
                split at h
                · rename_i cs ex rw hi
                  split at h
                  · rename_i hle
                    split at h
                    · rename_i hc2
                      cases h
                      obtain ⟨hrw, hro, hfit⟩ := hc2
                      subst hrw
                      have hlen := hnlen hn3
                      have hnl := hn3.length
                      obtain ⟨w', g1, g2, g3⟩ := write_ok (P := Γ.P) (off := off + m * ti.size) hR hi hq hn3 hsc (by rw [Nat.add_mul] at hfit; omega) hro
                      rw [append_eq h0 hu' h1 hu1 hti hn1 hb0 hb hsz (.inr hle), if_pos hle]
                      refine ⟨.slice (some ⟨q.1, q.2.2 + off, none⟩) (m + n) c0, w', φ, ?_, ⟨q, m + n, c0, hq, rfl, rfl, hle, rfl⟩, g2, g3, trivial⟩
                      simp only [Sem.run_bind, hn2, Result.andThen_ok, Addr.add_lit, Nat.add_assoc, g1, Sem.run_pure]
                    · cases h
                  · rename_i hle
                    split at h
                    · rename_i hcs
                      split at h
                      · rename_i old hold
                        cases h
                        obtain ⟨b, hb', _, pre, vs, tl, el, fr, f1, f0, f2, f3, f4, _⟩ := hRd.find (off := off) hi ⟨q, hq, rfl⟩
                        have : b = q := Option.some.inj (hb'.symm.trans hq)
                        subst this
                        obtain ⟨g1, g2⟩ := read_ok (P := Γ.P) f1 f0 f4 hold
                        rw [append_eq h0 hu' h1 hu1 hti hn1 hb0 hb hsz (.inl hcs), if_neg hle]
                        obtain ⟨z', w', φ', k1, k2, k3, k4⟩ := grow_ok (c := c0) hR hti hz hzl g2 hn3' (by rw [g2.length]; exact (readN_ok hold).2) (hnlen hn3') (oldS := Builtin.firstCells ti.size m (.slice (some ⟨b.1, b.2.2 + off, none⟩) m c0)) (newS := Builtin.firstCells ti.size n v) g1 hn2'
                        exact ⟨z', w', φ', k1, k2, k3, k4.weaken (.inr (Nat.le_refl _)), k4⟩
                      · cases h
                    · cases h
                · cases h
              | rest k =>
                cases off with
                | succ _ => cases h
                | zero =>
                  simp only at h
                  obtain ⟨q, m, c0, hq, rfl, hm, hmc, hcap⟩ := hs
                  have hcap' : 0 + c0 * k = q.2.1 := hcap
                  have hm0 : m = sLen := by have := litNat_ok (ρ := ρ) hsl; omega
                  subst hm0
                  split at h
                  · rename_i cs ex hi
                    split at h
                    · rename_i hc2
                      obtain ⟨rfl, hro⟩ := hc2
                      split at h
                      · rename_i old hold
                        cases h
                        have hi' := hi
                        rw [nth_eq] at hi'
                        rw [upd_eq]
                        by_cases hle : m + n ≤ c0
                        · have hlen := hnlen hn3
                          have hmul : (m + n) * ti.size ≤ c0 * ti.size := Nat.mul_le_mul_right _ hle
                          obtain ⟨w', g1, g2, g3⟩ := extend_ok (P := Γ.P) (m := 0 + m * ti.size) hR hi hq hold hn3 hsc (by rw [Nat.add_mul] at hmul; omega) hro (by omega)
                          rw [append_eq h0 hu' h1 hu1 hti hn1 hb0 hb hsz (.inr hle), if_pos hle]
                          refine ⟨.slice (some ⟨q.1, q.2.2 + 0, none⟩) (m + n) c0, w', _, ?_, ⟨q, m + n, c0, by simp [hR.len], rfl, rfl, hle, hcap⟩, g2, g3, trivial⟩
                          simp only [Sem.run_bind, hn2, Result.andThen_ok, Addr.add_lit, Nat.add_assoc, g1, Sem.run_pure]
                        · obtain ⟨b, hb', _, pre, vs, tl, el, fr, f1, f0, f2, f3, f4, _⟩ := hRd.find (off := 0) hi ⟨q, hq, rfl⟩
                          have : b = q := Option.some.inj (hb'.symm.trans hq)
                          subst this
                          obtain ⟨g1, g2⟩ := read_ok (P := Γ.P) f1 f0 f4 hold
                          rw [append_eq h0 hu' h1 hu1 hti hn1 hb0 hb hsz (.inl (by omega)), if_neg hle]
                          obtain ⟨z', w', φ', k1, k2, k3, k4⟩ := grow_ok (c := c0) hR hti hz hzl g2 hn3' (by rw [g2.length]; exact (readN_ok hold).2) (hnlen hn3') (oldS := Builtin.firstCells ti.size m (.slice (some ⟨b.1, b.2.2 + 0, none⟩) m c0)) (newS := Builtin.firstCells ti.size n v) g1 hn2'
                          have hilt : i < hp.length := (List.getElem?_eq_some_iff.1 hi').1
                          have hset : hp.set i (.dead true) ++ [SObj.cells (old ++ new) false true] = (hp ++ [SObj.cells (old ++ new) false true]).set i (.dead true) := by
                            rw [List.set_append_left _ _ hilt]
                          rw [hset]
                          have k4' := Step.weaken (ro := ro) k4 (.inr (Nat.le_refl _))
                          refine ⟨z', w', φ', k1, by simpa using k2, k3.kill i true, k4'.trans hR.len (Step.kill (o := .cells cs ex true) ?_ hro), trivial⟩
                          rw [List.getElem?_append_left hilt]; exact hi'
                      · cases h
                    · cases h
                  · cases h
              | any => cases h
        · cases h
      · cases h
    · cases h
  · cases h

theorem appendV_ok {ro : Nat} {hp hp' : Hp} {w : World} {ats : Array TypeId} {ty : TypeId} {s x r : SVal} {u v : Value} {c : Cls} (h : appendV Γ ro hp ats s x = some (r, hp', c)) (hR : Rh ρ φ hp w) (hs : Rv ρ φ s u) (hx : Rv ρ φ x v) :
    ∃ z w' φ', (Builtin.append_ ats ty #[u, v]).run Γ.P w = .ok z w' ∧ Rv ρ φ' r z ∧ Rh ρ φ' hp' w' ∧ Step ro hp φ w hp' φ' w' ∧ memCls c False (Step hp.length hp φ w hp' φ' w') := by
  cases s <;> try (cases h; done)
  exact appendS_ok h hR hs hx

theorem mem_ok (hΓ : CtxOk Γ ρ) {ro : Nat} {hp hp' : Hp} {w : World} {o : Oper} {s : SVal} {c : Cls} (h : memV Γ ro ev hp o.op = some (s, hp', c))
    (hev : ∀ x ∈ o.op.operands, ∀ s, ev x = some s → Rv ρ φ s (ec x)) (hR : Rh ρ φ hp w) :
    ∃ v w' φ', Did Γ.P ec o w v w' ∧ Rv ρ φ' s v ∧ Rh ρ φ' hp' w' ∧ Step ro hp φ w hp' φ' w' ∧ memCls c (w' = w ∧ φ' = φ ∧ hp' = hp) (Step hp.length hp φ w hp' φ' w') := by
  obtain ⟨dst, op, type, pos, after, guard⟩ := o
  simp only at h hev
  cases op <;> simp only [memV] at h <;> try (cases h; done)
  case load t a =>
    have ha := hev a (by simp [Op.operands])
    split at h
    · rename_i i off hav
      cases hl : loadV Γ hp t i off with
      | none => rw [hl] at h; cases h
      | some v0 =>
        rw [hl] at h; cases h
        obtain ⟨x, hx, e⟩ := ha _ hav
        obtain ⟨v, hv, hs⟩ := loadV_ok hl hR hx
        exact ⟨v, w, φ, .inl (by simp [execOp, Instr.loadAt, Instr.sureAddr, e, hv]), hs, hR, Step.refl .., rfl, rfl, rfl⟩
    · rename_i i off len e0 hav
      split at h
      · rename_i d cs ex rw hu hi
        split at h
        · cases h
        · rename_i hagg
          split at h
          · rename_i r hr
            cases hsel : selV Γ r e0 with
            | none => rw [hsel] at h; cases h
            | some v0 =>
              rw [hsel] at h; cases h
              obtain ⟨x, hx, h0, h1, e⟩ := ha _ hav
              obtain ⟨b, hb, rfl, pre, vs, tl, el, fr, g1, g0, g2, g3, g4, _⟩ := hR.find hi hx
              obtain ⟨er, hlen⟩ := readN_ok hr
              have g5 := (g4.drop off).take len
              rw [← er] at g5
              obtain ⟨v, hv, hs⟩ := selV_ok hΓ hsel g5 h0 (by rw [hlen]; exact h1)
              rw [List.getElem?_take] at hv
              split at hv
              · rw [List.getElem?_drop] at hv
                have hlt : off + (e0.den ρ).toNat < vs.length := (List.getElem?_eq_some_iff.1 hv).1
                have hc : w.cell? ⟨b.1, b.2.2 + (off + (e0.den ρ).toNat), none⟩ = some v := by
                  rw [← g0]
                  simp [World.cell?, g1, List.getElem?_append_right, List.getElem?_append_left hlt, hv]
                refine ⟨v, w, φ, .inl ?_, hs, hR, Step.refl .., rfl, rfl, rfl⟩
                simp [execOp, Instr.loadAt, Instr.sureAddr, e, loadVar, run_isAgg hu, hagg, hc]
              · cases hv
          · cases h
      · cases h
    · cases h
  case store t a x =>
    have ha := hev a (by simp [Op.operands])
    have hx := hev x (by simp [Op.operands])
    split at h
    · rename_i i off v0 hav hxv
      cases hst : storeV Γ ro hp t i off v0 with
      | none => rw [hst] at h; cases h
      | some hp1 =>
        rw [hst] at h; cases h
        obtain ⟨y, hy, e⟩ := ha _ hav
        obtain ⟨w', hr, hR', hS⟩ := storeV_ok hst hR hy (hx _ hxv)
        exact ⟨undef, w', φ, .inr ⟨by simp [execOp, Instr.storeAt, Instr.sureAddr, e, hr], rfl⟩, undef_ok, hR', hS, trivial⟩
    · cases h
  case alloc elem =>
    split at h
    · rename_i z hz
      unfold newV at h
      split at h
      · cases h
        obtain ⟨zv, hzr, hzv⟩ := zeroV_ok (ρ := ρ) (φ := φ) hz w
        obtain ⟨hR', hS⟩ := new_ok (tl := []) (ex := true) hR hzv.cells (fun _ => rfl) elem
        refine ⟨.pointer (some ⟨w.heap.size, 0, none⟩), _, _, .inl ?_, ⟨_, ⟨(w.heap.size, _, 0), by simp [hR.len]; rfl, rfl⟩, rfl⟩, hR', hS.weaken (.inr (Nat.le_refl _)), hS⟩
        simp [execOp, Instr.alloc, hzr, newVar, run_newRow]
      · cases h
    · cases h
  case box elem x =>
    split at h
    · rename_i v0 hxv
      unfold newV at h
      split at h
      · cases h
        have hx := hev x (by simp [Op.operands]) _ hxv
        obtain ⟨hR', hS⟩ := new_ok (tl := []) (ex := true) hR hx.cells (fun _ => rfl) elem
        refine ⟨.pointer (some ⟨w.heap.size, 0, none⟩), _, _, .inl ?_, ⟨_, ⟨(w.heap.size, _, 0), by simp [hR.len]; rfl, rfl⟩, rfl⟩, hR', hS.weaken (.inr (Nat.le_refl _)), hS⟩
        simp [execOp, Instr.box, newVar, run_newRow]
      · cases h
    · cases h
  case buildSlice t len parts =>
    split at h
    · rename_i elem vs hu hvs
      split at h
      · rename_i ti z hti hz
        split at h
        · rename_i hc
          obtain ⟨hpos, hbig, hzl⟩ := hc
          split at h
          · rename_i cs hf
            unfold newV at h
            split at h
            · cases h
              obtain ⟨zv, hzr, hzv⟩ := zeroV_ok (ρ := ρ) (φ := φ) hz w
              have hr := evals_ok (ec := ec) (fun x hx => hev x (by
                simp only [Op.operands]
                simpa using hx)) hvs
              have hlen := evals_length hvs
              simp only [List.length_map] at hlen
              have hq1 : ((parts.toList.map (·.1)).zip vs).map (·.1) = ((parts.map fun (i, x) => (i, ec x)).toList).map (·.1) := by
                rw [zip_fst _ _ hlen]; simp
              have hq2 : RvL ρ φ (((parts.toList.map (·.1)).zip vs).map (·.2)) (((parts.map fun (i, x) => (i, ec x)).toList).map (·.2)) := by
                rw [zip_snd _ _ hlen]
                have : ((parts.map fun (i, x) => (i, ec x)).toList).map (·.2) = (parts.toList.map (·.2)).map ec := by simp
                rw [this]; exact hr
              have hzc := hzv.cells
              have hzlen := hzc.length
              have hrep := flat_ok hzc len
              obtain ⟨ys, hys, hry⟩ := fillArr_ok hq1 hq2 hrep hf
              have hzsz : zv.cells.size = ti.size := by simpa [hzl] using hzlen
              have hsz0 : 0 < ti.size := Nat.pos_of_ne_zero (by rintro h0; rw [h0] at hpos; simp at hpos)
              have hcells : (Array.range (len * ti.size)).map (fun x => zv.cells[x % zv.cells.size]!) = ⟨(List.replicate len zv.cells.toList).flatten⟩ := by
                rw [hzsz]
                apply Array.ext'
                have := range_flat zv.cells.toList ti.size (by simpa using hzsz) hsz0 len
                simpa using this
              obtain ⟨hR', hS⟩ := new_ok (tl := []) (ex := true) hR hry (fun _ => rfl) elem
              refine ⟨.slice (some ⟨w.heap.size, 0, none⟩) len len, _, _, .inl ?_, ⟨(w.heap.size, _, 0), len, len, by simp [hR.len]; rfl, rfl, rfl, Nat.le_refl _, rfl⟩, hR', hS.weaken (.inr (Nat.le_refl _)), hS⟩
              have hb1 : ¬ len * ti.size > 2 ^ 24 := by omega
              have hb2 : ¬ len * ti.size = 0 := by omega
              simp only [execOp, Instr.buildSlice, Sem.run_bind, run_underlying hu, info_size hti, Result.andThen_ok, hzr, hb1, hb2, if_false, Sem.run_pure, Sem.run_ite]
              rw [hcells, hys]
              simp [run_newRow]
            · cases h
          · cases h
        · cases h
      · cases h
    · cases h
  case makeSlice t l0 c0 =>
    split at h
    · rename_i elem k1 l1 k2 c1 hu hl1 hc1
      split at h
      · rename_i l c ti z hl hcc hti hz
        split at h
        · rename_i hc
          obtain ⟨hlc, hc64, hby, hzl, hs0⟩ := hc
          unfold newV at h
          split at h
          · cases h
            obtain ⟨zv, hzr, hzv⟩ := zeroV_ok (ρ := ρ) (φ := φ) hz w
            have hzc := hzv.cells
            have hzlen := hzc.length
            have hzsz : zv.cells.size = ti.size := by simpa [hzl] using hzlen
            have hx1 := hev l0 (by simp [Op.operands]) _ hl1
            have hx2 := hev c0 (by simp [Op.operands]) _ hc1
            have e1 : ec l0 = .int k1 (l : Int) := by rw [show ec l0 = _ from hx1, litNat_ok hl]
            have e2 : ec c0 = .int k2 (c : Int) := by rw [show ec c0 = _ from hx2, litNat_ok hcc]
            have hrep := flat_ok hzc c
            have hcells : (Array.range (c * ti.size)).map (fun x => zv.cells[x % zv.cells.size]!) = ⟨(List.replicate c zv.cells.toList).flatten⟩ := by
              rw [hzsz]
              apply Array.ext'
              have := range_flat zv.cells.toList ti.size (by simpa using hzsz) hs0 c
              simpa using this
            obtain ⟨hR', hS⟩ := new_ok (tl := []) (ex := true) hR hrep (fun _ => rfl) elem
            refine ⟨.slice (some ⟨w.heap.size, 0, none⟩) l c, _, _, .inl ?_, ⟨(w.heap.size, _, 0), l, c, by simp [hR.len]; rfl, rfl, rfl, hlc, rfl⟩, hR', hS.weaken (.inr (Nat.le_refl _)), hS⟩
            have w1 : IntKind.i64.wrap (l : Int) = l := wrap_in _ (by simp [IntKind.min, IntKind.signed, IntKind.bits] <;> omega) (by simp <;> omega)
            have w2 : IntKind.i64.wrap (c : Int) = c := wrap_in _ (by simp [IntKind.min, IntKind.signed, IntKind.bits] <;> omega) (by simp <;> omega)
            have hti' : (typeInfo elem).run Γ.P w = .ok ti w := by simp [typeInfo, hti]
            have hbytes : ¬ ((ti.bytes : Int) * (c : Int) > 2 ^ 48) := by
              have : ti.bytes * c ≤ 65536 * 65536 := Nat.mul_le_mul hby hc64
              have : ((ti.bytes * c : Nat) : Int) ≤ ((65536 * 65536 : Nat) : Int) := Int.ofNat_le.2 this
              rw [Int.natCast_mul] at this
              omega
            have hcond : ((decide ((c : Int) < 0) || decide ((ti.bytes : Int) * (c : Int) > 2 ^ 48)) || decide ((l : Int) < 0) || decide ((l : Int) > (c : Int))) = false := by
              have a1 : ¬ (c : Int) < 0 := by omega
              have a2 : ¬ (l : Int) < 0 := by omega
              have a3 : ¬ (l : Int) > (c : Int) := by omega
              simp only [a1, a2, a3, hbytes, decide_false, Bool.or_self]
            have hask : (askRoom (c * ti.bytes)).run Γ.P w = .ok () w := by
              unfold askRoom
              split <;> rfl
            simp only [execOp, e1, e2, Instr.makeSlice, Sem.run_bind, run_underlying hu, Result.andThen_ok, asInt, asIntOf, Sem.run_pure, hti', w1, w2, Int.toNat_natCast]
            rw [hcond]
            simp only [Bool.false_eq_true, if_false, Sem.run_bind, Result.andThen_ok, hask, info_size hti]
            by_cases hn : c * ti.size = 0
            · have hc0 : c = 0 := by
                rcases Nat.mul_eq_zero.1 hn with h | h
                · exact h
                · omega
              subst hc0
              simp only [Nat.zero_mul, if_true, Sem.run_bind, Sem.run_pure, Result.andThen_ok, run_newRow]
              have : (Array.range 0).map (fun x => (#[] : Array Value)[x % (#[] : Array Value).size]!) = ⟨(List.replicate 0 zv.cells.toList).flatten ++ []⟩ := by
                apply Array.ext'; simp
              rw [this]
            · simp only [hn, if_false, Sem.run_bind, hzr, Result.andThen_ok, Sem.run_pure]
              rw [hcells]
              simp [run_newRow]
          · cases h
        · cases h
      · cases h
    · cases h
  case call cl =>
    unfold memCall at h
    split at h
    · rename_i hcal
      split at h
      · rename_i s0 x0 hvs
        have hr := evals_ok (ec := ec) (fun x hx => hev x (by simp [Op.operands, Call.operands, hcal]; simpa using hx)) hvs
        obtain ⟨u, r1, e1, hu, v, r2, e2, hv, e3⟩ := hr
        obtain ⟨z, w', φ', k1, k2, k3, k4, k5⟩ := appendV_ok (ty := type) h hR hu hv
        refine ⟨z, w', φ', .inl ?_, k2, k3, k4, ?_⟩
        · have : cl.args.map ec = #[u, v] := by
            rw [array_map, e1, e2, show r2 = [] from e3]
          simp only [execOp, resolve, hcal, Sem.run_bind, Sem.run_pure, Result.andThen_ok, invoke, this, builtin, k1]
        · cases c <;> first | exact k5 | exact k5.elim
      · cases h
    · cases h

end
end Go.Sx
