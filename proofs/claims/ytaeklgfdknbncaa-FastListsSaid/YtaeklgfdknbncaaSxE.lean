/-
  Comparisons, conversions, indexes and slices: the same. Conditions: none beside the hypotheses of each theorem.
-/
import Derived.Test.YtaeklgfdknbncaaSxD
namespace Go.Sx
section
variable {Γ : Ctx} {ρ : Val} {φ : Phi} {ev : Ev} {ec : Operand → Value}

/-! ### comparisons of arrays -/
theorem eqCells_ok (hΓ : CtxOk Γ ρ) : ∀ {xs ys : List SVal} {c : C} {us vs : List Value}, eqCells Γ xs ys = some c → RvL ρ φ xs us → RvL ρ φ ys vs →
    us.length = vs.length ∧ ∃ ns ms : List Int, ∃ ks : List IntKind, us = (ks.zip ns).map (fun p => .int p.1 p.2) ∧ vs = (ks.zip ms).map (fun p => .int p.1 p.2) ∧ ks.length = us.length ∧ ns.length = us.length ∧ ms.length = us.length ∧ c.den ρ = decide (ns = ms)
  | [], [], c, us, vs, h, h1, h2 => by
    cases h
    rw [show us = [] from h1, show vs = [] from h2]
    exact ⟨rfl, [], [], [], rfl, rfl, rfl, rfl, rfl, rfl⟩
  | x :: xs, [], c, us, vs, h, _, _ => by cases x <;> cases h
  | [], y :: ys, c, us, vs, h, _, _ => by cases h
  | x :: xs, y :: ys, c, us, vs, h, h1, h2 => by
    cases x <;> cases y <;> try (cases h; done)
    rename_i k a k' b
    simp only [eqCells] at h
    split at h
    · rename_i hk
      cases hc : eqCells Γ xs ys with
      | none => rw [hc] at h; cases h
      | some c' =>
        rw [hc] at h; cases h
        obtain ⟨u, ur, rfl, hu, hur⟩ := h1
        obtain ⟨v, vr, rfl, hv, hvr⟩ := h2
        rw [show u = _ from hu, show v = _ from hv]
        obtain ⟨hl, ns, ms, ks, e1, e2, e3, e4, e5, e6⟩ := eqCells_ok hΓ hc hur hvr
        refine ⟨by simp [hl], a.den ρ :: ns, b.den ρ :: ms, k :: ks, by simp [e1], by rw [← IntKind.same_eq hk]; simp [e2], by simp [e3], by simp [e4], by simp [e5], ?_⟩
        rw [mkAnd_ok, mkCmp_ok hΓ, e6]
        simp only [CO.fn, List.cons.injEq]
        by_cases h1 : a.den ρ = b.den ρ <;> by_cases h2 : ns = ms <;> simp [h1, h2]
    · cases h

theorem run_eqItems {P : Program} {e : TypeId} {k' : IntKind} {ti : TypeInfo} (he : P.underlying e = some (.int k')) (hi : P.info? e = some ti) (h1 : ti.size = 1) (w : World)
    (us vs : List Value) (hl : us.length = vs.length) (ns ms : List Int) (ks : List IntKind) (e1 : us = (ks.zip ns).map (fun p => .int p.1 p.2)) (e2 : vs = (ks.zip ms).map (fun p => .int p.1 p.2))
    (l1 : ks.length = us.length) (l2 : ns.length = us.length) (l3 : ms.length = us.length) (d : Nat) :
    ∀ (m j : Nat), j + m = us.length → (Op.eqItems (d + 1) e (P.cellsOf e) ⟨us⟩ ⟨vs⟩ (List.range' j m)).run P w = .ok (decide (ns.drop j = ms.drop j)) w
  | 0, j, hj => by
    have : ns.drop j = ms.drop j := by rw [List.drop_of_length_le (by omega), List.drop_of_length_le (by omega)]
    simp [Op.eqItems, this]
  | m + 1, j, hj => by
    have hc : P.cellsOf e = 1 := by simp [Program.cellsOf, hi, h1]
    have hju : j < us.length := by omega
    have hjn : j < ns.length := by omega
    have hjm : j < ms.length := by omega
    have hjk : j < ks.length := by omega
    have hu : us[j]? = some (.int ks[j] ns[j]) := by simp [e1, List.zip, List.getElem?_zipWith, hjk, hjn]
    have hv : vs[j]? = some (.int ks[j] ms[j]) := by simp [e2, List.zip, List.getElem?_zipWith, hjk, hjm]
    have hp : ∀ (xs : List Value) (x : Value), xs[j]? = some x → (part e ⟨xs⟩ (j * 1)).run P w = .ok x w := by
      intro xs x hx
      unfold part
      simp only [Sem.run_bind, run_isAgg he, isAggD, Result.andThen_ok]
      simp [hx]
    have ih := run_eqItems he hi h1 w us vs hl ns ms ks e1 e2 l1 l2 l3 d m (j + 1) (by omega)
    simp only [List.range'_succ, Op.eqItems, Sem.run_bind, hc] at *
    rw [hp us _ hu]
    simp only [Result.andThen_ok]
    rw [hp vs _ hv]
    simp only [Result.andThen_ok]
    rw [run_equalIn_int w d e ks[j] k' ns[j] ms[j] he]
    simp only [Result.andThen_ok]
    have hd : decide (ns.drop j = ms.drop j) = ((ns[j] == ms[j]) && decide (ns.drop (j + 1) = ms.drop (j + 1))) := by
      rw [List.drop_eq_getElem_cons hjn, List.drop_eq_getElem_cons hjm]
      generalize ns.drop (j + 1) = A
      generalize ms.drop (j + 1) = B
      generalize ns[j] = x
      generalize ms[j] = y
      by_cases h1 : x = y <;> by_cases h2 : A = B <;> simp [h1, h2]
    rw [hd]
    cases heq : (ns[j] == ms[j])
    · simp
    · simp [ih]

theorem plainArr_ok {t : TypeId} {n : Nat} (h : plainArr Γ t = some n) : ∃ e k ti, Γ.P.underlying t = some (.array n e) ∧ Γ.P.underlying e = some (.int k) ∧ Γ.P.info? e = some ti ∧ ti.size = 1 ∧ Γ.P.eqGuardType Γ.P.depth t = false := by
  unfold plainArr at h
  split at h
  · rename_i n' e hu
    split at h
    · rename_i k ti he hi
      split at h
      · rename_i hc; cases h; exact ⟨e, _, ti, hu, he, hi, hc.1, hc.2⟩
      · cases h
    · cases h
  · cases h

theorem run_eqArr (hΓ : CtxOk Γ ρ) {t : TypeId} {n : Nat} {xs ys : List SVal} {c : C} {us vs : List Value} (hp : plainArr Γ t = some n) (hx : xs.length = n) (h : eqCells Γ xs ys = some c)
    (h1 : RvL ρ φ xs us) (h2 : RvL ρ φ ys vs) (w : World) : (Op.equal t (.agg ⟨us⟩) (.agg ⟨vs⟩)).run Γ.P w = .ok (c.den ρ) w := by
  obtain ⟨e, k, ti, hu, he, hi, hs, _⟩ := plainArr_ok hp
  obtain ⟨hl, ns, ms, ks, e1, e2, l1, l2, l3, ec⟩ := eqCells_ok hΓ h h1 h2
  have hr := run_equalIn_array (P := Γ.P) (w := w) 9999 ⟨us⟩ ⟨vs⟩ hu hi
  have hit := run_eqItems he hi hs w us vs hl ns ms ks e1 e2 l1 l2 l3 9998 n 0 (by have := h1.length; omega)
  unfold Op.equal Op.maxDepth
  rw [hr, List.range_eq_range', hit, ec]
  simp

theorem eqGuard_agg {P : Program} {t : TypeId} (h : P.eqGuardType P.depth t = false) (op : BinOp) (x y : Operand) (us vs : Array Value) (w : World) :
    (eqGuard op t x y (.agg us) (.agg vs)).run P w = .ok () w := by
  unfold eqGuard
  cases op <;> simp [h]

theorem shiftOk_ok (hΓ : CtxOk Γ ρ) {b : E} (h : shiftOk Γ b = true) : 0 ≤ b.den ρ := by
  unfold shiftOk at h
  split at h
  · rename_i r hr
    have := rng_ok hΓ _ _ _ hr
    simp at h; omega
  · cases h

theorem bits_fn (op : BinOp) (k : IntKind) (x y : Int) (w : World) {P : Program} (o : IOp)
    (ho : (op = .and ∧ o = .and k) ∨ (op = .or ∧ o = .or k) ∨ (op = .xor ∧ o = .xor k) ∨ (op = .andNot ∧ o = .andNot k)) :
    (Op.intBits op k x y).run P w = .ok (.int k (o.fn x y)) w := by
  rcases ho with ⟨rfl, rfl⟩ | ⟨rfl, rfl⟩ | ⟨rfl, rfl⟩ | ⟨rfl, rfl⟩ <;> rfl

theorem eqGuard_int {P : Program} (op : BinOp) (t : TypeId) (x y : Operand) (k : IntKind) (n : Int) (v : Value) (w : World) : (eqGuard op t x y (.int k n) v).run P w = .ok () w := by
  rw [eqGuard_at_int]; rfl

theorem intV_ok (hΓ : CtxOk Γ ρ) {op : BinOp} {k : IntKind} {a b : E} {s : SVal} (t : TypeId) (h : intV Γ op k a b = some s) (w : World) :
    ∃ v, (binOp op t (.int k (a.den ρ)) (.int k (b.den ρ))).run Γ.P w = .ok v w ∧ Rv ρ φ s v := by
  cases op <;> simp only [intV] at h
  case add => cases h; exact ⟨_, by rw [binOp_add]; rfl, by simp only [Rv, mk_ok hΓ, IOp.fn]⟩
  case sub => cases h; exact ⟨_, by rw [binOp_sub]; rfl, by simp only [Rv, mk_ok hΓ, IOp.fn]⟩
  case mul => cases h; exact ⟨_, by rw [binOp_mul]; rfl, by simp only [Rv, mk_ok hΓ, IOp.fn]⟩
  case and => cases h; exact ⟨_, by rw [binOp_and]; rfl, by simp only [Rv, mk_ok hΓ, IOp.fn]⟩
  case or => cases h; exact ⟨_, by rw [binOp_or]; rfl, by simp only [Rv, mk_ok hΓ, IOp.fn]⟩
  case xor => cases h; exact ⟨_, by rw [binOp_xor]; rfl, by simp only [Rv, mk_ok hΓ, IOp.fn]⟩
  case andNot => cases h; exact ⟨_, by rw [binOp_andNot]; rfl, by simp only [Rv, mk_ok hΓ, IOp.fn]⟩
  case quo =>
    split at h
    · rename_i n
      split at h
      · cases h
      · rename_i hn
        cases h
        exact ⟨.int k (k.wrap ((a.den ρ).tdiv n)), by rw [binOp_quo]; simp [Op.intDiv, E.den, hn], by simp only [Rv, mk_ok hΓ, IOp.fn, E.den]⟩
    · cases h
  case rem =>
    split at h
    · rename_i n
      split at h
      · cases h
      · rename_i hn
        cases h
        exact ⟨.int k ((a.den ρ).tmod n), by rw [binOp_rem]; simp [Op.intDiv, E.den, hn], by simp only [Rv, mk_ok hΓ, IOp.fn, E.den]⟩
    · cases h
  case eql => cases h; exact ⟨_, by rw [binOp_eql]; rfl, by simp only [Rv, mkCmp_ok hΓ, CO.fn]⟩
  case neq => cases h; exact ⟨_, by rw [binOp_neq]; rfl, by simp only [Rv, mkCmp_ok hΓ, CO.fn]⟩
  case lss => cases h; exact ⟨_, by rw [binOp_lss]; rfl, by simp only [Rv, mkCmp_ok hΓ, CO.fn]⟩
  case leq => cases h; exact ⟨_, by rw [binOp_leq]; rfl, by simp only [Rv, mkCmp_ok hΓ, CO.fn]⟩
  case gtr => cases h; exact ⟨_, by rw [binOp_gtr]; rfl, by simp only [Rv, mkCmp_ok hΓ, CO.fn]⟩
  case geq => cases h; exact ⟨_, by rw [binOp_geq]; rfl, by simp only [Rv, mkCmp_ok hΓ, CO.fn]⟩
  all_goals cases h

theorem binV_ok (hΓ : CtxOk Γ ρ) {op : BinOp} {t : TypeId} {x y s : SVal} {u v : Value} (h : binV Γ op t x y = some s) (hx : Rv ρ φ x u) (hy : Rv ρ φ y v) (ox oy : Operand) (w : World) :
    ∃ z, (do eqGuard op t ox oy u v; binOp op t u v : Sem Value).run Γ.P w = .ok z w ∧ Rv ρ φ s z := by
  unfold binV at h
  split at h
  · rename_i k a k' b
    rw [show u = _ from hx, show v = _ from hy]
    simp only [Sem.run_bind, eqGuard_int, Result.andThen_ok]
    split at h
    · split at h
      · rename_i hs
        cases h
        have h0 := shiftOk_ok hΓ hs
        refine ⟨.int k (k.wrap (a.den ρ * 2 ^ (min (b.den ρ).toNat k.bits))), ?_, by simp only [Rv, mk_ok hΓ, IOp.fn]⟩
        rw [binOp_shl]
        have hn : ¬ b.den ρ < 0 := by omega
        simp [Op.shift, hn]
      · cases h
    · split at h
      · rename_i hs
        cases h
        have h0 := shiftOk_ok hΓ hs
        refine ⟨.int k ((a.den ρ).fdiv (2 ^ (min (b.den ρ).toNat k.bits))), ?_, by simp only [Rv, mk_ok hΓ, IOp.fn]⟩
        rw [binOp_shr]
        have hn : ¬ b.den ρ < 0 := by omega
        simp [Op.shift, hn]
      · cases h
    · split at h
      · rename_i hk
        rw [← IntKind.same_eq hk]
        exact intV_ok hΓ t h w
      · cases h
  · rename_i a b
    rw [show u = _ from hx, show v = _ from hy]
    simp only [Sem.run_bind, eqGuard_at_bool, Sem.run_pure, Result.andThen_ok]
    split at h
    · rename_i hu
      cases h
      exact ⟨.bool (a.den ρ == b.den ρ), by simp [binOp, run_equal_bool w t _ _ hu], by simp only [Rv, mkIff_ok hΓ]⟩
    · rename_i hu
      cases h
      exact ⟨.bool (!(a.den ρ == b.den ρ)), by simp [binOp, run_equal_bool w t _ _ hu], by simp only [Rv, mkNot_ok hΓ, mkIff_ok hΓ]⟩
    · cases h
  · rename_i xs ys
    obtain ⟨us, rfl, hus⟩ := hx
    obtain ⟨vs, rfl, hvs⟩ := hy
    split at h
    · rename_i n hp
      split at h
      · rename_i hl
        obtain ⟨_, _, _, _, _, _, _, hg⟩ := plainArr_ok hp
        simp only [Sem.run_bind, eqGuard_agg hg, Result.andThen_ok]
        split at h
        · cases hc : eqCells Γ xs ys with
          | none => rw [hc] at h; cases h
          | some c =>
            rw [hc] at h; cases h
            exact ⟨.bool (c.den ρ), by simp [binOp, run_eqArr hΓ hp hl.1 hc hus hvs], rfl⟩
        · cases hc : eqCells Γ xs ys with
          | none => rw [hc] at h; cases h
          | some c =>
            rw [hc] at h; cases h
            exact ⟨.bool (!c.den ρ), by simp [binOp, run_eqArr hΓ hp hl.1 hc hus hvs], by simp only [Rv, mkNot_ok hΓ]⟩
        · cases h
      · cases h
    · cases h
  · rename_i a
    have hv : v = .pointer none := hy
    subst hv
    have hu : ∃ p : Option Addr, u = .pointer p ∧ p.isNone = a.isNone := by
      cases a with
      | none => exact ⟨none, hx, rfl⟩
      | some a => obtain ⟨x, _, e⟩ := hx; exact ⟨some x, e, rfl⟩
    obtain ⟨p, rfl, hpn⟩ := hu
    simp only [Sem.run_bind, eqGuard_at_pointer, Sem.run_pure, Result.andThen_ok]
    have heq : ∀ te, Γ.P.underlying t = some (.pointer te) → (Op.equal t (.pointer p) (.pointer none)).run Γ.P w = .ok p.isNone w := by
      intro te ht
      have key : ∀ d : Nat, (Op.equalIn (d + 1) t (.pointer p) (.pointer none)).run Γ.P w = .ok p.isNone w := by
        intro d
        cases p <;> simp [Op.equalIn, run_underlying ht]
      exact key 9999
    split at h
    · rename_i te ht
      cases h
      exact ⟨.bool p.isNone, by simp [binOp, heq _ ht], by simp only [Rv, C.den, hpn]⟩
    · rename_i te ht
      cases h
      exact ⟨.bool (!p.isNone), by simp [binOp, heq _ ht], by simp only [Rv, C.den, hpn]⟩
    · cases h
  · cases h

theorem unV_ok (hΓ : CtxOk Γ ρ) {op : UnOp} {x s : SVal} {u : Value} (h : unV Γ op x = some s) (hx : Rv ρ φ x u) (w : World) :
    ∃ z, (Op.unary op u).run Γ.P w = .ok z w ∧ Rv ρ φ s z := by
  unfold unV at h
  split at h
  · rename_i c
    cases h
    rw [show u = _ from hx]
    exact ⟨_, rfl, by simp only [Rv, mkNot_ok hΓ]⟩
  · rename_i k a
    cases h
    rw [show u = _ from hx]
    exact ⟨_, rfl, by simp only [Rv, mk_ok hΓ, IOp.fn, E.den]⟩
  · cases h

theorem convV_ok (hΓ : CtxOk Γ ρ) {a b : TypeId} {x s : SVal} {u : Value} (h : convV Γ a b x = some s) (hx : Rv ρ φ x u) (w : World) :
    ∃ z, (convert a b u).run Γ.P w = .ok z w ∧ Rv ρ φ s z := by
  unfold convV at h
  split at h
  · rename_i k1 k2 k e h1 h2
    cases h
    rw [show u = _ from hx]
    refine ⟨.int k2 (k2.wrap (e.den ρ)), ?_, by simp only [Rv, mk_ok hΓ, IOp.fn]⟩
    simp [convert, run_underlying h1, run_underlying h2, Conv.intToInt]
  · cases h

/-! ### addresses, indexes, slices -/
theorem add_place {φ : Phi} {i off n : Nat} {x : Addr} (h : place φ (i, off) x) : place φ (i, off + n) (x.add n) := by
  obtain ⟨b, hb, rfl⟩ := h
  exact ⟨b, hb, by rw [Addr.add_lit, Nat.add_assoc]⟩

theorem indexAddrV_ok (hΓ : CtxOk Γ ρ) {t : TypeId} {x y s : SVal} {u v : Value} (h : indexAddrV Γ t x y = some s) (hx : Rv ρ φ x u) (hy : Rv ρ φ y v) (w : World) :
    ∃ z, (Instr.indexAt t u v).run Γ.P w = .ok z w ∧ Rv ρ φ s z := by
  unfold indexAddrV at h
  split at h
  · rename_i len elem i off k e hu
    obtain ⟨a, ha, rfl⟩ := hx
    rw [show v = _ from hy]
    split at h
    · rename_i ti hi
      split at h
      · rename_i n hn
        split at h
        · rename_i hlt
          cases h
          have hd := litNat_ok (ρ := ρ) hn
          refine ⟨.pointer (some (a.add (n * ti.size))), ?_, _, add_place ha, rfl⟩
          simp [Instr.indexAt, asIntOf, run_underlying hu, Instr.sureAddr, hd, hlt, info_size hi]
        · cases h
      · split at h
        · rename_i r hr
          split at h
          · rename_i hc
            cases h
            have hb := rng_ok hΓ _ _ _ hr
            have h0 : 0 ≤ e.den ρ := by omega
            have h1 : e.den ρ < len := by omega
            refine ⟨.pointer (some (a.add ((e.den ρ).toNat * ti.size))), ?_, _, ?_, h0, h1, rfl⟩
            · simp [Instr.indexAt, asIntOf, run_underlying hu, Instr.sureAddr, h0, h1, info_size hi]
            · rw [hc.2.2, Nat.mul_one]; exact add_place ha
          · cases h
        · cases h
    · cases h
  · rename_i elem i off len cap k e hu
    obtain ⟨q, n', c, ha, rfl, hn', hcap, _⟩ := hx
    rw [show v = _ from hy]
    split at h
    · rename_i ti n r hi hn hr
      split at h
      · rename_i hlt
        cases h
        have hd := litNat_ok (ρ := ρ) hn
        have hb := rng_ok hΓ _ _ _ hr
        refine ⟨.pointer (some ((⟨q.1, q.2.2 + off, none⟩ : Addr).add (n * ti.size))), ?_, _, add_place ⟨q, ha, rfl⟩, rfl⟩
        have hc : n < n' := by omega
        simp [Instr.indexAt, asIntOf, run_underlying hu, hd, hc, info_size hi]
      · cases h
    · cases h
  · cases h

theorem intCells_ok {k : IntKind} : ∀ {cs : List SVal} {es : List E} {vs : List Value}, intCells k cs = some es → RvL ρ φ cs vs → vs = (E.dens ρ es).map (Value.int k) ∧ es.length = cs.length
  | [], _, _, h, hl => by cases h; rw [show _ = _ from hl]; exact ⟨rfl, rfl⟩
  | c :: cs, es, vs, h, hl => by
    cases c <;> try (cases h; done)
    rename_i k' e
    simp only [intCells] at h
    split at h
    · rename_i hk
      obtain rfl := IntKind.same_eq hk
      cases hc : intCells k cs with
      | none => rw [hc] at h; cases h
      | some r =>
        rw [hc] at h; cases h
        obtain ⟨v, r', rfl, hv, hr⟩ := hl
        have ih := intCells_ok hc hr
        rw [show v = _ from hv, ih.1]
        exact ⟨by simp [E.dens], by simp [ih.2]⟩
    · cases h

theorem dens_length : ∀ (es : List E), (E.dens ρ es).length = es.length
  | [] => rfl
  | e :: l => by simp [E.dens, dens_length l]

theorem selV_ok (hΓ : CtxOk Γ ρ) {cs : List SVal} {e : E} {s : SVal} {vs : List Value} (h : selV Γ cs e = some s) (hl : RvL ρ φ cs vs) (h0 : 0 ≤ e.den ρ) (h1 : e.den ρ < cs.length) :
    ∃ v, vs[(e.den ρ).toNat]? = some v ∧ Rv ρ φ s v := by
  unfold selV at h
  split at h
  · rename_i k e0 tl
    cases hc : intCells k (.int k e0 :: tl) with
    | none => rw [hc] at h; cases h
    | some es =>
      rw [hc] at h; cases h
      obtain ⟨e1, e2⟩ := intCells_ok hc hl
      have hlt : (e.den ρ).toNat < (E.dens ρ es).length := by rw [dens_length, e2]; omega
      refine ⟨.int k ((E.dens ρ es)[(e.den ρ).toNat]), ?_, ?_⟩
      · rw [e1, List.getElem?_map, List.getElem?_eq_getElem hlt]; rfl
      · simp [Rv, swap_ok hΓ, E.den, List.getD, List.getElem?_eq_getElem hlt]
  · cases h

theorem indexV_ok (hΓ : CtxOk Γ ρ) {t : TypeId} {x y s : SVal} {u v : Value} (h : indexV Γ t x y = some s) (hx : Rv ρ φ x u) (hy : Rv ρ φ y v) (w : World) :
    ∃ z, (Instr.index t u v).run Γ.P w = .ok z w ∧ Rv ρ φ s z := by
  unfold indexV at h
  split at h
  · rename_i len elem cs k e hu
    obtain ⟨vs, rfl, hl⟩ := hx
    rw [show v = _ from hy]
    split at h
    · rename_i ti hi
      split at h
      · rename_i n hn
        split at h
        · rename_i hlt
          have hd := litNat_ok (ρ := ρ) hn
          obtain ⟨z, hz, hs⟩ := partV_ok h hl w
          refine ⟨z, ?_, hs⟩
          simp [Instr.index, asIntOf, run_underlying hu, hd, hlt, info_size hi, hz]
        · cases h
      · split at h
        · rename_i k' r he hr
          split at h
          · rename_i hc
            have hb := rng_ok hΓ _ _ _ hr
            have h0 : 0 ≤ e.den ρ := by omega
            have h1 : e.den ρ < len := by omega
            obtain ⟨z, hz, hs⟩ := selV_ok hΓ h hl h0 (by omega)
            refine ⟨z, ?_, hs⟩
            have hp : (part elem ⟨vs⟩ ((e.den ρ).toNat * 1)).run Γ.P w = .ok z w := by
              unfold part
              simp only [Sem.run_bind, run_isAgg he, isAggD, Result.andThen_ok]
              simp [hz]
            simp only [Nat.mul_one] at hp
            simp [Instr.index, asIntOf, run_underlying hu, h0, h1, info_size hi, hc.2.2.1, hp]
          · cases h
        · cases h
    · cases h
  · cases h

def Ro (ρ : Val) (φ : Phi) : Option SVal → Option Value → Prop
  | none, none => True
  | some s, some v => Rv ρ φ s v
  | _, _ => False

theorem boundV_ok {o : Option SVal} {x : Option Value} {d n : Nat} (h : boundV o d = some n) (hx : Ro ρ φ o x) :
    (x = none ∧ n = d) ∨ (∃ k, x = some (.int k (n : Int))) := by
  cases o with
  | none =>
    cases x with
    | none => cases h; exact .inl ⟨rfl, rfl⟩
    | some v => exact hx.elim
  | some s =>
    cases x with
    | none => exact hx.elim
    | some v =>
      cases s <;> simp only [boundV] at h <;> try (cases h; done)
      rename_i k e
      rw [show v = _ from hx, litNat_ok h]
      exact .inr ⟨k, rfl⟩

theorem sliceBound_ok {P : Program} {k : IntKind} {n y : Nat} (h : n ≤ y) (code : BoundsCode) (w : World) : (Instr.sliceBound (.int k (n : Int)) y code).run P w = .ok n w := by
  have : (n : Int) ≤ (y : Int) := by omega
  simp [Instr.sliceBound, asIntOf, h]

theorem optRel (o : Option SVal) (x : Option Value) (h : Ro ρ φ o x) : o.isSome = x.isSome := by
  cases o <;> cases x <;> first | rfl | exact h.elim

theorem hiV_ok {hi : Option SVal} {hi' : Option Value} {len : E} {n h : Nat} (hh : hiV hi len = some h) (hr : Ro ρ φ hi hi') (hn : (n : Int) = len.den ρ) :
    (hi' = none ∧ h = n) ∨ ∃ k, hi' = some (.int k (h : Int)) := by
  cases hi with
  | none =>
    cases hi' with
    | none =>
      simp only [hiV] at hh
      have := litNat_ok (ρ := ρ) hh
      exact .inl ⟨rfl, by omega⟩
    | some v => exact hr.elim
  | some s =>
    rcases boundV_ok hh hr with ⟨rfl, _⟩ | h
    · exact hr.elim
    · exact .inr h

theorem resliceV_ok (hΓ : CtxOk Γ ρ) {t elem : TypeId} {ti : TypeInfo} {i off : Nat} {len : E} {cap : Cap} {lo hi : Option SVal} {s : SVal} {u : Value} {lo' hi' : Option Value} (hu : Γ.P.underlying t = some (.slice elem)) (hi0 : Γ.P.info? elem = some ti)
    (h : resliceV Γ ti.size i off len cap lo hi = some s) (hx : Rv ρ φ (.slice (some (i, off)) len cap) u) (hlo : Ro ρ φ lo lo') (hhi : Ro ρ φ hi hi') (w : World) :
    ∃ z, (Instr.sliceAt t u lo' hi' none).run Γ.P w = .ok z w ∧ Rv ρ φ s z := by
  obtain ⟨q, n, c, hq, rfl, hn, hnc, hcap⟩ := hx
  unfold resliceV at h
  split at h
  · rename_i l hh hl0 hh0
    have e1 := boundV_ok hl0 hlo
    have e2 := hiV_ok hh0 hhi hn
    have key : l ≤ hh → hh ≤ c → (Instr.sliceAt t (.slice (some ⟨q.1, q.2.2 + off, none⟩) n c) lo' hi' none).run Γ.P w =
        .ok (.slice (some (if c = l then ⟨q.1, q.2.2 + off, none⟩ else (⟨q.1, q.2.2 + off, none⟩ : Addr).add (l * ti.size))) (hh - l) (c - l)) w := by
      intro h1 h2
      have hb : (Instr.sliceBounds true n c lo' hi' none).run Γ.P w = .ok (l, hh, c) w := by
        unfold Instr.sliceBounds
        rcases e2 with ⟨rfl, rfl⟩ | ⟨k2, rfl⟩ <;> rcases e1 with ⟨rfl, rfl⟩ | ⟨k1, rfl⟩ <;> simp [sliceBound_ok, h1, h2]
      simp only [Instr.sliceAt, Sem.run_bind, run_underlying hu, Result.andThen_ok, Instr.slice, hb, info_size hi0, Sem.run_pure]
      split <;> rfl
    cases cap with
    | known c0 =>
      simp only at h
      have hc0 : c = c0 := hcap
      subst hc0
      split at h
      · rename_i hc
        cases h
        refine ⟨_, key hc.1 hc.2, ?_⟩
        by_cases hcl : c = l
        · simp only [hcl, if_true]
          refine ⟨q, hh - l, l - l, hq, rfl, rfl, by omega, rfl⟩
        · simp only [hcl, if_false]
          refine ⟨q, hh - l, c - l, hq, by rw [Addr.add_lit, Nat.add_assoc], rfl, by omega, rfl⟩
      · cases h
    | rest k =>
      simp only at h
      split at h
      · rename_i r hr
        split at h
        · rename_i hc
          have hb := rng_ok hΓ _ _ _ hr
          have hhc : hh ≤ c := by omega
          split at h
          · rename_i hl
            cases h
            subst hl
            refine ⟨_, key hc.1 hhc, q, hh - 0, c - 0, hq, ?_, rfl, by omega, hcap⟩
            rw [Nat.zero_mul, Addr.add_lit]; simp
          · split at h
            · rename_i hlh
              cases h
              refine ⟨_, key hc.1 hhc, q, hh - l, c - l, hq, ?_, rfl, by omega, trivial⟩
              have : ¬ c = l := by omega
              simp only [this, if_false, Addr.add_lit, Nat.add_assoc]
            · cases h
        · cases h
      · cases h
    | any =>
      simp only at h
      split at h
      · rename_i r hr
        split at h
        · rename_i hc
          have hb := rng_ok hΓ _ _ _ hr
          have hhc : hh ≤ c := by omega
          split at h
          · rename_i hl
            cases h
            subst hl
            refine ⟨_, key hc.1 hhc, q, hh - 0, c - 0, hq, ?_, rfl, by omega, hcap⟩
            rw [Nat.zero_mul, Addr.add_lit]; simp
          · split at h
            · rename_i hlh
              cases h
              refine ⟨_, key hc.1 hhc, q, hh - l, c - l, hq, ?_, rfl, by omega, trivial⟩
              have : ¬ c = l := by omega
              simp only [this, if_false, Addr.add_lit, Nat.add_assoc]
            · cases h
        · cases h
      · cases h
  · cases h

theorem sliceV_ok (hΓ : CtxOk Γ ρ) {t : TypeId} {x s : SVal} {u : Value} {lo hi mx : Option SVal} {lo' hi' mx' : Option Value} (h : sliceV Γ t x lo hi mx = some s) (hx : Rv ρ φ x u)
    (hlo : Ro ρ φ lo lo') (hhi : Ro ρ φ hi hi') (hmx : Ro ρ φ mx mx') (w : World) :
    ∃ z, (Instr.sliceAt t u lo' hi' mx').run Γ.P w = .ok z w ∧ Rv ρ φ s z := by
  unfold sliceV at h
  split at h
  · rename_i n elem i off hu
    obtain ⟨a, ha, rfl⟩ := hx
    split at h
    · rename_i ti l hh m hi0 hl0 hh0 hm0
      split at h
      · rename_i hc
        cases h
        have e1 := boundV_ok hl0 hlo
        have e2 := boundV_ok hh0 hhi
        have e3 := boundV_ok hm0 hmx
        have s1 := optRel _ _ hmx
        have s2 := optRel _ _ hhi
        have hb : (Instr.sliceBounds false n n lo' hi' mx').run Γ.P w = .ok (l, hh, m) w := by
          unfold Instr.sliceBounds
          rcases e3 with ⟨rfl, rfl⟩ | ⟨k3, rfl⟩
          · rcases e2 with ⟨rfl, rfl⟩ | ⟨k2, rfl⟩ <;> rcases e1 with ⟨rfl, rfl⟩ | ⟨k1, rfl⟩ <;>
              simp [sliceBound_ok, hc.1, hc.2.1]
          · rcases e2 with ⟨rfl, rfl⟩ | ⟨k2, rfl⟩
            · have h4 := hc.2.2.2
              rw [s1, s2] at h4
              simp at h4
            · rcases e1 with ⟨rfl, rfl⟩ | ⟨k1, rfl⟩ <;> simp [sliceBound_ok, hc.1, hc.2.1, hc.2.2.1]
        obtain ⟨q, hq, rfl⟩ := ha
        refine ⟨.slice (some (if m = l then ⟨q.1, q.2.2 + off, none⟩ else (⟨q.1, q.2.2 + off, none⟩ : Addr).add (l * ti.size))) (hh - l) (m - l), ?_, ?_⟩
        · simp [Instr.sliceAt, run_underlying hu, Instr.sureAddr, hb, info_size hi0]
        · refine ⟨q, hh - l, m - l, ?_, ?_, rfl, by omega, rfl⟩
          · split <;> exact hq
          · split
            · rfl
            · rw [Addr.add_lit, Nat.add_assoc]
      · cases h
    · cases h
  · rename_i elem i off len cap hu
    split at h
    · rename_i ti hi0
      cases mx' with
      | none => exact resliceV_ok hΓ hu hi0 h hx hlo hhi w
      | some v => exact hmx.elim
    · cases h
  · cases h

theorem builtinV_ok (hΓ : CtxOk Γ ρ) {b : Builtin} {ts : Array TypeId} {ty : TypeId} {cs : Array Bool} {ss : List SVal} {s : SVal} {vs : List Value} (h : builtinV Γ b ts ss = some s) (hv : RvL ρ φ ss vs) (w : World) :
    ∃ z, (builtin b ts ty cs ⟨vs⟩).run Γ.P w = .ok (.value z) w ∧ Rv ρ φ s z := by
  unfold builtinV at h
  split at h
  · rename_i a len cap
    obtain ⟨v, r, rfl, hv, hr⟩ := hv
    rw [show r = [] from hr]
    split at h
    · rename_i e ht
      cases h
      have hs : ∃ (x : Option Addr) (n c : Nat), v = .slice x n c ∧ (n : Int) = len.den ρ := by
        cases a with
        | none => obtain ⟨n, c, e, h1, _⟩ := hv; exact ⟨none, n, c, e, h1⟩
        | some a => obtain ⟨q, n, c, _, e, h1, _⟩ := hv; exact ⟨some _, n, c, e, h1⟩
      obtain ⟨x, n, c, rfl, hn⟩ := hs
      cases ht0 : ts[0]? with
      | none => rw [ht0] at ht; cases ht
      | some t0 =>
        rw [ht0] at ht
        have ht' : Γ.P.underlying t0 = some (.slice e) := ht
        refine ⟨.int .i64 n, ?_, by simp only [Rv, hn]⟩
        simp [builtin, Builtin.len_, ht0, run_underlying ht', goInt]
    · cases h
  · rename_i k a k' b
    obtain ⟨v, r, rfl, hv, v2, r2, rfl, hv2, hr2⟩ := hv
    rw [show r2 = [] from hr2, show v = _ from hv, show v2 = _ from hv2]
    cases h
    exact ⟨.int k (if b.den ρ > a.den ρ then b.den ρ else a.den ρ), by simp [builtin, Builtin.max_, Builtin.max2], by simp only [Rv, mk_ok hΓ, IOp.fn]⟩
  · rename_i k a k' b
    obtain ⟨v, r, rfl, hv, v2, r2, rfl, hv2, hr2⟩ := hv
    rw [show r2 = [] from hr2, show v = _ from hv, show v2 = _ from hv2]
    cases h
    exact ⟨.int k (if b.den ρ < a.den ρ then b.den ρ else a.den ρ), by simp [builtin, Builtin.min_, Builtin.min2], by simp only [Rv, mk_ok hΓ, IOp.fn]⟩
  · cases h

end
end Go.Sx
