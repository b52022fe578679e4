/-
  What symbolic values and memory stand for, and that a step keeps it. Conditions: none beside the hypotheses of each theorem.
-/
import Derived.Test.YtaeklgfdknbncaaSxB
import Derived.Laws.Entries
import Derived.Laws.Cells
import Derived.Laws.CopyRow
import Derived.Laws.StructEq
import Derived.ChangeKeysEq
namespace Go.Sx

/-! ## What a symbolic value stands for -/
/-- of each symbolic block: which block it is, of how many cells, and where in it they begin -/
abbrev Phi := List (Nat × Nat × Nat)

def place (φ : Phi) (a : Nat × Nat) (x : Addr) : Prop := ∃ b, φ[a.1]? = some b ∧ x = ⟨b.1, b.2.2 + a.2, none⟩

def capOk : Cap → Nat → Nat → Nat → Prop
  | .known m, _, c, _ => c = m
  | .rest s, off, c, tot => off + c * s = tot
  | .any, _, _, _ => True

mutual
def Rv (ρ : Val) (φ : Phi) : SVal → Value → Prop
  | .int k e, v => v = .int k (e.den ρ)
  | .bool c, v => v = .bool (c.den ρ)
  | .str bs, v => v = .string ⟨⟨bs⟩⟩
  | .ptr none, v => v = .pointer none
  | .ptr (some a), v => ∃ x, place φ a x ∧ v = .pointer (some x)
  | .pix i off len e, v => ∃ x, place φ (i, off + (e.den ρ).toNat) x ∧ 0 ≤ e.den ρ ∧ e.den ρ < len ∧ v = .pointer (some x)
  | .slice none len cap, v => ∃ n c : Nat, v = .slice none n c ∧ (n : Int) = len.den ρ ∧ n ≤ c ∧ ∀ m, cap = .known m → c = m
  | .slice (some a) len cap, v => ∃ (q : Nat × Nat × Nat) (n c : Nat), φ[a.1]? = some q ∧ v = .slice (some ⟨q.1, q.2.2 + a.2, none⟩) n c ∧ (n : Int) = len.den ρ ∧ n ≤ c ∧ capOk cap a.2 c q.2.1
  | .agg cs, v => ∃ vs, v = .agg ⟨vs⟩ ∧ RvL ρ φ cs vs
  | .tuple cs, v => ∃ vs, v = .tuple ⟨vs⟩ ∧ RvL ρ φ cs vs
  | .func f a b, v => ∃ xs ys, v = .func (.func f) ⟨xs⟩ ⟨ys⟩ ∧ RvL ρ φ a xs ∧ RvL ρ φ b ys
  | .nilFunc, v => v = .nilFunc
  | .nilIface, v => v = .nilIface
  | .iface t s, v => ∃ x, v = .iface t x ∧ Rv ρ φ s x
def RvL (ρ : Val) (φ : Phi) : List SVal → List Value → Prop
  | [], vs => vs = []
  | s :: l, vs => ∃ v r, vs = v :: r ∧ Rv ρ φ s v ∧ RvL ρ φ l r
end

section
variable {ρ : Val} {φ : Phi}

theorem place_mono {a : Nat × Nat} {x : Addr} (h : place φ a x) (ψ : Phi) : place (φ ++ ψ) a x := by
  obtain ⟨b, hb, rfl⟩ := h
  exact ⟨b, by rw [List.getElem?_append_left (List.getElem?_eq_some_iff.1 hb).1]; exact hb, rfl⟩

theorem place_clean {a : Nat × Nat} {x : Addr} {ψ : Phi} (h : place (φ ++ ψ) a x) (hc : a.1 < φ.length) : place φ a x := by
  obtain ⟨b, hb, rfl⟩ := h
  exact ⟨b, by rwa [List.getElem?_append_left hc] at hb, rfl⟩

mutual
theorem Rv.mono (ψ : Phi) : ∀ {s : SVal} {v : Value}, Rv ρ φ s v → Rv ρ (φ ++ ψ) s v
  | .int .., _, h => h
  | .bool .., _, h => h
  | .str .., _, h => h
  | .ptr none, _, h => h
  | .ptr (some _), _, ⟨x, hx, h⟩ => ⟨x, place_mono hx ψ, h⟩
  | .pix .., _, ⟨x, hx, h⟩ => ⟨x, place_mono hx ψ, h⟩
  | .slice none .., _, h => h
  | .slice (some _) .., _, ⟨q, n, c, hx, h⟩ => ⟨q, n, c, by rw [List.getElem?_append_left (List.getElem?_eq_some_iff.1 hx).1]; exact hx, h⟩
  | .agg _, _, ⟨vs, h, hl⟩ => ⟨vs, h, RvL.mono ψ hl⟩
  | .tuple _, _, ⟨vs, h, hl⟩ => ⟨vs, h, RvL.mono ψ hl⟩
  | .func .., _, ⟨xs, ys, h, ha, hb⟩ => ⟨xs, ys, h, RvL.mono ψ ha, RvL.mono ψ hb⟩
  | .nilFunc, _, h => h
  | .nilIface, _, h => h
  | .iface _ _, _, ⟨x, h, hx⟩ => ⟨x, h, Rv.mono ψ hx⟩
theorem RvL.mono (ψ : Phi) : ∀ {l : List SVal} {vs : List Value}, RvL ρ φ l vs → RvL ρ (φ ++ ψ) l vs
  | [], _, h => h
  | _ :: _, _, ⟨v, r, h, hv, hr⟩ => ⟨v, r, h, Rv.mono ψ hv, RvL.mono ψ hr⟩
end

mutual
theorem Rv.clean {ψ : Phi} : ∀ {s : SVal} {v : Value}, Rv ρ (φ ++ ψ) s v → clean φ.length s = true → Rv ρ φ s v
  | .int .., _, h, _ => h
  | .bool .., _, h, _ => h
  | .str .., _, h, _ => h
  | .ptr none, _, h, _ => h
  | .ptr (some _), _, ⟨x, hx, h⟩, hc => ⟨x, place_clean hx (by simpa [Sx.clean] using hc), h⟩
  | .pix .., _, ⟨x, hx, h⟩, hc => ⟨x, place_clean hx (by simpa [Sx.clean] using hc), h⟩
  | .slice none .., _, h, _ => h
  | .slice (some a) .., _, ⟨q, n, c, hx, h⟩, hc => ⟨q, n, c, by rwa [List.getElem?_append_left (by simpa [Sx.clean] using hc)] at hx, h⟩
  | .agg _, _, ⟨vs, h, hl⟩, hc => ⟨vs, h, RvL.clean hl (by simpa [Sx.clean] using hc)⟩
  | .tuple _, _, ⟨vs, h, hl⟩, hc => ⟨vs, h, RvL.clean hl (by simpa [Sx.clean] using hc)⟩
  | .func .., _, ⟨xs, ys, h, ha, hb⟩, hc => by
    simp [Sx.clean] at hc
    exact ⟨xs, ys, h, RvL.clean ha hc.1, RvL.clean hb hc.2⟩
  | .nilFunc, _, h, _ => h
  | .nilIface, _, h, _ => h
  | .iface _ _, _, ⟨x, h, hx⟩, hc => ⟨x, h, Rv.clean hx (by simpa [Sx.clean] using hc)⟩
theorem RvL.clean {ψ : Phi} : ∀ {l : List SVal} {vs : List Value}, RvL ρ (φ ++ ψ) l vs → cleans φ.length l = true → RvL ρ φ l vs
  | [], _, h, _ => h
  | _ :: _, _, ⟨v, r, h, hv, hr⟩, hc => by
    simp [Sx.cleans] at hc
    exact ⟨v, r, h, Rv.clean hv hc.1, RvL.clean hr hc.2⟩
end

theorem RvL.length : ∀ {l : List SVal} {vs : List Value}, RvL ρ φ l vs → vs.length = l.length
  | [], _, h => by rw [h]; rfl
  | _ :: l, _, ⟨v, r, h, _, hr⟩ => by rw [h]; simp [RvL.length hr]

theorem RvL.get : ∀ {l : List SVal} {vs : List Value} {i : Nat} {s : SVal}, RvL ρ φ l vs → l[i]? = some s → ∃ v, vs[i]? = some v ∧ Rv ρ φ s v
  | [], _, _, _, _, hs => by cases hs
  | s :: l, _, 0, _, ⟨v, r, h, hv, _⟩, hs => by cases hs; exact ⟨v, by rw [h]; rfl, hv⟩
  | _ :: l, _, i + 1, _, ⟨v, r, h, _, hr⟩, hs => by
    have := RvL.get (i := i) hr (by simpa using hs)
    rw [h]; simpa using this

theorem RvL.append : ∀ {l : List SVal} {vs : List Value} {m : List SVal} {ws : List Value}, RvL ρ φ l vs → RvL ρ φ m ws → RvL ρ φ (l ++ m) (vs ++ ws)
  | [], _, _, _, h, h' => by rw [show _ = _ from h]; exact h'
  | _ :: _, _, _, _, ⟨v, r, h, hv, hr⟩, h' => ⟨v, r ++ _, by rw [h]; rfl, hv, RvL.append hr h'⟩

theorem RvL.take : ∀ {l : List SVal} {vs : List Value} (n : Nat), RvL ρ φ l vs → RvL ρ φ (l.take n) (vs.take n)
  | [], _, n, h => by rw [show _ = _ from h]; simp [RvL]
  | _ :: _, _, 0, h => by simp [RvL]
  | _ :: _, _, n + 1, ⟨v, r, h, hv, hr⟩ => ⟨v, r.take n, by rw [h]; rfl, hv, RvL.take n hr⟩

theorem RvL.drop : ∀ {l : List SVal} {vs : List Value} (n : Nat), RvL ρ φ l vs → RvL ρ φ (l.drop n) (vs.drop n)
  | [], _, n, h => by rw [show _ = _ from h]; simp [RvL]
  | _ :: _, _, 0, h => h
  | _ :: _, _, n + 1, ⟨v, r, h, hv, hr⟩ => by rw [h]; exact RvL.drop n hr

theorem RvL.set : ∀ {l : List SVal} {vs : List Value} (n : Nat) {s : SVal} {v : Value}, RvL ρ φ l vs → Rv ρ φ s v → RvL ρ φ (l.set n s) (vs.set n v)
  | [], _, n, _, _, h, _ => by rw [show _ = _ from h]; simp [RvL]
  | _ :: _, _, 0, _, _, ⟨v, r, h, hv, hr⟩, hs => ⟨_, r, by rw [h]; rfl, hs, hr⟩
  | _ :: _, _, n + 1, _, _, ⟨v, r, h, hv, hr⟩, hs => ⟨v, r.set n _, by rw [h]; rfl, hv, RvL.set n hr hs⟩

theorem RvL.replicate {s : SVal} {v : Value} (h : Rv ρ φ s v) : ∀ n, RvL ρ φ (List.replicate n s) (List.replicate n v)
  | 0 => rfl
  | n + 1 => ⟨v, _, rfl, h, RvL.replicate h n⟩

theorem RvL.of_get : ∀ {l : List SVal} {vs : List Value}, vs.length = l.length → (∀ (i : Nat) s v, l[i]? = some s → vs[i]? = some v → Rv ρ φ s v) → RvL ρ φ l vs
  | [], vs, h, _ => List.eq_nil_of_length_eq_zero h
  | s :: l, [], h, _ => by simp at h
  | s :: l, v :: vs, h, hg => ⟨v, vs, rfl, hg 0 s v rfl rfl, RvL.of_get (by simpa using h) fun i s v hs hv => hg (i + 1) s v (by simpa using hs) (by simpa using hv)⟩

theorem undef_ok : Rv ρ φ undefS undef := ⟨[], rfl, rfl⟩

mutual
theorem ofValue_ok : ∀ {v : Value} {s : SVal}, ofValue v = some s → Rv ρ φ s v
  | .bool _, _, h => by cases h; rfl
  | .int .., _, h => by cases h; rfl
  | .float .., _, h => by cases h
  | .complex .., _, h => by cases h
  | .string _, _, h => by cases h; rfl
  | .pointer none, _, h => by cases h; rfl
  | .pointer (some _), _, h => by cases h
  | .slice none 0 0, _, h => by cases h; exact ⟨0, 0, rfl, rfl, Nat.le_refl _, fun m hm => by cases hm; rfl⟩
  | .slice none 0 (_ + 1), _, h => by cases h
  | .slice none (_ + 1) _, _, h => by cases h
  | .slice (some _) _ _, _, h => by cases h
  | .map _, _, h => by cases h
  | .chan _, _, h => by cases h
  | .func .., _, h => by cases h
  | .nilFunc, _, h => by cases h; rfl
  | .nilIface, _, h => by cases h; rfl
  | .iface .., _, h => by cases h
  | .agg ⟨cs⟩, s, h => by
    simp only [ofValue] at h
    cases hc : ofValues cs with
    | none => rw [hc] at h; cases h
    | some ss => rw [hc] at h; cases h; exact ⟨cs, rfl, ofValues_ok hc⟩
  | .tuple ⟨cs⟩, s, h => by
    simp only [ofValue] at h
    cases hc : ofValues cs with
    | none => rw [hc] at h; cases h
    | some ss => rw [hc] at h; cases h; exact ⟨cs, rfl, ofValues_ok hc⟩
theorem ofValues_ok : ∀ {l : List Value} {ss : List SVal}, ofValues l = some ss → RvL ρ φ ss l
  | [], _, h => by cases h; rfl
  | v :: l, ss, h => by
    simp only [ofValues] at h
    split at h
    · rename_i s r hs hr
      cases h
      exact ⟨v, l, rfl, ofValue_ok hs, ofValues_ok hr⟩
    · cases h
end

theorem Rv.cells {s : SVal} {v : Value} (h : Rv ρ φ s v) : RvL ρ φ s.cells v.cells.toList := by
  cases s with
  | agg cs => obtain ⟨vs, rfl, hl⟩ := h; exact hl
  | int k e => rw [show v = _ from h]; exact ⟨_, _, rfl, rfl, rfl⟩
  | bool c => rw [show v = _ from h]; exact ⟨_, _, rfl, rfl, rfl⟩
  | str bs => rw [show v = _ from h]; exact ⟨_, _, rfl, rfl, rfl⟩
  | ptr a =>
    cases a with
    | none => rw [show v = _ from h]; exact ⟨_, _, rfl, rfl, rfl⟩
    | some a => obtain ⟨x, hx, rfl⟩ := h; exact ⟨_, _, rfl, ⟨x, hx, rfl⟩, rfl⟩
  | pix i off len e => obtain ⟨x, hx, h1, h2, rfl⟩ := h; exact ⟨_, _, rfl, ⟨x, hx, h1, h2, rfl⟩, rfl⟩
  | slice a len cap =>
    cases a with
    | none => obtain ⟨n, c, rfl, h⟩ := h; exact ⟨_, _, rfl, ⟨n, c, rfl, h⟩, rfl⟩
    | some a => obtain ⟨x, n, c, hx, rfl, h⟩ := h; exact ⟨_, _, rfl, ⟨x, n, c, hx, rfl, h⟩, rfl⟩
  | tuple cs => obtain ⟨vs, rfl, hl⟩ := h; exact ⟨_, _, rfl, ⟨vs, rfl, hl⟩, rfl⟩
  | func f a b => obtain ⟨xs, ys, rfl, h⟩ := h; exact ⟨_, _, rfl, ⟨xs, ys, rfl, h⟩, rfl⟩
  | nilFunc => rw [show v = _ from h]; exact ⟨_, _, rfl, rfl, rfl⟩
  | nilIface => rw [show v = _ from h]; exact ⟨_, _, rfl, rfl, rfl⟩
  | iface t s => obtain ⟨x, rfl, h⟩ := h; exact ⟨_, _, rfl, ⟨x, rfl, h⟩, rfl⟩

theorem Rv.oneCell {s : SVal} {v : Value} (h : Rv ρ φ s v) (hs : scalar s = true) : v.oneCell' = true := by
  cases s with
  | agg cs => cases hs
  | tuple cs => cases hs
  | ptr a =>
    cases a with
    | none => rw [show v = _ from h]; rfl
    | some a => obtain ⟨x, hx, rfl⟩ := h; rfl
  | pix i off len e => obtain ⟨x, hx, h1, h2, rfl⟩ := h; rfl
  | slice a len cap =>
    cases a with
    | none => obtain ⟨n, c, rfl, h⟩ := h; rfl
    | some a => obtain ⟨x, n, c, hx, rfl, h⟩ := h; rfl
  | func f a b => obtain ⟨xs, ys, rfl, h⟩ := h; rfl
  | iface t s => obtain ⟨x, rfl, h⟩ := h; rfl
  | _ => rw [show v = _ from h]; rfl

theorem RvL.oneCells : ∀ {l : List SVal} {vs : List Value}, RvL ρ φ l vs → l.all scalar = true → ∀ v ∈ vs, v.oneCell' = true
  | [], _, h, _ => by rw [show _ = _ from h]; simp
  | _ :: _, _, ⟨v, r, h, hv, hr⟩, ha => by
    simp at ha
    rw [h]
    intro x hx
    rcases List.mem_cons.1 hx with rfl | hx
    · exact hv.oneCell ha.1
    · exact RvL.oneCells hr (by simpa using ha.2) x hx

/-! ## What a symbolic memory stands for -/
def Robj (ρ : Val) (φ : Phi) : SObj → Nat × Nat × Nat → World → Prop
  | .cells cs ex rw, b, w => ∃ (pre vs tl : List Value) (el : TypeId) (fr : Nat × Nat), w.heap[b.1]? = some (.cells ⟨pre ++ (vs ++ tl)⟩ el fr) ∧ pre.length = b.2.2 ∧
      (rw = true → fr = (0, 0) ∧ pre = []) ∧ (ex = true → tl = []) ∧ RvL ρ φ cs vs ∧ vs.length + tl.length = b.2.1
  | .dead _, _, _ => True

structure Rh (ρ : Val) (φ : Phi) (hp : Hp) (w : World) : Prop where
  len : hp.length = φ.length
  lt : ∀ b ∈ φ, b.1 < w.heap.size
  uniq : ∀ (i j : Nat) o o' b b', hp[i]? = some o → hp[j]? = some o' → o.live = true → o'.live = true → φ[i]? = some b → φ[j]? = some b' → b.1 = b'.1 → i = j
  obj : ∀ (i : Nat) o b, hp[i]? = some o → φ[i]? = some b → Robj ρ φ o b w

theorem Robj.mono {o : SObj} {b : Nat × Nat × Nat} {w : World} (h : Robj ρ φ o b w) (ψ : Phi) : Robj ρ (φ ++ ψ) o b w := by
  cases o with
  | cells cs ex rw =>
    obtain ⟨pre, vs, tl, el, fr, h1, h0, h2, h3, h4, h5⟩ := h
    exact ⟨pre, vs, tl, el, fr, h1, h0, h2, h3, h4.mono ψ, h5⟩
  | dead rw => trivial

theorem Robj.same {o : SObj} {b : Nat × Nat × Nat} {w w' : World} (h : Robj ρ φ o b w) (hb : w'.heap[b.1]? = w.heap[b.1]?) : Robj ρ φ o b w' := by
  cases o with
  | cells cs ex rw =>
    obtain ⟨pre, vs, tl, el, fr, h1, h⟩ := h
    exact ⟨pre, vs, tl, el, fr, by rw [hb]; exact h1, h⟩
  | dead rw => trivial

/-- From (hp, φ, w) to (hp', φ', w'): old blocks stay but for those that may be written, from number `ro` on. -/
structure Step (ro : Nat) (hp : Hp) (φ : Phi) (w : World) (hp' : Hp) (φ' : Phi) (w' : World) : Prop where
  os : w'.os = w.os
  tape : w'.tape = w.tape
  output : w'.output = w.output
  size : w.heap.size ≤ w'.heap.size
  pre : ∃ ψ, φ' = φ ++ ψ ∧ ∀ b ∈ ψ, w.heap.size ≤ b.1 ∨ ∃ (i : Nat) (o : SObj) (c : Nat × Nat × Nat), ro ≤ i ∧ φ[i]? = some c ∧ c.1 = b.1 ∧ hp[i]? = some o ∧ o.rw = true
  rw : ∀ (i : Nat) o, hp[i]? = some o → ∃ o', hp'[i]? = some o' ∧ o'.rw = o.rw
  low : ∀ i : Nat, i < ro → i < hp.length → hp'[i]? = hp[i]?
  block : ∀ b, b < w.heap.size → (∀ (i : Nat) o c, φ[i]? = some c → c.1 = b → hp[i]? = some o → o.rw = true → i < ro) → w'.heap[b]? = w.heap[b]?

theorem Step.refl (ro : Nat) (hp : Hp) (φ : Phi) (w : World) : Step ro hp φ w hp φ w :=
  ⟨rfl, rfl, rfl, Nat.le_refl _, ⟨[], by simp⟩, fun i o h => ⟨o, h, rfl⟩, fun _ _ _ => rfl, fun _ _ _ => rfl⟩

theorem Step.trans {ro : Nat} {hp hp1 hp2 : Hp} {φ φ1 φ2 : Phi} {w w1 w2 : World} (hl : hp.length = φ.length)
    (h : Step ro hp φ w hp1 φ1 w1) (k : Step ro hp1 φ1 w1 hp2 φ2 w2) : Step ro hp φ w hp2 φ2 w2 := by
  obtain ⟨ψ, e1, hψ⟩ := h.pre
  obtain ⟨χ, e2, hχ⟩ := k.pre
  -- a writable block of the middle is writable at the start, or new
  have back : ∀ (i : Nat) (o : SObj) (c : Nat × Nat × Nat), ro ≤ i → φ1[i]? = some c → hp1[i]? = some o → o.rw = true →
      w.heap.size ≤ c.1 ∨ ∃ (j : Nat) (o' : SObj) (c' : Nat × Nat × Nat), ro ≤ j ∧ φ[j]? = some c' ∧ c'.1 = c.1 ∧ hp[j]? = some o' ∧ o'.rw = true := by
    intro i o c hi hc ho hrw
    rw [e1] at hc
    by_cases hlt : i < φ.length
    · rw [List.getElem?_append_left hlt] at hc
      have hlt' : i < hp.length := by omega
      obtain ⟨o', ho', e⟩ := h.rw i _ (List.getElem?_eq_getElem hlt')
      have : o' = o := Option.some.inj (ho'.symm.trans ho)
      subst this
      exact .inr ⟨i, _, c, hi, hc, rfl, List.getElem?_eq_getElem hlt', e ▸ hrw⟩
    · rw [List.getElem?_append_right (by omega)] at hc
      exact hψ c (List.mem_of_getElem? hc)
  refine ⟨k.os.trans h.os, k.tape.trans h.tape, k.output.trans h.output, Nat.le_trans h.size k.size, ⟨ψ ++ χ, by rw [e2, e1, List.append_assoc], ?_⟩, ?_, ?_, ?_⟩
  · intro b hb
    rcases List.mem_append.1 hb with hb | hb
    · exact hψ b hb
    · rcases hχ b hb with hb | ⟨i, o, c, h1, h2, h3, h4, h5⟩
      · exact .inl (Nat.le_trans h.size hb)
      · rcases back i o c h1 h2 h4 h5 with hb | ⟨j, o', c', g1, g2, g3, g4, g5⟩
        · exact .inl (h3 ▸ hb)
        · exact .inr ⟨j, o', c', g1, g2, g3.trans h3, g4, g5⟩
  · intro i o ho
    obtain ⟨o', ho', e⟩ := h.rw i o ho
    obtain ⟨o'', ho'', e'⟩ := k.rw i o' ho'
    exact ⟨o'', ho'', e'.trans e⟩
  · intro i hi hlt
    have := h.low i hi hlt
    rw [k.low i hi ?_, this]
    have h0 := List.getElem?_eq_getElem hlt
    rw [h0] at this
    exact (List.getElem?_eq_some_iff.1 this).1
  · intro b hb hw
    rw [k.block b (Nat.lt_of_lt_of_le hb h.size) ?_, h.block b hb hw]
    intro i o c hi hcb ho hrw
    refine Nat.lt_of_not_le fun hro => ?_
    rcases back i o c hro hi ho hrw with hge | ⟨j, o', c', g1, g2, g3, g4, g5⟩
    · omega
    · have := hw j o' c' g2 (g3.trans hcb) g4 g5
      omega

theorem Step.weaken {ro ro' : Nat} {hp hp' : Hp} {w w' : World} {φ' : Phi} (h : Step ro' hp φ w hp' φ' w') (hr : ro ≤ ro' ∨ hp.length ≤ ro') : Step ro hp φ w hp' φ' w' := by
  obtain ⟨ψ, e, hψ⟩ := h.pre
  refine ⟨h.os, h.tape, h.output, h.size, ⟨ψ, e, fun b hb => ?_⟩, h.rw, fun i h1 h2 => h.low i (by omega) h2, fun b hb hw => h.block b hb fun i o c hi hc ho hrw => ?_⟩
  · rcases hψ b hb with hb | ⟨i, o, c, h1, h2, h3, h4, h5⟩
    · exact .inl hb
    · have := (List.getElem?_eq_some_iff.1 h4).1
      exact .inr ⟨i, o, c, by omega, h2, h3, h4, h5⟩
  · have := hw i o c hi hc ho hrw
    have := (List.getElem?_eq_some_iff.1 ho).1
    omega

/-- a step that writes nothing old keeps what is known -/
theorem Rh.keep {hp hp' : Hp} {w w' : World} {φ' : Phi} (h : Rh ρ φ hp w) (hs : Step hp.length hp φ w hp' φ' w') : Rh ρ φ hp w' :=
  ⟨h.len, fun b hb => Nat.lt_of_lt_of_le (h.lt b hb) hs.size, h.uniq, fun i o b hi hb =>
    (h.obj i o b hi hb).same (hs.block b.1 (h.lt b (List.mem_of_getElem? hb)) fun _ _ _ _ _ ho' _ => (List.getElem?_eq_some_iff.1 ho').1)⟩

end
end Go.Sx
