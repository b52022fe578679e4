/-
  The plan of a region that draws its order. Conditions: none beside the hypotheses of each theorem.
-/
import Derived.Test.YtaeklgfdknbncaaSxG
import Derived.Orders
namespace Go.Sx

/-! ## Regions that draw their order: every order gives what the order of the text gives -/
structure Plan (Γ : Env) (run : Run) (ro : Nat) (ops : Array Oper) (st st' : St) where
  S : Nat → St
  v : Nat → SVal
  c : Nat → Cls
  d : Nat → Cls
  B : Nat → List Nat
  first : S 0 = st
  last : S ops.size = st'
  one : ∀ (i : Nat) o, ops[i]? = some o →
    (wantedS ops.toList (S i).tmps o = some true ∧ ∃ hp', operV Γ run ro (evT (S i).tmps) (S i).hp o.op = some (v i, hp', c i) ∧ S (i + 1) = { tmps := put (S i).tmps o.dst (v i), hp := hp' }) ∨
    (wantedS ops.toList (S i).tmps o = some false ∧ v i = undefS ∧ c i = .P ∧ S (i + 1) = { tmps := put (S i).tmps o.dst (v i), hp := (S i).hp })
  dP : ∀ i : Nat, i < ops.size → d i = .P → c i = .P
  cP : ∀ i : Nat, i < ops.size → c i = .P → d i = .P
  dA : ∀ i : Nat, i < ops.size → d i = .A → c i = .A
  dQ : ∀ i : Nat, i < ops.size → d i = .Q → c i = .Q ∧ ∀ j : Nat, j < i → d j = .P ∨ d j = .Q
  pair : ∀ (i j : Nat) oi oj, i < j → ops[i]? = some oi → ops[j]? = some oj → pairOk ops.toList oi oj (d i) (d j) (memN i (B j)) = true
  bind : ∀ (i : Nat) o, ops[i]? = some o → ∀ j ∈ binding o, j < i
  clo : ∀ (j : Nat) o, ops[j]? = some o → ∀ x ∈ B j, ∃ y ∈ binding o, x = y ∨ (y < j ∧ x ∈ B y)

theorem memN_iff {n : Nat} : ∀ {l : List Nat}, memN n l = true ↔ n ∈ l
  | [] => by simp [memN]
  | m :: l => by
    have ih := memN_iff (n := n) (l := l)
    simp only [memN, Bool.or_eq_true, List.mem_cons, ih]
    rw [Nat.beq_eq]

/-! ### the plan out of the evaluator's look -/
theorem opsC_seq {Γ : Env} {run : Run} {ro : Nat} {ops : List Oper} : ∀ {l : List Oper} {st st' : St} {cs : List Cls}, opsC Γ run ro ops l st = some (st', cs) →
    ∃ (S : Nat → St) (v : Nat → SVal) (c : Nat → Cls), S 0 = st ∧ S l.length = st' ∧ cs.length = l.length ∧ (∀ i, i < l.length → cs[i]? = some (c i)) ∧
      ∀ (i : Nat) o, l[i]? = some o →
        (wantedS ops (S i).tmps o = some true ∧ ∃ hp', operV Γ run ro (evT (S i).tmps) (S i).hp o.op = some (v i, hp', c i) ∧ S (i + 1) = { tmps := put (S i).tmps o.dst (v i), hp := hp' }) ∨
        (wantedS ops (S i).tmps o = some false ∧ v i = undefS ∧ c i = .P ∧ S (i + 1) = { tmps := put (S i).tmps o.dst (v i), hp := (S i).hp })
  | [], st, st', cs, h => by
    cases h
    exact ⟨fun _ => st, fun _ => undefS, fun _ => .P, rfl, rfl, rfl, fun i hi => by simp at hi, fun i o ho => by simp at ho⟩
  | o :: l, st, st', cs, h => by
    simp only [opsC] at h
    split at h
    · rename_i st1 c1 h1
      split at h
      · rename_i st2 cs2 h2
        cases h
        obtain ⟨S, v, c, e0, e1, e2, e3, e4⟩ := opsC_seq h2
        have hone : ∃ v1, (wantedS ops st.tmps o = some true ∧ ∃ hp', operV Γ run ro (evT st.tmps) st.hp o.op = some (v1, hp', c1) ∧ st1 = { tmps := put st.tmps o.dst v1, hp := hp' }) ∨
            (wantedS ops st.tmps o = some false ∧ v1 = undefS ∧ c1 = .P ∧ st1 = { tmps := put st.tmps o.dst v1, hp := st.hp }) := by
          unfold oneV at h1
          split at h1
          · rename_i hw
            split at h1
            · rename_i v1 hp1 c1' hop
              cases h1
              exact ⟨v1, .inl ⟨hw, hp1, hop, rfl⟩⟩
            · cases h1
          · rename_i hw
            cases h1
            exact ⟨undefS, .inr ⟨hw, rfl, rfl, rfl⟩⟩
          · cases h1
        obtain ⟨v1, hone⟩ := hone
        refine ⟨fun | 0 => st | i + 1 => S i, fun | 0 => v1 | i + 1 => v i, fun | 0 => c1 | i + 1 => c i, rfl, by simpa using e1, by simp [e2], ?_, ?_⟩
        · intro i hi
          cases i with
          | zero => rfl
          | succ i => simpa using e3 i (by simpa using hi)
        · intro i oi hoi
          cases i with
          | zero =>
            cases hoi
            simp only [e0]
            exact hone
          | succ i => exact e4 i oi (by simpa using hoi)
      · cases h
    · cases h

theorem uni_mem {x : Nat} : ∀ {l m : List Nat}, x ∈ uni l m → x ∈ l ∨ x ∈ m
  | [], m, h => .inr h
  | y :: l, m, h => by
    simp only [uni] at h
    cases hc : memN y m with
    | true =>
      rw [hc] at h
      rcases uni_mem (l := l) h with h | h
      · exact .inl (by simp [h])
      · exact .inr h
    | false =>
      rw [hc] at h
      rcases List.mem_cons.1 (show x ∈ y :: uni l m from h) with h | h
      · exact .inl (by simp [h])
      · rcases uni_mem h with h | h
        · exact .inl (by simp [h])
        · exact .inr h

theorem reach_mem {acc : List (List Nat)} {x : Nat} : ∀ {l : List Nat}, x ∈ reach acc l → ∃ y ∈ l, x = y ∨ x ∈ (nth acc y).getD []
  | [], h => by cases h
  | j :: l, h => by
    rcases uni_mem (show x ∈ uni (j :: (nth acc j).getD []) (reach acc l) from h) with h | h
    · exact ⟨j, by simp, List.mem_cons.1 h⟩
    · obtain ⟨y, hy, h⟩ := reach_mem h
      exact ⟨y, by simp [hy], h⟩

theorem closure_get : ∀ {l : List Oper} {acc : List (List Nat)}, (∀ y, y < acc.length → (closure l acc)[y]? = acc[y]?) ∧
    ∀ (i : Nat) o, l[i]? = some o → ∃ b, (closure l acc)[acc.length + i]? = some b ∧ ∀ x ∈ b, ∃ y ∈ binding o, x = y ∨ ∃ b', y < acc.length + i ∧ (closure l acc)[y]? = some b' ∧ x ∈ b'
  | [], acc => ⟨fun y _ => rfl, fun i o h => by simp at h⟩
  | o :: l, acc => by
    obtain ⟨h1, h2⟩ := closure_get (l := l) (acc := acc ++ [reach acc (binding o)])
    simp only [List.length_append, List.length_cons, List.length_nil] at h1 h2
    have hold : ∀ y, y < acc.length → (closure (o :: l) acc)[y]? = acc[y]? := fun y hy => by
      simp only [closure]
      rw [h1 y (by omega), List.getElem?_append_left hy]
    refine ⟨hold, fun i o' ho => ?_⟩
    cases i with
    | zero =>
      cases ho
      refine ⟨reach acc (binding o), ?_, ?_⟩
      · simp only [closure, Nat.add_zero]
        rw [h1 acc.length (by omega)]
        simp
      · intro x hx
        obtain ⟨y, hy, hx⟩ := reach_mem hx
        refine ⟨y, hy, ?_⟩
        rcases hx with hx | hx
        · exact .inl hx
        · rw [nth_eq] at hx
          cases hb : acc[y]? with
          | none => rw [hb] at hx; simp at hx
          | some b' =>
            rw [hb] at hx
            have hlt := (List.getElem?_eq_some_iff.1 hb).1
            exact .inr ⟨b', by omega, by rw [hold y hlt]; exact hb, by simpa using hx⟩
    | succ i =>
      obtain ⟨b, hb, hx⟩ := h2 i o' (by simpa using ho)
      refine ⟨b, ?_, ?_⟩
      · simp only [closure]
        rw [← hb]; congr 1; omega
      · intro x hxb
        obtain ⟨y, hy, h⟩ := hx x hxb
        refine ⟨y, hy, ?_⟩
        rcases h with h | ⟨b', hlt, hb', hxb'⟩
        · exact .inl h
        · exact .inr ⟨b', by omega, hb', hxb'⟩

theorem settle_get : ∀ {l : List Cls} {seen : Bool} {i : Nat} {d : Cls}, (settle seen l)[i]? = some d →
    ∃ c, l[i]? = some c ∧ (d = .P ↔ c = .P) ∧ (d = .A → c = .A) ∧ (d = .Q → c = .Q ∧ seen = false ∧ ∀ j, j < i → ∀ dj, (settle seen l)[j]? = some dj → dj = .P ∨ dj = .Q)
  | [], seen, i, d, h => by simp [settle] at h
  | c :: l, seen, 0, d, h => by
    cases c <;> cases seen <;> simp [settle] at h <;> subst h <;> exact ⟨_, rfl, by simp, by simp, by simp⟩
  | c :: l, seen, i + 1, d, h => by
    have hq : ∀ {s : Bool} {x : Cls}, settle seen (c :: l) = x :: settle s l → (seen = true → s = true) → (s = false → x = .P ∨ x = .Q) →
        ∃ c', (c :: l)[i + 1]? = some c' ∧ (d = .P ↔ c' = .P) ∧ (d = .A → c' = .A) ∧ (d = .Q → c' = .Q ∧ seen = false ∧ ∀ j, j < i + 1 → ∀ dj, (settle seen (c :: l))[j]? = some dj → dj = .P ∨ dj = .Q) := by
      intro s x e hs hx
      rw [e] at h
      obtain ⟨c', h1, h2, h3, h4⟩ := settle_get (seen := s) (by simpa using h)
      refine ⟨c', by simpa using h1, h2, h3, fun hd => ?_⟩
      obtain ⟨k1, k2, k3⟩ := h4 hd
      refine ⟨k1, ?_, ?_⟩
      · cases seen with
        | false => rfl
        | true => rw [hs rfl] at k2; cases k2
      · intro j hj dj hdj
        rw [e] at hdj
        cases j with
        | zero => cases hdj; exact hx k2
        | succ j => exact k3 j (by omega) dj (by simpa using hdj)
    cases c with
    | P => cases seen <;> exact hq (s := _) (x := .P) (by rfl) (by simp) (by simp)
    | Q =>
      cases seen with
      | false => exact hq (s := false) (x := .Q) (by rfl) (by simp) (by simp)
      | true => exact hq (s := true) (x := .W) (by rfl) (by simp) (by simp)
    | A => cases seen <;> exact hq (s := true) (x := .A) (by rfl) (by simp) (by simp)
    | W => cases seen <;> exact hq (s := true) (x := .W) (by rfl) (by simp) (by simp)

theorem settle_length : ∀ (l : List Cls) (seen : Bool), (settle seen l).length = l.length
  | [], _ => by simp [settle]
  | c :: l, seen => by cases c <;> cases seen <;> simp [settle, settle_length l]

theorem mkRows_get : ∀ {l : List Oper} {cs : List Cls} {bs : List (List Nat)} {i : Nat} {o : Oper} {c : Cls} {b : List Nat}, l[i]? = some o → cs[i]? = some c → bs[i]? = some b → (mkRows l cs bs)[i]? = some ⟨o, c, b⟩
  | o :: l, c :: cs, b :: bs, 0, _, _, _, h1, h2, h3 => by cases h1; cases h2; cases h3; rfl
  | o :: l, c :: cs, b :: bs, i + 1, _, _, _, h1, h2, h3 => by simpa [mkRows] using mkRows_get (i := i) (by simpa using h1) (by simpa using h2) (by simpa using h3)
  | [], _, _, _, _, _, _, h1, _, _ => by simp at h1
  | _ :: _, [], _, _, _, _, _, _, h2, _ => by simp at h2
  | _ :: _, _ :: _, [], _, _, _, _, _, _, h3 => by simp at h3

theorem rowsOk_get {ops : List Oper} : ∀ {l : List Row} {k : Nat}, rowsOk ops k l = true →
    (∀ (i j : Nat) ri rj, i < j → l[i]? = some ri → l[j]? = some rj → pairOk ops ri.o rj.o ri.c rj.c (memN (k + i) rj.before) = true) ∧
    (∀ (i : Nat) ri, l[i]? = some ri → ∀ j ∈ binding ri.o, j < k + i)
  | [], k, _ => ⟨fun i j ri rj _ h => by simp at h, fun i ri h => by simp at h⟩
  | r :: l, k, h => by
    simp only [rowsOk, Bool.and_eq_true, List.all_eq_true, decide_eq_true_eq] at h
    obtain ⟨⟨h1, h2⟩, h3⟩ := h
    obtain ⟨i1, i2⟩ := rowsOk_get h3
    constructor
    · intro i j ri rj hij hi hj
      cases j with
      | zero => omega
      | succ j =>
        cases i with
        | zero => cases hi; exact h1 rj (List.mem_of_getElem? (by simpa using hj))
        | succ i =>
          have := i1 i j ri rj (by omega) (by simpa using hi) (by simpa using hj)
          rwa [show k + (i + 1) = k + 1 + i by omega]
    · intro i ri hi j hj
      cases i with
      | zero => cases hi; exact h2 j hj
      | succ i => have := i2 i ri (by simpa using hi) j hj; omega

theorem plan_of {Γ : Env} {run : Run} {ro : Nat} {ops : Array Oper} {st st' : St} {cs : List Cls} (h : opsC Γ run ro ops.toList ops.toList st = some (st', cs)) (ho : orderOk ops.toList cs = true) :
    Nonempty (Plan Γ run ro ops st st') := by
  obtain ⟨S, v, c, e0, e1, e2, e3, e4⟩ := opsC_seq h
  obtain ⟨_, hclo⟩ := closure_get (l := ops.toList) (acc := [])
  simp only [List.length_nil, Nat.zero_add] at hclo
  obtain ⟨hp, hb⟩ := rowsOk_get ho
  have hsl := settle_length cs false
  have hl : ∀ (i : Nat) o, ops[i]? = some o → ops.toList[i]? = some o := fun i o h => by simpa using h
  let d : Nat → Cls := fun i => ((settle false cs)[i]?).getD .W
  let B : Nat → List Nat := fun i => ((closure ops.toList [])[i]?).getD []
  have hd : ∀ i, i < ops.size → (settle false cs)[i]? = some (d i) := fun i hi => by
    have : i < (settle false cs).length := by rw [hsl, e2]; simpa using hi
    simp [d, List.getElem?_eq_getElem this]
  have hB : ∀ (i : Nat) o, ops[i]? = some o → (closure ops.toList [])[i]? = some (B i) := fun i o h => by
    obtain ⟨b, hb, _⟩ := hclo i o (hl i o h)
    simp [B, hb]
  have hc : ∀ i, i < ops.size → cs[i]? = some (c i) := fun i hi => e3 i (by simpa using hi)
  have hsz : ∀ (i : Nat) o, ops[i]? = some o → i < ops.size := fun i o h => (Array.getElem?_eq_some_iff.1 h).1
  refine ⟨⟨S, v, c, d, B, e0, by simpa using e1, fun i o h => e4 i o (hl i o h), ?_, ?_, ?_, ?_, ?_, ?_, ?_⟩⟩
  · intro i hi hdi
    obtain ⟨c', k1, k2, _⟩ := settle_get (hd i hi)
    have : c' = c i := Option.some.inj (k1.symm.trans (hc i hi))
    exact this ▸ k2.1 hdi
  · intro i hi hdi
    obtain ⟨c', k1, k2, _⟩ := settle_get (hd i hi)
    have : c' = c i := Option.some.inj (k1.symm.trans (hc i hi))
    exact k2.2 (this.trans hdi)
  · intro i hi hdi
    obtain ⟨c', k1, _, k2, _⟩ := settle_get (hd i hi)
    have : c' = c i := Option.some.inj (k1.symm.trans (hc i hi))
    exact this ▸ k2 hdi
  · intro i hi hdi
    obtain ⟨c', k1, _, _, k2⟩ := settle_get (hd i hi)
    have : c' = c i := Option.some.inj (k1.symm.trans (hc i hi))
    obtain ⟨j1, _, j3⟩ := k2 hdi
    exact ⟨this ▸ j1, fun j hj => j3 j hj (d j) (hd j (by omega))⟩
  · intro i j oi oj hij hi hj
    have r1 := mkRows_get (hl i oi hi) (hd i (hsz i oi hi)) (hB i oi hi)
    have r2 := mkRows_get (hl j oj hj) (hd j (hsz j oj hj)) (hB j oj hj)
    simpa using hp i j _ _ hij r1 r2
  · intro i o hi j hj
    have r1 := mkRows_get (hl i o hi) (hd i (hsz i o hi)) (hB i o hi)
    simpa using hb i _ r1 j hj
  · intro j o hj x hx
    obtain ⟨b, hb1, hb2⟩ := hclo j o (hl j o hj)
    have : b = B j := Option.some.inj (hb1.symm.trans (hB j o hj))
    subst this
    obtain ⟨y, hy, h⟩ := hb2 x hx
    refine ⟨y, hy, ?_⟩
    rcases h with h | ⟨b', h1, h2, h3⟩
    · exact .inl h
    · exact .inr ⟨h1, by simp [B, h2, h3]⟩

end Go.Sx
