/-
  Filling the tables. Conditions: none beside the hypotheses of each theorem.
-/
import Derived.Test.YtaeklgfdknbncaaAesP2
namespace Go.Proofs.Ytaeklgfdknbncaa
noncomputable section
open Go.ChangeShapes Go.WideShapes Go.ChangeAt Go.RowKit Go.Sx Go.Aes

/-! ### Equality of states -/
mutual
def eqvV : SVal → SVal → Bool
  | .int k a, .int j b => IntKind.same k j && a.same b
  | .bool a, .bool b => a.same b
  | .agg l, .agg m => eqvVs l m
  | .tuple l, .tuple m => eqvVs l m
  | .ptr (some a), .ptr (some b) => Nat.beq a.1 b.1 && Nat.beq a.2 b.2
  | _, _ => false
def eqvVs : List SVal → List SVal → Bool
  | [], [] => true
  | a :: l, b :: m => eqvV a b && eqvVs l m
  | _, _ => false
end

mutual
theorem eqvV_eq : ∀ {a b : SVal}, eqvV a b = true → a = b
  | .int k a, b, h => by
    cases b <;> try (cases h; done)
    simp only [eqvV, Bool.and_eq_true] at h
    rw [IntKind.same_eq h.1, E.same_eq h.2]
  | .bool a, b, h => by
    cases b <;> try (cases h; done)
    simp only [eqvV] at h
    rw [C.same_eq h]
  | .agg l, b, h => by
    cases b <;> try (cases h; done)
    simp only [eqvV] at h
    rw [eqvVs_eq h]
  | .tuple l, b, h => by
    cases b <;> try (cases h; done)
    simp only [eqvV] at h
    rw [eqvVs_eq h]
  | .ptr (some a), b, h => by
    cases b <;> try (cases h; done)
    rename_i b
    cases b with
    | none => cases h
    | some b =>
      simp only [eqvV, Bool.and_eq_true] at h
      obtain ⟨a1, a2⟩ := a
      obtain ⟨b1, b2⟩ := b
      rw [show a1 = b1 from Nat.eq_of_beq_eq_true h.1, show a2 = b2 from Nat.eq_of_beq_eq_true h.2]
  | .ptr none, _, h => by cases h
  | .str _, _, h => by cases h
  | .pix .., _, h => by cases h
  | .slice .., _, h => by cases h
  | .func .., _, h => by cases h
  | .nilFunc, _, h => by cases h
  | .nilIface, _, h => by cases h
  | .iface .., _, h => by cases h
theorem eqvVs_eq : ∀ {a b : List SVal}, eqvVs a b = true → a = b
  | [], b, h => by cases b <;> first | rfl | cases h
  | x :: l, b, h => by
    cases b with
    | nil => cases h
    | cons y m =>
      simp only [eqvVs, Bool.and_eq_true] at h
      rw [eqvV_eq h.1, eqvVs_eq h.2]
end

def eqvO : SObj → SObj → Bool
  | .cells l a b, .cells m c d => eqvVs l m && (a == c && b == d)
  | _, _ => false
def eqvH : Hp → Hp → Bool
  | [], [] => true
  | a :: l, b :: m => eqvO a b && eqvH l m
  | _, _ => false
theorem eqvO_eq {a b : SObj} (h : eqvO a b = true) : a = b := by
  cases a <;> cases b <;> try (cases h; done)
  simp only [eqvO, Bool.and_eq_true, beq_iff_eq] at h
  rw [eqvVs_eq h.1, h.2.1, h.2.2]
theorem eqvH_eq : ∀ {a b : Hp}, eqvH a b = true → a = b
  | [], b, h => by cases b <;> first | rfl | cases h
  | x :: l, b, h => by
    cases b with
    | nil => cases h
    | cons y m =>
      simp only [eqvH, Bool.and_eq_true] at h
      rw [eqvO_eq h.1, eqvH_eq h.2]
def eqvS (o : Option St) (s : St) : Bool :=
  match o with
  | some t => eqvVs t.tmps s.tmps && eqvH t.hp s.hp
  | none => false
theorem eqvS_eq {o : Option St} {s : St} (h : eqvS o s = true) : o = some s := by
  cases o with
  | none => cases h
  | some t =>
    simp only [eqvS, Bool.and_eq_true] at h
    obtain ⟨a, b⟩ := t
    obtain ⟨c, d⟩ := s
    rw [show a = c from eqvVs_eq h.1, show b = d from eqvH_eq h.2]

/-! ### Rounds of a loop -/
noncomputable def rounds (Γ : Env) (c : Code) (ro : Nat) : Nat → Nat → St → Option St
  | 0, _, st => some st
  | _ + 1, 0, _ => none
  | k + 1, n + 1, st => match runV Γ n c ro st with
    | some (.normal, st') => rounds Γ c ro k n st'
    | _ => none

theorem loop_rounds {Γ : Env} {c : Code} {ro : Nat} : ∀ (k n : Nat) {st st' : St}, rounds Γ c ro k (n + k) st = some st' → runV Γ (n + k) (.loop c) ro st = runV Γ n (.loop c) ro st'
  | 0, n, st, st', h => by cases h; rfl
  | k + 1, n, st, st', h => by
    have h' : (match runV Γ (n + k) c ro st with
      | some (.normal, st') => rounds Γ c ro k (n + k) st'
      | _ => none) = some st' := h
    show (match runV Γ (n + k) c ro st with
      | some (.normal, st') => runV Γ (n + k) (.loop c) ro st'
      | r => r) = _
    split at h'
    · exact loop_rounds k n h'
    · cases h'

/-! ### Filling the tables -/
noncomputable def code67 : Code := match Try.prog.funcs[67]? with
  | some fn => fn.body.getD .skip
  | none => .skip
structure Parts where
  A : Code
  A2 : Code
  b : Nat
  L : Code
  B : Code
def parts : Code → Option Parts
  | .seq A (.seq (.seq A2 (.block b (.loop L))) B) => some ⟨A, A2, b, L, B⟩
  | _ => none
def noParts : Parts := ⟨.skip, .skip, 0, .skip, .skip⟩
noncomputable def ps : Parts := (parts code67).getD noParts
theorem code_ps : code67 = .seq ps.A (.seq (.seq ps.A2 (.block ps.b (.loop ps.L))) ps.B) := by
  have h : (parts code67).isSome = true := by kernel_rfl
  unfold ps
  generalize code67 = c at h ⊢
  unfold parts at h ⊢
  split at h
  · rfl
  · cases h

def iv (n : Nat) : SVal := .int .i64 (.lit n)
def bv (n : Nat) : SVal := .int .u8 (.lit n)
def wv (n : Nat) : SVal := .int .u32 (.lit n)
def wF (n : Nat) : Nat := word (gm 2 (sb n)) (sb n) (sb n) (gm 3 (sb n))
def wB (n : Nat) : Nat := word (gm 14 (bk n)) (gm 9 (bk n)) (gm 13 (bk n)) (gm 11 (bk n))
def tmpsF (j : Nat) : List SVal :=
  let s := sb j
  let t := bk j
  [.ptr (some (0, 0)), iv j, bv s, bv t, iv (j + 1), .bool (.lit true), iv j, iv j, bv j, bv s, iv j, bv j, bv t, iv j, bv s, bv (gm 2 s), bv s, bv s, bv s, bv (gm 3 s), wv (wF j),
   .ptr (some (0, 0)), .ptr (some (0, j)), iv j, bv t, bv (gm 14 t), bv t, bv (gm 9 t), bv t, bv (gm 13 t), bv t, bv (gm 11 t), wv (wB j), .ptr (some (0, 256)), .ptr (some (0, 256 + j)), iv (j + 1), undefS]
def stF (i : Nat) : St :=
  { tmps := match i with
      | 0 => .ptr (some (0, 0)) :: undefS :: undefS :: undefS :: iv 0 :: List.replicate 32 undefS
      | j + 1 => tmpsF j
    hp := [.cells (wordsV (tableF.take i ++ (List.replicate (256 - i) 0 ++ (tableB.take i ++ List.replicate (256 - i) 0)))) true true] }
noncomputable def Γ1 : Env := env sums1 []
theorem chunk0 : eqvS (rounds Γ1 ps.L 0 32 596 (stF 0)) (stF 32) = true := by kernel_rfl
theorem chunk1 : eqvS (rounds Γ1 ps.L 0 32 564 (stF 32)) (stF 64) = true := by kernel_rfl
theorem chunk2 : eqvS (rounds Γ1 ps.L 0 32 532 (stF 64)) (stF 96) = true := by kernel_rfl
theorem chunk3 : eqvS (rounds Γ1 ps.L 0 32 500 (stF 96)) (stF 128) = true := by kernel_rfl
theorem chunk4 : eqvS (rounds Γ1 ps.L 0 32 468 (stF 128)) (stF 160) = true := by kernel_rfl
theorem chunk5 : eqvS (rounds Γ1 ps.L 0 32 436 (stF 160)) (stF 192) = true := by kernel_rfl
theorem chunk6 : eqvS (rounds Γ1 ps.L 0 32 404 (stF 192)) (stF 224) = true := by kernel_rfl
theorem chunk7 : eqvS (rounds Γ1 ps.L 0 32 372 (stF 224)) (stF 256) = true := by kernel_rfl

/-- all rounds -/
theorem loop67 : runV Γ1 596 (.loop ps.L) 0 (stF 0) = runV Γ1 340 (.loop ps.L) 0 (stF 256) := by
  rw [loop_rounds 32 564 (eqvS_eq chunk0), loop_rounds 32 532 (eqvS_eq chunk1), loop_rounds 32 500 (eqvS_eq chunk2), loop_rounds 32 468 (eqvS_eq chunk3),
    loop_rounds 32 436 (eqvS_eq chunk4), loop_rounds 32 404 (eqvS_eq chunk5), loop_rounds 32 372 (eqvS_eq chunk6), loop_rounds 32 340 (eqvS_eq chunk7)]

def thenN (r : Option (Ex × St)) (f : St → Option (Ex × St)) : Option (Ex × St) :=
  match r with
  | some (.normal, st) => f st
  | r => r
def norm (r : Option (Ex × St)) : Option St :=
  match r with
  | some (.normal, st) => some st
  | _ => none
theorem norm_eq {r : Option (Ex × St)} {st : St} (h : norm r = some st) : r = some (.normal, st) := by
  unfold norm at h
  split at h
  · cases h; rfl
  · cases h
def st67 : St := { tmps := List.replicate 37 undefS, hp := [] }
theorem start67 : eqvS (norm (thenN (runV Γ1 599 ps.A 0 st67) fun st => runV Γ1 597 ps.A2 0 st)) (stF 0) = true := by kernel_rfl

def tables : SVal := .agg (wordsV (tableF ++ tableB))
def leaves (b : Nat) (r : Option (Ex × St)) : Option St :=
  match r with
  | some (.exit j, st) => if j = b then some st else none
  | _ => none
theorem leaves_eq {b : Nat} {r : Option (Ex × St)} {st : St} (h : leaves b r = some st) : r = some (.exit b, st) := by
  unfold leaves at h
  split at h
  · split at h
    · rename_i e; cases h; rw [e]
    · cases h
  · cases h
noncomputable def res67 : List ResultVar := match Try.prog.funcs[67]? with
  | some fn => fn.results.toList
  | none => []
def ends (r : Option St) (k : St → Option (Ex × St)) (res : St → Option (List SVal)) (v : SVal) : Bool :=
  match r with
  | some st => match k st with
    | some (.ret, st') => match res st' with
      | some vs => (oneOrTuple vs).same v
      | none => false
    | _ => false
  | none => false
theorem end67 : ends (leaves ps.b (runV Γ1 340 (.loop ps.L) 0 (stF 256))) (fun st => runV Γ1 598 ps.B 0 st) (fun st => resultVs Γ1.toCtx st.hp st.tmps res67) tables = true := by kernel_rfl

theorem run_seq {Γ : Env} {m n : Nat} {a b : Code} {ro : Nat} {st : St} (h : m = n + 1) : runV Γ m (.seq a b) ro st = thenN (runV Γ n a ro st) fun st => runV Γ n b ro st := by
  subst h
  show (match runV Γ n a ro st with
    | some (.normal, st') => runV Γ n b ro st'
    | r => r) = _
  unfold thenN
  rfl
theorem thenN_n {st : St} {f : St → Option (Ex × St)} : thenN (some (.normal, st)) f = f st := rfl
def unb (id : Nat) (r : Option (Ex × St)) : Option (Ex × St) :=
  match r with
  | some (.exit j, st') => if j = id then some (.normal, st') else some (.exit j, st')
  | r => r
theorem run_block {Γ : Env} {m n : Nat} {b : Nat} {c : Code} {ro : Nat} {st : St} (h : m = n + 1) : runV Γ m (.block b c) ro st = unb b (runV Γ n c ro st) := by
  subst h
  rfl

theorem run67 : ∃ st vs, runV Γ1 600 code67 0 st67 = some (.ret, st) ∧ resultVs Γ1.toCtx st.hp st.tmps res67 = some vs ∧ (oneOrTuple vs).same tables = true := by
  have h1 := eqvS_eq start67
  have h2 := end67
  unfold ends at h2
  split at h2
  · rename_i s1 e1
    have e1 := leaves_eq e1
    split at h2
    · rename_i s2 e2
      split at h2
      · rename_i vs e3
        refine ⟨s2, vs, ?_, e3, h2⟩
        have h1 := norm_eq h1
        unfold thenN at h1
        split at h1
        · rename_i s3 e4
          have h1 : runV Γ1 597 ps.A2 0 s3 = _ := h1
          rw [code_ps, run_seq (n := 599) (m := 600) rfl, e4]
          rw [thenN_n, run_seq (n := 598) (m := 599) rfl, run_seq (n := 597) (m := 598) rfl, h1, thenN_n, run_block (n := 596) (m := 597) rfl, loop67, e1]
          simp only [unb, if_true, thenN_n]
          exact e2
        · rename_i hn
          exact (hn _ h1).elim
      · cases h2
    · cases h2
  · cases h2

theorem fill_eval : gives (callV Γ1 (runV Γ1 600) 0 [] 67 []) tables = true := by
  obtain ⟨st, vs, h1, h2, h3⟩ := run67
  have hs : (Try.prog.funcs[67]?).isSome = true := by kernel_rfl
  have hb : (match Try.prog.funcs[67]? with | some fn => fn.body.isSome && (fn.name != "runtime.NumGoroutine") && Nat.beq fn.ntmps 37 | none => false) = true := by kernel_rfl
  cases hf : Try.prog.funcs[67]? with
  | none => rw [hf] at hs; cases hs
  | some fn =>
    rw [hf] at hb
    simp only [Bool.and_eq_true, bne_iff_ne, ne_eq] at hb
    obtain ⟨⟨hb1, hb2⟩, hb3⟩ := hb
    have hb3 : fn.ntmps = 37 := Nat.eq_of_beq_eq_true hb3
    cases hc : fn.body with
    | none => rw [hc] at hb1; cases hb1
    | some code =>
      have c67 : code67 = code := by unfold code67; rw [hf]; show fn.body.getD .skip = code; rw [hc]; rfl
      have r67 : res67 = fn.results.toList := by unfold res67; rw [hf]
      have hΓf : Γ1.P.funcs[67]? = some fn := hf
      have hsum : Γ1.sums 67 = none := rfl
      have hl : Γ1.loud 67 = false := rfl
      unfold callV
      rw [hΓf]
      simp only [hc, hb2, if_false, hsum, hl, Bool.false_eq_true]
      rw [← c67, hb3]
      have e0 : ({ tmps := [] ++ List.replicate (37 - [].length (α := SVal)) undefS, hp := [] } : St) = st67 := rfl
      rw [show ([] : Hp).length = 0 from rfl, e0, h1]
      simp only [← r67, h2]
      unfold gives
      split
      · rename_i u _ _ he
        split at he
        · cases he; exact h3
        · cases he; exact h3
      · rename_i he
        split at he <;> cases he
theorem Fill_good : Good 67 (constSum tables) := const_eval goods1 600 (by decide +kernel) fill_eval
end
end Go.Proofs.Ytaeklgfdknbncaa
