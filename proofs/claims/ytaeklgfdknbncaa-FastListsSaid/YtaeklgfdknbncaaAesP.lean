/-
  The functions of one byte compute the S-box, its way back, doubling, the affine map and the reference's product. Conditions: none beside the hypotheses of each theorem.
-/
import Derived.Test.YtaeklgfdknbncaaAesQ
import Derived.Test.YtaeklgfdknbncaaRows
namespace Go.Proofs.Ytaeklgfdknbncaa
noncomputable section
open Go.ChangeShapes Go.WideShapes Go.ChangeAt Go.RowKit Go.Sx Go.Aes

theorem own : ownKnob Try.prog.godebug = none := by kernel_rfl
theorem laidOut : laidOutB Try.prog = true := by kernel_rfl

/-! ### The evaluator's setting -/
abbrev Sum := List SVal → Option SVal

def sumsL : List (Nat × Sum) → Nat → Option (Hp → List SVal → Option (SVal × List SObj))
  | [], _ => none
  | (g, s) :: l, f => bif Nat.beq f g then some (pureSum s) else sumsL l f

noncomputable def env (l : List (Nat × Sum)) (facts : List (C × Bool)) : Env :=
  { P := Try.prog, rvar := fun _ => none, rapp := aesRange, facts, rw := aesRw, sums := sumsL l, loud := fun _ => false }

def Good (f : Nat) (s : Sum) : Prop := ∀ st int bool, PureSum Try.prog (aesVal st int bool) f s
def Goods (l : List (Nat × Sum)) : Prop := ∀ p ∈ l, Good p.1 p.2

theorem Goods.nil : Goods [] := by intro p hp; cases hp
theorem Goods.cons {f : Nat} {s : Sum} {l : List (Nat × Sum)} (h : Good f s) (hl : Goods l) : Goods ((f, s) :: l) := by
  intro p hp
  rcases List.mem_cons.1 hp with rfl | hp
  · exact h
  · exact hl p hp

theorem sumsL_ok : ∀ {l : List (Nat × Sum)}, Goods l → ∀ {f s}, sumsL l f = some s → ∃ s', s = pureSum s' ∧ Good f s'
  | [], _, _, _, h => by cases h
  | (g, s') :: l, hl, f, s, h => by
    simp only [sumsL] at h
    cases hb : Nat.beq f g with
    | true =>
      rw [hb] at h
      obtain rfl : pureSum s' = s := Option.some.inj h
      have : f = g := Nat.eq_of_beq_eq_true hb
      subst this
      exact ⟨s', rfl, hl (f, s') (by simp)⟩
    | false =>
      rw [hb] at h
      exact sumsL_ok (fun p hp => hl p (by simp [hp])) h

theorem range_ok (st : Nat → Nat) (f : Nat) (r : Int × Int) (l : List Int) (h : aesRange f = some r) : r.1 ≤ (appN st f l : Int) ∧ (appN st f l : Int) ≤ r.2 := by
  unfold aesRange at h
  split at h
  · rename_i h6
    cases h
    subst h6
    have := word_lt (Nat.mod_lt (arg l 0) (by decide : 0 < 256)) (Nat.mod_lt (arg l 1) (by decide : 0 < 256)) (Nat.mod_lt (arg l 2) (by decide : 0 < 256)) (Nat.mod_lt (arg l 3) (by decide : 0 < 256))
    have e : appN st 6 l = word (arg l 0 % 256) (arg l 1 % 256) (arg l 2 % 256) (arg l 3 % 256) := rfl
    rw [e]; constructor <;> omega
  · rename_i h6
    split at h
    · rename_i h1
      cases h
      have : appN st f l < 256 := by
        unfold appN
        split
        · exact small_lt _ _ h6
        · exact byte_lt _ _
      constructor <;> omega
    · rename_i h1
      split at h
      · cases h
      · rename_i h2
        cases h
        have : appN st f l < 256 := by
          unfold appN
          rw [if_neg (by omega), if_neg (by omega), if_neg (by omega), if_neg (by omega), if_neg (by omega)]
          exact Nat.mod_lt _ (by decide)
        constructor <;> omega

theorem env_ok {l : List (Nat × Sum)} (hl : Goods l) {facts : List (C × Bool)} {st : Nat → Nat} {int : Nat → Int} {bool : Nat → Bool} (hf : ∀ c b, (c, b) ∈ facts → c.den (aesVal st int bool) = b) :
    EnvOk (env l facts) (aesVal st int bool) := by
  refine ⟨⟨?_, fun f r l h => range_ok st f r l h, hf, fun e e' h => aesRw_ok e e' h⟩, by kernel_rfl, ?_⟩
  · intro i r h; cases h
  · intro f s h
    obtain ⟨s', rfl, hs⟩ := sumsL_ok hl h
    exact (hs st int bool).ok

/-- a valuation with given states and bytes -/
def val (st : Nat → Nat) : Val := aesVal st (fun _ => 0) (fun _ => false)

theorem eval_calls {l : List (Nat × Sum)} (hl : Goods l) (st : Nat → Nat) (n : Nat) {f : Nat} {args : List SVal} {v : SVal} (ha : flats args = true)
    (h : gives (callV (env l []) (runV (env l []) n) 0 [] f args) v = true) (w : World) : Calls Try.prog f ⟨denVs (val st) args⟩ w fun e w' => e = .returned (denV (val st) v) ∧ Below w.heap.size w w' :=
  gives_calls (env_ok hl (by simp)) n h ((flats_rv ha).2 rfl) w

def sameTree : Tree SVal → Tree SVal → Bool
  | .leaf a, .leaf b => a.same b
  | .fork c a b, .fork d x y => c.same d && sameTree a x && sameTree b y
  | _, _ => false

theorem sameTree_eq : ∀ {t u : Tree SVal}, sameTree t u = true → t = u
  | .leaf a, .leaf b, h => by rw [(SVal.same_eq (show a.same b = true from h)).1]
  | .fork c a b, .fork d x y, h => by
    simp only [sameTree, Bool.and_eq_true] at h
    rw [C.same_eq h.1.1, sameTree_eq h.1.2, sameTree_eq h.2]
  | .leaf _, .fork .., h => by cases h
  | .fork .., .leaf _, h => by cases h

def givesT (r : Option (Tree SVal)) (t : Tree SVal) : Bool :=
  match r with
  | some u => sameTree u t
  | none => false

theorem tree_calls {l : List (Nat × Sum)} (hl : Goods l) (st : Nat → Nat) (m n : Nat) {f : Nat} {args : List SVal} {t : Tree SVal} (ha : flats args = true)
    (h : givesT (callT (env l []) m n f args) t = true) (w : World) : Calls Try.prog f ⟨denVs (val st) args⟩ w fun e w' => e = .returned (denV (val st) (pick (val st) t)) ∧ Below w.heap.size w w' := by
  cases hc : callT (env l []) m n f args with
  | none => rw [hc] at h; cases h
  | some u =>
    rw [hc] at h
    rw [← sameTree_eq h]
    exact callT_ok (env_ok hl (by simp)) m n hc ((flats_rv ha).2 rfl) w

/-! ### Functions of one byte -/
def b0 : E := .app 600 []
def byteSt (n : Nat) : Nat → Nat := fun _ => n

theorem b0_den {n : Nat} (h : n < 256) : b0.den (val (byteSt n)) = n := by
  show ((appN (byteSt n) 600 [] : Nat) : Int) = n
  have : appN (byteSt n) 600 [] = n % 256 := rfl
  rw [this, Nat.mod_eq_of_lt h]

def Ret (f : Nat) (args : List Value) (v : Value) : Prop := ∀ w, Calls Try.prog f ⟨args⟩ w fun e w' => e = .returned v ∧ Below w.heap.size w w'

theorem one8_good {f : Nat} {F : E → E} {G : Nat → Nat} (hF : ∀ {st : Nat → Nat} {int : Nat → Int} {bool : Nat → Bool} {e : E} {n : Nat}, n < 256 → e.den (aesVal st int bool) = n → (F e).den (aesVal st int bool) = (G n : Nat))
    (hc : ∀ n : Nat, n < 256 → Ret f [.int .u8 n] (.int .u8 (G n : Nat))) : Good f (one8 F) := by
  intro st int bool
  have key : ∀ {args v}, one8 F args = some v → ∃ e, args = [.int .u8 e] ∧ isByte e = true ∧ v = u8 (F e) := by
    intro args v h
    unfold one8 at h
    split at h
    · rename_i e
      split at h
      · rename_i hb; cases h; exact ⟨e, rfl, hb, rfl⟩
      · cases h
    · cases h
  refine ⟨?_, ?_⟩
  · intro args v h
    obtain ⟨e, rfl, _, rfl⟩ := key h
    exact ⟨rfl, rfl⟩
  · intro args v h w
    obtain ⟨e, rfl, hb, rfl⟩ := key h
    obtain ⟨n, hn, he⟩ := isByte_ok (st := st) (int := int) (bool := bool) hb
    simp only [denVs, denV, u8]
    rw [he, hF hn he]
    exact hc n hn w

/-- by 256 evaluations at literals -/
theorem by_lits {l : List (Nat × Sum)} (hl : Goods l) {f : Nat} {G : Nat → Nat} (m : Nat) (h : upTo 256 (fun n => gives (callV (env l []) (runV (env l []) m) 0 [] f [u8 (.lit (n : Int))]) (u8 (.lit (G n : Nat)))) = true) :
    ∀ n : Nat, n < 256 → Ret f [.int .u8 n] (.int .u8 (G n : Nat)) := by
  intro n hn w
  exact eval_calls hl (byteSt 0) m rfl (of_upTo h hn) w

/-- by one evaluation at a byte, and 256 of the term -/
theorem by_tree {l : List (Nat × Sum)} (hl : Goods l) {f : Nat} {pre post : List SVal} {pv qv : List Value} {G : Nat → Nat} (m k : Nat) (t : Tree SVal) (h : givesT (callT (env l []) m k f (pre ++ [u8 b0] ++ post)) t = true)
    (hp : ∀ st, denVs (val st) (pre ++ [u8 b0] ++ post) = pv ++ [.int .u8 (b0.den (val st))] ++ qv) (hfl : flats (pre ++ [u8 b0] ++ post) = true)
    (ht : upTo 256 (fun n => match pick (val (byteSt n)) t with | .int .u8 e => decide (e.den (val (byteSt n)) = (G n : Nat)) | _ => false) = true) :
    ∀ n : Nat, n < 256 → Ret f (pv ++ [.int .u8 n] ++ qv) (.int .u8 (G n : Nat)) := by
  intro n hn w
  have hc := tree_calls hl (byteSt n) m k hfl h w
  rw [hp, b0_den hn] at hc
  have h1 := of_upTo ht hn
  split at h1
  · rename_i e he
    rw [he] at hc
    simp only [denV] at hc
    rw [of_decide_eq_true h1] at hc
    exact hc
  · cases h1

def refMul2aT : Tree SVal :=
  (.fork (.cmp .eq (.op .rem (.op .rem (.op (.shr .u8) b0 (.lit 7)) (.lit 2)) (.lit 2)) (.lit 1)) (.leaf (u8 (.op (.conv .u8) (.op (.add .i64) (.op (.add .i64) (.op (.add .i64) (.op (.add .i64) (.op (.add .i64) (.op (.add .i64) (.op (.add .i64) (.lit 1) (.op (.shl .i64) (.op .rem (.op (.add .i64) (.op .rem b0 (.lit 2)) (.lit 1)) (.lit 2)) (.lit 1))) (.op (.shl .i64) (.op .rem (.op .rem (.op (.shr .u8) b0 (.lit 1)) (.lit 2)) (.lit 2)) (.lit 2))) (.op (.shl .i64) (.op .rem (.op (.add .i64) (.op .rem (.op (.shr .u8) b0 (.lit 2)) (.lit 2)) (.lit 1)) (.lit 2)) (.lit 3))) (.op (.shl .i64) (.op .rem (.op (.add .i64) (.op .rem (.op (.shr .u8) b0 (.lit 3)) (.lit 2)) (.lit 1)) (.lit 2)) (.lit 4))) (.op (.shl .i64) (.op .rem (.op .rem (.op (.shr .u8) b0 (.lit 4)) (.lit 2)) (.lit 2)) (.lit 5))) (.op (.shl .i64) (.op .rem (.op .rem (.op (.shr .u8) b0 (.lit 5)) (.lit 2)) (.lit 2)) (.lit 6))) (.op (.shl .i64) (.op .rem (.op .rem (.op (.shr .u8) b0 (.lit 6)) (.lit 2)) (.lit 2)) (.lit 7))) (.lit 0))))
    (.leaf (u8 (.op (.conv .u8) (.op (.add .i64) (.op (.add .i64) (.op (.add .i64) (.op (.add .i64) (.op (.add .i64) (.op (.add .i64) (.op (.shl .i64) (.op .rem (.op .rem b0 (.lit 2)) (.lit 2)) (.lit 1)) (.op (.shl .i64) (.op .rem (.op .rem (.op (.shr .u8) b0 (.lit 1)) (.lit 2)) (.lit 2)) (.lit 2))) (.op (.shl .i64) (.op .rem (.op .rem (.op (.shr .u8) b0 (.lit 2)) (.lit 2)) (.lit 2)) (.lit 3))) (.op (.shl .i64) (.op .rem (.op .rem (.op (.shr .u8) b0 (.lit 3)) (.lit 2)) (.lit 2)) (.lit 4))) (.op (.shl .i64) (.op .rem (.op .rem (.op (.shr .u8) b0 (.lit 4)) (.lit 2)) (.lit 2)) (.lit 5))) (.op (.shl .i64) (.op .rem (.op .rem (.op (.shr .u8) b0 (.lit 5)) (.lit 2)) (.lit 2)) (.lit 6))) (.op (.shl .i64) (.op .rem (.op .rem (.op (.shr .u8) b0 (.lit 6)) (.lit 2)) (.lit 2)) (.lit 7))) (.lit 0)))))

def refMul3aT : Tree SVal :=
  (.fork (.cmp .eq (.op .rem (.op .rem (.op (.shr .u8) b0 (.lit 7)) (.lit 2)) (.lit 2)) (.lit 1)) (.leaf (u8 (.op (.conv .u8) (.op (.add .i64) (.op (.add .i64) (.op (.add .i64) (.op (.add .i64) (.op (.add .i64) (.op (.add .i64) (.op (.add .i64) (.op .rem (.op (.add .i64) (.op .rem b0 (.lit 2)) (.lit 1)) (.lit 2)) (.op (.shl .i64) (.op .rem (.op (.add .i64) (.op (.add .i64) (.op .rem (.op (.shr .u8) b0 (.lit 1)) (.lit 2)) (.op .rem b0 (.lit 2))) (.lit 1)) (.lit 2)) (.lit 1))) (.op (.shl .i64) (.op .rem (.op (.add .i64) (.op .rem (.op (.shr .u8) b0 (.lit 2)) (.lit 2)) (.op .rem (.op (.shr .u8) b0 (.lit 1)) (.lit 2))) (.lit 2)) (.lit 2))) (.op (.shl .i64) (.op .rem (.op (.add .i64) (.op (.add .i64) (.op .rem (.op (.shr .u8) b0 (.lit 3)) (.lit 2)) (.op .rem (.op (.shr .u8) b0 (.lit 2)) (.lit 2))) (.lit 1)) (.lit 2)) (.lit 3))) (.op (.shl .i64) (.op .rem (.op (.add .i64) (.op (.add .i64) (.op .rem (.op (.shr .u8) b0 (.lit 4)) (.lit 2)) (.op .rem (.op (.shr .u8) b0 (.lit 3)) (.lit 2))) (.lit 1)) (.lit 2)) (.lit 4))) (.op (.shl .i64) (.op .rem (.op (.add .i64) (.op .rem (.op (.shr .u8) b0 (.lit 5)) (.lit 2)) (.op .rem (.op (.shr .u8) b0 (.lit 4)) (.lit 2))) (.lit 2)) (.lit 5))) (.op (.shl .i64) (.op .rem (.op (.add .i64) (.op .rem (.op (.shr .u8) b0 (.lit 6)) (.lit 2)) (.op .rem (.op (.shr .u8) b0 (.lit 5)) (.lit 2))) (.lit 2)) (.lit 6))) (.op (.shl .i64) (.op .rem (.op (.add .i64) (.op .rem (.op (.shr .u8) b0 (.lit 7)) (.lit 2)) (.op .rem (.op (.shr .u8) b0 (.lit 6)) (.lit 2))) (.lit 2)) (.lit 7))) (.lit 0))))
    (.leaf (u8 (.op (.conv .u8) (.op (.add .i64) (.op (.add .i64) (.op (.add .i64) (.op (.add .i64) (.op (.add .i64) (.op (.add .i64) (.op (.add .i64) (.op .rem (.op .rem b0 (.lit 2)) (.lit 2)) (.op (.shl .i64) (.op .rem (.op (.add .i64) (.op .rem (.op (.shr .u8) b0 (.lit 1)) (.lit 2)) (.op .rem b0 (.lit 2))) (.lit 2)) (.lit 1))) (.op (.shl .i64) (.op .rem (.op (.add .i64) (.op .rem (.op (.shr .u8) b0 (.lit 2)) (.lit 2)) (.op .rem (.op (.shr .u8) b0 (.lit 1)) (.lit 2))) (.lit 2)) (.lit 2))) (.op (.shl .i64) (.op .rem (.op (.add .i64) (.op .rem (.op (.shr .u8) b0 (.lit 3)) (.lit 2)) (.op .rem (.op (.shr .u8) b0 (.lit 2)) (.lit 2))) (.lit 2)) (.lit 3))) (.op (.shl .i64) (.op .rem (.op (.add .i64) (.op .rem (.op (.shr .u8) b0 (.lit 4)) (.lit 2)) (.op .rem (.op (.shr .u8) b0 (.lit 3)) (.lit 2))) (.lit 2)) (.lit 4))) (.op (.shl .i64) (.op .rem (.op (.add .i64) (.op .rem (.op (.shr .u8) b0 (.lit 5)) (.lit 2)) (.op .rem (.op (.shr .u8) b0 (.lit 4)) (.lit 2))) (.lit 2)) (.lit 5))) (.op (.shl .i64) (.op .rem (.op (.add .i64) (.op .rem (.op (.shr .u8) b0 (.lit 6)) (.lit 2)) (.op .rem (.op (.shr .u8) b0 (.lit 5)) (.lit 2))) (.lit 2)) (.lit 6))) (.op (.shl .i64) (.op .rem (.op (.add .i64) (.op .rem (.op (.shr .u8) b0 (.lit 7)) (.lit 2)) (.op .rem (.op (.shr .u8) b0 (.lit 6)) (.lit 2))) (.lit 2)) (.lit 7))) (.lit 0)))))

def refMul2bT : Tree SVal :=
  (.fork (.cmp .eq (.op .rem (.op .rem (.op (.shr .u8) b0 (.lit 7)) (.lit 2)) (.lit 2)) (.lit 1)) (.leaf (u8 (.op (.conv .u8) (.op (.add .i64) (.op (.add .i64) (.op (.add .i64) (.op (.add .i64) (.op (.add .i64) (.op (.add .i64) (.op (.add .i64) (.lit 1) (.op (.shl .i64) (.op .rem (.op (.add .i64) (.op .rem b0 (.lit 2)) (.lit 1)) (.lit 2)) (.lit 1))) (.op (.shl .i64) (.op .rem (.op .rem (.op (.shr .u8) b0 (.lit 1)) (.lit 2)) (.lit 2)) (.lit 2))) (.op (.shl .i64) (.op .rem (.op (.add .i64) (.op .rem (.op (.shr .u8) b0 (.lit 2)) (.lit 2)) (.lit 1)) (.lit 2)) (.lit 3))) (.op (.shl .i64) (.op .rem (.op (.add .i64) (.op .rem (.op (.shr .u8) b0 (.lit 3)) (.lit 2)) (.lit 1)) (.lit 2)) (.lit 4))) (.op (.shl .i64) (.op .rem (.op .rem (.op (.shr .u8) b0 (.lit 4)) (.lit 2)) (.lit 2)) (.lit 5))) (.op (.shl .i64) (.op .rem (.op .rem (.op (.shr .u8) b0 (.lit 5)) (.lit 2)) (.lit 2)) (.lit 6))) (.op (.shl .i64) (.op .rem (.op .rem (.op (.shr .u8) b0 (.lit 6)) (.lit 2)) (.lit 2)) (.lit 7))) (.lit 0))))
    (.leaf (u8 (.op (.conv .u8) (.op (.add .i64) (.op (.add .i64) (.op (.add .i64) (.op (.add .i64) (.op (.add .i64) (.op (.add .i64) (.op (.shl .i64) (.op .rem (.op .rem b0 (.lit 2)) (.lit 2)) (.lit 1)) (.op (.shl .i64) (.op .rem (.op .rem (.op (.shr .u8) b0 (.lit 1)) (.lit 2)) (.lit 2)) (.lit 2))) (.op (.shl .i64) (.op .rem (.op .rem (.op (.shr .u8) b0 (.lit 2)) (.lit 2)) (.lit 2)) (.lit 3))) (.op (.shl .i64) (.op .rem (.op .rem (.op (.shr .u8) b0 (.lit 3)) (.lit 2)) (.lit 2)) (.lit 4))) (.op (.shl .i64) (.op .rem (.op .rem (.op (.shr .u8) b0 (.lit 4)) (.lit 2)) (.lit 2)) (.lit 5))) (.op (.shl .i64) (.op .rem (.op .rem (.op (.shr .u8) b0 (.lit 5)) (.lit 2)) (.lit 2)) (.lit 6))) (.op (.shl .i64) (.op .rem (.op .rem (.op (.shr .u8) b0 (.lit 6)) (.lit 2)) (.lit 2)) (.lit 7))) (.lit 0)))))

def refMul3bT : Tree SVal :=
  (.fork (.cmp .eq (.op .rem (.op .rem (.op (.shr .u8) b0 (.lit 7)) (.lit 2)) (.lit 2)) (.lit 1)) (.leaf (u8 (.op (.conv .u8) (.op (.add .i64) (.op (.add .i64) (.op (.add .i64) (.op (.add .i64) (.op (.add .i64) (.op (.add .i64) (.op (.add .i64) (.op .rem (.op (.add .i64) (.op .rem b0 (.lit 2)) (.lit 1)) (.lit 2)) (.op (.shl .i64) (.op .rem (.op (.add .i64) (.op (.add .i64) (.op .rem b0 (.lit 2)) (.op .rem (.op (.shr .u8) b0 (.lit 1)) (.lit 2))) (.lit 1)) (.lit 2)) (.lit 1))) (.op (.shl .i64) (.op .rem (.op (.add .i64) (.op .rem (.op (.shr .u8) b0 (.lit 1)) (.lit 2)) (.op .rem (.op (.shr .u8) b0 (.lit 2)) (.lit 2))) (.lit 2)) (.lit 2))) (.op (.shl .i64) (.op .rem (.op (.add .i64) (.op (.add .i64) (.op .rem (.op (.shr .u8) b0 (.lit 2)) (.lit 2)) (.op .rem (.op (.shr .u8) b0 (.lit 3)) (.lit 2))) (.lit 1)) (.lit 2)) (.lit 3))) (.op (.shl .i64) (.op .rem (.op (.add .i64) (.op (.add .i64) (.op .rem (.op (.shr .u8) b0 (.lit 3)) (.lit 2)) (.op .rem (.op (.shr .u8) b0 (.lit 4)) (.lit 2))) (.lit 1)) (.lit 2)) (.lit 4))) (.op (.shl .i64) (.op .rem (.op (.add .i64) (.op .rem (.op (.shr .u8) b0 (.lit 4)) (.lit 2)) (.op .rem (.op (.shr .u8) b0 (.lit 5)) (.lit 2))) (.lit 2)) (.lit 5))) (.op (.shl .i64) (.op .rem (.op (.add .i64) (.op .rem (.op (.shr .u8) b0 (.lit 5)) (.lit 2)) (.op .rem (.op (.shr .u8) b0 (.lit 6)) (.lit 2))) (.lit 2)) (.lit 6))) (.op (.shl .i64) (.op .rem (.op (.add .i64) (.op .rem (.op (.shr .u8) b0 (.lit 6)) (.lit 2)) (.op .rem (.op (.shr .u8) b0 (.lit 7)) (.lit 2))) (.lit 2)) (.lit 7))) (.lit 0))))
    (.leaf (u8 (.op (.conv .u8) (.op (.add .i64) (.op (.add .i64) (.op (.add .i64) (.op (.add .i64) (.op (.add .i64) (.op (.add .i64) (.op (.add .i64) (.op .rem (.op .rem b0 (.lit 2)) (.lit 2)) (.op (.shl .i64) (.op .rem (.op (.add .i64) (.op .rem b0 (.lit 2)) (.op .rem (.op (.shr .u8) b0 (.lit 1)) (.lit 2))) (.lit 2)) (.lit 1))) (.op (.shl .i64) (.op .rem (.op (.add .i64) (.op .rem (.op (.shr .u8) b0 (.lit 1)) (.lit 2)) (.op .rem (.op (.shr .u8) b0 (.lit 2)) (.lit 2))) (.lit 2)) (.lit 2))) (.op (.shl .i64) (.op .rem (.op (.add .i64) (.op .rem (.op (.shr .u8) b0 (.lit 2)) (.lit 2)) (.op .rem (.op (.shr .u8) b0 (.lit 3)) (.lit 2))) (.lit 2)) (.lit 3))) (.op (.shl .i64) (.op .rem (.op (.add .i64) (.op .rem (.op (.shr .u8) b0 (.lit 3)) (.lit 2)) (.op .rem (.op (.shr .u8) b0 (.lit 4)) (.lit 2))) (.lit 2)) (.lit 4))) (.op (.shl .i64) (.op .rem (.op (.add .i64) (.op .rem (.op (.shr .u8) b0 (.lit 4)) (.lit 2)) (.op .rem (.op (.shr .u8) b0 (.lit 5)) (.lit 2))) (.lit 2)) (.lit 5))) (.op (.shl .i64) (.op .rem (.op (.add .i64) (.op .rem (.op (.shr .u8) b0 (.lit 5)) (.lit 2)) (.op .rem (.op (.shr .u8) b0 (.lit 6)) (.lit 2))) (.lit 2)) (.lit 6))) (.op (.shl .i64) (.op .rem (.op (.add .i64) (.op .rem (.op (.shr .u8) b0 (.lit 6)) (.lit 2)) (.op .rem (.op (.shr .u8) b0 (.lit 7)) (.lit 2))) (.lit 2)) (.lit 7))) (.lit 0)))))

def affRefT : Tree SVal :=
  (.leaf (u8 (.op (.conv .u8) (.op (.add .i64) (.op (.add .i64) (.op (.add .i64) (.op (.add .i64) (.op (.add .i64) (.op (.add .i64) (.op (.add .i64) (.op .rem (.op (.add .i64) (.op (.add .i64) (.op (.add .i64) (.op (.add .i64) (.op (.add .i64) (.lit 1) (.op .rem b0 (.lit 2))) (.op .rem (.op (.shr .u8) b0 (.lit 4)) (.lit 2))) (.op .rem (.op (.shr .u8) b0 (.lit 5)) (.lit 2))) (.op .rem (.op (.shr .u8) b0 (.lit 6)) (.lit 2))) (.op .rem (.op (.shr .u8) b0 (.lit 7)) (.lit 2))) (.lit 2)) (.op (.shl .i64) (.op .rem (.op (.add .i64) (.op (.add .i64) (.op (.add .i64) (.op (.add .i64) (.op (.add .i64) (.lit 1) (.op .rem (.op (.shr .u8) b0 (.lit 1)) (.lit 2))) (.op .rem (.op (.shr .u8) b0 (.lit 5)) (.lit 2))) (.op .rem (.op (.shr .u8) b0 (.lit 6)) (.lit 2))) (.op .rem (.op (.shr .u8) b0 (.lit 7)) (.lit 2))) (.op .rem b0 (.lit 2))) (.lit 2)) (.lit 1))) (.op (.shl .i64) (.op .rem (.op (.add .i64) (.op (.add .i64) (.op (.add .i64) (.op (.add .i64) (.op .rem (.op (.shr .u8) b0 (.lit 2)) (.lit 2)) (.op .rem (.op (.shr .u8) b0 (.lit 6)) (.lit 2))) (.op .rem (.op (.shr .u8) b0 (.lit 7)) (.lit 2))) (.op .rem b0 (.lit 2))) (.op .rem (.op (.shr .u8) b0 (.lit 1)) (.lit 2))) (.lit 2)) (.lit 2))) (.op (.shl .i64) (.op .rem (.op (.add .i64) (.op (.add .i64) (.op (.add .i64) (.op (.add .i64) (.op .rem (.op (.shr .u8) b0 (.lit 3)) (.lit 2)) (.op .rem (.op (.shr .u8) b0 (.lit 7)) (.lit 2))) (.op .rem b0 (.lit 2))) (.op .rem (.op (.shr .u8) b0 (.lit 1)) (.lit 2))) (.op .rem (.op (.shr .u8) b0 (.lit 2)) (.lit 2))) (.lit 2)) (.lit 3))) (.op (.shl .i64) (.op .rem (.op (.add .i64) (.op (.add .i64) (.op (.add .i64) (.op (.add .i64) (.op .rem (.op (.shr .u8) b0 (.lit 4)) (.lit 2)) (.op .rem b0 (.lit 2))) (.op .rem (.op (.shr .u8) b0 (.lit 1)) (.lit 2))) (.op .rem (.op (.shr .u8) b0 (.lit 2)) (.lit 2))) (.op .rem (.op (.shr .u8) b0 (.lit 3)) (.lit 2))) (.lit 2)) (.lit 4))) (.op (.shl .i64) (.op .rem (.op (.add .i64) (.op (.add .i64) (.op (.add .i64) (.op (.add .i64) (.op (.add .i64) (.lit 1) (.op .rem (.op (.shr .u8) b0 (.lit 5)) (.lit 2))) (.op .rem (.op (.shr .u8) b0 (.lit 1)) (.lit 2))) (.op .rem (.op (.shr .u8) b0 (.lit 2)) (.lit 2))) (.op .rem (.op (.shr .u8) b0 (.lit 3)) (.lit 2))) (.op .rem (.op (.shr .u8) b0 (.lit 4)) (.lit 2))) (.lit 2)) (.lit 5))) (.op (.shl .i64) (.op .rem (.op (.add .i64) (.op (.add .i64) (.op (.add .i64) (.op (.add .i64) (.op (.add .i64) (.lit 1) (.op .rem (.op (.shr .u8) b0 (.lit 6)) (.lit 2))) (.op .rem (.op (.shr .u8) b0 (.lit 2)) (.lit 2))) (.op .rem (.op (.shr .u8) b0 (.lit 3)) (.lit 2))) (.op .rem (.op (.shr .u8) b0 (.lit 4)) (.lit 2))) (.op .rem (.op (.shr .u8) b0 (.lit 5)) (.lit 2))) (.lit 2)) (.lit 6))) (.op (.shl .i64) (.op .rem (.op (.add .i64) (.op (.add .i64) (.op (.add .i64) (.op (.add .i64) (.op .rem (.op (.shr .u8) b0 (.lit 7)) (.lit 2)) (.op .rem (.op (.shr .u8) b0 (.lit 3)) (.lit 2))) (.op .rem (.op (.shr .u8) b0 (.lit 4)) (.lit 2))) (.op .rem (.op (.shr .u8) b0 (.lit 5)) (.lit 2))) (.op .rem (.op (.shr .u8) b0 (.lit 6)) (.lit 2))) (.lit 2)) (.lit 7))) (.lit 0))))

def affProT : Tree SVal :=
  (.leaf (u8 (.op (.xor .u8) (.op (.xor .u8) (.op (.xor .u8) (.op (.xor .u8) (.op (.xor .u8) b0 (.lit 99)) (.op (.or .u8) (.op (.shl .u8) b0 (.lit 1)) (.op (.shr .u8) b0 (.lit 7)))) (.op (.or .u8) (.op (.shl .u8) b0 (.lit 2)) (.op (.shr .u8) b0 (.lit 6)))) (.op (.or .u8) (.op (.shl .u8) b0 (.lit 3)) (.op (.shr .u8) b0 (.lit 5)))) (.op (.or .u8) (.op (.shl .u8) b0 (.lit 4)) (.op (.shr .u8) b0 (.lit 4))))))

def doubleT : Tree SVal :=
  (.leaf (u8 (.op (.xor .u8) (.op (.shl .u8) b0 (.lit 1)) (.op (.and .u8) (.op (.conv .u8) (.op (.shr .i8) (.op (.conv .i8) b0 (.lit 0)) (.lit 7)) (.lit 0)) (.lit 27)))))


theorem S_good : Good 19 (one8 sE) := one8_good (G := sb) (fun hn he => sE_den hn he)
  (by_tree (pre := []) (post := []) (pv := []) (qv := []) Goods.nil 100 100 (.leaf (u8 (.app 1 [b0]))) (by kernel_rfl) (fun _ => rfl) rfl (by decide +kernel))

def comb : List Nat → Nat → Tree SVal
  | [], _ => .leaf (u8 (.lit 0))
  | t :: l, i => .fork (.cmp .eq (.lit (t : Int)) b0) (.leaf (u8 (.lit (i : Int)))) (comb l (i + 1))

theorem Back_good : Good 18 (one8 bkE) := one8_good (G := bk) (fun hn he => bkE_den hn he)
  (by_tree (pre := []) (post := []) (pv := []) (qv := []) Goods.nil 100 2000 (comb sboxL 0) (by kernel_rfl) (fun _ => rfl) rfl (by decide +kernel))

def dblE (e : E) : E := .app 5 [e]
theorem dblE_den {st : Nat → Nat} {int : Nat → Int} {bool : Nat → Bool} {e : E} {n : Nat} (hn : n < 256) (h : e.den (aesVal st int bool) = n) : (dblE e).den (aesVal st int bool) = (dbl n : Nat) := by
  show ((appN st 5 [e.den _] : Nat) : Int) = _
  rw [h]
  simp [appN, smallC, arg, Nat.mod_eq_of_lt hn]
theorem Double_good : Good 85 (one8 dblE) := one8_good (G := dbl) (fun hn he => dblE_den hn he)
  (by_tree (pre := []) (post := []) (pv := []) (qv := []) Goods.nil 100 100 doubleT (by kernel_rfl) (fun _ => rfl) rfl (by decide +kernel))

def affE (e : E) : E :=
  match e with
  | .lit n => .lit (aff (n.toNat % 256) % 256 : Nat)
  | e => .app 4 [e]
theorem affE_den {st : Nat → Nat} {int : Nat → Int} {bool : Nat → Bool} {e : E} {n : Nat} (hn : n < 256) (h : e.den (aesVal st int bool) = n) : (affE e).den (aesVal st int bool) = (aff n % 256 : Nat) := by
  unfold affE
  split
  · simp only [E.den] at h ⊢
    rw [h, Int.toNat_natCast, Nat.mod_eq_of_lt hn]
  · show ((appN st 4 [e.den _] : Nat) : Int) = _
    rw [h]
    simp [appN, smallC, arg, Nat.mod_eq_of_lt hn]
theorem Affine_good : Good 26 (one8 affE) := one8_good (G := fun n => aff n % 256) (fun hn he => affE_den hn he)
  (by_tree (pre := []) (post := []) (pv := []) (qv := []) Goods.nil 100 100 affProT (by kernel_rfl) (fun _ => rfl) rfl (by decide +kernel))
theorem RefAffine_good : Good 24 (one8 affE) := one8_good (G := fun n => aff n % 256) (fun hn he => affE_den hn he)
  (by_tree (pre := []) (post := []) (pv := []) (qv := []) Goods.nil 100 300 affRefT (by kernel_rfl) (fun _ => rfl) rfl (by decide +kernel))

theorem refMul_2a : ∀ n : Nat, n < 256 → Ret 56 [.int .u8 2, .int .u8 n] (.int .u8 (gm 2 n : Nat)) :=
  by_tree (pre := [u8 (.lit 2)]) (post := []) (pv := [.int .u8 2]) (qv := []) Goods.nil 100 300 refMul2aT (by kernel_rfl) (fun _ => rfl) rfl (by decide +kernel)
theorem refMul_3a : ∀ n : Nat, n < 256 → Ret 56 [.int .u8 3, .int .u8 n] (.int .u8 (gm 3 n : Nat)) :=
  by_tree (pre := [u8 (.lit 3)]) (post := []) (pv := [.int .u8 3]) (qv := []) Goods.nil 100 300 refMul3aT (by kernel_rfl) (fun _ => rfl) rfl (by decide +kernel)
theorem refMul_2b : ∀ n : Nat, n < 256 → Ret 56 [.int .u8 n, .int .u8 2] (.int .u8 (gm 2 n : Nat)) :=
  by_tree (pre := []) (post := [u8 (.lit 2)]) (pv := []) (qv := [.int .u8 2]) Goods.nil 100 300 refMul2bT (by kernel_rfl) (fun _ => rfl) rfl (by decide +kernel)
theorem refMul_3b : ∀ n : Nat, n < 256 → Ret 56 [.int .u8 n, .int .u8 3] (.int .u8 (gm 3 n : Nat)) :=
  by_tree (pre := []) (post := [u8 (.lit 3)]) (pv := []) (qv := [.int .u8 3]) Goods.nil 100 300 refMul3bT (by kernel_rfl) (fun _ => rfl) rfl (by decide +kernel)
end
end Go.Proofs.Ytaeklgfdknbncaa
