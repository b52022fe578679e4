/-
  The product and the tables. Conditions: none beside the hypotheses of each theorem.
-/
import Derived.Test.YtaeklgfdknbncaaAesP
namespace Go.Proofs.Ytaeklgfdknbncaa
noncomputable section
open Go.ChangeShapes Go.WideShapes Go.ChangeAt Go.RowKit Go.Sx Go.Aes

/-! ### The product -/
def mulStep (n : Nat) (acc : Option E) (k : Nat) (d : E) : Option E :=
  bif n.testBit k then some (match acc with | none => d | some e => xorT e d) else acc
def d1 : E := dblE b0
def d2 : E := dblE d1
def d3 : E := dblE d2
def d4 : E := dblE d3
def d5 : E := dblE d4
def d6 : E := dblE d5
def d7 : E := dblE d6
def mulAcc (n : Nat) : Option E :=
  mulStep n (mulStep n (mulStep n (mulStep n (mulStep n (mulStep n (mulStep n (mulStep n none 0 b0) 1 d1) 2 d2) 3 d3) 4 d4) 5 d5) 6 d6) 7 d7
def mulT (n : Nat) : E := (mulAcc n).getD (.lit 0)

noncomputable def mulEnv : Env := env [(85, one8 dblE)] []
theorem mulGoods : Goods [(85, one8 dblE)] := Goods.cons Double_good Goods.nil

theorem mul_evals : upTo 256 (fun n => gives (callV mulEnv (runV mulEnv 100) 0 [] 78 [u8 b0, u8 (.lit (n : Int))]) (u8 (mulT n))) = true := by kernel_rfl

def accN (v : Val) (acc : Option E) : Nat := match acc with | none => 0 | some e => num v e

theorem mulStep_ok {a n : Nat} {acc : Option E} {k d : Nat} {e : E} (hd : d < 256) (he : e.den (val (byteSt a)) = d)
    (ha : ∀ x, acc = some x → ∃ m : Nat, m < 256 ∧ x.den (val (byteSt a)) = m) :
    accN (val (byteSt a)) (mulStep n acc k e) = accN (val (byteSt a)) acc ^^^ bit n k d ∧ ∀ x, mulStep n acc k e = some x → ∃ m : Nat, m < 256 ∧ x.den (val (byteSt a)) = m := by
  unfold mulStep bit
  cases n.testBit k with
  | false => exact ⟨by simp, ha⟩
  | true =>
    cases acc with
    | none => exact ⟨by simp [accN, num, he], fun x h => by cases h; exact ⟨d, hd, he⟩⟩
    | some y =>
      obtain ⟨m, hm, hy⟩ := ha y rfl
      have hx := xorT_den hm hd hy he
      refine ⟨?_, fun x h => by cases h; exact ⟨m ^^^ d, xor_lt hm hd, hx⟩⟩
      show num (val (byteSt a)) (xorT y e) = num (val (byteSt a)) y ^^^ d
      rw [show num (val (byteSt a)) (xorT y e) = m ^^^ d from num_of hx, show num (val (byteSt a)) y = m from num_of hy]

theorem mulT_den {a n : Nat} (ha : a < 256) : (mulT n).den (val (byteSt a)) = (gm a n : Nat) := by
  have hb := b0_den ha
  have e1 : d1.den (val (byteSt a)) = _ := dblE_den ha hb
  have l1 := dbl_lt ha
  have e2 : d2.den (val (byteSt a)) = _ := dblE_den l1 e1
  have l2 := dbl_lt l1
  have e3 : d3.den (val (byteSt a)) = _ := dblE_den l2 e2
  have l3 := dbl_lt l2
  have e4 : d4.den (val (byteSt a)) = _ := dblE_den l3 e3
  have l4 := dbl_lt l3
  have e5 : d5.den (val (byteSt a)) = _ := dblE_den l4 e4
  have l5 := dbl_lt l4
  have e6 : d6.den (val (byteSt a)) = _ := dblE_den l5 e5
  have l6 := dbl_lt l5
  have e7 : d7.den (val (byteSt a)) = _ := dblE_den l6 e6
  have l7 := dbl_lt l6
  obtain ⟨s0, g0⟩ := mulStep_ok (n := n) (acc := none) (k := 0) ha hb (by simp)
  obtain ⟨s1, g1⟩ := mulStep_ok (n := n) (k := 1) l1 e1 g0
  obtain ⟨s2, g2⟩ := mulStep_ok (n := n) (k := 2) l2 e2 g1
  obtain ⟨s3, g3⟩ := mulStep_ok (n := n) (k := 3) l3 e3 g2
  obtain ⟨s4, g4⟩ := mulStep_ok (n := n) (k := 4) l4 e4 g3
  obtain ⟨s5, g5⟩ := mulStep_ok (n := n) (k := 5) l5 e5 g4
  obtain ⟨s6, g6⟩ := mulStep_ok (n := n) (k := 6) l6 e6 g5
  obtain ⟨s7, g7⟩ := mulStep_ok (n := n) (k := 7) l7 e7 g6
  have hs : accN (val (byteSt a)) (mulAcc n) = gm a n := by
    unfold mulAcc
    rw [s7, s6, s5, s4, s3, s2, s1, s0]
    simp only [accN, gm, Nat.zero_xor, Nat.xor_assoc]
  have hg : ∀ x, mulAcc n = some x → ∃ m : Nat, m < 256 ∧ x.den (val (byteSt a)) = m := g7
  unfold mulT
  cases hm : mulAcc n with
  | none => rw [hm] at hs; rw [← hs]; rfl
  | some x =>
    obtain ⟨m, _, hx⟩ := hg x hm
    rw [hm] at hs
    rw [← hs]
    show x.den _ = (num _ x : Nat)
    rw [show num (val (byteSt a)) x = m from num_of hx, hx]

theorem mul_ret {a n : Nat} (ha : a < 256) (hn : n < 256) : Ret 78 [.int .u8 a, .int .u8 n] (.int .u8 (gm a n : Nat)) := by
  intro w
  have := eval_calls mulGoods (byteSt a) 100 (f := 78) (args := [u8 b0, u8 (.lit (n : Int))]) rfl (of_upTo mul_evals hn) w
  simp only [denVs, denV, u8, E.den] at this
  rw [b0_den ha, mulT_den ha] at this
  exact this

theorem litByte_ok {n : Int} (h : litByte (.lit n) = true) : n.toNat < 256 ∧ n = (n.toNat : Nat) := by
  simp only [litByte, Bool.and_eq_true, decide_eq_true_eq] at h
  omega

theorem Mul_good : Good 78 mulSum := by
  intro st int bool
  have key : ∀ {args v}, mulSum args = some v → ∃ c e, args = [.int .u8 (.lit c), .int .u8 e] ∧ litByte (.lit c) = true ∧ isByte e = true ∧ v = u8 (gmE c.toNat e) := by
    intro args v h
    unfold mulSum at h
    split at h
    · rename_i c e
      split at h
      · rename_i hb; cases h; exact ⟨c, e, rfl, hb.1, hb.2, rfl⟩
      · cases h
    · cases h
  refine ⟨?_, ?_⟩
  · intro args v h
    obtain ⟨c, e, rfl, _, _, rfl⟩ := key h
    exact ⟨rfl, rfl⟩
  · intro args v h w
    obtain ⟨c, e, rfl, hc, hb, rfl⟩ := key h
    obtain ⟨lc, ec⟩ := litByte_ok hc
    obtain ⟨n, hn, he⟩ := isByte_ok (st := st) (int := int) (bool := bool) hb
    simp only [denVs, denV, u8, E.den]
    rw [he, gmE_den lc he, ec]
    exact mul_ret lc hn w

theorem isTwo_ok {e : E} (h : isTwo e = true) : e = .lit 2 ∧ litNatE e = 2 ∨ e = .lit 3 ∧ litNatE e = 3 := by
  cases e with
  | lit n =>
    simp only [isTwo, Bool.or_eq_true, decide_eq_true_eq] at h
    rcases h with rfl | rfl
    · exact .inl ⟨rfl, rfl⟩
    · exact .inr ⟨rfl, rfl⟩
  | _ => cases h

theorem RefMul_good : Good 56 refMulSum := by
  intro st int bool
  have key : ∀ {args v}, refMulSum args = some v → ∃ a b, args = [.int .u8 a, .int .u8 b] ∧
      ((isTwo b = true ∧ isByte a = true ∧ v = u8 (gmE (litNatE b) a)) ∨ (isTwo a = true ∧ isByte b = true ∧ v = u8 (gmE (litNatE a) b))) := by
    intro args v h
    unfold refMulSum at h
    split at h
    · rename_i a b
      split at h
      · rename_i hb; cases h; exact ⟨a, b, rfl, .inl ⟨hb.1, hb.2, rfl⟩⟩
      · split at h
        · rename_i hb; cases h; exact ⟨a, b, rfl, .inr ⟨hb.1, hb.2, rfl⟩⟩
        · cases h
    · cases h
  refine ⟨?_, ?_⟩
  · intro args v h
    obtain ⟨a, b, rfl, ⟨_, _, rfl⟩ | ⟨_, _, rfl⟩⟩ := key h <;> exact ⟨rfl, rfl⟩
  · intro args v h w
    obtain ⟨a, b, rfl, ⟨h2, hb, rfl⟩ | ⟨h2, hb, rfl⟩⟩ := key h
    · obtain ⟨n, hn, he⟩ := isByte_ok (st := st) (int := int) (bool := bool) hb
      simp only [denVs, denV, u8]
      rcases isTwo_ok h2 with ⟨rfl, e2⟩ | ⟨rfl, e2⟩
      · rw [e2, he, gmE_den (by decide) he]; exact refMul_2b n hn w
      · rw [e2, he, gmE_den (by decide) he]; exact refMul_3b n hn w
    · obtain ⟨n, hn, he⟩ := isByte_ok (st := st) (int := int) (bool := bool) hb
      simp only [denVs, denV, u8]
      rcases isTwo_ok h2 with ⟨rfl, e2⟩ | ⟨rfl, e2⟩
      · rw [e2, he, gmE_den (by decide) he]; exact refMul_2a n hn w
      · rw [e2, he, gmE_den (by decide) he]; exact refMul_3a n hn w

/-! ### Tables -/
theorem const_good {f : Nat} {v : SVal} (hv : flat v = true) (h : ∀ st, Ret f [] (denV st v)) : Good f (constSum v) := by
  intro st int bool
  have key : ∀ {args u}, constSum v args = some u → args = [] ∧ u = v := by
    intro args u h
    unfold constSum at h
    split at h
    · cases h; exact ⟨rfl, rfl⟩
    · cases h
  refine ⟨?_, ?_⟩
  · intro args u h
    obtain ⟨rfl, rfl⟩ := key h
    exact ⟨rfl, hv⟩
  · intro args u hu w
    obtain ⟨rfl, rfl⟩ := key hu
    exact h _ w

def sums1 : List (Nat × Sum) := [(19, one8 sE), (18, one8 bkE), (78, mulSum), (56, refMulSum), (24, one8 affE), (26, one8 affE)]
theorem goods1 : Goods sums1 := .cons S_good (.cons Back_good (.cons Mul_good (.cons RefMul_good (.cons RefAffine_good (.cons Affine_good .nil)))))
noncomputable def env1 : Env := env sums1 []

/-! Values without unknowns -/
mutual
def fixed : SVal → Bool
  | .int _ (.lit _) => true
  | .bool (.lit _) => true
  | .agg cs => fixeds cs
  | _ => false
def fixeds : List SVal → Bool
  | [] => true
  | s :: l => fixed s && fixeds l
end
mutual
theorem fixed_ok : ∀ {s : SVal}, fixed s = true → (∀ v v' : Val, denV v s = denV v' s) ∧ flat s = true
  | .int _ (.lit _), _ => ⟨fun _ _ => rfl, rfl⟩
  | .bool (.lit _), _ => ⟨fun _ _ => rfl, rfl⟩
  | .agg cs, h => ⟨fun v v' => by simp only [denV]; rw [(fixeds_ok (show fixeds cs = true from h)).1 v v'], (fixeds_ok (show fixeds cs = true from h)).2⟩
  | .int _ (.var _), h => by cases h
  | .int _ (.op ..), h => by cases h
  | .int _ (.sel ..), h => by cases h
  | .int _ (.app ..), h => by cases h
  | .bool (.var _), h => by cases h
  | .bool (.cmp ..), h => by cases h
  | .bool (.not _), h => by cases h
  | .bool (.and ..), h => by cases h
  | .bool (.iff ..), h => by cases h
  | .str _, h => by cases h
  | .ptr _, h => by cases h
  | .pix .., h => by cases h
  | .slice .., h => by cases h
  | .tuple _, h => by cases h
  | .func .., h => by cases h
  | .nilFunc, h => by cases h
  | .nilIface, h => by cases h
  | .iface .., h => by cases h
theorem fixeds_ok : ∀ {l : List SVal}, fixeds l = true → (∀ v v' : Val, denVs v l = denVs v' l) ∧ flats l = true
  | [], _ => ⟨fun _ _ => rfl, rfl⟩
  | s :: l, h => by
    simp only [fixeds, Bool.and_eq_true] at h
    obtain ⟨h1, f1⟩ := fixed_ok h.1
    obtain ⟨h2, f2⟩ := fixeds_ok h.2
    exact ⟨fun v v' => by simp only [denVs]; rw [h1 v v', h2 v v'], by simp [flats, f1, f2]⟩
end

theorem const_eval {l : List (Nat × Sum)} (hl : Goods l) (n : Nat) {f : Nat} {v : SVal} (hv : fixed v = true) (h : gives (callV (env l []) (runV (env l []) n) 0 [] f []) v = true) : Good f (constSum v) :=
  const_good (fixed_ok hv).2 fun st w => by
    have := eval_calls hl (byteSt 0) n (f := f) (args := []) rfl h w
    rw [(fixed_ok hv).1 st (val (byteSt 0))]
    exact this

theorem Table_good : Good 21 (constSum (tableV sboxL)) := const_eval goods1 600 (by decide +kernel) (by kernel_rfl)
end
end Go.Proofs.Ytaeklgfdknbncaa
