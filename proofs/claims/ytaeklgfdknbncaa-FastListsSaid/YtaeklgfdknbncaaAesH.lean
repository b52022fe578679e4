/-
  Making a cipher and running it. Conditions: none beside the hypotheses of each theorem.
-/
import Derived.Test.YtaeklgfdknbncaaAesHe
namespace Go.Proofs.Ytaeklgfdknbncaa
noncomputable section
open Go.ChangeShapes Go.WideShapes Go.ChangeAt Go.RowKit Go.Sx Go.Aes

/-! ### Summaries that read memory and make blocks -/
abbrev HSum := Hp → List SVal → Option (SVal × List SObj)
def HOk (ρ : Val) (f : Nat) (s : HSum) : Prop := ∀ hp args v os, s hp args = some (v, os) → ∀ φ vs w, RvL ρ φ args vs → Rh ρ φ hp w →
    Calls Try.prog f ⟨vs⟩ w fun e w' => ∃ val ψ, e = .returned val ∧ Rv ρ (φ ++ ψ) v val ∧ Rh ρ (φ ++ ψ) (hp ++ os) w' ∧ Step hp.length hp φ w (hp ++ os) (φ ++ ψ) w'
def HGood (f : Nat) (s : HSum) : Prop := ∀ st int bool, HOk (aesVal st int bool) f s

def sumsG : List (Nat × HSum) → List (Nat × Sum) → Nat → Option HSum
  | [], l, f => sumsL l f
  | (g, s) :: m, l, f => bif Nat.beq f g then some s else sumsG m l f
noncomputable def envG (m : List (Nat × HSum)) (l : List (Nat × Sum)) (facts : List (C × Bool)) : Env :=
  { P := Try.prog, rvar := fun _ => none, rapp := aesRange, facts, rw := aesRw, sums := sumsG m l, loud := fun _ => false }

theorem sumsG_ok {ρ : Val} {l : List (Nat × Sum)} (hl : ∀ f s, sumsL l f = some s → HOk ρ f s) : ∀ {m : List (Nat × HSum)}, (∀ p ∈ m, HOk ρ p.1 p.2) → ∀ {f s}, sumsG m l f = some s → HOk ρ f s
  | [], _, f, s, h => hl f s h
  | (g, s') :: m, hm, f, s, h => by
    simp only [sumsG] at h
    cases hb : Nat.beq f g with
    | true =>
      rw [hb] at h
      obtain rfl : s' = s := Option.some.inj h
      have : f = g := Nat.eq_of_beq_eq_true hb
      subst this
      exact hm (f, s') (by simp)
    | false =>
      rw [hb] at h
      exact sumsG_ok hl (fun p hp => hm p (by simp [hp])) h

theorem envG_ok {m : List (Nat × HSum)} {l : List (Nat × Sum)} (hl : Goods l) {facts : List (C × Bool)} {st : Nat → Nat} {int : Nat → Int} {bool : Nat → Bool} (hm : ∀ p ∈ m, HOk (aesVal st int bool) p.1 p.2)
    (hf : ∀ c b, (c, b) ∈ facts → c.den (aesVal st int bool) = b) : EnvOk (envG m l facts) (aesVal st int bool) := by
  refine ⟨⟨?_, fun f r l h => range_ok st f r l h, hf, fun e e' h => aesRw_ok e e' h⟩, by kernel_rfl, ?_⟩
  · intro i r h; cases h
  · intro f s h
    exact sumsG_ok (fun f s h => by
      obtain ⟨s', rfl, hs⟩ := sumsL_ok hl h
      exact (hs st int bool).ok) hm h

/-! ### What a cipher's cells stand for -/
def wordsN (n : Nat) : List Value := (List.range 4).map fun c => Value.int .u32 (word (byte (4 * c) n) (byte (4 * c + 1) n) (byte (4 * c + 2) n) (byte (4 * c + 3) n) : Nat)
def backN (r k : Nat) : Nat := if r = 0 then keyR 10 k else if r = 10 then k else unmixS (keyR (10 - r) k)
def cipherN (k : Nat) (kb : List Value) : List Value :=
  .bool true :: (((List.range 11).map fun r => wordsN (if r = 0 then k else keyR r k)).flatten ++ (((List.range 11).map fun r => wordsN (backN r k)).flatten ++ (kb ++ tablesL.map fun n : Nat => Value.int .u32 (n : Int))))

section
variable {st : Nat → Nat} {int : Nat → Int} {bool : Nat → Bool}

theorem words_den (s : E) : denVs (aesVal st int bool) (wordsE s) = wordsN (num (aesVal st int bool) s) := by
  unfold wordsE wordsN
  rw [denVs_map]
  apply List.map_congr_left
  intro c hc
  have hc := List.mem_range.1 hc
  simp only [u32, denV]
  rw [mkWord_ok (w := (byteE (4 * c) s, byteE (4 * c + 1) s, byteE (4 * c + 2) s, byteE (4 * c + 3) s))
    ⟨⟨byteE_den _ (by omega) s, byteE_den _ (by omega) s, byteE_den _ (by omega) s, byteE_den _ (by omega) s⟩, byte_lt _ _, byte_lt _ _, byte_lt _ _, byte_lt _ _⟩]

theorem key_num {k : E} (hk : isState k = true) {r : Nat} (h : r ≤ 10) : num (aesVal st int bool) (keyE r k) = if r = 0 then num (aesVal st int bool) k else keyR r (num (aesVal st int bool) k) := by
  by_cases h0 : r = 0
  · subst h0; rfl
  · rw [if_neg h0, num_of (keyE_den (by omega) hk)]

theorem backKey_num {k : E} (hk : isState k = true) {r : Nat} (h : r ≤ 10) : num (aesVal st int bool) (backKey r k) = backN r (num (aesVal st int bool) k) := by
  unfold backKey backN
  split
  · rw [key_num hk (by omega)]; rfl
  · split
    · rw [key_num hk (by omega)]; rfl
    · rw [num_of (unmixE_den _), key_num hk (by omega), if_neg (by omega)]

theorem words11_den {f : Nat → E} {g : Nat → Nat} (h : ∀ r, r ≤ 10 → num (aesVal st int bool) (f r) = g r) :
    denVs (aesVal st int bool) ((List.range 11).map fun r => wordsE (f r)).flatten = ((List.range 11).map fun r => wordsN (g r)).flatten := by
  rw [denVs_flatten, List.map_map]
  congr 1
  apply List.map_congr_left
  intro r hr
  simp only [Function.comp_apply]
  rw [words_den, h r (by have := List.mem_range.1 hr; omega)]

theorem denVs_words (v : Val) : ∀ l : List Nat, denVs v (wordsV l) = l.map fun n : Nat => Value.int .u32 (n : Int)
  | [] => rfl
  | a :: l => by
    have := denVs_words v l
    unfold wordsV at this ⊢
    show Value.int .u32 (a : Int) :: denVs v (l.map fun n : Nat => u32 (.lit (n : Int))) = _
    rw [this]; rfl

theorem cipher_den {k : E} (hk : isState k = true) (kb : List SVal) : denVs (aesVal st int bool) (cipherV k kb) = cipherN (num (aesVal st int bool) k) (denVs (aesVal st int bool) kb) := by
  unfold cipherV cipherN forwardV backV tablesV
  simp only [denVs, denVs_append]
  rw [words11_den (fun r h => key_num hk h), words11_den (fun r h => backKey_num hk h), denVs_words]
  rfl

theorem flats_words (s : E) : flats (wordsE s) = true := flats_map _ (fun _ => rfl) _
theorem flats_wordsV : ∀ l, flats (wordsV l) = true
  | [] => rfl
  | _ :: l => by
    have := flats_wordsV l
    unfold wordsV at this ⊢
    show (true && flats (l.map fun n : Nat => u32 (.lit (n : Int)))) = true
    rw [this]; rfl
theorem flats_cipher (k : E) {kb : List SVal} (h : flats kb = true) : flats (cipherV k kb) = true := by
  unfold cipherV
  simp only [flats, flat, Bool.true_and]
  exact flats_append (flats_flatten _ (fun _ => flats_words _) _) (flats_append (flats_flatten _ (fun _ => flats_words _) _) (flats_append h (flats_wordsV _)))
end

/-! ### Making one -/
def blockL (n : Nat) : List Value := (List.range 16).map fun i => .int .u8 (byte i n : Nat)
theorem new_core {st : Nat → Nat} {int : Nat → Int} {bool : Nat → Bool} {hp : Hp} {φ : Phi} {w : World} {n : Nat} {cs : List SVal} (hlt : n < big) (hfl : flats cs = true) (hden : denVs (aesVal st int bool) cs = cipherN n (blockL n))
    (hR : Rh (aesVal st int bool) φ hp w) : Calls Try.prog 48 ⟨[blockV n]⟩ w fun e w' => ∃ val ψ, e = .returned val ∧ Rv (aesVal st int bool) (φ ++ ψ) (.ptr (some (hp.length, 0))) val ∧
      Rh (aesVal st int bool) (φ ++ ψ) (hp ++ [.cells cs true true]) w' ∧ Step hp.length hp φ w (hp ++ [.cells cs true true]) (φ ++ ψ) w' := by
  have h := new_eval
  have ek : num (val (twoSt 0 n)) k0 = n := k0_num hlt
  cases hc : callV (env sums5 []) (runV (env sums5 []) 300) 0 [] 48 [.agg (unpackE k0)] with
  | none => rw [hc] at h; cases h
  | some r =>
    obtain ⟨u, hp1, c⟩ := r
    rw [hc] at h
    unfold madeGives at h
    split at h
    case h_2 => cases h
    rename_i hp2 c2 e2
    cases e2
    split at h
    case h_2 => cases h
    rename_i cs' hcs
    obtain ⟨rfl, -⟩ := SVal.sames_eq h
    have hcs : hp1[1]? = some (.cells (cipherV k0 (unpackE k0)) true true) := by rw [← nth_eq]; exact hcs
    refine (calls_ok (env_ok goods5 (facts := []) (by simp) : EnvOk (env sums5 []) (val (twoSt 0 n))) 300 hc (φ := []) (vs := [blockV n])
      ((flats_rv (by simp only [flats, flat_block, Bool.and_self])).2 (by simp only [denVs]; exact congrArg (fun z => [z]) (block_den ek).symm)) (Rh.empty w)).mono ?_
    rintro e w' ⟨val', φ', rfl, ⟨x, ⟨bb, hbb, rfl⟩, rfl⟩, h2, h3, _⟩
    have hbel : Below w.heap.size w w' := h3.below (by simp)
    have hge : w.heap.size ≤ bb.1 := by
      obtain ⟨ψ, e, hψ⟩ := h3.pre
      rw [e, List.nil_append] at hbb
      rcases hψ bb (List.mem_of_getElem? hbb) with h | ⟨i, o, c, _, _, _, h, _⟩
      · exact h
      · simp at h
    have hblt : bb.1 < w'.heap.size := h2.lt bb (List.mem_of_getElem? hbb)
    have hfl0 := flats_cipher k0 (flat_block k0)
    have hobj : ∀ ψ, Robj (aesVal st int bool) ψ (.cells cs true true) bb w' := by
      intro ψ
      obtain ⟨pre, vs, tl, el, fr, g1, g0, g2, g3, g4, g5⟩ := h2.obj 1 _ bb hcs hbb
      refine ⟨pre, vs, tl, el, fr, g1, g0, g2, g3, ?_, g5⟩
      rw [(flats_rv hfl0).1 g4]
      refine (flats_rv hfl).2 ?_
      have e1 : denVs (val (twoSt 0 n)) (cipherV k0 (unpackE k0)) = cipherN (num (val (twoSt 0 n)) k0) (denVs (val (twoSt 0 n)) (unpackE k0)) :=
        cipher_den (st := twoSt 0 n) (int := fun _ => 0) (bool := fun _ => false) (k := k0) rfl (unpackE k0)
      have b1 : Value.agg ⟨denVs (val (twoSt 0 n)) (unpackE k0)⟩ = blockV n := block_den ek
      have b3 : denVs (val (twoSt 0 n)) (unpackE k0) = blockL n := by
        simpa [blockV, blockL] using b1
      show denVs (val (twoSt 0 n)) _ = _
      rw [e1, ek, b3, hden]
    refine ⟨_, [bb], rfl, ⟨_, ⟨bb, ?_, rfl⟩, rfl⟩, ?_, ?_⟩
    · show (φ ++ [bb])[hp.length]? = _
      rw [hR.len, List.getElem?_append_right (Nat.le_refl _)]; simp
    · refine ⟨by simp [hR.len], ?_, ?_, ?_⟩
      · intro b' hb'
        rcases List.mem_append.1 hb' with hb' | hb'
        · exact Nat.lt_of_lt_of_le (hR.lt b' hb') hbel.size
        · rw [List.mem_singleton.1 hb']; exact hblt
      · intro i j o o' b1 b2 hi hj hl hl' hb1 hb2 he
        have li : i < hp.length + 1 := by have := (List.getElem?_eq_some_iff.1 hi).1; simpa using this
        have lj : j < hp.length + 1 := by have := (List.getElem?_eq_some_iff.1 hj).1; simpa using this
        have hlen := hR.len
        by_cases ci : i < hp.length
        · rw [List.getElem?_append_left (by omega)] at hi hb1
          by_cases cj : j < hp.length
          · rw [List.getElem?_append_left (by omega)] at hj hb2
            exact hR.uniq i j o o' b1 b2 hi hj hl hl' hb1 hb2 he
          · have : j = φ.length := by omega
            subst this
            rw [List.getElem?_append_right (Nat.le_refl _)] at hb2
            simp at hb2
            subst hb2
            have := hR.lt b1 (List.mem_of_getElem? hb1)
            omega
        · have : i = φ.length := by omega
          subst this
          rw [List.getElem?_append_right (Nat.le_refl _)] at hb1
          simp at hb1
          subst hb1
          by_cases cj : j < hp.length
          · rw [List.getElem?_append_left (by omega)] at hj hb2
            have := hR.lt b2 (List.mem_of_getElem? hb2)
            omega
          · omega
      · intro i o b1 hi hb1
        have hlen := hR.len
        by_cases ci : i < hp.length
        · rw [List.getElem?_append_left (by omega)] at hi hb1
          exact ((hR.obj i o b1 hi hb1).same (hbel.block b1.1 (hR.lt b1 (List.mem_of_getElem? hb1)))).mono _
        · have li : i < hp.length + 1 := by have := (List.getElem?_eq_some_iff.1 hi).1; simpa using this
          have : i = φ.length := by omega
          subst this
          rw [List.getElem?_append_right (Nat.le_refl _)] at hb1
          rw [List.getElem?_append_right (by omega), hlen] at hi
          simp at hi hb1
          subst hi; subst hb1
          exact hobj _
    · refine ⟨hbel.os, hbel.tape, hbel.output, hbel.size, ⟨[bb], rfl, fun b hb => ?_⟩, fun i o ho => ⟨o, ?_, rfl⟩, fun i _ hlt => ?_, fun b hb _ => hbel.block b hb⟩
      · rw [List.mem_singleton.1 hb]; exact .inl hge
      · rw [List.getElem?_append_left (List.getElem?_eq_some_iff.1 ho).1]; exact ho
      · rw [List.getElem?_append_left hlt]
theorem new_cells {st : Nat → Nat} {int : Nat → Int} {bool : Nat → Bool} {k : E} {kb : List SVal} (hk : isState k = true) (e : denVs (aesVal st int bool) kb = blockL (num (aesVal st int bool) k)) :
    denVs (aesVal st int bool) (cipherV k kb) = cipherN (num (aesVal st int bool) k) (blockL (num (aesVal st int bool) k)) := by
  rw [cipher_den hk, e]
theorem unpack_blockL {st : Nat → Nat} {int : Nat → Int} {bool : Nat → Bool} (k : E) : denVs (aesVal st int bool) (unpackE k) = blockL (num (aesVal st int bool) k) := by
  have : Value.agg ⟨denVs (aesVal st int bool) (unpackE k)⟩ = blockV (num (aesVal st int bool) k) := block_den rfl
  simpa [blockV, blockL] using this

theorem New_good : HGood 48 newSum := by
  intro st int bool hp args v os hs φ vs w hvs hR
  unfold newSum at hs
  split at hs
  case h_2 => cases hs
  rename_i b
  cases hk : packV id b with
  | none => rw [hk] at hs; cases hs
  | some k =>
    rw [hk] at hs
    simp only at hs
    split at hs
    case isFalse => cases hs
    rename_i hst
    cases hs
    obtain ⟨fb, _, eb⟩ := packB_ok (st := st) (int := int) (bool := bool) hk
    have hvs' := (flats_rv (by simp only [flats, fb, Bool.and_self])).1 hvs
    simp only [denVs, eb] at hvs'
    subst hvs'
    exact new_core (isState_ok (st := st) (int := int) (bool := bool) hst).1 (flats_cipher k (flat_block k)) (new_cells hst (unpack_blockL k)) hR

/-! ### Running it -/
def fastN (k s : Nat) : Nat → Nat
  | 0 => addS s k
  | r + 1 => addS (mixS (shiftS (subS (fastN k s r)))) (keyR (r + 1) k)
def encF (k s : Nat) : Nat := addS (shiftS (subS (fastN k s 9))) (keyR 10 k)
def slowN (k s : Nat) : Nat → Nat
  | 0 => addS s (keyR 10 k)
  | r + 1 => addS (unmixS (unsubS (unshiftS (slowN k s r)))) (backN (r + 1) k)
def decF (k s : Nat) : Nat := addS (unsubS (unshiftS (slowN k s 9))) k
section
variable {st : Nat → Nat} {int : Nat → Int} {bool : Nat → Bool}
theorem fast_num {k s : E} (hk : isState k = true) : ∀ r, r < 50 → num (aesVal st int bool) (fastRounds k s r) = fastN (num (aesVal st int bool) k) (num (aesVal st int bool) s) r
  | 0, _ => num_of (addE_den s k)
  | r + 1, h => by
    rw [fastRounds, fastRound, num_of (addE_den _ _), num_of (mixE_den _), num_of (shiftE_den _), num_of (subE_den _), fast_num hk r (by omega), num_of (keyE_den (by omega) hk)]; rfl
theorem encrypt_num {k s : E} (hk : isState k = true) : num (aesVal st int bool) (encryptE k s) = encF (num (aesVal st int bool) k) (num (aesVal st int bool) s) := by
  rw [encryptE, num_of (addE_den _ _), num_of (shiftE_den _), num_of (subE_den _), fast_num hk 9 (by decide), num_of (keyE_den (by decide) hk)]; rfl
theorem slow_num {k s : E} (hk : isState k = true) : ∀ r, r < 10 → num (aesVal st int bool) (slowRounds k s r) = slowN (num (aesVal st int bool) k) (num (aesVal st int bool) s) r
  | 0, _ => by rw [slowRounds, num_of (addE_den _ _), num_of (keyE_den (by decide) hk)]; rfl
  | r + 1, h => by
    rw [slowRounds, slowRound, num_of (addE_den _ _), num_of (unmixE_den _), num_of (unsubE_den _), num_of (unshiftE_den _), slow_num hk r (by omega), backKey_num hk (by omega)]; rfl
theorem decrypt_num {k s : E} (hk : isState k = true) : num (aesVal st int bool) (decryptE k s) = decF (num (aesVal st int bool) k) (num (aesVal st int bool) s) := by
  rw [decryptE, num_of (addE_den _ _), num_of (unsubE_den _), num_of (unshiftE_den _), slow_num hk 9 (by decide)]; rfl
end

def threeSt (n k c : Nat) (f : Nat) : Nat := if f = 250 then n else if f = 251 then k else c
theorem three_v {n k c : Nat} (h : n < big) : num (val (threeSt n k c)) v0 = n := by
  have e : v0.den (val (threeSt n k c)) = (n % big : Nat) := rfl
  rw [show num (val (threeSt n k c)) v0 = n % big from num_of e, Nat.mod_eq_of_lt h]
theorem three_k {n k c : Nat} (h : k < big) : num (val (threeSt n k c)) k0 = k := by
  have e : k0.den (val (threeSt n k c)) = (k % big : Nat) := rfl
  rw [show num (val (threeSt n k c)) k0 = k % big from num_of e, Nat.mod_eq_of_lt h]
theorem three_c {n k c : Nat} (h : c < big) : num (val (threeSt n k c)) k2 = c := by
  have e : k2.den (val (threeSt n k c)) = (c % big : Nat) := rfl
  rw [show num (val (threeSt n k c)) k2 = c % big from num_of e, Nat.mod_eq_of_lt h]

theorem cipherAt_ok {hp : Hp} {i : Nat} {k c : E} (h : cipherAt hp i = some (k, c)) : ∃ cs ex rw kb, hp[i]? = some (.cells cs ex rw) ∧ isState k = true ∧ packV id (.agg kb) = some c ∧ cs = cipherV k kb := by
  unfold cipherAt at h
  split at h
  · rename_i cs ex rw hn
    split at h
    · rename_i k' c' h1 h2
      split at h
      · rename_i hc
        cases h
        exact ⟨cs, ex, rw, keyCells cs, by rw [← nth_eq]; exact hn, hc.1, h2, (SVal.sames_eq hc.2).1⟩
      · cases h
    · cases h
  · cases h

/-- a run on a cipher in memory, from its evaluation on the cipher with unknown parts -/
theorem run_of {o p g : Nat} {step : Int} {F : E → E → E} {G : Nat → Nat → Nat} (hF : ∀ {st : Nat → Nat} {int : Nat → Int} {bool : Nat → Bool} {k s : E}, isState k = true → num (aesVal st int bool) (F k s) = G (num (aesVal st int bool) k) (num (aesVal st int bool) s))
    (h : gives (callV (env sums1 []) (runV (env sums1 []) 300) 1 hp0 70 (runArgs o p step g)) (.agg (unpackE (F k0 v0))) = true)
    {st : Nat → Nat} {int : Nat → Int} {bool : Nat → Bool} {hp : Hp} {φ : Phi} {w : World} {i : Nat} {k c s : E} {b : SVal} {vs : List Value} (hi : cipherAt hp i = some (k, c)) (hb : packV id b = some s)
    (hvs : RvL (aesVal st int bool) φ [b, .ptr (some (i, o)), .ptr (some (i, p)), .int .i64 (.lit step), .func g [] []] vs) (hR : Rh (aesVal st int bool) φ hp w) :
    Calls Try.prog 70 ⟨vs⟩ w fun e w' => ∃ val' ψ, e = .returned val' ∧ Rv (aesVal st int bool) (φ ++ ψ) (.agg (unpackE (F k s))) val' ∧ Rh (aesVal st int bool) (φ ++ ψ) (hp ++ []) w' ∧ Step hp.length hp φ w (hp ++ []) (φ ++ ψ) w' := by
  obtain ⟨cs, ex, rw, kb, hobj, hk, hc, rfl⟩ := cipherAt_ok hi
  obtain ⟨v1, r1, rfl, a1, v2, r2, rfl, ⟨x2, ⟨b2, hb2, rfl⟩, rfl⟩, v3, r3, rfl, ⟨x3, ⟨b3, hb3, rfl⟩, rfl⟩, v4, r4, rfl, a4, v5, r5, rfl, ⟨xs, ys, rfl, ax, ay⟩, e5⟩ := hvs
  have hb2 : φ[i]? = some b2 := hb2
  have hb3 : φ[i]? = some b3 := hb3
  obtain rfl : b2 = b3 := Option.some.inj (hb2.symm.trans hb3)
  obtain rfl : xs = [] := ax
  obtain rfl : ys = [] := ay
  obtain rfl : v4 = .int .i64 step := a4
  obtain rfl : r5 = [] := e5
  obtain ⟨fb, sb', eb⟩ := packB_ok (st := st) (int := int) (bool := bool) hb
  obtain ⟨fk, sk', ek⟩ := packB_ok (st := st) (int := int) (bool := bool) hc
  obtain rfl := (flat_rv fb).1 a1
  rw [eb]
  have ls := (isState_ok (st := st) (int := int) (bool := bool) sb').1
  have lk := (isState_ok (st := st) (int := int) (bool := bool) hk).1
  have lc := (isState_ok (st := st) (int := int) (bool := bool) sk').1
  obtain ⟨pre, vs, tl, el, fr, g1, g0, g2, g3, g4, g5⟩ := hR.obj i _ b2 hobj hb2
  have fkb : flats kb = true := fk
  have e4 := (flats_rv (flats_cipher k fkb)).1 g4
  have hden : denVs (val (threeSt (num (aesVal st int bool) s) (num (aesVal st int bool) k) (num (aesVal st int bool) c))) (cipherV k0 (unpackE k2)) = denVs (aesVal st int bool) (cipherV k kb) := by
    have c1 : denVs (val (threeSt (num (aesVal st int bool) s) (num (aesVal st int bool) k) (num (aesVal st int bool) c))) (cipherV k0 (unpackE k2)) = _ :=
      cipher_den (st := threeSt (num (aesVal st int bool) s) (num (aesVal st int bool) k) (num (aesVal st int bool) c)) (int := fun _ => 0) (bool := fun _ => false) (k := k0) rfl (unpackE k2)
    have c2 := cipher_den (st := st) (int := int) (bool := bool) hk kb
    have b1 : Value.agg ⟨denVs (val (threeSt (num (aesVal st int bool) s) (num (aesVal st int bool) k) (num (aesVal st int bool) c))) (unpackE k2)⟩ = blockV (num (aesVal st int bool) c) := block_den (three_c lc)
    have b3 : denVs (val (threeSt (num (aesVal st int bool) s) (num (aesVal st int bool) k) (num (aesVal st int bool) c))) (unpackE k2) = denVs (aesVal st int bool) kb := by
      have := b1.trans ek.symm
      simpa [denV] using this
    rw [c1, c2]
    show cipherN (num (val (threeSt (num (aesVal st int bool) s) (num (aesVal st int bool) k) (num (aesVal st int bool) c))) k0) (denVs (val (threeSt (num (aesVal st int bool) s) (num (aesVal st int bool) k) (num (aesVal st int bool) c))) (unpackE k2)) = _
    rw [b3, three_k lk]
  have hR0 : Rh (val (threeSt (num (aesVal st int bool) s) (num (aesVal st int bool) k) (num (aesVal st int bool) c))) [b2] hp0 w := by
    refine ⟨rfl, fun b hb => ?_, ?_, ?_⟩
    · rw [List.mem_singleton.1 hb]; exact hR.lt b2 (List.mem_of_getElem? hb2)
    · intro i j o o' b b' hi hj _ _ hb hb' _
      have h1 := (List.getElem?_eq_some_iff.1 hb).1
      have h2 := (List.getElem?_eq_some_iff.1 hb').1
      simp at h1 h2
      omega
    · intro i o b hi hb
      have h1 := (List.getElem?_eq_some_iff.1 hb).1
      simp at h1
      subst h1
      obtain rfl : b2 = b := by simpa using hb
      obtain rfl : SObj.cells (cipherV k0 (unpackE k2)) false false = o := by simpa [hp0] using hi
      exact ⟨pre, vs, tl, el, fr, g1, g0, (fun h => by cases h), (fun h => by cases h), (flats_rv (flats_cipher k0 (flat_block k2))).2 (by rw [e4]; exact hden.symm), g5⟩
  cases hcall : callV (env sums1 []) (runV (env sums1 []) 300) 1 hp0 70 (runArgs o p step g) with
  | none => rw [hcall] at h; cases h
  | some r =>
    obtain ⟨u, hp', c'⟩ := r
    rw [hcall] at h
    obtain ⟨rfl, hf⟩ := SVal.same_eq h
    refine (calls_ok (env_ok goods1 (facts := []) (by simp) : EnvOk (env sums1 []) (val (threeSt (num (aesVal st int bool) s) (num (aesVal st int bool) k) (num (aesVal st int bool) c)))) 300 hcall (φ := [b2])
      (vs := [blockV (num (aesVal st int bool) s), .pointer (some ⟨b2.1, b2.2.2 + o, none⟩), .pointer (some ⟨b2.1, b2.2.2 + p, none⟩), .int .i64 step, .func (.func g) ⟨[]⟩ ⟨[]⟩]) ?_ hR0).mono ?_
    · exact ⟨_, _, rfl, (flat_rv (flat_block v0)).2 (block_den (three_v ls)).symm, _, _, rfl, ⟨_, ⟨b2, rfl, rfl⟩, rfl⟩, _, _, rfl, ⟨_, ⟨b2, rfl, rfl⟩, rfl⟩, _, _, rfl, rfl, _, _, rfl, ⟨[], [], rfl, rfl, rfl⟩, rfl⟩
    · rintro e w' ⟨val', φ', rfl, h1, _, h3, _⟩
      have hbel : Below w.heap.size w w' := h3.below (by
        intro i o ho
        have h1 := (List.getElem?_eq_some_iff.1 ho).1
        simp [hp0] at h1
        subst h1
        obtain rfl : SObj.cells (cipherV k0 (unpackE k2)) false false = o := by simpa [hp0] using ho
        rfl)
      refine ⟨_, [], rfl, ?_, ?_, ?_⟩
      · refine (flat_rv (flat_block _)).2 (((flat_rv hf).1 h1).trans ((block_den ((hF rfl).trans (?_ : _ = G (num (aesVal st int bool) k) (num (aesVal st int bool) s)))).trans (block_den (hF hk)).symm))
        rw [show num (aesVal (threeSt (num (aesVal st int bool) s) (num (aesVal st int bool) k) (num (aesVal st int bool) c)) (fun _ => 0) (fun _ => false)) k0 = _ from three_k lk,
          show num (aesVal (threeSt (num (aesVal st int bool) s) (num (aesVal st int bool) k) (num (aesVal st int bool) c)) (fun _ => 0) (fun _ => false)) v0 = _ from three_v ls]
      · simpa using hR.keep (Step.of_below hbel)
      · simpa using Step.of_below hbel

theorem isFn_ok {n : Nat} {l : SVal} (h : isFn n l = true) : l = .func n [] [] := by
  unfold isFn at h
  split at h
  · rename_i f; rw [Nat.eq_of_beq_eq_true h]
  · cases h

theorem Run_good : HGood 70 runSum := by
  intro st int bool hp args v os hs φ vs w hvs hR
  unfold runSum at hs
  split at hs
  case h_2 => cases hs
  rename_i b i o j p step l
  split at hs
  case h_2 => cases hs
  rename_i k c s hi hb
  split at hs
  · rename_i hc
    obtain ⟨rfl, rfl, rfl, hl, hj⟩ := hc
    obtain rfl := isFn_ok hl
    obtain rfl := Nat.eq_of_beq_eq_true hj
    cases hs
    exact run_of (F := encryptE) (G := encF) encrypt_num enc_eval hi hb hvs hR
  · split at hs
    · rename_i hc
      obtain ⟨rfl, rfl, rfl, hl, hj⟩ := hc
      obtain rfl := isFn_ok hl
      obtain rfl := Nat.eq_of_beq_eq_true hj
      cases hs
      exact run_of (F := decryptE) (G := decF) decrypt_num dec_eval hi hb hvs hR
    · cases hs
end
end Go.Proofs.Ytaeklgfdknbncaa
