/-
  Lists of blocks and their encrypted blocks. Conditions: none beside the hypotheses of each theorem.
-/
import Derived.Test.YtaeklgfdknbncaaAes07b
namespace Go.Proofs.Ytaeklgfdknbncaa
noncomputable section
open Go.ChangeShapes Go.WideShapes Go.ChangeAt Go.RowKit Go.Sx Go.Aes

/-! ### The reference's encrypting -/
def refKeyV (k : E) : List SVal := keysE k ++ sboxL.map fun n : Nat => u8 (.lit (n : Int))
def refEncSum : List SVal → Option SVal
  | [.agg cs, b] => match packV id (.agg (cs.take 16)), packV id b with
    | some k, some s => if isState k = true ∧ SVal.sames cs (refKeyV k) = true then some (.agg (unpackE (encryptE k s))) else none
    | _, _ => none
  | _ => none

theorem refEnc_eval : gives (callV (env sums3 []) (runV (env sums3 []) 300) 0 [] 30 [.agg (refKeyV k0), .agg (unpackE v0)]) (.agg (unpackE (encryptE k0 v0))) = true := by kernel_rfl

def refKeyN (k : Nat) : Value := .agg ⟨((List.range 11).map fun r => (List.range 16).map fun i => Value.int .u8 (byte i (keyR r k) : Nat)).flatten ++ sboxL.map fun n : Nat => Value.int .u8 (n : Int)⟩
theorem flats_table : ∀ l : List Nat, flats (l.map fun n : Nat => u8 (.lit (n : Int))) = true
  | [] => rfl
  | _ :: l => by
    show (true && flats (l.map fun n : Nat => u8 (.lit (n : Int)))) = true
    rw [flats_table l]; rfl
theorem denVs_table (v : Val) : ∀ l : List Nat, denVs v (l.map fun n : Nat => u8 (.lit (n : Int))) = l.map fun n : Nat => Value.int .u8 (n : Int)
  | [] => rfl
  | a :: l => by
    show Value.int .u8 (a : Int) :: denVs v (l.map fun n : Nat => u8 (.lit (n : Int))) = _
    rw [denVs_table v l]; rfl
theorem flat_refKey (k : E) : flats (refKeyV k) = true := flats_append (flat_keys k) (flats_table _)
theorem refKey_den {st : Nat → Nat} {int : Nat → Int} {bool : Nat → Bool} {k : E} (hk : isState k = true) : denV (aesVal st int bool) (.agg (refKeyV k)) = refKeyN (num (aesVal st int bool) k) := by
  have h := keys_den (st := st) (int := int) (bool := bool) hk
  simp only [denV, keysV] at h
  unfold refKeyV refKeyN
  simp only [denV]
  rw [denVs_append, denVs_table]
  have h' : denVs (aesVal st int bool) (keysE k) = ((List.range 11).map fun r => (List.range 16).map fun i => Value.int .u8 (byte i (keyR r (num (aesVal st int bool) k)) : Nat)).flatten := by
    simpa using h
  rw [h']

theorem RefEnc_good : Good 30 refEncSum := by
  intro st int bool
  have key : ∀ {args v}, refEncSum args = some v → ∃ b k s, args = [.agg (refKeyV k), b] ∧ isState k = true ∧ packV id b = some s ∧ v = .agg (unpackE (encryptE k s)) := by
    intro args v h
    unfold refEncSum at h
    split at h
    · rename_i cs b
      split at h
      · rename_i k s hk hs
        split at h
        · rename_i hc
          cases h
          exact ⟨b, k, s, by rw [(SVal.sames_eq hc.2).1], hc.1, hs, rfl⟩
        · cases h
      · cases h
    · cases h
  refine ⟨?_, ?_⟩
  · intro args v h
    obtain ⟨b, k, s, rfl, hk, hs, rfl⟩ := key h
    exact ⟨by simp only [flats, flat, flat_refKey, (packB_ok (st := st) (int := int) (bool := bool) hs).1, Bool.and_self], flat_block _⟩
  · intro args v h w
    obtain ⟨b, k, s, rfl, hk, hs, rfl⟩ := key h
    obtain ⟨_, h1, h2⟩ := packB_ok (st := st) (int := int) (bool := bool) hs
    have ls := (isState_ok (st := st) (int := int) (bool := bool) h1).1
    have lk := (isState_ok (st := st) (int := int) (bool := bool) hk).1
    have := eval_calls goods3 (twoSt (num (aesVal st int bool) s) (num (aesVal st int bool) k)) 300 (f := 30) (args := [.agg (refKeyV k0), .agg (unpackE v0)])
      (by
        have h2 := flat_block v0
        simp only [flat] at h2
        simp only [flats, flat, flat_refKey, h2, Bool.and_self]) refEnc_eval w
    simp only [denVs] at this ⊢
    rw [h2, refKey_den hk, block_den (encrypt_num hk)]
    rw [show denV (val (twoSt (num (aesVal st int bool) s) (num (aesVal st int bool) k))) (.agg (unpackE v0)) = blockV (num (aesVal st int bool) s) from block_den (v0_num ls),
      show denV (val (twoSt (num (aesVal st int bool) s) (num (aesVal st int bool) k))) (.agg (refKeyV k0)) = refKeyN (num (aesVal st int bool) k) from
        (refKey_den (st := twoSt (num (aesVal st int bool) s) (num (aesVal st int bool) k)) (int := fun _ => 0) (bool := fun _ => false) (k := k0) rfl).trans (congrArg refKeyN (k0_num lk)),
      show denV (val (twoSt (num (aesVal st int bool) s) (num (aesVal st int bool) k))) (.agg (unpackE (encryptE k0 v0))) = blockV (encF (num (aesVal st int bool) k) (num (aesVal st int bool) s)) from
        block_den ((encrypt_num rfl).trans (congr (congrArg encF (k0_num lk)) (v0_num ls)))] at this
    exact this

/-! ### Lists of blocks: what they are encrypted to has names of its own -/
def blk (j : Nat) : E := .app (200 + j) []
def listSt (k o : Nat) (B : Nat → Nat) (f : Nat) : Nat :=
  if f = 251 then k else if f = 252 then o else if 200 ≤ f then B (f - 200) else if 160 ≤ f then encF k (B (f - 160)) else encF o (B (f - 120))
def listVal (k o : Nat) (B : Nat → Nat) (n : Int) : Val := aesVal (listSt k o B) (fun _ => n) (fun _ => false)

/-- the name of what a block is encrypted to -/
def atomOf (k s : E) : Option E :=
  match k, s with
  | .app f [], .app g [] => if 200 ≤ g ∧ g < 240 then (if f = 251 then some (.app (g - 40) []) else if f = 252 then some (.app (g - 80) []) else none) else none
  | _, _ => none

theorem stateApp {st : Nat → Nat} {f : Nat} (h1 : 116 ≤ f) (h2 : f < 300) : appN st f [] = st f % big := by
  unfold appN
  rw [if_neg (by omega), if_neg (by omega), if_pos h2]
theorem encF_lt (k s : Nat) : encF k s < big := by rw [encF, addS]; exact mk_lt _
theorem list_num {k o : Nat} {B : Nat → Nat} {n : Int} {f : Nat} (h1 : 116 ≤ f) (h2 : f < 300) : num (listVal k o B n) (.app f []) = listSt k o B f % big := by
  have e : (E.app f []).den (listVal k o B n) = (appN (listSt k o B) f [] : Nat) := rfl
  have h3 : num (listVal k o B n) (.app f []) = appN (listSt k o B) f [] := num_of e
  rw [h3, stateApp h1 h2]

theorem atomOf_ok {k o : Nat} {B : Nat → Nat} {n : Int} (hk : k < big) (ho : o < big) (hB : ∀ j, B j < big) {x s e : E} (h : atomOf x s = some e) :
    num (listVal k o B n) e = encF (num (listVal k o B n) x) (num (listVal k o B n) s) ∧ isState x = true := by
  unfold atomOf at h
  split at h
  · rename_i f g
    split at h
    · rename_i hg
      have es : num (listVal k o B n) (.app g []) = B (g - 200) := by
        rw [list_num (by omega) (by omega)]
        unfold listSt
        rw [if_neg (by omega), if_neg (by omega), if_pos hg.1, Nat.mod_eq_of_lt (hB _)]
      split at h
      · rename_i hf
        cases h
        subst hf
        have ex : num (listVal k o B n) (.app 251 []) = k := by
          rw [list_num (by omega) (by omega)]
          unfold listSt
          rw [if_pos rfl, Nat.mod_eq_of_lt hk]
        refine ⟨?_, rfl⟩
        rw [list_num (by omega) (by omega), es, ex]
        unfold listSt
        rw [if_neg (by omega), if_neg (by omega), if_neg (by omega), if_pos (by omega), show g - 40 - 160 = g - 200 by omega, Nat.mod_eq_of_lt (encF_lt _ _)]
      · split at h
        · rename_i hf
          cases h
          subst hf
          have ex : num (listVal k o B n) (.app 252 []) = o := by
            rw [list_num (by omega) (by omega)]
            unfold listSt
            rw [if_neg (by omega), if_pos rfl, Nat.mod_eq_of_lt ho]
          refine ⟨?_, rfl⟩
          rw [list_num (by omega) (by omega), es, ex]
          unfold listSt
          rw [if_neg (by omega), if_neg (by omega), if_neg (by omega), if_neg (by omega), show g - 80 - 120 = g - 200 by omega, Nat.mod_eq_of_lt (encF_lt _ _)]
        · cases h
    · cases h
  · cases h

/-- the same block under two terms -/
theorem block_same {k o : Nat} {B : Nat → Nat} {n : Int} (hk : k < big) (ho : o < big) (hB : ∀ j, B j < big) {x s e : E} (h : atomOf x s = some e) :
    denV (listVal k o B n) (.agg (unpackE e)) = denV (listVal k o B n) (.agg (unpackE (encryptE x s))) := by
  obtain ⟨h1, h2⟩ := atomOf_ok (n := n) hk ho hB h
  exact (block_den h1).trans (block_den (encrypt_num h2)).symm

noncomputable def enc49E : Env := envG heaps sums1 []
theorem enc49_eval : gives (callV enc49E (runV enc49E 300) 1 hp0 49 [.ptr (some (0, 0)), .agg (unpackE v0)]) (.agg (unpackE (encryptE k0 v0))) = true := by kernel_rfl
/-- encrypting with a cipher in memory, from its evaluation on the cipher with unknown parts -/
theorem enc49_of {st : Nat → Nat} {int : Nat → Int} {bool : Nat → Bool} {hp : Hp} {φ : Phi} {w : World} {i : Nat} {k c s : E} {b : SVal} {vs : List Value} (hi : cipherAt hp i = some (k, c)) (hb : packV id b = some s)
    (hvs : RvL (aesVal st int bool) φ [.ptr (some (i, 0)), b] vs) (hR : Rh (aesVal st int bool) φ hp w) :
    Calls Try.prog 49 ⟨vs⟩ w fun e w' => ∃ val' ψ, e = .returned val' ∧ Rv (aesVal st int bool) (φ ++ ψ) (.agg (unpackE (encryptE k s))) val' ∧ Rh (aesVal st int bool) (φ ++ ψ) (hp ++ []) w' ∧ Step hp.length hp φ w (hp ++ []) (φ ++ ψ) w' := by
  obtain ⟨cs, ex, rw, kb, hobj, hk, hc, rfl⟩ := cipherAt_ok hi
  obtain ⟨v2, r2, rfl, ⟨x2, ⟨b2, hb2, rfl⟩, rfl⟩, v1, r1, rfl, a1, e5⟩ := hvs
  have hb2 : φ[i]? = some b2 := hb2
  obtain rfl : r1 = [] := e5
  obtain ⟨fb, sb', eb⟩ := packB_ok (st := st) (int := int) (bool := bool) hb
  obtain ⟨fk, sk', ek⟩ := packB_ok (st := st) (int := int) (bool := bool) hc
  obtain rfl := (flat_rv fb).1 a1
  rw [eb]
  have ls := (isState_ok (st := st) (int := int) (bool := bool) sb').1
  have lk := (isState_ok (st := st) (int := int) (bool := bool) hk).1
  have lc := (isState_ok (st := st) (int := int) (bool := bool) sk').1
  obtain ⟨pre, vs, tl, el, fr, g1, g0, g2, g3, g4, g5⟩ := hR.obj i _ b2 hobj hb2
  have fkb : flats kb = true := fk
  have e4 := (flats_rv (flats_cipher k fkb)).1 g4
  have hden : denVs (val (threeSt (num (aesVal st int bool) s) (num (aesVal st int bool) k) (num (aesVal st int bool) c))) (cipherV k0 (unpackE k2)) = denVs (aesVal st int bool) (cipherV k kb) := by
    have c1 : denVs (val (threeSt (num (aesVal st int bool) s) (num (aesVal st int bool) k) (num (aesVal st int bool) c))) (cipherV k0 (unpackE k2)) = _ :=
      cipher_den (st := threeSt (num (aesVal st int bool) s) (num (aesVal st int bool) k) (num (aesVal st int bool) c)) (int := fun _ => 0) (bool := fun _ => false) (k := k0) rfl (unpackE k2)
    have c2 := cipher_den (st := st) (int := int) (bool := bool) hk kb
    have b1 : Value.agg ⟨denVs (val (threeSt (num (aesVal st int bool) s) (num (aesVal st int bool) k) (num (aesVal st int bool) c))) (unpackE k2)⟩ = blockV (num (aesVal st int bool) c) := block_den (three_c lc)
    have b3 : denVs (val (threeSt (num (aesVal st int bool) s) (num (aesVal st int bool) k) (num (aesVal st int bool) c))) (unpackE k2) = denVs (aesVal st int bool) kb := by
      have := b1.trans ek.symm
      simpa [denV] using this
    rw [c1, c2]
    show cipherN (num (val (threeSt (num (aesVal st int bool) s) (num (aesVal st int bool) k) (num (aesVal st int bool) c))) k0) (denVs (val (threeSt (num (aesVal st int bool) s) (num (aesVal st int bool) k) (num (aesVal st int bool) c))) (unpackE k2)) = _
    rw [b3, three_k lk]
  have hR0 : Rh (val (threeSt (num (aesVal st int bool) s) (num (aesVal st int bool) k) (num (aesVal st int bool) c))) [b2] hp0 w := by
    refine ⟨rfl, fun b hb => ?_, ?_, ?_⟩
    · rw [List.mem_singleton.1 hb]; exact hR.lt b2 (List.mem_of_getElem? hb2)
    · intro i j o o' b b' hi hj _ _ hb hb' _
      have h1 := (List.getElem?_eq_some_iff.1 hb).1
      have h2 := (List.getElem?_eq_some_iff.1 hb').1
      simp at h1 h2
      omega
    · intro i o b hi hb
      have h1 := (List.getElem?_eq_some_iff.1 hb).1
      simp at h1
      subst h1
      obtain rfl : b2 = b := by simpa using hb
      obtain rfl : SObj.cells (cipherV k0 (unpackE k2)) false false = o := by simpa [hp0] using hi
      exact ⟨pre, vs, tl, el, fr, g1, g0, (fun h => by cases h), (fun h => by cases h), (flats_rv (flats_cipher k0 (flat_block k2))).2 (by rw [e4]; exact hden.symm), g5⟩
  have h := enc49_eval
  cases hcall : callV enc49E (runV enc49E 300) 1 hp0 49 [.ptr (some (0, 0)), .agg (unpackE v0)] with
  | none => rw [hcall] at h; cases h
  | some r =>
    obtain ⟨u, hp', c'⟩ := r
    rw [hcall] at h
    obtain ⟨rfl, hf⟩ := SVal.same_eq h
    refine (calls_ok (envG_ok goods1 (facts := []) (heaps_ok _ _ _) (by simp) : EnvOk enc49E (val (threeSt (num (aesVal st int bool) s) (num (aesVal st int bool) k) (num (aesVal st int bool) c)))) 300 hcall (φ := [b2])
      (vs := [.pointer (some ⟨b2.1, b2.2.2 + 0, none⟩), blockV (num (aesVal st int bool) s)]) ?_ hR0).mono ?_
    · exact ⟨_, _, rfl, ⟨_, ⟨b2, rfl, rfl⟩, rfl⟩, _, _, rfl, (flat_rv (flat_block v0)).2 (block_den (three_v ls)).symm, rfl⟩
    · rintro e w' ⟨val', φ', rfl, h1, _, h3, _⟩
      have hbel : Below w.heap.size w w' := h3.below (by
        intro i o ho
        have h1 := (List.getElem?_eq_some_iff.1 ho).1
        simp [hp0] at h1
        subst h1
        obtain rfl : SObj.cells (cipherV k0 (unpackE k2)) false false = o := by simpa [hp0] using ho
        rfl)
      refine ⟨_, [], rfl, ?_, ?_, ?_⟩
      · refine (flat_rv (flat_block _)).2 (((flat_rv hf).1 h1).trans ((block_den ((encrypt_num rfl).trans (?_ : _ = encF (num (aesVal st int bool) k) (num (aesVal st int bool) s)))).trans (block_den (encrypt_num hk)).symm))
        rw [show num (aesVal (threeSt (num (aesVal st int bool) s) (num (aesVal st int bool) k) (num (aesVal st int bool) c)) (fun _ => 0) (fun _ => false)) k0 = _ from three_k lk,
          show num (aesVal (threeSt (num (aesVal st int bool) s) (num (aesVal st int bool) k) (num (aesVal st int bool) c)) (fun _ => 0) (fun _ => false)) v0 = _ from three_v ls]
      · simpa using hR.keep (Step.of_below hbel)
      · simpa using Step.of_below hbel


def encSumL (hp : Hp) (args : List SVal) : Option (SVal × List SObj) :=
  match args with
  | [.ptr (some (i, o)), b] =>
    match cipherAt hp i, packV id b with
    | some (k, _), some s =>
      if o = 0 then
        match atomOf k s with
        | some e => some (.agg (unpackE e), [])
        | none => none
      else none
    | _, _ => none
  | _ => none
theorem encL_ok {k o : Nat} {B : Nat → Nat} {n : Int} (hk : k < big) (ho : o < big) (hB : ∀ j, B j < big) : HOk (listVal k o B n) 49 encSumL := by
  intro hp args v os hs φ vs w hvs hR
  unfold encSumL at hs
  split at hs
  case h_2 => cases hs
  rename_i i o' b
  split at hs
  case h_2 => cases hs
  rename_i x c s hi hb
  split at hs
  case isFalse => cases hs
  rename_i hc
  split at hs
  case h_2 => cases hs
  rename_i e he
  cases hs
  subst hc
  have := enc49_of (st := listSt k o B) (int := fun _ => n) (bool := fun _ => false) hi hb hvs hR
  refine this.mono ?_
  rintro e' w' ⟨val, ψ, rfl, h1, h2, h3⟩
  refine ⟨val, ψ, rfl, ?_, h2, h3⟩
  refine (flat_rv (flat_block _)).2 (((flat_rv (flat_block _)).1 h1).trans ?_)
  exact (block_same hk ho hB he).symm

def refEncSumL : List SVal → Option SVal
  | [.agg cs, b] => match packV id (.agg (cs.take 16)), packV id b with
    | some k, some s => if isState k = true ∧ SVal.sames cs (refKeyV k) = true then (atomOf k s).map fun e => .agg (unpackE e) else none
    | _, _ => none
  | _ => none
theorem refEncL_ok {k o : Nat} {B : Nat → Nat} {n : Int} (hk : k < big) (ho : o < big) (hB : ∀ j, B j < big) : PureSum Try.prog (listVal k o B n) 30 refEncSumL := by
  have key : ∀ {args v}, refEncSumL args = some v → ∃ x s e, refEncSum args = some (.agg (unpackE (encryptE x s))) ∧ atomOf x s = some e ∧ v = .agg (unpackE e) := by
    intro args v h
    unfold refEncSumL at h
    split at h
    · rename_i cs b
      split at h
      · rename_i x s hx hs
        split at h
        · rename_i hc
          cases ha : atomOf x s with
          | none => rw [ha] at h; cases h
          | some e =>
            rw [ha] at h
            cases h
            refine ⟨x, s, e, ?_, ha, rfl⟩
            unfold refEncSum
            simp only [hx, hs]
            rw [if_pos hc]
        · cases h
      · cases h
    · cases h
  refine ⟨?_, ?_⟩
  · intro args v h
    obtain ⟨x, s, e, h1, _, rfl⟩ := key h
    exact ⟨((RefEnc_good (listSt k o B) (fun _ => n) (fun _ => false)).flat args _ h1).1, flat_block _⟩
  · intro args v h w
    obtain ⟨x, s, e, h1, h2, rfl⟩ := key h
    have := (RefEnc_good (listSt k o B) (fun _ => n) (fun _ => false)).calls args _ h1 w
    rw [block_same hk ho hB h2]
    exact this

def blocksV (n : Nat) : List SVal := (List.range (n * 16)).map fun p => u8 (byteE (p % 16) (blk (p / 16)))
def atomsV (base n : Nat) : List SVal := (List.range (n * 16)).map fun p => u8 (byteE (p % 16) (.app (base + p / 16) []))
def heapsL : List (Nat × HSum) := [(49, encSumL), (30, pureSum refEncSumL), (48, newSum)]
noncomputable def listE : Env := envG heapsL sums7 []
theorem listE_ok {k o : Nat} {B : Nat → Nat} {n : Int} (hk : k < big) (ho : o < big) (hB : ∀ j, B j < big) : EnvOk listE (listVal k o B n) := by
  refine envG_ok goods7 ?_ (by simp)
  intro p hp
  simp only [heapsL, List.mem_cons, List.mem_nil_iff, or_false] at hp
  rcases hp with rfl | rfl | rfl
  · exact encL_ok hk ho hB
  · exact (refEncL_ok hk ho hB).ok
  · exact New_good _ _ _

/-- a row of one's own behind what was there -/
theorem append_obj {ρ : Val} {φ : Phi} {hp : Hp} {w w' : World} {obj : SObj} {bb : Nat × Nat × Nat} (hR : Rh ρ φ hp w) (hbel : Below w.heap.size w w') (hge : w.heap.size ≤ bb.1) (hblt : bb.1 < w'.heap.size)
    (hobj : Robj ρ (φ ++ [bb]) obj bb w') : Rh ρ (φ ++ [bb]) (hp ++ [obj]) w' ∧ Step hp.length hp φ w (hp ++ [obj]) (φ ++ [bb]) w' := by
  refine ⟨⟨by simp [hR.len], ?_, ?_, ?_⟩, ?_⟩
  · intro b' hb'
    rcases List.mem_append.1 hb' with hb' | hb'
    · exact Nat.lt_of_lt_of_le (hR.lt b' hb') hbel.size
    · rw [List.mem_singleton.1 hb']; exact hblt
  · intro i j o o' b1 b2 hi hj hl hl' hb1 hb2 he
    have li : i < hp.length + 1 := by have := (List.getElem?_eq_some_iff.1 hi).1; simpa using this
    have lj : j < hp.length + 1 := by have := (List.getElem?_eq_some_iff.1 hj).1; simpa using this
    have hlen := hR.len
    by_cases ci : i < hp.length
    · rw [List.getElem?_append_left (by omega)] at hi hb1
      by_cases cj : j < hp.length
      · rw [List.getElem?_append_left (by omega)] at hj hb2
        exact hR.uniq i j o o' b1 b2 hi hj hl hl' hb1 hb2 he
      · have : j = φ.length := by omega
        subst this
        rw [List.getElem?_append_right (Nat.le_refl _)] at hb2
        simp at hb2
        subst hb2
        have := hR.lt b1 (List.mem_of_getElem? hb1)
        omega
    · have : i = φ.length := by omega
      subst this
      rw [List.getElem?_append_right (Nat.le_refl _)] at hb1
      simp at hb1
      subst hb1
      by_cases cj : j < hp.length
      · rw [List.getElem?_append_left (by omega)] at hj hb2
        have := hR.lt b2 (List.mem_of_getElem? hb2)
        omega
      · omega
  · intro i o b1 hi hb1
    have hlen := hR.len
    by_cases ci : i < hp.length
    · rw [List.getElem?_append_left (by omega)] at hi hb1
      exact ((hR.obj i o b1 hi hb1).same (hbel.block b1.1 (hR.lt b1 (List.mem_of_getElem? hb1)))).mono _
    · have li : i < hp.length + 1 := by have := (List.getElem?_eq_some_iff.1 hi).1; simpa using this
      have : i = φ.length := by omega
      subst this
      rw [List.getElem?_append_right (Nat.le_refl _)] at hb1
      rw [List.getElem?_append_right (by omega), hlen] at hi
      simp at hi hb1
      subst hi; subst hb1
      exact hobj
  · refine ⟨hbel.os, hbel.tape, hbel.output, hbel.size, ⟨[bb], rfl, fun b hb => ?_⟩, fun i o ho => ⟨o, ?_, rfl⟩, fun i _ hlt => ?_, fun b hb _ => hbel.block b hb⟩
    · rw [List.mem_singleton.1 hb]; exact .inl hge
    · rw [List.getElem?_append_left (List.getElem?_eq_some_iff.1 ho).1]; exact ho
    · rw [List.getElem?_append_left hlt]

/-- the call makes a row of n blocks with these cells -/
def sliceGives (r : Option (SVal × Hp × Cls)) (lo n : Nat) (outs : List SVal) : Bool :=
  match r with
  | some (.slice (some (l, 0)) (.lit m) (.rest 16), hp, _) => Nat.ble lo l && decide (m = (n : Int)) &&
    match nth hp l with
    | some (.cells cs false true) => SVal.sames cs outs
    | _ => false
  | _ => false

theorem slice_calls {Γ : Env} {ρ' ρ : Val} (hΓ : EnvOk Γ ρ') {N f n : Nat} {hpI : Hp} {argsI outs outs' : List SVal} (h : sliceGives (callV Γ (runV Γ N) hpI.length hpI f argsI) hpI.length n outs = true) (hP : Γ.P = Try.prog)
    {φI φ : Phi} {hp : Hp} {vs : List Value} {w : World} (hargs : RvL ρ' φI argsI vs) (hRI : Rh ρ' φI hpI w) (hrw : ∀ (i : Nat) o, hpI[i]? = some o → o.rw = false) (hR : Rh ρ φ hp w)
    (ho : flats outs' = true) (hden : denVs ρ' outs = denVs ρ outs') :
    Calls Try.prog f ⟨vs⟩ w fun e w' => ∃ val ψ, e = .returned val ∧ Rv ρ (φ ++ ψ) (.slice (some (hp.length, 0)) (.lit (n : Int)) (.rest 16)) val ∧
      Rh ρ (φ ++ ψ) (hp ++ [.cells outs' false true]) w' ∧ Step hp.length hp φ w (hp ++ [.cells outs' false true]) (φ ++ ψ) w' := by
  cases hc : callV Γ (runV Γ N) hpI.length hpI f argsI with
  | none => rw [hc] at h; cases h
  | some r =>
    obtain ⟨u, hp1, c⟩ := r
    rw [hc] at h
    unfold sliceGives at h
    split at h
    case h_2 => cases h
    rename_i l m hp2 c2 e2
    cases e2
    simp only [Bool.and_eq_true, decide_eq_true_eq] at h
    obtain ⟨⟨hl, rfl⟩, h⟩ := h
    have hl : hpI.length ≤ l := Nat.le_of_ble_eq_true hl
    split at h
    case h_2 => cases h
    rename_i cs hcs
    obtain ⟨rfl, hfo⟩ := SVal.sames_eq h
    have hcs : hp1[l]? = some (.cells cs false true) := by rw [← nth_eq]; exact hcs
    have hcall := calls_ok hΓ N hc hargs hRI
    rw [hP] at hcall
    refine hcall.mono ?_
    rintro e w' ⟨val, φ', rfl, ⟨q, n', c', hq, rfl, hn', hnc, hcap⟩, h2, h3, _⟩
    have hq : φ'[l]? = some q := hq
    have hbel : Below w.heap.size w w' := h3.below hrw
    have hge : w.heap.size ≤ q.1 := by
      obtain ⟨ψ, e, hψ⟩ := h3.pre
      rw [e, List.getElem?_append_right (by rw [← hRI.len]; exact hl)] at hq
      rcases hψ q (List.mem_of_getElem? hq) with h | ⟨i, o, c, _, _, _, h, hw⟩
      · exact h
      · rw [hrw i o h] at hw; cases hw
    have hblt : q.1 < w'.heap.size := h2.lt q (List.mem_of_getElem? hq)
    obtain ⟨pre, us, tl, el, fr, g1, g0, g2, g3, g4, g5⟩ := h2.obj l _ q hcs hq
    have hobj : Robj ρ (φ ++ [q]) (.cells outs' false true) q w' :=
      ⟨pre, us, tl, el, fr, g1, g0, g2, g3, (flats_rv ho).2 (by rw [(flats_rv hfo).1 g4, hden]), g5⟩
    obtain ⟨k1, k2⟩ := append_obj hR hbel hge hblt hobj
    exact ⟨_, [q], rfl, ⟨q, n', c', by show (φ ++ [q])[hp.length]? = _; rw [hR.len, List.getElem?_append_right (Nat.le_refl _)]; simp, rfl, hn', hnc, hcap⟩, k1, k2⟩

/-! What is evaluated for each length -/
def cipherHp (n : Nat) : Hp := [.cells (cipherV k0 (unpackE k2)) false false, .cells (blocksV n) false false]
noncomputable def allB (n : Nat) : Bool := sliceGives (callV listE (runV listE 1000) 2 (cipherHp n) 52 [.ptr (some (0, 0)), .slice (some (1, 0)) (.lit (n : Int)) .any]) 2 n (atomsV 160 n)
noncomputable def refB (n : Nat) : Bool := sliceGives (callV listE (runV listE 1000) 1 [.cells (blocksV n) false false] 54 [.agg (unpackE k0), .slice (some (0, 0)) (.lit (n : Int)) .any]) 1 n (atomsV 160 n)

def encBase (k : E) : Option Nat :=
  match k with
  | .app f [] => if f = 251 then some 160 else if f = 252 then some 120 else none
  | _ => none
def rowOf (hp : Hp) (j n : Nat) (k : E) : Option (SVal × List SObj) :=
  match nth hp j, encBase k with
  | some (.cells cs _ _), some base =>
    if 1 ≤ n ∧ n ≤ 40 ∧ SVal.sames cs (blocksV n) = true then some (.slice (some (hp.length, 0)) (.lit (n : Int)) (.rest 16), [.cells (atomsV base n) false true]) else none
  | _, _ => none
def allSum (hp : Hp) (args : List SVal) : Option (SVal × List SObj) :=
  match args with
  | [.ptr (some (i, o)), .slice (some (j, p)) (.lit n) _] => if o = 0 ∧ p = 0 ∧ 0 ≤ n then (cipherAt hp i).bind fun kc => rowOf hp j n.toNat kc.1 else none
  | _ => none
def refSum (hp : Hp) (args : List SVal) : Option (SVal × List SObj) :=
  match args with
  | [b, .slice (some (j, p)) (.lit n) _] => if p = 0 ∧ 0 ≤ n then (packV id b).bind fun k => rowOf hp j n.toNat k else none
  | _ => none
def heapsS : List (Nat × HSum) := [(52, allSum), (54, refSum), (48, newSum)]
noncomputable def lawE : Env := envG heapsS sums7 []
def listArgs (n : Nat) : List SVal := [.agg (unpackE k0), .agg (unpackE k2), .slice (some (0, 0)) (.lit (n : Int)) .any]
def listHp (n : Nat) : Hp := [.cells (blocksV n) false false]
noncomputable def listB (n : Nat) : Bool := isTrue (callV lawE (runV lawE 1000) 0 (listHp n) 14 (listArgs n))
end
end Go.Proofs.Ytaeklgfdknbncaa
