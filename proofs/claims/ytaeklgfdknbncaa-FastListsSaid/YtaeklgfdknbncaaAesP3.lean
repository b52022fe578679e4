/-
  The steps on blocks: substitution and shifting. Conditions: none beside the hypotheses of each theorem.
-/
import Derived.Test.YtaeklgfdknbncaaAesP2
namespace Go.Proofs.Ytaeklgfdknbncaa
noncomputable section
open Go.ChangeShapes Go.WideShapes Go.ChangeAt Go.RowKit Go.Sx Go.Aes

/-! ### Blocks as values -/
def blockV (n : Nat) : Value := .agg ⟨(List.range 16).map fun i => .int .u8 (byte i n : Nat)⟩
def gridV (n : Nat) : Value := .agg ⟨(List.range 16).map fun p => .int .u8 (byte (tr p) n : Nat)⟩

theorem tr_lt (p : Nat) (h : p < 16) : tr p < 16 := by unfold tr; omega
theorem tr_tr (p : Nat) (h : p < 16) : tr (tr p) = p := by unfold tr; omega

theorem denVs_map {v : Val} (f : Nat → SVal) : ∀ (l : List Nat), denVs v (l.map f) = l.map fun i => denV v (f i)
  | [] => rfl
  | a :: l => by simp only [List.map, denVs, denVs_map f l]

theorem flats_map (f : Nat → SVal) (h : ∀ i, flat (f i) = true) : ∀ (l : List Nat), flats (l.map f) = true
  | [] => rfl
  | a :: l => by simp only [List.map, flats, h, flats_map f h l, Bool.and_self]

section
variable {st : Nat → Nat} {int : Nat → Int} {bool : Nat → Bool}

theorem block_den {e : E} {n : Nat} (h : num (aesVal st int bool) e = n) : denV (aesVal st int bool) (.agg (unpackE e)) = blockV n := by
  unfold unpackE blockV
  simp only [denV]
  rw [denVs_map]
  congr 2
  apply List.map_congr_left
  intro i hi
  simp only [u8, denV]
  rw [byteE_den i (List.mem_range.1 hi), h]

theorem grid_den {e : E} {n : Nat} (h : num (aesVal st int bool) e = n) : denV (aesVal st int bool) (.agg (gridE e)) = gridV n := by
  unfold gridE gridV
  simp only [denV]
  rw [denVs_map]
  congr 2
  apply List.map_congr_left
  intro i hi
  simp only [u8, denV]
  rw [byteE_den _ (tr_lt i (List.mem_range.1 hi)), h]

theorem bytesOf_ok : ∀ {cs : List SVal} {es : List E}, bytesOf cs = some es → cs = es.map u8
  | [], es, h => by cases h; rfl
  | .int .u8 e :: l, es, h => by
    simp only [bytesOf] at h
    cases hl : bytesOf l with
    | none => rw [hl] at h; cases h
    | some fs => rw [hl] at h; cases h; rw [bytesOf_ok hl]; rfl

theorem flats_u8 : ∀ (es : List E), flats (es.map u8) = true
  | [] => rfl
  | e :: l => by simp only [List.map, flats, flats_u8 l]; rfl

theorem denVs_u8 (v : Val) : ∀ (es : List E), denVs v (es.map u8) = es.map fun e => Value.int .u8 (e.den v)
  | [] => rfl
  | e :: l => by simp only [List.map, denVs, denVs_u8 v l]; rfl

/-- sixteen bytes that are found to be a state -/
theorem packE_ok {at' : Nat → Nat} (hlt : ∀ i, i < 16 → at' i < 16) (hinv : ∀ i, i < 16 → at' (at' i) = i) {es : List E} {s : E} (h : packE at' es = some s) :
    isState s = true ∧ es.map (fun e => Value.int .u8 (e.den (aesVal st int bool))) = (List.range 16).map fun i => Value.int .u8 (byte (at' i) (num (aesVal st int bool) s) : Nat) := by
  unfold packE at h
  split at h
  · cases h
  · rename_i e l
    split at h
    · rename_i f s'
      split at h
      · rename_i hc
        cases h
        refine ⟨hc.1, ?_⟩
        rw [E.sames_eq hc.2, List.map_map]
        apply List.map_congr_left
        intro i hi
        simp only [Function.comp_apply]
        rw [byteE_den _ (hlt i (List.mem_range.1 hi))]
      · cases h
    · split at h
      · rename_i hc
        cases h
        obtain ⟨hl, ha⟩ := hc
        have hb : ∀ i, i < 16 → ∃ n : Int, (e :: l).getD i (.lit 0) = .lit n ∧ 0 ≤ n ∧ n ≤ 255 := by
          intro i hi
          have hi' : i < (e :: l).length := by omega
          rw [List.getD_eq_getElem?_getD, List.getElem?_eq_getElem hi', Option.getD_some]
          have := List.all_eq_true.1 ha _ (List.getElem_mem hi')
          revert this
          cases (e :: l)[i] with
          | lit n =>
            intro this
            simp only [litByte, Bool.and_eq_true, decide_eq_true_eq] at this
            exact ⟨n, rfl, this⟩
          | _ => intro this; cases this
        refine ⟨?_, ?_⟩
        · simp only [isState, Bool.and_eq_true, decide_eq_true_eq]
          exact ⟨Int.natCast_nonneg _, Int.ofNat_lt.2 (mk_lt _)⟩
        · apply List.ext_getElem?
          intro i
          by_cases hi : i < 16
          · have hi' : i < (e :: l).length := by omega
            rw [List.getElem?_map, List.getElem?_map, List.getElem?_eq_getElem hi', List.getElem?_range hi]
            simp only [Option.map_some]
            congr 2
            obtain ⟨n, hn, h0, h1⟩ := hb i hi
            rw [List.getD_eq_getElem?_getD, List.getElem?_eq_getElem hi', Option.getD_some] at hn
            rw [hn]
            unfold num
            simp only [E.den, Int.toNat_natCast]
            rw [byte_mk (hlt i hi), hinv i hi, List.getD_eq_getElem?_getD, List.getElem?_eq_getElem hi', Option.getD_some, hn]
            simp only [E.den]
            omega
          · rw [List.getElem?_eq_none (by simp only [List.length_map]; omega), List.getElem?_eq_none (by simp only [List.length_map, List.length_range]; omega)]
      · cases h

theorem packV_ok {at' : Nat → Nat} (hlt : ∀ i, i < 16 → at' i < 16) (hinv : ∀ i, i < 16 → at' (at' i) = i) {b : SVal} {s : E} (h : packV at' b = some s) :
    flat b = true ∧ isState s = true ∧ denV (aesVal st int bool) b = .agg ⟨(List.range 16).map fun i => Value.int .u8 (byte (at' i) (num (aesVal st int bool) s) : Nat)⟩ := by
  unfold packV at h
  split at h
  · rename_i cs
    cases hb : bytesOf cs with
    | none => rw [hb] at h; cases h
    | some es =>
      rw [hb] at h
      obtain ⟨h1, h2⟩ := packE_ok (st := st) (int := int) (bool := bool) hlt hinv (show packE at' es = some s from h)
      rw [bytesOf_ok hb]
      refine ⟨flats_u8 es, h1, ?_⟩
      simp only [denV]
      rw [denVs_u8, h2]
  · cases h

theorem packB_ok {b : SVal} {s : E} (h : packV id b = some s) : flat b = true ∧ isState s = true ∧ denV (aesVal st int bool) b = blockV (num (aesVal st int bool) s) :=
  packV_ok (fun _ h => h) (fun _ _ => rfl) h
theorem packG_ok {b : SVal} {s : E} (h : packV tr b = some s) : flat b = true ∧ isState s = true ∧ denV (aesVal st int bool) b = gridV (num (aesVal st int bool) s) :=
  packV_ok tr_lt tr_tr h
end

theorem flat_block (s : E) : flat (.agg (unpackE s)) = true := flats_map _ (fun _ => rfl) _
theorem flat_grid (s : E) : flat (.agg (gridE s)) = true := flats_map _ (fun _ => rfl) _

/-! ### The steps' summaries -/
abbrev IsStep (F : E → E) (G : Nat → Nat) : Prop := ∀ {st : Nat → Nat} {int : Nat → Int} {bool : Nat → Bool} (s : E), (F s).den (aesVal st int bool) = (G (num (aesVal st int bool) s) : Nat)

theorem state_good {f : Nat} {F : E → E} {G : Nat → Nat} (hF : IsStep F G) (hc : ∀ n, n < big → Ret f [blockV n] (blockV (G n))) : Good f (stateSum F) := by
  intro st int bool
  have key : ∀ {args v}, stateSum F args = some v → ∃ b s, args = [b] ∧ packV id b = some s ∧ v = .agg (unpackE (F s)) := by
    intro args v h
    unfold stateSum at h
    split at h
    · rename_i b
      cases hb : packV id b with
      | none => rw [hb] at h; cases h
      | some s => rw [hb] at h; cases h; exact ⟨b, s, rfl, hb, rfl⟩
    · cases h
  refine ⟨?_, ?_⟩
  · intro args v h
    obtain ⟨b, s, rfl, hb, rfl⟩ := key h
    exact ⟨by simp only [flats, (packB_ok (st := st) (int := int) (bool := bool) hb).1, Bool.and_self], flat_block _⟩
  · intro args v h w
    obtain ⟨b, s, rfl, hb, rfl⟩ := key h
    obtain ⟨_, h1, h2⟩ := packB_ok (st := st) (int := int) (bool := bool) hb
    simp only [denVs]
    rw [h2, block_den (num_of (hF s))]
    exact hc _ (isState_ok h1).1 w

theorem grid_good {f : Nat} {F : E → E} {G : Nat → Nat} (hF : IsStep F G) (hc : ∀ n, n < big → Ret f [gridV n] (gridV (G n))) : Good f (gridSum F) := by
  intro st int bool
  have key : ∀ {args v}, gridSum F args = some v → ∃ b s, args = [b] ∧ packV tr b = some s ∧ v = .agg (gridE (F s)) := by
    intro args v h
    unfold gridSum at h
    split at h
    · rename_i b
      cases hb : packV tr b with
      | none => rw [hb] at h; cases h
      | some s => rw [hb] at h; cases h; exact ⟨b, s, rfl, hb, rfl⟩
    · cases h
  refine ⟨?_, ?_⟩
  · intro args v h
    obtain ⟨b, s, rfl, hb, rfl⟩ := key h
    exact ⟨by simp only [flats, (packG_ok (st := st) (int := int) (bool := bool) hb).1, Bool.and_self], flat_grid _⟩
  · intro args v h w
    obtain ⟨b, s, rfl, hb, rfl⟩ := key h
    obtain ⟨_, h1, h2⟩ := packG_ok (st := st) (int := int) (bool := bool) hb
    simp only [denVs]
    rw [h2, grid_den (num_of (hF s))]
    exact hc _ (isState_ok h1).1 w

theorem add_good {f : Nat} (hc : ∀ n k, n < big → k < big → Ret f [blockV n, blockV k] (blockV (addS n k))) : Good f addSum := by
  intro st int bool
  have key : ∀ {args v}, addSum args = some v → ∃ b c s k, args = [b, c] ∧ packV id b = some s ∧ packV id c = some k ∧ v = .agg (unpackE (addE s k)) := by
    intro args v h
    unfold addSum at h
    split at h
    · rename_i b c
      split at h
      · rename_i s k hs hk; cases h; exact ⟨b, c, s, k, rfl, hs, hk, rfl⟩
      · cases h
    · cases h
  refine ⟨?_, ?_⟩
  · intro args v h
    obtain ⟨b, c, s, k, rfl, hb, hk, rfl⟩ := key h
    exact ⟨by simp only [flats, (packB_ok (st := st) (int := int) (bool := bool) hb).1, (packB_ok (st := st) (int := int) (bool := bool) hk).1, Bool.and_self], flat_block _⟩
  · intro args v h w
    obtain ⟨b, c, s, k, rfl, hb, hk, rfl⟩ := key h
    obtain ⟨_, h1, h2⟩ := packB_ok (st := st) (int := int) (bool := bool) hb
    obtain ⟨_, k1, k2⟩ := packB_ok (st := st) (int := int) (bool := bool) hk
    simp only [denVs]
    rw [h2, k2, block_den (num_of (addE_den s k))]
    exact hc _ _ (isState_ok h1).1 (isState_ok k1).1 w

theorem gridAdd_good {f : Nat} (hc : ∀ n k, n < big → k < big → Ret f [gridV n, blockV k] (gridV (addS n k))) : Good f gridAddSum := by
  intro st int bool
  have key : ∀ {args v}, gridAddSum args = some v → ∃ b c s k, args = [b, c] ∧ packV tr b = some s ∧ packV id c = some k ∧ v = .agg (gridE (addE s k)) := by
    intro args v h
    unfold gridAddSum at h
    split at h
    · rename_i b c
      split at h
      · rename_i s k hs hk; cases h; exact ⟨b, c, s, k, rfl, hs, hk, rfl⟩
      · cases h
    · cases h
  refine ⟨?_, ?_⟩
  · intro args v h
    obtain ⟨b, c, s, k, rfl, hb, hk, rfl⟩ := key h
    exact ⟨by simp only [flats, (packG_ok (st := st) (int := int) (bool := bool) hb).1, (packB_ok (st := st) (int := int) (bool := bool) hk).1, Bool.and_self], flat_grid _⟩
  · intro args v h w
    obtain ⟨b, c, s, k, rfl, hb, hk, rfl⟩ := key h
    obtain ⟨_, h1, h2⟩ := packG_ok (st := st) (int := int) (bool := bool) hb
    obtain ⟨_, k1, k2⟩ := packB_ok (st := st) (int := int) (bool := bool) hk
    simp only [denVs]
    rw [h2, k2, grid_den (num_of (addE_den s k))]
    exact hc _ _ (isState_ok h1).1 (isState_ok k1).1 w

theorem tableV_den (v : Val) (l : List Nat) : denV v (tableV l) = .agg ⟨l.map fun n : Nat => Value.int .u8 (n : Int)⟩ := by
  unfold tableV
  simp only [denV]
  congr 2
  induction l with
  | nil => rfl
  | cons a l ih => simp only [List.map, denVs, ih]; rfl

def tabV : Value := .agg ⟨sboxL.map fun n : Nat => Value.int .u8 (n : Int)⟩

theorem gridSub_good {f : Nat} (hc : ∀ n, n < big → Ret f [gridV n, tabV] (gridV (subS n))) : Good f gridSubSum := by
  intro st int bool
  have key : ∀ {args v}, gridSubSum args = some v → ∃ b t s, args = [b, t] ∧ packV tr b = some s ∧ t = tableV sboxL ∧ flat t = true ∧ v = .agg (gridE (subE s)) := by
    intro args v h
    unfold gridSubSum at h
    split at h
    · rename_i b t
      split at h
      · rename_i ht
        obtain ⟨e1, e2⟩ := SVal.same_eq ht
        cases hb : packV tr b with
        | none => rw [hb] at h; cases h
        | some s => rw [hb] at h; cases h; exact ⟨b, t, s, rfl, hb, e1, e2, rfl⟩
      · cases h
    · cases h
  refine ⟨?_, ?_⟩
  · intro args v h
    obtain ⟨b, t, s, rfl, hb, _, ht, rfl⟩ := key h
    exact ⟨by simp only [flats, (packG_ok (st := st) (int := int) (bool := bool) hb).1, ht, Bool.and_self], flat_grid _⟩
  · intro args v h w
    obtain ⟨b, t, s, rfl, hb, rfl, _, rfl⟩ := key h
    obtain ⟨_, h1, h2⟩ := packG_ok (st := st) (int := int) (bool := bool) hb
    simp only [denVs]
    rw [h2, tableV_den, grid_den (num_of (subE_den s))]
    exact hc _ (isState_ok h1).1 w

theorem refBack_good {f : Nat} (hc : ∀ n : Nat, n < 256 → Ret f [tabV, .int .u8 n] (.int .u8 (bk n : Nat))) : Good f refBackSum := by
  intro st int bool
  have key : ∀ {args v}, refBackSum args = some v → ∃ t e, args = [t, .int .u8 e] ∧ t = tableV sboxL ∧ flat t = true ∧ isByte e = true ∧ v = u8 (bkE e) := by
    intro args v h
    unfold refBackSum at h
    split at h
    · rename_i t e
      split at h
      · rename_i ht
        obtain ⟨e1, e2⟩ := SVal.same_eq ht.1
        cases h; exact ⟨t, e, rfl, e1, e2, ht.2, rfl⟩
      · cases h
    · cases h
  refine ⟨?_, ?_⟩
  · intro args v h
    obtain ⟨t, e, rfl, _, ht, _, rfl⟩ := key h
    exact ⟨by simp only [flats, flat, ht, Bool.and_self], rfl⟩
  · intro args v h w
    obtain ⟨t, e, rfl, rfl, _, hb, rfl⟩ := key h
    obtain ⟨n, hn, he⟩ := isByte_ok (st := st) (int := int) (bool := bool) hb
    simp only [denVs, denV, u8]
    rw [show denV (aesVal st int bool) (tableV sboxL) = tabV from tableV_den _ _, he, bkE_den hn he]
    exact hc n hn w

theorem RefBack_good : Good 20 refBackSum := refBack_good
  (by_tree (pre := [tableV sboxL]) (post := []) (pv := [tabV]) (qv := []) Goods.nil 100 2000 (comb sboxL 0) (by kernel_rfl) (fun st => by
    show denV _ (tableV sboxL) :: _ = _
    rw [tableV_den]; rfl) (by decide +kernel) (by decide +kernel))

/-! ### Evaluations of the steps -/
def v0 : E := .app 250 []
def k0 : E := .app 251 []
def twoSt (n k : Nat) (f : Nat) : Nat := if f = 250 then n else k

theorem v0_num {n k : Nat} (h : n < big) : num (val (twoSt n k)) v0 = n := by
  have e : v0.den (val (twoSt n k)) = (n % big : Nat) := rfl
  rw [show num (val (twoSt n k)) v0 = n % big from num_of e, Nat.mod_eq_of_lt h]
theorem k0_num {n k : Nat} (h : k < big) : num (val (twoSt n k)) k0 = k := by
  have e : k0.den (val (twoSt n k)) = (k % big : Nat) := rfl
  rw [show num (val (twoSt n k)) k0 = k % big from num_of e, Nat.mod_eq_of_lt h]

def cells (g : Nat → E) : SVal := .agg ((List.range 16).map fun i => u8 (g i))

theorem flat_cells (g : Nat → E) : flat (cells g) = true := flats_map _ (fun _ => rfl) _

theorem cells_den {v : Val} {g : Nat → E} {h : Nat → Nat} (hg : ∀ i, i < 16 → (g i).den v = (h i : Nat)) : denV v (cells g) = .agg ⟨(List.range 16).map fun i => Value.int .u8 (h i : Nat)⟩ := by
  unfold cells
  simp only [denV]
  rw [denVs_map]
  congr 2
  apply List.map_congr_left
  intro i hi
  simp only [u8, denV]
  rw [hg i (List.mem_range.1 hi)]

theorem state_ret {l : List (Nat × Sum)} (hl : Goods l) {f : Nat} {G : Nat → Nat} (g : Nat → E) (m : Nat) (h : gives (callV (env l []) (runV (env l []) m) 0 [] f [.agg (unpackE v0)]) (cells g) = true)
    (hg : ∀ n, n < big → ∀ i, i < 16 → (g i).den (val (twoSt n 0)) = (byte i (G n) : Nat)) : ∀ n, n < big → Ret f [blockV n] (blockV (G n)) := by
  intro n hn w
  have := eval_calls hl (twoSt n 0) m (f := f) (args := [.agg (unpackE v0)]) (by simp only [flats, flat_block, Bool.and_self]) h w
  rw [cells_den (hg n hn)] at this
  simp only [denVs] at this
  rw [show denV (val (twoSt n 0)) (.agg (unpackE v0)) = blockV n from block_den (v0_num hn)] at this
  exact this

theorem grid_ret {l : List (Nat × Sum)} (hl : Goods l) {f : Nat} {G : Nat → Nat} (g : Nat → E) (m : Nat) (h : gives (callV (env l []) (runV (env l []) m) 0 [] f [.agg (gridE v0)]) (cells g) = true)
    (hg : ∀ n, n < big → ∀ i, i < 16 → (g i).den (val (twoSt n 0)) = (byte (tr i) (G n) : Nat)) : ∀ n, n < big → Ret f [gridV n] (gridV (G n)) := by
  intro n hn w
  have := eval_calls hl (twoSt n 0) m (f := f) (args := [.agg (gridE v0)]) (by simp only [flats, flat_grid, Bool.and_self]) h w
  rw [cells_den (hg n hn)] at this
  simp only [denVs] at this
  rw [show denV (val (twoSt n 0)) (.agg (gridE v0)) = gridV n from grid_den (v0_num hn)] at this
  exact this

theorem vb {n : Nat} (hn : n < big) {i : Nat} (hi : i < 16) : (byteE i v0).den (val (twoSt n 0)) = (byte i n : Nat) := by
  have := byteE_den (st := twoSt n 0) (int := fun _ => 0) (bool := fun _ => false) i hi v0
  rw [show num (aesVal (twoSt n 0) (fun _ => 0) (fun _ => false)) v0 = n from v0_num hn] at this
  exact this

theorem Sub_good : Good 34 (stateSum subE) := state_good (G := subS) (fun s => subE_den s)
  (state_ret goods1 (fun i => sE (byteE i v0)) 400 (by kernel_rfl) fun n hn i hi => by rw [byte_sub _ hi]; exact sE_den (byte_lt _ _) (vb hn hi))
theorem Unsub_good : Good 43 (stateSum unsubE) := state_good (G := unsubS) (fun s => unsubE_den s)
  (state_ret goods1 (fun i => bkE (byteE i v0)) 400 (by kernel_rfl) fun n hn i hi => by rw [byte_unsub _ hi]; exact bkE_den (byte_lt _ _) (vb hn hi))
theorem Shift_good : Good 35 (stateSum shiftE) := state_good (G := shiftS) (fun s => shiftE_den s)
  (state_ret goods1 (fun i => byteE (shI i) v0) 400 (by kernel_rfl) fun n hn i hi => by rw [byte_shift _ hi]; exact vb hn (shI_lt _))
theorem Unshift_good : Good 44 (stateSum unshiftE) := state_good (G := unshiftS) (fun s => unshiftE_den s)
  (state_ret goods1 (fun i => byteE (unI i) v0) 400 (by kernel_rfl) fun n hn i hi => by rw [byte_unshift _ hi]; exact vb hn (unI_lt _))
end
end Go.Proofs.Ytaeklgfdknbncaa
