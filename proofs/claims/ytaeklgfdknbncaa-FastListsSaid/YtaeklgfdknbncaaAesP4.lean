/-
  Mixing, adding, the reference's grids and the round keys. Conditions: none beside the hypotheses of each theorem.
-/
import Derived.Test.YtaeklgfdknbncaaAesP3
namespace Go.Proofs.Ytaeklgfdknbncaa
noncomputable section
open Go.ChangeShapes Go.WideShapes Go.ChangeAt Go.RowKit Go.Sx Go.Aes

/-! ### Mixing -/
def rowAt (a b c d k : Nat) : Nat := if k = 0 then a else if k = 1 then b else if k = 2 then c else d
/-- the sum of a column's products, in the column's order -/
def dotE (a b c d : Nat) (i : Nat) : E :=
  let m := fun j => gmE (rowAt a b c d ((j + 4 - i % 4) % 4)) (byteE (i / 4 * 4 + j) v0)
  xorT (xorT (xorT (m 0) (m 1)) (m 2)) (m 3)

theorem rowAt_lt {a b c d : Nat} (ha : a < 256) (hb : b < 256) (hc : c < 256) (hd : d < 256) (k : Nat) : rowAt a b c d k < 256 := by
  unfold rowAt; repeat' split
  all_goals assumption

theorem column4 (a b c d : Nat) (i : Nat) (y : Nat → Nat) :
    gm (rowAt a b c d ((0 + 4 - i % 4) % 4)) (y (i / 4 * 4 + 0)) ^^^ gm (rowAt a b c d ((1 + 4 - i % 4) % 4)) (y (i / 4 * 4 + 1)) ^^^ gm (rowAt a b c d ((2 + 4 - i % 4) % 4)) (y (i / 4 * 4 + 2)) ^^^ gm (rowAt a b c d ((3 + 4 - i % 4) % 4)) (y (i / 4 * 4 + 3)) =
    gm a (y i) ^^^ gm b (y (at4 i 1)) ^^^ gm c (y (at4 i 2)) ^^^ gm d (y (at4 i 3)) := by
  have hi : i = i / 4 * 4 + i % 4 := by omega
  have hq : i % 4 < 4 := Nat.mod_lt _ (by decide)
  unfold at4
  generalize hm : i / 4 * 4 = m at *
  generalize hr : i % 4 = q at *
  subst hi
  match q, hq with
  | 0, _ => simp [rowAt]
  | 1, _ => simp [rowAt]; simp only [Nat.xor_assoc, xor_left_comm, Nat.xor_comm]
  | 2, _ => simp [rowAt]; simp only [Nat.xor_assoc, xor_left_comm, Nat.xor_comm]
  | 3, _ => simp [rowAt]; simp only [Nat.xor_assoc, Nat.xor_comm]

theorem dotE_den {a b c d : Nat} (ha : a < 256) (hb : b < 256) (hc : c < 256) (hd : d < 256) {n : Nat} (hn : n < big) {i : Nat} (hi : i < 16) :
    (dotE a b c d i).den (val (twoSt n 0)) = (gm a (byte i n) ^^^ gm b (byte (at4 i 1) n) ^^^ gm c (byte (at4 i 2) n) ^^^ gm d (byte (at4 i 3) n) : Nat) := by
  have hm : ∀ j, j < 4 → (gmE (rowAt a b c d ((j + 4 - i % 4) % 4)) (byteE (i / 4 * 4 + j) v0)).den (val (twoSt n 0)) = (gm (rowAt a b c d ((j + 4 - i % 4) % 4)) (byte (i / 4 * 4 + j) n) : Nat) := fun j hj =>
    gmE_den (rowAt_lt ha hb hc hd _) (vb hn (by omega))
  have hl : ∀ j, gm (rowAt a b c d ((j + 4 - i % 4) % 4)) (byte (i / 4 * 4 + j) n) < 256 := fun j => gm_lt (rowAt_lt ha hb hc hd _)
  have h1 := xorT_den (hl 0) (hl 1) (hm 0 (by decide)) (hm 1 (by decide))
  have h2 := xorT_den (xor_lt (hl 0) (hl 1)) (hl 2) h1 (hm 2 (by decide))
  have h3 := xorT_den (xor_lt (xor_lt (hl 0) (hl 1)) (hl 2)) (hl 3) h2 (hm 3 (by decide))
  refine Eq.trans h3 ?_
  rw [column4 a b c d i (fun p => byte p n)]

theorem Mix_good : Good 36 (stateSum mixE) := state_good (G := mixS) (fun s => mixE_den s)
  (state_ret goods1 (fun i => dotE 2 3 1 1 i) 400 (by kernel_rfl) fun n hn i hi => by
    rw [byte_mix _ hi, dotE_den (by decide) (by decide) (by decide) (by decide) hn hi, gm_one (byte_lt _ _), gm_one (byte_lt _ _)]; rfl)
theorem Unmix_good : Good 45 (stateSum unmixE) := state_good (G := unmixS) (fun s => unmixE_den s)
  (state_ret goods1 (fun i => dotE 14 11 13 9 i) 400 (by kernel_rfl) fun n hn i hi => by
    rw [byte_unmix _ hi, dotE_den (by decide) (by decide) (by decide) (by decide) hn hi]; rfl)

theorem two_num {n k : Nat} (hn : n < big) (hk : k < big) : num (val (twoSt n k)) (addE v0 k0) = addS n k := by
  rw [show num (val (twoSt n k)) (addE v0 k0) = _ from num_of (addE_den _ _)]
  rw [show num (aesVal (twoSt n k) (fun _ => 0) (fun _ => false)) v0 = n from v0_num hn, show num (aesVal (twoSt n k) (fun _ => 0) (fun _ => false)) k0 = k from k0_num hk]

theorem Add_good : Good 41 addSum := add_good fun n k hn hk w => by
  have := eval_calls goods1 (twoSt n k) 400 (f := 41) (args := [.agg (unpackE v0), .agg (unpackE k0)]) (v := .agg (unpackE (addE v0 k0))) (by simp only [flats, flat_block, Bool.and_self]) (by kernel_rfl) w
  simp only [denVs] at this
  rw [show denV (val (twoSt n k)) (.agg (unpackE v0)) = blockV n from block_den (v0_num hn), show denV (val (twoSt n k)) (.agg (unpackE k0)) = blockV k from block_den (k0_num hk),
    show denV (val (twoSt n k)) (.agg (unpackE (addE v0 k0))) = blockV (addS n k) from block_den (two_num hn hk)] at this
  exact this

/-! ### The reference's grids -/
theorem GridSub_good : Good 38 gridSubSum := gridSub_good fun n hn w => by
  have := eval_calls goods1 (twoSt n 0) 400 (f := 38) (args := [.agg (gridE v0), tableV sboxL]) (v := cells fun p => sE (byteE (tr p) v0)) (by decide +kernel) (by kernel_rfl) w
  rw [cells_den (h := fun p => byte (tr p) (subS n)) (fun i hi => by rw [byte_sub _ (tr_lt i hi)]; exact sE_den (byte_lt _ _) (vb hn (tr_lt i hi)))] at this
  simp only [denVs] at this
  rw [show denV (val (twoSt n 0)) (.agg (gridE v0)) = gridV n from grid_den (v0_num hn), tableV_den] at this
  exact this
theorem GridShift_good : Good 39 (gridSum shiftE) := grid_good (G := shiftS) (fun s => shiftE_den s)
  (grid_ret goods1 (fun p => byteE (shI (tr p)) v0) 400 (by kernel_rfl) fun n hn i hi => by rw [byte_shift _ (tr_lt i hi)]; exact vb hn (shI_lt _))
def mixGE (i : Nat) : E := xorT (xorT (xorT (gmE 2 (byteE i v0)) (gmE 3 (byteE (at4 i 1) v0))) (byteE (at4 i 2) v0)) (byteE (at4 i 3) v0)
theorem mixGE_den {n : Nat} (hn : n < big) {i : Nat} (hi : i < 16) : (mixGE i).den (val (twoSt n 0)) = (byte i (mixS n) : Nat) := by
  have a := gmE_den (st := twoSt n 0) (int := fun _ => 0) (bool := fun _ => false) (c := 2) (by decide) (vb hn hi)
  have b := gmE_den (st := twoSt n 0) (int := fun _ => 0) (bool := fun _ => false) (c := 3) (by decide) (vb hn (at4_lt 1 hi))
  have c := vb hn (at4_lt 2 hi)
  have d := vb hn (at4_lt 3 hi)
  have l2 : ∀ x, gm 2 x < 256 := fun x => gm_lt (by decide)
  have l3 : ∀ x, gm 3 x < 256 := fun x => gm_lt (by decide)
  rw [byte_mix _ hi]
  exact xorT_den (xor_lt (xor_lt (l2 _) (l3 _)) (byte_lt _ _)) (byte_lt _ _) (xorT_den (xor_lt (l2 _) (l3 _)) (byte_lt _ _) (xorT_den (l2 _) (l3 _) a b) c) d
theorem GridMix_good : Good 40 (gridSum mixE) := grid_good (G := mixS) (fun s => mixE_den s)
  (grid_ret goods1 (fun p => mixGE (tr p)) 400 (by kernel_rfl) fun n hn i hi => mixGE_den hn (tr_lt i hi))
theorem GridAdd_good : Good 42 gridAddSum := gridAdd_good fun n k hn hk w => by
  have := eval_calls goods1 (twoSt n k) 400 (f := 42) (args := [.agg (gridE v0), .agg (unpackE k0)]) (v := .agg (gridE (addE v0 k0))) (by simp only [flats, flat_block, flat_grid, Bool.and_self]) (by kernel_rfl) w
  simp only [denVs] at this
  rw [show denV (val (twoSt n k)) (.agg (gridE v0)) = gridV n from grid_den (v0_num hn), show denV (val (twoSt n k)) (.agg (unpackE k0)) = blockV k from block_den (k0_num hk),
    show denV (val (twoSt n k)) (.agg (gridE (addE v0 k0))) = gridV (addS n k) from grid_den (two_num hn hk)] at this
  exact this

/-! ### Round keys -/
def keysV (k : Nat) : Value := .agg ⟨((List.range 11).map fun r => (List.range 16).map fun i => Value.int .u8 (byte i (keyR r k) : Nat)).flatten⟩

theorem denVs_append (v : Val) : ∀ (l m : List SVal), denVs v (l ++ m) = denVs v l ++ denVs v m
  | [], m => rfl
  | a :: l, m => by simp only [List.cons_append, denVs, denVs_append v l m]

theorem denVs_flatten (v : Val) : ∀ (l : List (List SVal)), denVs v l.flatten = (l.map (denVs v)).flatten
  | [] => rfl
  | a :: l => by simp only [List.flatten_cons, denVs_append, List.map, denVs_flatten v l]

theorem keys_den {st : Nat → Nat} {int : Nat → Int} {bool : Nat → Bool} {k : E} (hk : isState k = true) : denV (aesVal st int bool) (.agg (keysE k)) = keysV (num (aesVal st int bool) k) := by
  unfold keysE keysV
  simp only [denV]
  rw [denVs_flatten, List.map_map]
  congr 3
  apply List.map_congr_left
  intro r hr
  simp only [Function.comp_apply, unpackE]
  rw [denVs_map]
  apply List.map_congr_left
  intro i hi
  simp only [u8, denV]
  rw [byteE_den i (List.mem_range.1 hi), num_of (keyE_den (by have := List.mem_range.1 hr; omega) hk)]

theorem flats_append : ∀ {l m : List SVal}, flats l = true → flats m = true → flats (l ++ m) = true
  | [], _, _, h => h
  | a :: l, m, h1, h2 => by
    simp only [flats, Bool.and_eq_true] at h1
    simp only [List.cons_append, flats, h1.1, flats_append h1.2 h2, Bool.and_self]
theorem flats_flatten (f : Nat → List SVal) (h : ∀ i, flats (f i) = true) : ∀ (l : List Nat), flats (l.map f).flatten = true
  | [] => rfl
  | a :: l => by simp only [List.map, List.flatten_cons]; exact flats_append (h a) (flats_flatten f h l)
theorem flat_keys (k : E) : flat (.agg (keysE k)) = true := flats_flatten _ (fun _ => flat_block _) _

theorem keys_good {f : Nat} (hc : ∀ k, k < big → Ret f [blockV k] (keysV k)) : Good f keysSum := by
  intro st int bool
  have key : ∀ {args v}, keysSum args = some v → ∃ b k, args = [b] ∧ packV id b = some k ∧ v = .agg (keysE k) := by
    intro args v h
    unfold keysSum at h
    split at h
    · rename_i b
      cases hb : packV id b with
      | none => rw [hb] at h; cases h
      | some k =>
        rw [hb] at h
        simp only [Option.bind_some] at h
        split at h
        · cases h; exact ⟨b, k, rfl, hb, rfl⟩
        · cases h
    · cases h
  refine ⟨?_, ?_⟩
  · intro args v h
    obtain ⟨b, k, rfl, hb, rfl⟩ := key h
    exact ⟨by simp only [flats, (packB_ok (st := st) (int := int) (bool := bool) hb).1, Bool.and_self], flat_keys _⟩
  · intro args v h w
    obtain ⟨b, k, rfl, hb, rfl⟩ := key h
    obtain ⟨_, h1, h2⟩ := packB_ok (st := st) (int := int) (bool := bool) hb
    simp only [denVs]
    rw [h2, keys_den h1]
    exact hc _ (isState_ok h1).1 w

theorem keys_ret {l : List (Nat × Sum)} (hl : Goods l) {f : Nat} (m : Nat) (h : gives (callV (env l []) (runV (env l []) m) 0 [] f [.agg (unpackE v0)]) (.agg (keysE v0)) = true) : ∀ k, k < big → Ret f [blockV k] (keysV k) := by
  intro k hk w
  have := eval_calls hl (twoSt k 0) m (f := f) (args := [.agg (unpackE v0)]) (by simp only [flats, flat_block, Bool.and_self]) h w
  simp only [denVs] at this
  rw [show denV (val (twoSt k 0)) (.agg (unpackE v0)) = blockV k from block_den (v0_num hk), show denV (val (twoSt k 0)) (.agg (keysE v0)) = keysV k by
    have := keys_den (st := twoSt k 0) (int := fun _ => 0) (bool := fun _ => false) (k := v0) rfl
    rw [show num (aesVal (twoSt k 0) (fun _ => 0) (fun _ => false)) v0 = k from v0_num hk] at this
    exact this] at this
  exact this

theorem Keys_good : Good 46 keysSum := keys_good (keys_ret goods1 600 (by kernel_rfl))
def sums2 : List (Nat × Sum) := (21, constSum (tableV sboxL)) :: sums1
theorem goods2 : Goods sums2 := .cons Table_good goods1
theorem RefKeys_good : Good 58 keysSum := keys_good (keys_ret goods2 600 (by kernel_rfl))
end
end Go.Proofs.Ytaeklgfdknbncaa
