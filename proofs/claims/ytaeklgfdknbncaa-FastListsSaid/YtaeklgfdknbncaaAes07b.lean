/-
  The setting for ciphers in memory. Conditions: none beside the hypotheses of each theorem.
-/
import Derived.Test.YtaeklgfdknbncaaAesH
namespace Go.Proofs.Ytaeklgfdknbncaa
noncomputable section
open Go.ChangeShapes Go.WideShapes Go.ChangeAt Go.RowKit Go.Sx Go.Aes

/-! ### Blocks that come in -/
def packL (ns : List Int) : Nat := mk16 fun i => (ns.getD i 0).toNat

theorem packL_val {ns : List Int} (hl : ns.length = 16) (hb : ∀ x ∈ ns, 0 ≤ x ∧ x ≤ 255) : Value.agg ⟨ns.map (Value.int .u8)⟩ = blockV (packL ns) := by
  unfold blockV
  congr 2
  apply List.ext_getElem?
  intro i
  by_cases hi : i < 16
  · have hi' : i < ns.length := by omega
    rw [List.getElem?_map, List.getElem?_map, List.getElem?_eq_getElem hi', List.getElem?_range hi]
    simp only [Option.map_some]
    congr 2
    have := hb _ (List.getElem_mem hi')
    unfold packL
    rw [byte_mk hi, List.getD_eq_getElem?_getD, List.getElem?_eq_getElem hi', Option.getD_some]
    omega
  · rw [List.getElem?_eq_none (by simp only [List.length_map]; omega), List.getElem?_eq_none (by simp only [List.length_map, List.length_range]; omega)]

/-! ### The setting -/
def sums3 : List (Nat × Sum) := (34, stateSum subE) :: (35, stateSum shiftE) :: (36, stateSum mixE) :: (41, addSum) :: (43, stateSum unsubE) :: (44, stateSum unshiftE) :: (45, stateSum unmixE) ::
  (38, gridSubSum) :: (39, gridSum shiftE) :: (40, gridSum mixE) :: (42, gridAddSum) :: (46, keysSum) :: (58, keysSum) :: sums2
theorem goods3 : Goods sums3 := .cons Sub_good (.cons Shift_good (.cons Mix_good (.cons Add_good (.cons Unsub_good (.cons Unshift_good (.cons Unmix_good
  (.cons GridSub_good (.cons GridShift_good (.cons GridMix_good (.cons GridAdd_good (.cons Keys_good (.cons RefKeys_good goods2))))))))))))
def yes : SVal := .bool (.lit true)
def heaps : List (Nat × HSum) := [(48, newSum), (70, runSum)]
theorem heaps_ok (st : Nat → Nat) (int : Nat → Int) (bool : Nat → Bool) : ∀ p ∈ heaps, HOk (aesVal st int bool) p.1 p.2 := by
  intro p hp
  simp only [heaps, List.mem_cons, List.mem_nil_iff, or_false] at hp
  rcases hp with rfl | rfl
  · exact New_good st int bool
  · exact Run_good st int bool

theorem const_evalG {l : List (Nat × Sum)} (hl : Goods l) (n : Nat) {f : Nat} {v : SVal} (hv : fixed v = true) (h : gives (callV (envG heaps l []) (runV (envG heaps l []) n) 0 [] f []) v = true) : Good f (constSum v) :=
  const_good (fixed_ok hv).2 fun st w => by
    have := gives_calls (envG_ok hl (heaps_ok (byteSt 0) (fun _ => 0) (fun _ => false)) (by simp)) n h ((flats_rv rfl).2 rfl) w
    rw [(fixed_ok hv).1 st (val (byteSt 0))]
    exact this
theorem Awake07_good : Good 47 (constSum yes) := const_evalG goods3 600 rfl (by kernel_rfl)
def sums7 : List (Nat × Sum) := (47, constSum yes) :: sums3
theorem goods7 : Goods sums7 := .cons Awake07_good goods3

end
end Go.Proofs.Ytaeklgfdknbncaa
