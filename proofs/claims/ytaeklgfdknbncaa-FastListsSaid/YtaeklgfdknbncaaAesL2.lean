/-
  Lists by their length. Conditions: none beside the hypotheses of each theorem.
-/
import Derived.Test.YtaeklgfdknbncaaAesLd
namespace Go.Proofs.Ytaeklgfdknbncaa
noncomputable section
open Go.Sx Go.Aes

theorem all19 : allB 19 = true := by kernel_rfl
theorem ref19 : refB 19 = true := by kernel_rfl
theorem list19 : listB 19 = true := by kernel_rfl
theorem all20 : allB 20 = true := by kernel_rfl
theorem ref20 : refB 20 = true := by kernel_rfl
theorem list20 : listB 20 = true := by kernel_rfl
theorem all21 : allB 21 = true := by kernel_rfl
theorem ref21 : refB 21 = true := by kernel_rfl
theorem list21 : listB 21 = true := by kernel_rfl
theorem all22 : allB 22 = true := by kernel_rfl
theorem ref22 : refB 22 = true := by kernel_rfl
theorem list22 : listB 22 = true := by kernel_rfl
theorem all23 : allB 23 = true := by kernel_rfl
theorem ref23 : refB 23 = true := by kernel_rfl
theorem list23 : listB 23 = true := by kernel_rfl
theorem all24 : allB 24 = true := by kernel_rfl
theorem ref24 : refB 24 = true := by kernel_rfl
theorem list24 : listB 24 = true := by kernel_rfl
theorem all25 : allB 25 = true := by kernel_rfl
theorem ref25 : refB 25 = true := by kernel_rfl
theorem list25 : listB 25 = true := by kernel_rfl
theorem all26 : allB 26 = true := by kernel_rfl
theorem ref26 : refB 26 = true := by kernel_rfl
theorem list26 : listB 26 = true := by kernel_rfl
theorem all27 : allB 27 = true := by kernel_rfl
theorem ref27 : refB 27 = true := by kernel_rfl
theorem list27 : listB 27 = true := by kernel_rfl
end
end Go.Proofs.Ytaeklgfdknbncaa
