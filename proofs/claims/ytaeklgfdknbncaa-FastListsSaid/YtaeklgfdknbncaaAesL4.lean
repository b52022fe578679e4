/-
  Lists by their length. Conditions: none beside the hypotheses of each theorem.
-/
import Derived.Test.YtaeklgfdknbncaaAesLd
namespace Go.Proofs.Ytaeklgfdknbncaa
noncomputable section
open Go.Sx Go.Aes

theorem all35 : allB 35 = true := by kernel_rfl
theorem ref35 : refB 35 = true := by kernel_rfl
theorem list35 : listB 35 = true := by kernel_rfl
theorem all36 : allB 36 = true := by kernel_rfl
theorem ref36 : refB 36 = true := by kernel_rfl
theorem list36 : listB 36 = true := by kernel_rfl
theorem all37 : allB 37 = true := by kernel_rfl
theorem ref37 : refB 37 = true := by kernel_rfl
theorem list37 : listB 37 = true := by kernel_rfl
theorem all38 : allB 38 = true := by kernel_rfl
theorem ref38 : refB 38 = true := by kernel_rfl
theorem list38 : listB 38 = true := by kernel_rfl
theorem all39 : allB 39 = true := by kernel_rfl
theorem ref39 : refB 39 = true := by kernel_rfl
theorem list39 : listB 39 = true := by kernel_rfl
theorem all40 : allB 40 = true := by kernel_rfl
theorem ref40 : refB 40 = true := by kernel_rfl
theorem list40 : listB 40 = true := by kernel_rfl
end
end Go.Proofs.Ytaeklgfdknbncaa
