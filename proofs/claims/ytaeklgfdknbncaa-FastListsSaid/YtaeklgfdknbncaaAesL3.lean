/-
  Lists by their length. Conditions: none beside the hypotheses of each theorem.
-/
import Derived.Test.YtaeklgfdknbncaaAesLd
namespace Go.Proofs.Ytaeklgfdknbncaa
noncomputable section
open Go.Sx Go.Aes

theorem all28 : allB 28 = true := by kernel_rfl
theorem ref28 : refB 28 = true := by kernel_rfl
theorem list28 : listB 28 = true := by kernel_rfl
theorem all29 : allB 29 = true := by kernel_rfl
theorem ref29 : refB 29 = true := by kernel_rfl
theorem list29 : listB 29 = true := by kernel_rfl
theorem all30 : allB 30 = true := by kernel_rfl
theorem ref30 : refB 30 = true := by kernel_rfl
theorem list30 : listB 30 = true := by kernel_rfl
theorem all31 : allB 31 = true := by kernel_rfl
theorem ref31 : refB 31 = true := by kernel_rfl
theorem list31 : listB 31 = true := by kernel_rfl
theorem all32 : allB 32 = true := by kernel_rfl
theorem ref32 : refB 32 = true := by kernel_rfl
theorem list32 : listB 32 = true := by kernel_rfl
theorem all33 : allB 33 = true := by kernel_rfl
theorem ref33 : refB 33 = true := by kernel_rfl
theorem list33 : listB 33 = true := by kernel_rfl
theorem all34 : allB 34 = true := by kernel_rfl
theorem ref34 : refB 34 = true := by kernel_rfl
theorem list34 : listB 34 = true := by kernel_rfl
end
end Go.Proofs.Ytaeklgfdknbncaa
