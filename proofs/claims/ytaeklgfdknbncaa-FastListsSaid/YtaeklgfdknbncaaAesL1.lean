/-
  Lists by their length. Conditions: none beside the hypotheses of each theorem.
-/
import Derived.Test.YtaeklgfdknbncaaAesLd
namespace Go.Proofs.Ytaeklgfdknbncaa
noncomputable section
open Go.Sx Go.Aes

theorem all1 : allB 1 = true := by kernel_rfl
theorem ref1 : refB 1 = true := by kernel_rfl
theorem list1 : listB 1 = true := by kernel_rfl
theorem all2 : allB 2 = true := by kernel_rfl
theorem ref2 : refB 2 = true := by kernel_rfl
theorem list2 : listB 2 = true := by kernel_rfl
theorem all3 : allB 3 = true := by kernel_rfl
theorem ref3 : refB 3 = true := by kernel_rfl
theorem list3 : listB 3 = true := by kernel_rfl
theorem all4 : allB 4 = true := by kernel_rfl
theorem ref4 : refB 4 = true := by kernel_rfl
theorem list4 : listB 4 = true := by kernel_rfl
theorem all5 : allB 5 = true := by kernel_rfl
theorem ref5 : refB 5 = true := by kernel_rfl
theorem list5 : listB 5 = true := by kernel_rfl
theorem all6 : allB 6 = true := by kernel_rfl
theorem ref6 : refB 6 = true := by kernel_rfl
theorem list6 : listB 6 = true := by kernel_rfl
theorem all7 : allB 7 = true := by kernel_rfl
theorem ref7 : refB 7 = true := by kernel_rfl
theorem list7 : listB 7 = true := by kernel_rfl
theorem all8 : allB 8 = true := by kernel_rfl
theorem ref8 : refB 8 = true := by kernel_rfl
theorem list8 : listB 8 = true := by kernel_rfl
theorem all9 : allB 9 = true := by kernel_rfl
theorem ref9 : refB 9 = true := by kernel_rfl
theorem list9 : listB 9 = true := by kernel_rfl
theorem all10 : allB 10 = true := by kernel_rfl
theorem ref10 : refB 10 = true := by kernel_rfl
theorem list10 : listB 10 = true := by kernel_rfl
theorem all11 : allB 11 = true := by kernel_rfl
theorem ref11 : refB 11 = true := by kernel_rfl
theorem list11 : listB 11 = true := by kernel_rfl
theorem all12 : allB 12 = true := by kernel_rfl
theorem ref12 : refB 12 = true := by kernel_rfl
theorem list12 : listB 12 = true := by kernel_rfl
theorem all13 : allB 13 = true := by kernel_rfl
theorem ref13 : refB 13 = true := by kernel_rfl
theorem list13 : listB 13 = true := by kernel_rfl
theorem all14 : allB 14 = true := by kernel_rfl
theorem ref14 : refB 14 = true := by kernel_rfl
theorem list14 : listB 14 = true := by kernel_rfl
theorem all15 : allB 15 = true := by kernel_rfl
theorem ref15 : refB 15 = true := by kernel_rfl
theorem list15 : listB 15 = true := by kernel_rfl
theorem all16 : allB 16 = true := by kernel_rfl
theorem ref16 : refB 16 = true := by kernel_rfl
theorem list16 : listB 16 = true := by kernel_rfl
theorem all17 : allB 17 = true := by kernel_rfl
theorem ref17 : refB 17 = true := by kernel_rfl
theorem list17 : listB 17 = true := by kernel_rfl
theorem all18 : allB 18 = true := by kernel_rfl
theorem ref18 : refB 18 = true := by kernel_rfl
theorem list18 : listB 18 = true := by kernel_rfl
end
end Go.Proofs.Ytaeklgfdknbncaa
