/-
  law.IdentityRight: the run at kind 2, value nought, data nil, by the kernel.
-/
import Derived.Test.YgcsanGreatIvQ
namespace Go.Iv
open Go.Proofs
theorem run4_201 : run4 Sang.prog Sang.f4 2 false 1 = true := by kernel_rfl
end Go.Iv
