/-
  law.IdentityRight: the run at kind 0, value nought, data nil, by the kernel.
-/
import Derived.Test.YgcsanGreatIvQ
namespace Go.Iv
open Go.Proofs
theorem run4_001 : run4 Sang.prog Sang.f4 0 false 1 = true := by kernel_rfl
end Go.Iv
