/-
  law.IdentityRight: the run at kind 4, value nought, data empty, by the kernel.
-/
import Derived.Test.YgcsanGreatIvQ
namespace Go.Iv
open Go.Proofs
theorem run4_402 : run4 Sang.prog Sang.f4 4 false 2 = true := by kernel_rfl
end Go.Iv
