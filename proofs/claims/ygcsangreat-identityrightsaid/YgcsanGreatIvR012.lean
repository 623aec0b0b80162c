/-
  law.IdentityRight: the run at kind 0, value not known, data empty, by the kernel.
-/
import Derived.Test.YgcsanGreatIvQ
namespace Go.Iv
open Go.Proofs
theorem run4_012 : run4 Sang.prog Sang.f4 0 true 2 = true := by kernel_rfl
end Go.Iv
