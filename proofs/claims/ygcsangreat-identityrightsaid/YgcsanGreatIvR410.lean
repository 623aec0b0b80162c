/-
  law.IdentityRight: the run at kind 4, value not known, data not known, by the kernel.
-/
import Derived.Test.YgcsanGreatIvQ
namespace Go.Iv
open Go.Proofs
theorem run4_410 : run4 Sang.prog Sang.f4 4 true 0 = true := by kernel_rfl
end Go.Iv
