/-
  law.IdentityRight: the run at kind 3, value not known, data not known, by the kernel.
-/
import Derived.Test.YgcsanGreatIvQ
namespace Go.Iv
open Go.Proofs
theorem run4_310 : run4 Sang.prog Sang.f4 3 true 0 = true := by kernel_rfl
end Go.Iv
