/-
  law.IdentityRight: the run at kind 3, value not known, data nil, by the kernel.
-/
import Derived.Test.YgcsanGreatIvQ
namespace Go.Iv
open Go.Proofs
theorem run4_311 : run4 Sang.prog Sang.f4 3 true 1 = true := by kernel_rfl
end Go.Iv
