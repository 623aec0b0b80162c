/-
  law.IdentityRight: the run at kind 1, value not known, data nil, by the kernel.
-/
import Derived.Test.YgcsanGreatIvQ
namespace Go.Iv
open Go.Proofs
theorem run4_111 : run4 Sang.prog Sang.f4 1 true 1 = true := by kernel_rfl
end Go.Iv
