/-
  law.YpBites: what is to be run.
-/
import Derived.Test.YgcsanGreatEvP
import Derived.Test.YgcsanGreatRows
import Derived.KernelRfl
namespace Go.Ev
open Go
set_option linter.unusedVariables false
set_option linter.unusedSimpArgs false

def seqL : Code → Code
  | .seq x _ => x
  | c => c
def seqR : Code → Code
  | .seq _ y => y
  | c => c
def bodyOf (fn : Func) : Code := match fn.body with
  | some c => c
  | none => .skip
def tailOf (fn : Func) : Code := seqR (seqR (bodyOf fn))
/-- the frame behind 'k := n%8 + 1' -/
def start9 (k : Nat) : List Value := [.chan none, undef, .bool false, .int .u8 (Int.ofNat k), undef, .chan none, .chan none, .chan none]
def ok9 : Res → Bool
  | some (.normal, a, _) => beqV (Ac.eval a (.tmp 2)) (.bool true)
  | some (.ret, a, _) => beqV (Ac.eval a (.tmp 2)) (.bool true)
  | _ => false
def from9 (P : Program) (c : Code) : Option (Tr Value) → Bool
  | some t => ok9 (fCode P (fCall P 60) 23 100000 c t ⟨0, .nil⟩)
  | none => false
/-- the run at k -/
def run9 (P : Program) (fn : Func) (k : Nat) : Bool := from9 P (tailOf fn) (fromList (start9 k) 0 .nil)

end Go.Ev
