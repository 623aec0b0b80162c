/-
  law.IdentityRight: what is to be run.
-/
import Derived.Test.YgcsanGreatIvP
import Derived.Test.YgcsanGreatRows
import Derived.KernelRfl
namespace Go.Iv
open Go
set_option linter.unusedVariables false
set_option linter.unusedSimpArgs false

def seqL : Code → Code
  | .seq x _ => x
  | c => c
def seqR : Code → Code
  | .seq _ y => y
  | c => c
def bodyOf (fn : Func) : Code := match fn.body with
  | some c => c
  | none => .skip
/-- behind 'kind %= 5' -/
def tailOf (fn : Func) : Code := seqR (seqR (seqR (bodyOf fn)))
/-- the frame behind 'kind %= 5' -/
def start4 (k : Nat) (v d : Value) : List Value := [.int .u8 (Int.ofNat k), v, d, undef, undef, undef, .bool false, undef, undef, undef, undef, undef, .chan none, .chan none, .chan none, .chan none, .chan none, .chan none, .chan none]
def ok4 : Res → Bool
  | some (.normal, a, _) => beqV (Ac.eval a (.tmp 6)) (.bool true)
  | some (.ret, a, _) => beqV (Ac.eval a (.tmp 6)) (.bool true)
  | _ => false
def from4 (P : Program) (c : Code) : Option (Tr Value) → Bool
  | some t => ok4 (fCode P (fCall P 60) 51 100000 c t ⟨0, .nil⟩)
  | none => false
/-- the value: nought, or not known -/
def valOf : Bool → Value
  | true => tokV 0 [0, 0, 0, 0, 1]
  | false => .int .u8 0
/-- the data: not known; nil; empty -/
def dataOf : Nat → Value
  | 0 => .iface 4 (.bool true)
  | 1 => .slice none 0 0
  | _ => .iface 5 (.bool true)
/-- the run -/
def run4 (P : Program) (fn : Func) (k : Nat) (v : Bool) (d : Nat) : Bool := from4 P (tailOf fn) (fromList (start4 k (valOf v) (dataOf d)) 0 .nil)

end Go.Iv
