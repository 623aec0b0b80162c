/-
  law.ModExpRight: what is to be run.
-/
import Derived.Test.YgcsanGreatJvP
import Derived.Test.YgcsanGreatRows
import Derived.KernelRfl
namespace Go.Jv
open Go
set_option linter.unusedVariables false
set_option linter.unusedSimpArgs false

def seqL : Code → Code
  | .seq x _ => x
  | c => c
def seqR : Code → Code
  | .seq _ y => y
  | c => c
def bodyOf (fn : Func) : Code := match fn.body with
  | some c => c
  | none => .skip
/-- behind 'lm %= 70' -/
def tailOf (fn : Func) : Code := seqR (seqR (seqR (seqR (bodyOf fn))))
/-- the frame behind 'lm %= 70': the six parameters, not known -/
def start3 : List Value := [tokV 0 [0, 0, 0, 0, 0, 1], tokV 0 [0, 0, 0, 0, 0, 0, 1], tokV 0 [0, 0, 0, 0, 0, 0, 0, 1], tokV 0 [0, 0, 0, 0, 0, 0, 0, 0, 1], tokV 0 [0, 0, 0, 0, 0, 0, 0, 0, 0, 1], tokV 0 [0, 0, 0, 0, 0, 0, 0, 0, 0, 0, 1],
  undef, undef, undef, undef, undef, undef, .bool false, undef, .chan none, .chan none, .chan none, .chan none, .chan none, .chan none]
def ok3 : Res → Bool
  | some (.normal, a, _) => beqV (Ac.eval a (.tmp 12)) (.bool true)
  | some (.ret, a, _) => beqV (Ac.eval a (.tmp 12)) (.bool true)
  | _ => false
def from3 (P : Program) (md : Nat) (c : Code) : Option (Tr Value) → Bool
  | some t => ok3 (fCode P (fCall P md 60) 42 100000 c t ⟨0, .nil⟩)
  | none => false
/-- the run: refused (0); taken, no output (1); taken (2) -/
def run3 (P : Program) (fn : Func) (md : Nat) : Bool := from3 P md (tailOf fn) (fromList start3 0 .nil)

end Go.Jv
