/-
  No cell of these rows narrows 'for every input' (looked for: loops, veiled, ifaces, maps, wideKeys, modest, calm, conditions, laid).
  DERIVED. THE GIVEN ROWS OF THIS SEAT. 7 by the template 'for every input the law returns true; each argument reads behind the call as it read before'; 0 by the template 'total and deterministic' (their statements: YgcsanGreatTotals.lean).
  GIVEN WITH THE SEED: the statements are not yours to turn. If you find one false, say at which input.
  Laid BY PROGRAM, IN A SANDBOX (cutbox-rows.mjs): the forced cells as the released guide's own fill.sh prints them over the translation e87279f53533b0b0… (all of the seat's roots in one cut). By AI agents, Wed Nov 11 2026. No macro, syntax, notation, axiom, sorry.
-/
import Derived.Test.YgcsanGreatChecked
import GoSem.Claim
import GoSem.ClaimJoined
import GoSem.ClaimMapViews
import Derived.JoinedTies
import Derived.KernelRfl
namespace Go.Proofs.YgcsanGreat
/- THE CELL 'sum', in the pinned program and in every row, IS THE sha256 OF THE DUMP (.gsa) THAT YgcsanGreatProg.lean LOADS. Nothing in Lean hashes anything: it is a label: what it is worth is what the hold of that sum in a sandbox is worth. -/
noncomputable def Sang.pinned : Pinned := { name := "ygcsangreat", sum := "e87279f53533b0b051d2b5343db368d365f71608afcc671cfbe431d23684db0c", checked := Sang.checked }
namespace Rows
def none {H : Type} : Left H := { results := [], args := [] }

/-- 'law.ModExpRight': WHATEVER THE INPUT: true; the input reads as it did. -/
def modExpRightSpec : ChangeSpec := { name := "modExpRight", fn := fun _ => fun
  | [d1, d2, d3, d4, d5, d6] => { results := [.lit (.bool true)], args := [d1, d2, d3, d4, d5, d6] }
  | _ => none }
def modExpRightRow : OpenClaim := { program := "ygcsangreat", sum := "e87279f53533b0b051d2b5343db368d365f71608afcc671cfbe431d23684db0c", func := "yellow/law.ModExpRight", spec := "modExpRight", apart := false }
def ModExpRightSaid : Prop := modExpRightRow.holds Sang.pinned (OpenSpec.ofChange modExpRightSpec)

/-- ITS FALSE NEIGHBOUR: 'it returns false'. Refute it at one input. -/
def modExpRightWrong : ChangeSpec := { name := "modExpRight", fn := fun _ => fun
  | [d1, d2, d3, d4, d5, d6] => { results := [.lit (.bool false)], args := [d1, d2, d3, d4, d5, d6] }
  | _ => none }
def ModExpRightWrongFalsely : Prop := modExpRightRow.holds Sang.pinned (OpenSpec.ofChange modExpRightWrong)

/-- 'law.IdentityRight': WHATEVER THE INPUT: true; the input reads as it did. -/
def identityRightSpec : ChangeSpec := { name := "identityRight", fn := fun _ => fun
  | [d1, d2, d3] => { results := [.lit (.bool true)], args := [d1, d2, d3] }
  | _ => none }
def identityRightRow : OpenClaim := { program := "ygcsangreat", sum := "e87279f53533b0b051d2b5343db368d365f71608afcc671cfbe431d23684db0c", func := "yellow/law.IdentityRight", spec := "identityRight", apart := false }
def IdentityRightSaid : Prop := identityRightRow.holds Sang.pinned (OpenSpec.ofChange identityRightSpec)

/-- ITS FALSE NEIGHBOUR: 'it returns false'. Refute it at one input. -/
def identityRightWrong : ChangeSpec := { name := "identityRight", fn := fun _ => fun
  | [d1, d2, d3] => { results := [.lit (.bool false)], args := [d1, d2, d3] }
  | _ => none }
def IdentityRightWrongFalsely : Prop := identityRightRow.holds Sang.pinned (OpenSpec.ofChange identityRightWrong)

/-- 'law.YpCheckTotal': WHATEVER THE INPUT: true; the input reads as it did. -/
def ypCheckTotalSpec : ChangeSpec := { name := "ypCheckTotal", fn := fun _ => fun
  | [d1, d2] => { results := [.lit (.bool true)], args := [d1, d2] }
  | _ => none }
def ypCheckTotalRow : OpenClaim := { program := "ygcsangreat", sum := "e87279f53533b0b051d2b5343db368d365f71608afcc671cfbe431d23684db0c", func := "yellow/law.YpCheckTotal", spec := "ypCheckTotal", apart := false }
def YpCheckTotalSaid : Prop := ypCheckTotalRow.holds Sang.pinned (OpenSpec.ofChange ypCheckTotalSpec)

/-- ITS FALSE NEIGHBOUR: 'it returns false'. Refute it at one input. -/
def ypCheckTotalWrong : ChangeSpec := { name := "ypCheckTotal", fn := fun _ => fun
  | [d1, d2] => { results := [.lit (.bool false)], args := [d1, d2] }
  | _ => none }
def YpCheckTotalWrongFalsely : Prop := ypCheckTotalRow.holds Sang.pinned (OpenSpec.ofChange ypCheckTotalWrong)

/-- 'law.YpKeeps': WHATEVER THE INPUT: true; the input reads as it did. -/
def ypKeepsSpec : ChangeSpec := { name := "ypKeeps", fn := fun _ => fun
  | [d] => { results := [.lit (.bool true)], args := [d] }
  | _ => none }
def ypKeepsRow : OpenClaim := { program := "ygcsangreat", sum := "e87279f53533b0b051d2b5343db368d365f71608afcc671cfbe431d23684db0c", func := "yellow/law.YpKeeps", spec := "ypKeeps", apart := false }
def YpKeepsSaid : Prop := ypKeepsRow.holds Sang.pinned (OpenSpec.ofChange ypKeepsSpec)

/-- ITS FALSE NEIGHBOUR: 'it returns false'. Refute it at one input. -/
def ypKeepsWrong : ChangeSpec := { name := "ypKeeps", fn := fun _ => fun
  | [d] => { results := [.lit (.bool false)], args := [d] }
  | _ => none }
def YpKeepsWrongFalsely : Prop := ypKeepsRow.holds Sang.pinned (OpenSpec.ofChange ypKeepsWrong)

/-- 'law.YpOpenKeeps': WHATEVER THE INPUT: true; the input reads as it did. -/
def ypOpenKeepsSpec : ChangeSpec := { name := "ypOpenKeeps", fn := fun _ => fun
  | [d1, d2] => { results := [.lit (.bool true)], args := [d1, d2] }
  | _ => none }
def ypOpenKeepsRow : OpenClaim := { program := "ygcsangreat", sum := "e87279f53533b0b051d2b5343db368d365f71608afcc671cfbe431d23684db0c", func := "yellow/law.YpOpenKeeps", spec := "ypOpenKeeps", apart := false }
def YpOpenKeepsSaid : Prop := ypOpenKeepsRow.holds Sang.pinned (OpenSpec.ofChange ypOpenKeepsSpec)

/-- ITS FALSE NEIGHBOUR: 'it returns false'. Refute it at one input. -/
def ypOpenKeepsWrong : ChangeSpec := { name := "ypOpenKeeps", fn := fun _ => fun
  | [d1, d2] => { results := [.lit (.bool false)], args := [d1, d2] }
  | _ => none }
def YpOpenKeepsWrongFalsely : Prop := ypOpenKeepsRow.holds Sang.pinned (OpenSpec.ofChange ypOpenKeepsWrong)

/-- 'law.YpKeepsWithout': WHATEVER THE INPUT: true; the input reads as it did. -/
def ypKeepsWithoutSpec : ChangeSpec := { name := "ypKeepsWithout", fn := fun _ => fun
  | [d1, d2] => { results := [.lit (.bool true)], args := [d1, d2] }
  | _ => none }
def ypKeepsWithoutRow : OpenClaim := { program := "ygcsangreat", sum := "e87279f53533b0b051d2b5343db368d365f71608afcc671cfbe431d23684db0c", func := "yellow/law.YpKeepsWithout", spec := "ypKeepsWithout", apart := false }
def YpKeepsWithoutSaid : Prop := ypKeepsWithoutRow.holds Sang.pinned (OpenSpec.ofChange ypKeepsWithoutSpec)

/-- ITS FALSE NEIGHBOUR: 'it returns false'. Refute it at one input. -/
def ypKeepsWithoutWrong : ChangeSpec := { name := "ypKeepsWithout", fn := fun _ => fun
  | [d1, d2] => { results := [.lit (.bool false)], args := [d1, d2] }
  | _ => none }
def YpKeepsWithoutWrongFalsely : Prop := ypKeepsWithoutRow.holds Sang.pinned (OpenSpec.ofChange ypKeepsWithoutWrong)

/-- 'law.YpBites': WHATEVER THE INPUT: true; the input reads as it did. -/
def ypBitesSpec : ChangeSpec := { name := "ypBites", fn := fun _ => fun
  | [d] => { results := [.lit (.bool true)], args := [d] }
  | _ => none }
def ypBitesRow : OpenClaim := { program := "ygcsangreat", sum := "e87279f53533b0b051d2b5343db368d365f71608afcc671cfbe431d23684db0c", func := "yellow/law.YpBites", spec := "ypBites", apart := false }
def YpBitesSaid : Prop := ypBitesRow.holds Sang.pinned (OpenSpec.ofChange ypBitesSpec)

/-- ITS FALSE NEIGHBOUR: 'it returns false'. Refute it at one input. -/
def ypBitesWrong : ChangeSpec := { name := "ypBites", fn := fun _ => fun
  | [d] => { results := [.lit (.bool false)], args := [d] }
  | _ => none }
def YpBitesWrongFalsely : Prop := ypBitesRow.holds Sang.pinned (OpenSpec.ofChange ypBitesWrong)

end Rows
end Go.Proofs.YgcsanGreat
