/-
  No cell of these rows narrows 'for every input' (looked for: loops, veiled, ifaces, maps, wideKeys, modest, calm, conditions, laid).
  DERIVED. THE GIVEN ROWS OF THIS SEAT. 4 by the template 'for every input the law returns true; each argument reads behind the call as it read before'; 0 by the template 'total and deterministic' (their statements: YgcsanTotals.lean).
  GIVEN WITH THE SEED: the statements are not yours to turn. If you find one false, say at which input.
  Laid BY PROGRAM, IN A SANDBOX (cutbox-rows.mjs): the forced cells as the released guide's own fill.sh prints them over the translation e76fbdb685639e4c… (all of the seat's roots in one cut). By AI agents, Wed Nov 11 2026. No macro, syntax, notation, axiom, sorry.
-/
import Derived.Test.YgcsanChecked
import GoSem.Claim
import GoSem.ClaimJoined
import GoSem.ClaimMapViews
import Derived.JoinedTies
import Derived.KernelRfl
namespace Go.Proofs.Ygcsan
/- THE CELL 'sum', in the pinned program and in every row, IS THE sha256 OF THE DUMP (.gsa) THAT YgcsanProg.lean LOADS. Nothing in Lean hashes anything: it is a label: what it is worth is what the hold of that sum in a sandbox is worth. -/
noncomputable def Sang.pinned : Pinned := { name := "ygcsan", sum := "e76fbdb685639e4c745fcd8053e561ff19a9854c392ae2e8d95f780778909c96", checked := Sang.checked }
namespace Rows
def none {H : Type} : Left H := { results := [], args := [] }

/-- 'law.WideRounds': WHATEVER THE INPUT: true; the input reads as it did. -/
def wideRoundsSpec : ChangeSpec := { name := "wideRounds", fn := fun _ => fun
  | [d1, d2, d3, d4] => { results := [.lit (.bool true)], args := [d1, d2, d3, d4] }
  | _ => none }
def wideRoundsRow : OpenClaim := { program := "ygcsan", sum := "e76fbdb685639e4c745fcd8053e561ff19a9854c392ae2e8d95f780778909c96", func := "yellow/law.WideRounds", spec := "wideRounds", inPlace := ["math/bits.Add64", "math/bits.Sub64"], named := ["math/bits.divideError", "math/bits.overflowError"], apart := false }
def WideRoundsSaid : Prop := wideRoundsRow.holds Sang.pinned (OpenSpec.ofChange wideRoundsSpec)

/-- ITS FALSE NEIGHBOUR: 'it returns false'. Refute it at one input. -/
def wideRoundsWrong : ChangeSpec := { name := "wideRounds", fn := fun _ => fun
  | [d1, d2, d3, d4] => { results := [.lit (.bool false)], args := [d1, d2, d3, d4] }
  | _ => none }
def WideRoundsWrongFalsely : Prop := wideRoundsRow.holds Sang.pinned (OpenSpec.ofChange wideRoundsWrong)

/-- 'law.ModExpRec': WHATEVER THE INPUT: true; the input reads as it did. -/
def modExpRecSpec : ChangeSpec := { name := "modExpRec", fn := fun _ => fun
  | [d1, d2, d3] => { results := [.lit (.bool true)], args := [d1, d2, d3] }
  | _ => none }
def modExpRecRow : OpenClaim := { program := "ygcsan", sum := "e76fbdb685639e4c745fcd8053e561ff19a9854c392ae2e8d95f780778909c96", func := "yellow/law.ModExpRec", spec := "modExpRec", inPlace := ["math/bits.Add64", "math/bits.Sub64"], named := ["math/bits.divideError", "math/bits.overflowError"], apart := false }
def ModExpRecSaid : Prop := modExpRecRow.holds Sang.pinned (OpenSpec.ofChange modExpRecSpec)

/-- ITS FALSE NEIGHBOUR: 'it returns false'. Refute it at one input. -/
def modExpRecWrong : ChangeSpec := { name := "modExpRec", fn := fun _ => fun
  | [d1, d2, d3] => { results := [.lit (.bool false)], args := [d1, d2, d3] }
  | _ => none }
def ModExpRecWrongFalsely : Prop := modExpRecRow.holds Sang.pinned (OpenSpec.ofChange modExpRecWrong)

/-- 'law.NativeSame': WHATEVER THE INPUT: true; the input reads as it did. -/
def nativeSameSpec : ChangeSpec := { name := "nativeSame", fn := fun _ => fun
  | [d1, d2] => { results := [.lit (.bool true)], args := [d1, d2] }
  | _ => none }
def nativeSameRow : OpenClaim := { program := "ygcsan", sum := "e76fbdb685639e4c745fcd8053e561ff19a9854c392ae2e8d95f780778909c96", func := "yellow/law.NativeSame", spec := "nativeSame", inPlace := ["math/bits.Add64", "math/bits.Sub64"], named := ["math/bits.divideError", "math/bits.overflowError"], apart := false }
def NativeSameSaid : Prop := nativeSameRow.holds Sang.pinned (OpenSpec.ofChange nativeSameSpec)

/-- ITS FALSE NEIGHBOUR: 'it returns false'. Refute it at one input. -/
def nativeSameWrong : ChangeSpec := { name := "nativeSame", fn := fun _ => fun
  | [d1, d2] => { results := [.lit (.bool false)], args := [d1, d2] }
  | _ => none }
def NativeSameWrongFalsely : Prop := nativeSameRow.holds Sang.pinned (OpenSpec.ofChange nativeSameWrong)

/-- 'law.YpCloseKeeps': WHATEVER THE INPUT: true; the input reads as it did. -/
def ypCloseKeepsSpec : ChangeSpec := { name := "ypCloseKeeps", fn := fun _ => fun
  | [d] => { results := [.lit (.bool true)], args := [d] }
  | _ => none }
def ypCloseKeepsRow : OpenClaim := { program := "ygcsan", sum := "e76fbdb685639e4c745fcd8053e561ff19a9854c392ae2e8d95f780778909c96", func := "yellow/law.YpCloseKeeps", spec := "ypCloseKeeps", apart := false }
def YpCloseKeepsSaid : Prop := ypCloseKeepsRow.holds Sang.pinned (OpenSpec.ofChange ypCloseKeepsSpec)

/-- ITS FALSE NEIGHBOUR: 'it returns false'. Refute it at one input. -/
def ypCloseKeepsWrong : ChangeSpec := { name := "ypCloseKeeps", fn := fun _ => fun
  | [d] => { results := [.lit (.bool false)], args := [d] }
  | _ => none }
def YpCloseKeepsWrongFalsely : Prop := ypCloseKeepsRow.holds Sang.pinned (OpenSpec.ofChange ypCloseKeepsWrong)

end Rows
end Go.Proofs.Ygcsan
