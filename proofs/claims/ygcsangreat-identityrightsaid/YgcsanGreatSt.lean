/-
  Package law: addrNo, sender, toA1, StageEnv.
-/
import Derived.Test.YgcsanGreatRow
import Derived.Test.YgcsanGreatYpD
namespace Go.Proofs.YgcsanGreat
open Go.RowKit
set_option linter.unusedSimpArgs false
set_option linter.unusedVariables false

/-- a new variable, and at once a row is stored to it -/
theorem wl_store_new {P : Program} {ops : Array Oper} {rest : List Oper} {Q : Exit → Act → World → Prop} {a : Act} {dst : Option Tmp} {type : TypeId} {pos : String} {after : Array Edge}
    (w0 : World) (cs : Array Value) (ty : TypeId) (x y : Operand) (b : Nat) (k : IntKind) (t : TypeId) (L M : List Nat) (hx : a.eval x = .pointer (some ⟨b, 0, none⟩)) (hy : a.eval y = .agg (ints k M)) (hb : b = w0.heap.size) (hc : cs = ints k L)
    (hM : M.length = L.length) (hi : (P.info? ty).map (·.size) = some L.length)
    (hK : wpList P ops Q rest (a.put dst undef) (w0.alloc (.cells (ints k M) t))) : wpList P ops Q (⟨dst, .store ty x y, type, pos, after, none⟩ :: rest) a (w0.alloc (.cells cs t)) := by
  subst hb
  subst hc
  refine wl_store ty x y w0.heap.size k t L M hx hy (IB.new w0 k t L) hM hi ?_
  rw [setRow_alloc]
  exact hK

/-- the address of number n -/
def adNo (n : Nat) : List Nat := List.replicate 19 0 ++ [n]

theorem und23 : Sang.prog.underlying 23 = some (.array 20 5) := by kernel_rfl
theorem siz23 : (Sang.prog.info? 23).map (·.size) = some 20 := by kernel_rfl

set_option maxRecDepth 10000 in
set_option maxHeartbeats 400000 in
theorem addrNo_any (n : Nat) (w : World) :
    Calls Sang.prog 11 #[.int .u8 (n : Int)] w fun e w' => e = .returned (.agg (ints .u8 (adNo n))) ∧ Fr w.heap.size no w w' := by
  have hs : (Sang.prog.info? 23).map (·.size) = some (List.replicate 20 0).length := siz23
  have hl : (adNo n).length = (List.replicate 20 0).length := rfl
  go_enter Sang.func11, Sang.ntmps11
  go_wp2_with ((refine wl_store_new w #[.int .u8 0, .int .u8 0, .int .u8 0, .int .u8 0, .int .u8 0, .int .u8 0, .int .u8 0, .int .u8 0, .int .u8 0, .int .u8 0, .int .u8 0, .int .u8 0, .int .u8 0, .int .u8 0, .int .u8 0, .int .u8 0, .int .u8 0, .int .u8 0, .int .u8 0, .int .u8 0] 23 (.tmp 2) (.tmp 4) w.heap.size .u8 23 (List.replicate 20 0) (adNo n) ?_ ?_ rfl ?_ hl hs ?_); rfl; rfl; rfl)
  refine bodyPost_ret (results_cell Sang.results11 rfl (IB.new w .u8 23 (adNo n)) _ und23 rfl siz23) rfl ⟨rfl, ?_⟩
  exact (Fr.refl _ _ _).alloc (Nat.le_refl _) _
end Go.Proofs.YgcsanGreat
