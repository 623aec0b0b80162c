/-
  Package law: equalBytes, of slices that hold the same bytes.
-/
import Derived.Test.YgcsanGreatNat
import Derived.Laws.BytesString
namespace Go.Proofs.YgcsanGreat
open Go.RowKit
set_option linter.unusedSimpArgs false
set_option linter.unusedVariables false

/-- the string of the bytes -/
def strOf (l : List Nat) : ByteArray := (l.map fun (n : Nat) => (n : Int)).foldl (fun r n => r.push (UInt8.ofNat n.toNat)) ByteArray.empty

theorem run_str {P : Program} (w : World) (v : Value) (l : List Nat) (h : Sl w .u8 v l) (src dst e : TypeId)
    (hs : P.underlying src = some (.slice e)) (he : P.underlying e = some (.int .u8)) (hd : P.underlying dst = some .string) :
    (convert src dst v).run P w = .ok (.string (strOf l)) w := by
  obtain ⟨a, cap, rfl, h1, h2, h3⟩ := h
  rw [run_convert_bytes_string w src dst e a l.length cap hs he hd]
  rcases h3 with rfl | ⟨b, off, rfl, hc⟩
  · cases a with
    | none => simp [Conv.bytesToString, strOf]
    | some a => exact run_bytesToString w a 0 cap [] (by simp [loadCells, loadCellsFrom])
  · refine run_bytesToString w _ _ cap (l.map fun (n : Nat) => (n : Int)) ?_
    have := run_loadCells_cells (P := P) w b off .u8 l l.length 0 #[] (by omega) hc
    unfold loadCells
    rw [this]
    simp [ints, Function.comp_def]

section
variable {P : Program} {ops : Array Oper} {rest : List Oper} {Q : Exit → Act → World → Prop} {a : Act} {w : World} {dst : Option Tmp} {type : TypeId} {pos : String} {after : Array Edge}
/-- 'string(b)' -/
theorem wl_str (src d e : TypeId) (x : Operand) (v : Value) (l : List Nat) (hx : a.eval x = v) (h : Sl w .u8 v l)
    (hs : P.underlying src = some (.slice e)) (he : P.underlying e = some (.int .u8)) (hd : P.underlying d = some .string)
    (hK : wpList P ops Q rest (a.put dst (.string (strOf l))) w) : wpList P ops Q (⟨dst, .convert src d x, type, pos, after, none⟩ :: rest) a w := by
  refine wpList_plain rfl fun K hK' => ?_
  have hr := run_str (P := P) w v l h src d e hs he hd
  unfold Oper.wp execOp
  simp only [hx, Sem.run_bind, Sem.run_pure, Result.andThen_ok, hr]
  exact hK' _ _ hK
end

theorem und33 : Sang.prog.underlying 27 = some (.slice 5) := by kernel_rfl
theorem und9 : Sang.prog.underlying 9 = some .string := by kernel_rfl

set_option maxRecDepth 10000 in
set_option maxHeartbeats 400000 in
theorem equalBytes_same (v1 v2 : Value) (l : List Nat) (w : World) (h1 : Sl w .u8 v1 l) (h2 : Sl w .u8 v2 l) :
    Calls Sang.prog 41 #[v1, v2] w fun e w' => e = .returned (.bool true) ∧ w' = w := by
  have H1 : Hid (Sl w .u8 v1 l) := h1
  have H2 : Hid (Sl w .u8 v2 l) := h2
  clear h1 h2
  go_enter Sang.func41, Sang.ntmps41
  go_wp2_with (first
    | ((with_reducible refine wl_str 27 9 5 (.tmp 5) v1 l ?_ H1.out und33 und5 und9 ?_); rfl)
    | ((with_reducible refine wl_str 27 9 5 (.tmp 7) v2 l ?_ H2.out und33 und5 und9 ?_); rfl))
  go_ret
  exact ⟨rfl, rfl⟩
end Go.Proofs.YgcsanGreat
