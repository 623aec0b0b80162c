/-
  Loads and stores of whole structs and arrays for the walk: the built-in unfolding is put aside, laws on blocks of values stand in its place.
-/
import Derived.Test.YgcsanGreatBuild
import Derived.Test.YgcsanGreatNat
import Derived.Deep.RegionHeld3
import Derived.ArgAppend
namespace Go.Proofs.YgcsanGreat
open Go.RowKit
set_option linter.unusedSimpArgs false
set_option linter.unusedVariables false

/-- n values from place o on -/
def subV (L : List Value) (o n : Nat) : List Value := (L.drop o).take n

section
variable {P : Program}
theorem run_loadVar_one {ty : TypeId} {d : TypeDesc} (hd : P.underlying ty = some d) (h : rowish d = false) (a : Addr) (w : World) : (loadVar ty a).run P w = (load a).run P w := by
  cases d <;> simp_all [rowish, loadVar, isAgg, underlying, typeInfo, go_sem]
theorem run_storeVar_one {ty : TypeId} (hi : (P.info? ty).map (·.size) = some 1) (a : Addr) (v : Value) (w : World) (hv : v.cells = #[v]) : (storeVar ty a v).run P w = (store a v).run P w := by
  obtain ⟨i, hi1, hi2⟩ := Option.map_eq_some_iff.1 hi
  have e : a.add 0 = a := Addr.add_zero' a
  simp [hv, storeVar, sizeOf, typeInfo, hi1, hi2, storeCells, e]

end

theorem ld3 (a : Addr) (w : World) : (loadVar 3 a).run Sang.prog w = (load a).run Sang.prog w := run_loadVar_one Sang.underlying3 rfl a w
theorem st3 (a : Addr) (v : Value) (w : World) (hv : v.oneCell' = true) : (storeVar 3 a v).run Sang.prog w = (store a v).run Sang.prog w := run_storeVar_one (by kernel_rfl) a v w (by cases v <;> first | rfl | simp [Value.oneCell'] at hv)
theorem ld4 (a : Addr) (w : World) : (loadVar 4 a).run Sang.prog w = (load a).run Sang.prog w := run_loadVar_one Sang.underlying4 rfl a w
theorem st4 (a : Addr) (v : Value) (w : World) (hv : v.oneCell' = true) : (storeVar 4 a v).run Sang.prog w = (store a v).run Sang.prog w := run_storeVar_one (by kernel_rfl) a v w (by cases v <;> first | rfl | simp [Value.oneCell'] at hv)
theorem ld5 (a : Addr) (w : World) : (loadVar 5 a).run Sang.prog w = (load a).run Sang.prog w := run_loadVar_one Sang.underlying5 rfl a w
theorem st5 (a : Addr) (v : Value) (w : World) (hv : v.oneCell' = true) : (storeVar 5 a v).run Sang.prog w = (store a v).run Sang.prog w := run_storeVar_one (by kernel_rfl) a v w (by cases v <;> first | rfl | simp [Value.oneCell'] at hv)
theorem ld15 (a : Addr) (w : World) : (loadVar 15 a).run Sang.prog w = (load a).run Sang.prog w := run_loadVar_one Sang.underlying15 rfl a w
theorem st15 (a : Addr) (v : Value) (w : World) (hv : v.oneCell' = true) : (storeVar 15 a v).run Sang.prog w = (store a v).run Sang.prog w := run_storeVar_one (by kernel_rfl) a v w (by cases v <;> first | rfl | simp [Value.oneCell'] at hv)
theorem ld16 (a : Addr) (w : World) : (loadVar 16 a).run Sang.prog w = (load a).run Sang.prog w := run_loadVar_one Sang.underlying16 rfl a w
theorem st16 (a : Addr) (v : Value) (w : World) (hv : v.oneCell' = true) : (storeVar 16 a v).run Sang.prog w = (store a v).run Sang.prog w := run_storeVar_one (by kernel_rfl) a v w (by cases v <;> first | rfl | simp [Value.oneCell'] at hv)
theorem ld17 (a : Addr) (w : World) : (loadVar 17 a).run Sang.prog w = (load a).run Sang.prog w := run_loadVar_one Sang.underlying17 rfl a w
theorem st17 (a : Addr) (v : Value) (w : World) (hv : v.oneCell' = true) : (storeVar 17 a v).run Sang.prog w = (store a v).run Sang.prog w := run_storeVar_one (by kernel_rfl) a v w (by cases v <;> first | rfl | simp [Value.oneCell'] at hv)
theorem ld24 (a : Addr) (w : World) : (loadVar 24 a).run Sang.prog w = (load a).run Sang.prog w := run_loadVar_one Sang.underlying24 rfl a w
theorem st24 (a : Addr) (v : Value) (w : World) (hv : v.oneCell' = true) : (storeVar 24 a v).run Sang.prog w = (store a v).run Sang.prog w := run_storeVar_one (by kernel_rfl) a v w (by cases v <;> first | rfl | simp [Value.oneCell'] at hv)
theorem ld27 (a : Addr) (w : World) : (loadVar 27 a).run Sang.prog w = (load a).run Sang.prog w := run_loadVar_one Sang.underlying27 rfl a w
theorem st27 (a : Addr) (v : Value) (w : World) (hv : v.oneCell' = true) : (storeVar 27 a v).run Sang.prog w = (store a v).run Sang.prog w := run_storeVar_one (by kernel_rfl) a v w (by cases v <;> first | rfl | simp [Value.oneCell'] at hv)
theorem ld28 (a : Addr) (w : World) : (loadVar 28 a).run Sang.prog w = (load a).run Sang.prog w := run_loadVar_one Sang.underlying28 rfl a w
theorem st28 (a : Addr) (v : Value) (w : World) (hv : v.oneCell' = true) : (storeVar 28 a v).run Sang.prog w = (store a v).run Sang.prog w := run_storeVar_one (by kernel_rfl) a v w (by cases v <;> first | rfl | simp [Value.oneCell'] at hv)
theorem ld35 (a : Addr) (w : World) : (loadVar 35 a).run Sang.prog w = (load a).run Sang.prog w := run_loadVar_one Sang.underlying35 rfl a w
theorem st35 (a : Addr) (v : Value) (w : World) (hv : v.oneCell' = true) : (storeVar 35 a v).run Sang.prog w = (store a v).run Sang.prog w := run_storeVar_one (by kernel_rfl) a v w (by cases v <;> first | rfl | simp [Value.oneCell'] at hv)
theorem ld39 (a : Addr) (w : World) : (loadVar 39 a).run Sang.prog w = (load a).run Sang.prog w := run_loadVar_one Sang.underlying39 rfl a w
theorem st39 (a : Addr) (v : Value) (w : World) (hv : v.oneCell' = true) : (storeVar 39 a v).run Sang.prog w = (store a v).run Sang.prog w := run_storeVar_one (by kernel_rfl) a v w (by cases v <;> first | rfl | simp [Value.oneCell'] at hv)
theorem ld40 (a : Addr) (w : World) : (loadVar 40 a).run Sang.prog w = (load a).run Sang.prog w := run_loadVar_one Sang.underlying40 rfl a w
theorem st40 (a : Addr) (v : Value) (w : World) (hv : v.oneCell' = true) : (storeVar 40 a v).run Sang.prog w = (store a v).run Sang.prog w := run_storeVar_one (by kernel_rfl) a v w (by cases v <;> first | rfl | simp [Value.oneCell'] at hv)
theorem ld45 (a : Addr) (w : World) : (loadVar 45 a).run Sang.prog w = (load a).run Sang.prog w := run_loadVar_one Sang.underlying45 rfl a w
theorem st45 (a : Addr) (v : Value) (w : World) (hv : v.oneCell' = true) : (storeVar 45 a v).run Sang.prog w = (store a v).run Sang.prog w := run_storeVar_one (by kernel_rfl) a v w (by cases v <;> first | rfl | simp [Value.oneCell'] at hv)
theorem ld47 (a : Addr) (w : World) : (loadVar 47 a).run Sang.prog w = (load a).run Sang.prog w := run_loadVar_one Sang.underlying47 rfl a w
theorem st47 (a : Addr) (v : Value) (w : World) (hv : v.oneCell' = true) : (storeVar 47 a v).run Sang.prog w = (store a v).run Sang.prog w := run_storeVar_one (by kernel_rfl) a v w (by cases v <;> first | rfl | simp [Value.oneCell'] at hv)
theorem ld53 (a : Addr) (w : World) : (loadVar 53 a).run Sang.prog w = (load a).run Sang.prog w := run_loadVar_one Sang.underlying53 rfl a w
theorem st53 (a : Addr) (v : Value) (w : World) (hv : v.oneCell' = true) : (storeVar 53 a v).run Sang.prog w = (store a v).run Sang.prog w := run_storeVar_one (by kernel_rfl) a v w (by cases v <;> first | rfl | simp [Value.oneCell'] at hv)
theorem ld54 (a : Addr) (w : World) : (loadVar 54 a).run Sang.prog w = (load a).run Sang.prog w := run_loadVar_one Sang.underlying54 rfl a w
theorem st54 (a : Addr) (v : Value) (w : World) (hv : v.oneCell' = true) : (storeVar 54 a v).run Sang.prog w = (store a v).run Sang.prog w := run_storeVar_one (by kernel_rfl) a v w (by cases v <;> first | rfl | simp [Value.oneCell'] at hv)
theorem ld55 (a : Addr) (w : World) : (loadVar 55 a).run Sang.prog w = (load a).run Sang.prog w := run_loadVar_one Sang.underlying55 rfl a w
theorem st55 (a : Addr) (v : Value) (w : World) (hv : v.oneCell' = true) : (storeVar 55 a v).run Sang.prog w = (store a v).run Sang.prog w := run_storeVar_one (by kernel_rfl) a v w (by cases v <;> first | rfl | simp [Value.oneCell'] at hv)
theorem ld56 (a : Addr) (w : World) : (loadVar 56 a).run Sang.prog w = (load a).run Sang.prog w := run_loadVar_one Sang.underlying56 rfl a w
theorem st56 (a : Addr) (v : Value) (w : World) (hv : v.oneCell' = true) : (storeVar 56 a v).run Sang.prog w = (store a v).run Sang.prog w := run_storeVar_one (by kernel_rfl) a v w (by cases v <;> first | rfl | simp [Value.oneCell'] at hv)
theorem ld57 (a : Addr) (w : World) : (loadVar 57 a).run Sang.prog w = (load a).run Sang.prog w := run_loadVar_one Sang.underlying57 rfl a w
theorem st57 (a : Addr) (v : Value) (w : World) (hv : v.oneCell' = true) : (storeVar 57 a v).run Sang.prog w = (store a v).run Sang.prog w := run_storeVar_one (by kernel_rfl) a v w (by cases v <;> first | rfl | simp [Value.oneCell'] at hv)
theorem ld60 (a : Addr) (w : World) : (loadVar 60 a).run Sang.prog w = (load a).run Sang.prog w := run_loadVar_one Sang.underlying60 rfl a w
theorem st60 (a : Addr) (v : Value) (w : World) (hv : v.oneCell' = true) : (storeVar 60 a v).run Sang.prog w = (store a v).run Sang.prog w := run_storeVar_one (by kernel_rfl) a v w (by cases v <;> first | rfl | simp [Value.oneCell'] at hv)
theorem ld61 (a : Addr) (w : World) : (loadVar 61 a).run Sang.prog w = (load a).run Sang.prog w := run_loadVar_one Sang.underlying61 rfl a w
theorem st61 (a : Addr) (v : Value) (w : World) (hv : v.oneCell' = true) : (storeVar 61 a v).run Sang.prog w = (store a v).run Sang.prog w := run_storeVar_one (by kernel_rfl) a v w (by cases v <;> first | rfl | simp [Value.oneCell'] at hv)
theorem ld62 (a : Addr) (w : World) : (loadVar 62 a).run Sang.prog w = (load a).run Sang.prog w := run_loadVar_one Sang.underlying62 rfl a w
theorem st62 (a : Addr) (v : Value) (w : World) (hv : v.oneCell' = true) : (storeVar 62 a v).run Sang.prog w = (store a v).run Sang.prog w := run_storeVar_one (by kernel_rfl) a v w (by cases v <;> first | rfl | simp [Value.oneCell'] at hv)
theorem ld69 (a : Addr) (w : World) : (loadVar 69 a).run Sang.prog w = (load a).run Sang.prog w := run_loadVar_one Sang.underlying69 rfl a w
theorem st69 (a : Addr) (v : Value) (w : World) (hv : v.oneCell' = true) : (storeVar 69 a v).run Sang.prog w = (store a v).run Sang.prog w := run_storeVar_one (by kernel_rfl) a v w (by cases v <;> first | rfl | simp [Value.oneCell'] at hv)
theorem ld96 (a : Addr) (w : World) : (loadVar 96 a).run Sang.prog w = (load a).run Sang.prog w := run_loadVar_one Sang.underlying96 rfl a w
theorem st96 (a : Addr) (v : Value) (w : World) (hv : v.oneCell' = true) : (storeVar 96 a v).run Sang.prog w = (store a v).run Sang.prog w := run_storeVar_one (by kernel_rfl) a v w (by cases v <;> first | rfl | simp [Value.oneCell'] at hv)
theorem ld104 (a : Addr) (w : World) : (loadVar 104 a).run Sang.prog w = (load a).run Sang.prog w := run_loadVar_one Sang.underlying104 rfl a w
theorem st104 (a : Addr) (v : Value) (w : World) (hv : v.oneCell' = true) : (storeVar 104 a v).run Sang.prog w = (store a v).run Sang.prog w := run_storeVar_one (by kernel_rfl) a v w (by cases v <;> first | rfl | simp [Value.oneCell'] at hv)
theorem ld117 (a : Addr) (w : World) : (loadVar 117 a).run Sang.prog w = (load a).run Sang.prog w := run_loadVar_one Sang.underlying117 rfl a w
theorem st117 (a : Addr) (v : Value) (w : World) (hv : v.oneCell' = true) : (storeVar 117 a v).run Sang.prog w = (store a v).run Sang.prog w := run_storeVar_one (by kernel_rfl) a v w (by cases v <;> first | rfl | simp [Value.oneCell'] at hv)
theorem ld122 (a : Addr) (w : World) : (loadVar 122 a).run Sang.prog w = (load a).run Sang.prog w := run_loadVar_one Sang.underlying122 rfl a w
theorem st122 (a : Addr) (v : Value) (w : World) (hv : v.oneCell' = true) : (storeVar 122 a v).run Sang.prog w = (store a v).run Sang.prog w := run_storeVar_one (by kernel_rfl) a v w (by cases v <;> first | rfl | simp [Value.oneCell'] at hv)
theorem ld124 (a : Addr) (w : World) : (loadVar 124 a).run Sang.prog w = (load a).run Sang.prog w := run_loadVar_one Sang.underlying124 rfl a w
theorem st124 (a : Addr) (v : Value) (w : World) (hv : v.oneCell' = true) : (storeVar 124 a v).run Sang.prog w = (store a v).run Sang.prog w := run_storeVar_one (by kernel_rfl) a v w (by cases v <;> first | rfl | simp [Value.oneCell'] at hv)
theorem ld132 (a : Addr) (w : World) : (loadVar 132 a).run Sang.prog w = (load a).run Sang.prog w := run_loadVar_one Sang.underlying132 rfl a w
theorem st132 (a : Addr) (v : Value) (w : World) (hv : v.oneCell' = true) : (storeVar 132 a v).run Sang.prog w = (store a v).run Sang.prog w := run_storeVar_one (by kernel_rfl) a v w (by cases v <;> first | rfl | simp [Value.oneCell'] at hv)
theorem ld170 (a : Addr) (w : World) : (loadVar 170 a).run Sang.prog w = (load a).run Sang.prog w := run_loadVar_one Sang.underlying170 rfl a w
theorem st170 (a : Addr) (v : Value) (w : World) (hv : v.oneCell' = true) : (storeVar 170 a v).run Sang.prog w = (store a v).run Sang.prog w := run_storeVar_one (by kernel_rfl) a v w (by cases v <;> first | rfl | simp [Value.oneCell'] at hv)
theorem ld181 (a : Addr) (w : World) : (loadVar 181 a).run Sang.prog w = (load a).run Sang.prog w := run_loadVar_one Sang.underlying181 rfl a w
theorem st181 (a : Addr) (v : Value) (w : World) (hv : v.oneCell' = true) : (storeVar 181 a v).run Sang.prog w = (store a v).run Sang.prog w := run_storeVar_one (by kernel_rfl) a v w (by cases v <;> first | rfl | simp [Value.oneCell'] at hv)
theorem ld223 (a : Addr) (w : World) : (loadVar 223 a).run Sang.prog w = (load a).run Sang.prog w := run_loadVar_one Sang.underlying223 rfl a w
theorem st223 (a : Addr) (v : Value) (w : World) (hv : v.oneCell' = true) : (storeVar 223 a v).run Sang.prog w = (store a v).run Sang.prog w := run_storeVar_one (by kernel_rfl) a v w (by cases v <;> first | rfl | simp [Value.oneCell'] at hv)
theorem ld225 (a : Addr) (w : World) : (loadVar 225 a).run Sang.prog w = (load a).run Sang.prog w := run_loadVar_one Sang.underlying225 rfl a w
theorem st225 (a : Addr) (v : Value) (w : World) (hv : v.oneCell' = true) : (storeVar 225 a v).run Sang.prog w = (store a v).run Sang.prog w := run_storeVar_one (by kernel_rfl) a v w (by cases v <;> first | rfl | simp [Value.oneCell'] at hv)
theorem ld228 (a : Addr) (w : World) : (loadVar 228 a).run Sang.prog w = (load a).run Sang.prog w := run_loadVar_one Sang.underlying228 rfl a w
theorem st228 (a : Addr) (v : Value) (w : World) (hv : v.oneCell' = true) : (storeVar 228 a v).run Sang.prog w = (store a v).run Sang.prog w := run_storeVar_one (by kernel_rfl) a v w (by cases v <;> first | rfl | simp [Value.oneCell'] at hv)
theorem ld248 (a : Addr) (w : World) : (loadVar 248 a).run Sang.prog w = (load a).run Sang.prog w := run_loadVar_one Sang.underlying248 rfl a w
theorem st248 (a : Addr) (v : Value) (w : World) (hv : v.oneCell' = true) : (storeVar 248 a v).run Sang.prog w = (store a v).run Sang.prog w := run_storeVar_one (by kernel_rfl) a v w (by cases v <;> first | rfl | simp [Value.oneCell'] at hv)
theorem ld251 (a : Addr) (w : World) : (loadVar 251 a).run Sang.prog w = (load a).run Sang.prog w := run_loadVar_one Sang.underlying251 rfl a w
theorem st251 (a : Addr) (v : Value) (w : World) (hv : v.oneCell' = true) : (storeVar 251 a v).run Sang.prog w = (store a v).run Sang.prog w := run_storeVar_one (by kernel_rfl) a v w (by cases v <;> first | rfl | simp [Value.oneCell'] at hv)
theorem ld262 (a : Addr) (w : World) : (loadVar 262 a).run Sang.prog w = (load a).run Sang.prog w := run_loadVar_one Sang.underlying262 rfl a w
theorem st262 (a : Addr) (v : Value) (w : World) (hv : v.oneCell' = true) : (storeVar 262 a v).run Sang.prog w = (store a v).run Sang.prog w := run_storeVar_one (by kernel_rfl) a v w (by cases v <;> first | rfl | simp [Value.oneCell'] at hv)
theorem ld268 (a : Addr) (w : World) : (loadVar 268 a).run Sang.prog w = (load a).run Sang.prog w := run_loadVar_one Sang.underlying268 rfl a w
theorem st268 (a : Addr) (v : Value) (w : World) (hv : v.oneCell' = true) : (storeVar 268 a v).run Sang.prog w = (store a v).run Sang.prog w := run_storeVar_one (by kernel_rfl) a v w (by cases v <;> first | rfl | simp [Value.oneCell'] at hv)
theorem ld272 (a : Addr) (w : World) : (loadVar 272 a).run Sang.prog w = (load a).run Sang.prog w := run_loadVar_one Sang.underlying272 rfl a w
theorem st272 (a : Addr) (v : Value) (w : World) (hv : v.oneCell' = true) : (storeVar 272 a v).run Sang.prog w = (store a v).run Sang.prog w := run_storeVar_one (by kernel_rfl) a v w (by cases v <;> first | rfl | simp [Value.oneCell'] at hv)
theorem ld278 (a : Addr) (w : World) : (loadVar 278 a).run Sang.prog w = (load a).run Sang.prog w := run_loadVar_one Sang.underlying278 rfl a w
theorem st278 (a : Addr) (v : Value) (w : World) (hv : v.oneCell' = true) : (storeVar 278 a v).run Sang.prog w = (store a v).run Sang.prog w := run_storeVar_one (by kernel_rfl) a v w (by cases v <;> first | rfl | simp [Value.oneCell'] at hv)
theorem ld289 (a : Addr) (w : World) : (loadVar 289 a).run Sang.prog w = (load a).run Sang.prog w := run_loadVar_one Sang.underlying289 rfl a w
theorem st289 (a : Addr) (v : Value) (w : World) (hv : v.oneCell' = true) : (storeVar 289 a v).run Sang.prog w = (store a v).run Sang.prog w := run_storeVar_one (by kernel_rfl) a v w (by cases v <;> first | rfl | simp [Value.oneCell'] at hv)

/-- a block's values, its type, whether it is a plain block -/
def blk (w : World) (b : Nat) : List Value := match w.heap[b]? with | some (.cells cs _ _) => cs.toList | _ => []
def typ (w : World) (b : Nat) : TypeId := match w.heap[b]? with | some (.cells _ t _) => t | _ => 0
def okb (w : World) (b : Nat) : Bool := match w.heap[b]? with | some (.cells _ _ fr) => fr == (0, 0) | _ => false
theorem VB.q {w : World} {b : Nat} {t : TypeId} {L : List Value} (h : VB w b t L) : blk w b = L ∧ typ w b = t ∧ okb w b = true := by
  unfold VB at h
  simp [blk, typ, okb, h]
theorem VB.of_okb {w : World} {b : Nat} (h : okb w b = true) : VB w b (typ w b) (blk w b) := by
  unfold okb at h
  unfold VB typ blk
  cases hh : w.heap[b]? with
  | none => rw [hh] at h; simp at h
  | some o =>
    rw [hh] at h
    cases o with
    | cells cs t fr =>
      simp only at h ⊢
      have : fr = (0, 0) := by simpa using h
      subst this
      simp
    | _ => simp at h
theorem ld23 (w : World) (b o : Nat) (h : okb w b = true) (hn : o + 20 ≤ (blk w b).length) : (loadVar 23 ⟨b, o, none⟩).run Sang.prog w = .ok (.agg (subV (blk w b) o 20).toArray) w := run_loadVarV w b o 20 _ 23 _ (VB.of_okb h) _ Sang.underlying23 rfl hn (by kernel_rfl)
theorem st23 (w : World) (b o : Nat) (M : List Value) (h : okb w b = true) (hf : Flat M) (hl : M.length = 20) (hn : o + 20 ≤ (blk w b).length) : (storeVar 23 ⟨b, o, none⟩ (.agg M.toArray)).run Sang.prog w = .ok () (setV w b (typ w b) (layV (blk w b) o M)) := run_storeVarV w b o _ 23 _ M hf (VB.of_okb h) (by rw [hl]; exact hn) (by rw [hl]; kernel_rfl)
theorem ld26 (w : World) (b o : Nat) (h : okb w b = true) (hn : o + 32 ≤ (blk w b).length) : (loadVar 26 ⟨b, o, none⟩).run Sang.prog w = .ok (.agg (subV (blk w b) o 32).toArray) w := run_loadVarV w b o 32 _ 26 _ (VB.of_okb h) _ Sang.underlying26 rfl hn (by kernel_rfl)
theorem st26 (w : World) (b o : Nat) (M : List Value) (h : okb w b = true) (hf : Flat M) (hl : M.length = 32) (hn : o + 32 ≤ (blk w b).length) : (storeVar 26 ⟨b, o, none⟩ (.agg M.toArray)).run Sang.prog w = .ok () (setV w b (typ w b) (layV (blk w b) o M)) := run_storeVarV w b o _ 26 _ M hf (VB.of_okb h) (by rw [hl]; exact hn) (by rw [hl]; kernel_rfl)
theorem ld30 (w : World) (b o : Nat) (h : okb w b = true) (hn : o + 174 ≤ (blk w b).length) : (loadVar 30 ⟨b, o, none⟩).run Sang.prog w = .ok (.agg (subV (blk w b) o 174).toArray) w := run_loadVarV w b o 174 _ 30 _ (VB.of_okb h) _ Sang.underlying30 rfl hn (by kernel_rfl)
theorem st30 (w : World) (b o : Nat) (M : List Value) (h : okb w b = true) (hf : Flat M) (hl : M.length = 174) (hn : o + 174 ≤ (blk w b).length) : (storeVar 30 ⟨b, o, none⟩ (.agg M.toArray)).run Sang.prog w = .ok () (setV w b (typ w b) (layV (blk w b) o M)) := run_storeVarV w b o _ 30 _ M hf (VB.of_okb h) (by rw [hl]; exact hn) (by rw [hl]; kernel_rfl)
theorem ld37 (w : World) (b o : Nat) (h : okb w b = true) (hn : o + 25 ≤ (blk w b).length) : (loadVar 37 ⟨b, o, none⟩).run Sang.prog w = .ok (.agg (subV (blk w b) o 25).toArray) w := run_loadVarV w b o 25 _ 37 _ (VB.of_okb h) _ Sang.underlying37 rfl hn (by kernel_rfl)
theorem st37 (w : World) (b o : Nat) (M : List Value) (h : okb w b = true) (hf : Flat M) (hl : M.length = 25) (hn : o + 25 ≤ (blk w b).length) : (storeVar 37 ⟨b, o, none⟩ (.agg M.toArray)).run Sang.prog w = .ok () (setV w b (typ w b) (layV (blk w b) o M)) := run_storeVarV w b o _ 37 _ M hf (VB.of_okb h) (by rw [hl]; exact hn) (by rw [hl]; kernel_rfl)
theorem ld59 (w : World) (b o : Nat) (h : okb w b = true) (hn : o + 8 ≤ (blk w b).length) : (loadVar 59 ⟨b, o, none⟩).run Sang.prog w = .ok (.agg (subV (blk w b) o 8).toArray) w := run_loadVarV w b o 8 _ 59 _ (VB.of_okb h) _ Sang.underlying59 rfl hn (by kernel_rfl)
theorem st59 (w : World) (b o : Nat) (M : List Value) (h : okb w b = true) (hf : Flat M) (hl : M.length = 8) (hn : o + 8 ≤ (blk w b).length) : (storeVar 59 ⟨b, o, none⟩ (.agg M.toArray)).run Sang.prog w = .ok () (setV w b (typ w b) (layV (blk w b) o M)) := run_storeVarV w b o _ 59 _ M hf (VB.of_okb h) (by rw [hl]; exact hn) (by rw [hl]; kernel_rfl)
theorem ld64 (w : World) (b o : Nat) (h : okb w b = true) (hn : o + 120 ≤ (blk w b).length) : (loadVar 64 ⟨b, o, none⟩).run Sang.prog w = .ok (.agg (subV (blk w b) o 120).toArray) w := run_loadVarV w b o 120 _ 64 _ (VB.of_okb h) _ Sang.underlying64 rfl hn (by kernel_rfl)
theorem st64 (w : World) (b o : Nat) (M : List Value) (h : okb w b = true) (hf : Flat M) (hl : M.length = 120) (hn : o + 120 ≤ (blk w b).length) : (storeVar 64 ⟨b, o, none⟩ (.agg M.toArray)).run Sang.prog w = .ok () (setV w b (typ w b) (layV (blk w b) o M)) := run_storeVarV w b o _ 64 _ M hf (VB.of_okb h) (by rw [hl]; exact hn) (by rw [hl]; kernel_rfl)
theorem ld66 (w : World) (b o : Nat) (h : okb w b = true) (hn : o + 179 ≤ (blk w b).length) : (loadVar 66 ⟨b, o, none⟩).run Sang.prog w = .ok (.agg (subV (blk w b) o 179).toArray) w := run_loadVarV w b o 179 _ 66 _ (VB.of_okb h) _ Sang.underlying66 rfl hn (by kernel_rfl)
theorem st66 (w : World) (b o : Nat) (M : List Value) (h : okb w b = true) (hf : Flat M) (hl : M.length = 179) (hn : o + 179 ≤ (blk w b).length) : (storeVar 66 ⟨b, o, none⟩ (.agg M.toArray)).run Sang.prog w = .ok () (setV w b (typ w b) (layV (blk w b) o M)) := run_storeVarV w b o _ 66 _ M hf (VB.of_okb h) (by rw [hl]; exact hn) (by rw [hl]; kernel_rfl)
theorem ld75 (w : World) (b o : Nat) (h : okb w b = true) (hn : o + 179 ≤ (blk w b).length) : (loadVar 75 ⟨b, o, none⟩).run Sang.prog w = .ok (.agg (subV (blk w b) o 179).toArray) w := run_loadVarV w b o 179 _ 75 _ (VB.of_okb h) _ Sang.underlying75 rfl hn (by kernel_rfl)
theorem st75 (w : World) (b o : Nat) (M : List Value) (h : okb w b = true) (hf : Flat M) (hl : M.length = 179) (hn : o + 179 ≤ (blk w b).length) : (storeVar 75 ⟨b, o, none⟩ (.agg M.toArray)).run Sang.prog w = .ok () (setV w b (typ w b) (layV (blk w b) o M)) := run_storeVarV w b o _ 75 _ M hf (VB.of_okb h) (by rw [hl]; exact hn) (by rw [hl]; kernel_rfl)
theorem ld98 (w : World) (b o : Nat) (h : okb w b = true) (hn : o + 55 ≤ (blk w b).length) : (loadVar 98 ⟨b, o, none⟩).run Sang.prog w = .ok (.agg (subV (blk w b) o 55).toArray) w := run_loadVarV w b o 55 _ 98 _ (VB.of_okb h) _ Sang.underlying98 rfl hn (by kernel_rfl)
theorem st98 (w : World) (b o : Nat) (M : List Value) (h : okb w b = true) (hf : Flat M) (hl : M.length = 55) (hn : o + 55 ≤ (blk w b).length) : (storeVar 98 ⟨b, o, none⟩ (.agg M.toArray)).run Sang.prog w = .ok () (setV w b (typ w b) (layV (blk w b) o M)) := run_storeVarV w b o _ 98 _ M hf (VB.of_okb h) (by rw [hl]; exact hn) (by rw [hl]; kernel_rfl)
theorem ld106 (w : World) (b o : Nat) (h : okb w b = true) (hn : o + 24 ≤ (blk w b).length) : (loadVar 106 ⟨b, o, none⟩).run Sang.prog w = .ok (.agg (subV (blk w b) o 24).toArray) w := run_loadVarV w b o 24 _ 106 _ (VB.of_okb h) _ Sang.underlying106 rfl hn (by kernel_rfl)
theorem st106 (w : World) (b o : Nat) (M : List Value) (h : okb w b = true) (hf : Flat M) (hl : M.length = 24) (hn : o + 24 ≤ (blk w b).length) : (storeVar 106 ⟨b, o, none⟩ (.agg M.toArray)).run Sang.prog w = .ok () (setV w b (typ w b) (layV (blk w b) o M)) := run_storeVarV w b o _ 106 _ M hf (VB.of_okb h) (by rw [hl]; exact hn) (by rw [hl]; kernel_rfl)
theorem ld119 (w : World) (b o : Nat) (h : okb w b = true) (hn : o + 60 ≤ (blk w b).length) : (loadVar 119 ⟨b, o, none⟩).run Sang.prog w = .ok (.agg (subV (blk w b) o 60).toArray) w := run_loadVarV w b o 60 _ 119 _ (VB.of_okb h) _ Sang.underlying119 rfl hn (by kernel_rfl)
theorem st119 (w : World) (b o : Nat) (M : List Value) (h : okb w b = true) (hf : Flat M) (hl : M.length = 60) (hn : o + 60 ≤ (blk w b).length) : (storeVar 119 ⟨b, o, none⟩ (.agg M.toArray)).run Sang.prog w = .ok () (setV w b (typ w b) (layV (blk w b) o M)) := run_storeVarV w b o _ 119 _ M hf (VB.of_okb h) (by rw [hl]; exact hn) (by rw [hl]; kernel_rfl)
theorem sf23 (w : World) (cs : Array Value) (M : List Value) (hc : cs.size = 20) (hf : Flat M) (hl : M.length = 20) : (storeVar 23 ⟨w.heap.size, 0, none⟩ (.agg M.toArray)).run Sang.prog (w.alloc (.cells cs 23)) = .ok () (w.alloc (.cells M.toArray 23)) := by
  have h : VB (w.alloc (.cells cs 23)) w.heap.size 23 cs.toList := VB.newAt rfl (by simp)
  have q := h.q
  rw [st23 _ _ 0 M q.2.2 hf hl (by rw [q.1]; simp [hc]), q.1, q.2.1, layV_all _ _ (by simp [hc, hl]), setV_alloc]
theorem sf26 (w : World) (cs : Array Value) (M : List Value) (hc : cs.size = 32) (hf : Flat M) (hl : M.length = 32) : (storeVar 26 ⟨w.heap.size, 0, none⟩ (.agg M.toArray)).run Sang.prog (w.alloc (.cells cs 26)) = .ok () (w.alloc (.cells M.toArray 26)) := by
  have h : VB (w.alloc (.cells cs 26)) w.heap.size 26 cs.toList := VB.newAt rfl (by simp)
  have q := h.q
  rw [st26 _ _ 0 M q.2.2 hf hl (by rw [q.1]; simp [hc]), q.1, q.2.1, layV_all _ _ (by simp [hc, hl]), setV_alloc]
theorem sf30 (w : World) (cs : Array Value) (M : List Value) (hc : cs.size = 174) (hf : Flat M) (hl : M.length = 174) : (storeVar 30 ⟨w.heap.size, 0, none⟩ (.agg M.toArray)).run Sang.prog (w.alloc (.cells cs 30)) = .ok () (w.alloc (.cells M.toArray 30)) := by
  have h : VB (w.alloc (.cells cs 30)) w.heap.size 30 cs.toList := VB.newAt rfl (by simp)
  have q := h.q
  rw [st30 _ _ 0 M q.2.2 hf hl (by rw [q.1]; simp [hc]), q.1, q.2.1, layV_all _ _ (by simp [hc, hl]), setV_alloc]
theorem sf37 (w : World) (cs : Array Value) (M : List Value) (hc : cs.size = 25) (hf : Flat M) (hl : M.length = 25) : (storeVar 37 ⟨w.heap.size, 0, none⟩ (.agg M.toArray)).run Sang.prog (w.alloc (.cells cs 37)) = .ok () (w.alloc (.cells M.toArray 37)) := by
  have h : VB (w.alloc (.cells cs 37)) w.heap.size 37 cs.toList := VB.newAt rfl (by simp)
  have q := h.q
  rw [st37 _ _ 0 M q.2.2 hf hl (by rw [q.1]; simp [hc]), q.1, q.2.1, layV_all _ _ (by simp [hc, hl]), setV_alloc]
theorem sf59 (w : World) (cs : Array Value) (M : List Value) (hc : cs.size = 8) (hf : Flat M) (hl : M.length = 8) : (storeVar 59 ⟨w.heap.size, 0, none⟩ (.agg M.toArray)).run Sang.prog (w.alloc (.cells cs 59)) = .ok () (w.alloc (.cells M.toArray 59)) := by
  have h : VB (w.alloc (.cells cs 59)) w.heap.size 59 cs.toList := VB.newAt rfl (by simp)
  have q := h.q
  rw [st59 _ _ 0 M q.2.2 hf hl (by rw [q.1]; simp [hc]), q.1, q.2.1, layV_all _ _ (by simp [hc, hl]), setV_alloc]
theorem sf64 (w : World) (cs : Array Value) (M : List Value) (hc : cs.size = 120) (hf : Flat M) (hl : M.length = 120) : (storeVar 64 ⟨w.heap.size, 0, none⟩ (.agg M.toArray)).run Sang.prog (w.alloc (.cells cs 64)) = .ok () (w.alloc (.cells M.toArray 64)) := by
  have h : VB (w.alloc (.cells cs 64)) w.heap.size 64 cs.toList := VB.newAt rfl (by simp)
  have q := h.q
  rw [st64 _ _ 0 M q.2.2 hf hl (by rw [q.1]; simp [hc]), q.1, q.2.1, layV_all _ _ (by simp [hc, hl]), setV_alloc]
theorem sf66 (w : World) (cs : Array Value) (M : List Value) (hc : cs.size = 179) (hf : Flat M) (hl : M.length = 179) : (storeVar 66 ⟨w.heap.size, 0, none⟩ (.agg M.toArray)).run Sang.prog (w.alloc (.cells cs 66)) = .ok () (w.alloc (.cells M.toArray 66)) := by
  have h : VB (w.alloc (.cells cs 66)) w.heap.size 66 cs.toList := VB.newAt rfl (by simp)
  have q := h.q
  rw [st66 _ _ 0 M q.2.2 hf hl (by rw [q.1]; simp [hc]), q.1, q.2.1, layV_all _ _ (by simp [hc, hl]), setV_alloc]
theorem sf75 (w : World) (cs : Array Value) (M : List Value) (hc : cs.size = 179) (hf : Flat M) (hl : M.length = 179) : (storeVar 75 ⟨w.heap.size, 0, none⟩ (.agg M.toArray)).run Sang.prog (w.alloc (.cells cs 75)) = .ok () (w.alloc (.cells M.toArray 75)) := by
  have h : VB (w.alloc (.cells cs 75)) w.heap.size 75 cs.toList := VB.newAt rfl (by simp)
  have q := h.q
  rw [st75 _ _ 0 M q.2.2 hf hl (by rw [q.1]; simp [hc]), q.1, q.2.1, layV_all _ _ (by simp [hc, hl]), setV_alloc]
theorem sf98 (w : World) (cs : Array Value) (M : List Value) (hc : cs.size = 55) (hf : Flat M) (hl : M.length = 55) : (storeVar 98 ⟨w.heap.size, 0, none⟩ (.agg M.toArray)).run Sang.prog (w.alloc (.cells cs 98)) = .ok () (w.alloc (.cells M.toArray 98)) := by
  have h : VB (w.alloc (.cells cs 98)) w.heap.size 98 cs.toList := VB.newAt rfl (by simp)
  have q := h.q
  rw [st98 _ _ 0 M q.2.2 hf hl (by rw [q.1]; simp [hc]), q.1, q.2.1, layV_all _ _ (by simp [hc, hl]), setV_alloc]
theorem sf106 (w : World) (cs : Array Value) (M : List Value) (hc : cs.size = 24) (hf : Flat M) (hl : M.length = 24) : (storeVar 106 ⟨w.heap.size, 0, none⟩ (.agg M.toArray)).run Sang.prog (w.alloc (.cells cs 106)) = .ok () (w.alloc (.cells M.toArray 106)) := by
  have h : VB (w.alloc (.cells cs 106)) w.heap.size 106 cs.toList := VB.newAt rfl (by simp)
  have q := h.q
  rw [st106 _ _ 0 M q.2.2 hf hl (by rw [q.1]; simp [hc]), q.1, q.2.1, layV_all _ _ (by simp [hc, hl]), setV_alloc]
theorem sf119 (w : World) (cs : Array Value) (M : List Value) (hc : cs.size = 60) (hf : Flat M) (hl : M.length = 60) : (storeVar 119 ⟨w.heap.size, 0, none⟩ (.agg M.toArray)).run Sang.prog (w.alloc (.cells cs 119)) = .ok () (w.alloc (.cells M.toArray 119)) := by
  have h : VB (w.alloc (.cells cs 119)) w.heap.size 119 cs.toList := VB.newAt rfl (by simp)
  have q := h.q
  rw [st119 _ _ 0 M q.2.2 hf hl (by rw [q.1]; simp [hc]), q.1, q.2.1, layV_all _ _ (by simp [hc, hl]), setV_alloc]

theorem oc_slice (a : Option Addr) (n c : Nat) : (Value.slice a n c).oneCell' = true := by simp [Value.oneCell']
theorem oc_int (k : IntKind) (n : Int) : (Value.int k n).oneCell' = true := by simp [Value.oneCell']
theorem oc_bool (b : Bool) : (Value.bool b).oneCell' = true := by simp [Value.oneCell']
theorem oc_pointer (a : Option Addr) : (Value.pointer a).oneCell' = true := by simp [Value.oneCell']
attribute [go_sem] oc_slice oc_int oc_bool oc_pointer
theorem sv_store (a : Addr) (v : Value) (w : World) (hv : v.oneCell' = true) (hc : (w.cell? a).isSome = true) (hf : w.frozen? a = false) : (store a v).run Sang.prog w = .ok () (w.setCell a v) := by
  rw [run_store Sang.prog w a v .plain hv]
  cases h : w.cell? a with
  | none => rw [h] at hc; cases hc
  | some x => simp [hf]
attribute [go_sem] sv_store
attribute [go_sem] sf23 sf26 sf30 sf37 sf59 sf64 sf66 sf75 sf98 sf106 sf119
attribute [go_sem] ld3 st3 ld4 st4 ld5 st5 ld15 st15 ld16 st16 ld17 st17 ld24 st24 ld27 st27 ld28 st28 ld35 st35 ld39 st39 ld40 st40 ld45 st45 ld47 st47 ld53 st53 ld54 st54 ld55 st55 ld56 st56 ld57 st57 ld60 st60 ld61 st61 ld62 st62 ld69 st69 ld96 st96 ld104 st104 ld117 st117 ld122 st122 ld124 st124 ld132 st132 ld170 st170 ld181 st181 ld223 st223 ld225 st225 ld228 st228 ld248 st248 ld251 st251 ld262 st262 ld268 st268 ld272 st272 ld278 st278 ld289 st289
attribute [go_sem] ld23 st23 ld26 st26 ld30 st30 ld37 st37 ld59 st59 ld64 st64 ld66 st66 ld75 st75 ld98 st98 ld106 st106 ld119 st119

theorem VB.set {w : World} {b : Nat} {t : TypeId} {L : List Value} (h : VB w b t L) {i : Nat} (hi : i < L.length) (v : Value) : VB (w.setCell ⟨b, i, none⟩ v) b t (L.set i v) := by
  have hl := h.lt
  have h1 : w.heap[b] = .cells L.toArray t (0, 0) := by
    unfold VB at h
    exact (Array.getElem?_eq_some_iff.1 h).2
  unfold VB World.setCell
  simp only
  rw [Array.getElem?_modify, if_pos rfl]
  rw [Array.getElem?_eq_getElem hl, h1]
  simp

theorem setV_cell {w : World} {b : Nat} {t : TypeId} {L : List Value} (hl : b < w.heap.size) (i : Nat) {v : Value} (hi : L[i]? = some v) : (setV w b t L).cell? ⟨b, i, none⟩ = some v := (VB.setV hl t L).cell i hi

/-- an empty slice gets its first element -/
theorem own_one {w w' : World} {e : TypeId} {size : Nat} {v : Value} {xs : List Value} (h : w'.ownsRow w.heap.size e size v (0 + 1) ([] ++ xs)) (hg : w.grownBy w' none) :
    ∃ g cap L, v = .slice (some ⟨g, 0, none⟩) 1 cap ∧ w.heap.size ≤ g ∧ VB w' g e L ∧ 1 ≤ cap ∧ cap ≤ maxLen ∧ L.length = cap * size ∧ subV L 0 size = xs ∧ Fr w.heap.size no w w' := by
  obtain ⟨hl, h | ⟨g, cap, cur, rfl, h1, h2, h3, h4, h5, h6⟩⟩ := h
  · exact absurd h.2 (by omega)
  · refine ⟨g, cap, cur.toList, rfl, h1, ?_, h3, h4, by simpa using h5, ?_, ⟨hg.os, hg.tape, hg.output, hg.size, fun k hk _ => hg.block k hk (by simp)⟩⟩
    · unfold VB; rw [h2]
    · unfold subV; simpa using h6

theorem wl_append_nil {P : Program} {w : World} {ops : Array Oper} {rest : List Oper} {Q : Exit → Act → World → Prop} {a : Act} {dst : Option Tmp} {type : TypeId} {pos : String} {after : Array Edge}
    (s x : Operand) (t e : TypeId) (i : TypeInfo) (z : Value) (size bytes : Nat) (h1 : P.underlying t = some (.slice e)) (h2 : P.info? e = some i) (h3 : i.zero = some z) (h4 : i.size = size) (h5 : i.bytes = bytes) (h6 : z.cells.size = size) (h7 : 0 < size) (h8 : bytes ≤ 4096)
    (hs : a.eval s = .slice none 0 0) (b c : Nat) (t' : TypeId) (N : List Value) (hx : a.eval x = .slice (some ⟨b, 0, none⟩) 1 c) (hV : VB w b t' N) (hn : N.length = size) (hf : Flat N)
    (hK : ∀ g cap L w', w.heap.size ≤ g → VB w' g e L → 1 ≤ cap → cap ≤ maxLen → L.length = cap * size → subV L 0 size = N → Fr w.heap.size no w w' → wpList P ops Q rest (a.put dst (.slice (some ⟨g, 0, none⟩) 1 cap)) w') :
    wpList P ops Q (⟨dst, .call { callee := .builtin .append, args := #[s, x], argTypes := #[t, t] }, type, pos, after, none⟩ :: rest) a w := by
  refine wpList_append_grows w rfl s x t rfl e i z size bytes h1 h2 h3 h4 h5 h6 h7 none 0 0 [] hs (fun _ => ⟨rfl, rfl⟩) (by simp) (by simp) ⟨b, 0, none⟩ 1 c N hx (by omega) ?_ hf (by omega) (by unfold maxLen; omega) (by omega) ?_
  · intro j u hj
    have := hV.cell j hj
    rw [Addr.add_lit]
    simpa using this
  · intro v' w' ho hg
    obtain ⟨g, cap, L, rfl, r1, r2, r3, r4, r5, r6, r7⟩ := own_one ho hg
    exact hK g cap L w' r1 r2 r3 r4 r5 r6 r7
end Go.Proofs.YgcsanGreat
