/-
  Laws on whole rows of integers inside a region that draws its order; results in two cells.
-/
import Derived.Test.YgcsanMidC
import Derived.Deep.RegionLaw
namespace Go.Proofs.Ygcsan
open Go.RowKit
set_option linter.unusedSimpArgs false
set_option linter.unusedVariables false

section
variable {P : Program} {ops : Array Oper} {Q : Exit → Act → World → Prop} {a : Act} {w : World} {dst : Option Tmp} {type : TypeId} {pos : String} {after : Array Edge} {K : Act → World → Prop} {E : Prop}

theorem run_loadVar_part (w : World) (b : Nat) (k : IntKind) (t ty : TypeId) (L : List Nat) (h : IB w b k t L) (d : TypeDesc) (hd : P.underlying ty = some d)
    (hagg : rowish d = true) (n : Nat) (hn : n ≤ L.length) (hi : (P.info? ty).map (·.size) = some n) :
    (loadVar ty ⟨b, 0, none⟩).run P w = .ok (.agg (ints k (L.take n))) w := by
  obtain ⟨i, hi1, hi2⟩ := Option.map_eq_some_iff.1 hi
  have hl := run_loadCellsFrom (P := P) w b (ints k L) t (0, 0) h 0 n 0 #[] (by simp [ints_size]; omega)
  have e : (ints k L).extract (0 + 0) (0 + 0 + n) = ints k (L.take n) := by
    simp [ints]
  rw [e] at hl
  have hl' : (loadCells ⟨b, 0, none⟩ n).run P w = .ok (ints k (L.take n)) w := by
    unfold loadCells; rw [hl]; simp
  cases d <;> simp_all [rowish, loadVar, isAgg, underlying, sizeOf, typeInfo, go_sem]

theorem step_load (ty : TypeId) (x : Operand) (b : Nat) (k : IntKind) (t : TypeId) (L : List Nat) (n : Nat) (hx : a.eval x = .pointer (some ⟨b, 0, none⟩)) (h : IB w b k t L)
    (d : TypeDesc) (hd : P.underlying ty = some d) (hagg : rowish d = true) (hn : n ≤ L.length) (hi : (P.info? ty).map (·.size) = some n)
    (hK : K (a.put dst (.agg (ints k (L.take n)))) w) : if Region.wanted ⟨dst, .load ty x, type, pos, after, none⟩ (yielded ops a.tmps) = true then Oper.wp P ⟨dst, .load ty x, type, pos, after, none⟩ a w K Q else E := by
  rw [if_pos (by simp [Region.wanted])]
  have hr := run_loadVar_part (P := P) w b k t ty L h d hd hagg n hn hi
  unfold Oper.wp execOp
  simp only [hx, Instr.loadAt, Instr.sureAddr, Sem.run_bind, Sem.run_pure, Result.andThen_ok, hr]
  exact hK

theorem step_store (ty : TypeId) (x y : Operand) (b : Nat) (k : IntKind) (t : TypeId) (L M : List Nat) (hx : a.eval x = .pointer (some ⟨b, 0, none⟩)) (hy : a.eval y = .agg (ints k M)) (h : IB w b k t L)
    (hM : M.length = L.length) (hi : (P.info? ty).map (·.size) = some L.length)
    (hK : K (a.put dst undef) (setRow w b k t M)) : if Region.wanted ⟨dst, .store ty x y, type, pos, after, none⟩ (yielded ops a.tmps) = true then Oper.wp P ⟨dst, .store ty x y, type, pos, after, none⟩ a w K Q else E := by
  rw [if_pos (by simp [Region.wanted])]
  have hr := run_storeVar_ints (P := P) w b k t ty L M h hM hi
  unfold Oper.wp execOp
  simp only [hx, hy, Instr.storeAt, Instr.sureAddr, Sem.run_bind, Sem.run_pure, Result.andThen_ok, hr]
  exact hK

theorem step_load_all (ty : TypeId) (x : Operand) (b : Nat) (k : IntKind) (t : TypeId) (L : List Nat) (hx : a.eval x = .pointer (some ⟨b, 0, none⟩)) (h : IB w b k t L)
    (d : TypeDesc) (hd : P.underlying ty = some d) (hagg : rowish d = true) (hi : (P.info? ty).map (·.size) = some L.length)
    (hK : K (a.put dst (.agg (ints k L))) w) : if Region.wanted ⟨dst, .load ty x, type, pos, after, none⟩ (yielded ops a.tmps) = true then Oper.wp P ⟨dst, .load ty x, type, pos, after, none⟩ a w K Q else E := by
  refine step_load ty x b k t L L.length hx h d hd hagg (Nat.le_refl _) hi ?_
  rw [List.take_length]
  exact hK

theorem step_store_same (ty : TypeId) (x y : Operand) (b : Nat) (k : IntKind) (t : TypeId) (L : List Nat) (hx : a.eval x = .pointer (some ⟨b, 0, none⟩)) (hy : a.eval y = .agg (ints k L)) (h : IB w b k t L)
    (hi : (P.info? ty).map (·.size) = some L.length)
    (hK : K (a.put dst undef) w) : if Region.wanted ⟨dst, .store ty x y, type, pos, after, none⟩ (yielded ops a.tmps) = true then Oper.wp P ⟨dst, .store ty x y, type, pos, after, none⟩ a w K Q else E := by
  refine step_store ty x y b k t L L hx hy h rfl hi ?_
  rw [setRow_self h]
  exact hK

theorem step_copy (tt tt' e : TypeId) (x y : Operand) (b o dl cap : Nat) (k : IntKind) (t : TypeId) (L M : List Nat) (v : Value) (hx : a.eval x = .slice (some ⟨b, o, none⟩) dl cap) (hy : a.eval y = v)
    (h : IB w b k t L) (hv : Sl w k v M) (hd : o + dl ≤ L.length) (i : TypeInfo) (h1 : P.underlying tt = some (.slice e)) (h2 : P.info? e = some i) (h4 : i.size = 1)
    (hK : K (a.put dst (.int .i64 (min M.length dl : Nat))) (setRow w b k t (lay L o (M.take dl)))) :
    if Region.wanted ⟨dst, .call { callee := .builtin .copy, args := #[x, y], argTypes := #[tt, tt'] }, type, pos, after, none⟩ (yielded ops a.tmps) = true then
      Oper.wp P ⟨dst, .call { callee := .builtin .copy, args := #[x, y], argTypes := #[tt, tt'] }, type, pos, after, none⟩ a w K Q else E := by
  rw [if_pos (by simp [Region.wanted])]
  obtain ⟨ad, c, rfl, hl1, hl2, hl3⟩ := hv
  have hm : Nat.min M.length dl = (M.take dl).length := by simp [Nat.min_comm, Nat.min_def]
  have hfc : (Builtin.firstCells 1 (Nat.min M.length dl) (.slice ad M.length c)).run P w = .ok (ints k (M.take dl)) w := by
    rcases hl3 with rfl | ⟨b', o', rfl, hc⟩
    · cases ad with
      | none => simp [Builtin.firstCells, ints]
      | some ad => simp [Builtin.firstCells, ints, loadCells, loadCellsFrom]
    · have := run_loadCells_cells (P := P) w b' o' k M (Nat.min M.length dl) 0 #[] (by simp [Nat.min_def]; split <;> omega) hc
      simp only [Builtin.firstCells, loadCells, Nat.mul_one, this]
      simp only [List.drop_zero, Array.empty_append]
      congr 2
      rw [hm]
      simp
  have h5 : P.cellsOf e = 1 := by simp [Program.cellsOf, h2, h4]
  have hst := run_storeCells_ints (P := P) (M.take dl) w b k t L o 0 h (by simp; omega)
  have e1 : (ints k (M.take dl)).toList = (M.take dl).map fun (n : Nat) => Value.int k (n : Int) := by simp [ints]
  unfold Oper.wp execOp
  simp only [resolve, invoke, builtin, Sem.run_bind, Sem.run_pure, Result.andThen_ok, List.map_toArray, List.map_cons, List.map_nil, hx, hy, Builtin.copy_, List.getElem?_toArray, List.getElem?_cons_zero,
    List.getElem?_cons_succ, run_underlying h1, Builtin.lenOf, run_sizeOf w h2, h5]
  simp only [hfc, e1, hst, Result.andThen_ok, Sem.run_bind, Sem.run_pure, Nat.add_zero, goInt]
  exact hK

theorem results_two {fn : Func} {t t2 : Tmp} {ty ty2 : TypeId} (hr : fn.results = #[.cell t ty, .cell t2 ty2]) {tmps : Array Value} {w : World} {b b2 : Nat} {k k2 : IntKind} {t' t2' : TypeId} {L L2 : List Nat}
    (hp : tmps.getD t undef = .pointer (some ⟨b, 0, none⟩)) (h : IB w b k t' L) (hp2 : tmps.getD t2 undef = .pointer (some ⟨b2, 0, none⟩)) (h2 : IB w b2 k2 t2' L2)
    (d : TypeDesc) (hd : P.underlying ty = some d) (hagg : rowish d = true) (hi : (P.info? ty).map (·.size) = some L.length)
    (d2 : TypeDesc) (hd2 : P.underlying ty2 = some d2) (hagg2 : rowish d2 = true) (hi2 : (P.info? ty2).map (·.size) = some L2.length) :
    (results fn tmps).run P w = .ok (.tuple #[.agg (ints k L), .agg (ints k2 L2)]) w := by
  have hl := run_loadVar_ints (P := P) w b k t' ty L h d hd hagg hi
  have hl2 := run_loadVar_ints (P := P) w b2 k2 t2' ty2 L2 h2 d2 hd2 hagg2 hi2
  have hp' : tmps[t]?.getD undef = .pointer (some ⟨b, 0, none⟩) := by simpa using hp
  have hp2' : tmps[t2]?.getD undef = .pointer (some ⟨b2, 0, none⟩) := by simpa using hp2
  simp [results, hr, hp', hp2', asAddr, hl, hl2]
end
theorem siz41 : (Sang.prog.info? 41).map (·.size) = some 3 := by kernel_rfl
theorem und95 : Sang.prog.underlying 95 = some (.array 17 24) := by kernel_rfl
theorem siz95 : (Sang.prog.info? 95).map (·.size) = some 17 := by kernel_rfl
end Go.Proofs.Ygcsan
