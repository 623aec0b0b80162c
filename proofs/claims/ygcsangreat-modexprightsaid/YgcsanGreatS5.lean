/-
  make and copy of rows of structs; addrsOf; bytesOf, natOf, NativeRun once more, with fresh results.
-/
import Derived.Test.YgcsanGreatS4
namespace Go.Proofs.YgcsanGreat
open Go.RowKit
set_option linter.unusedSimpArgs false
set_option linter.unusedVariables false
attribute [-go_sem] loadVar storeVar Instr.build Instr.fill Instr.buildSlice Builtin.append_


section
variable {P : Program} {ops : Array Oper} {rest : List Oper} {Q : Exit → Act → World → Prop} {a : Act} {w : World} {dst : Option Tmp} {type : TypeId} {pos : String} {after : Array Edge}
theorem wl_makeV (ty e : TypeId) (x y : Operand) (kl kc : IntKind) (n size : Nat) (hx : a.eval x = .int kl (n : Int)) (hy : a.eval y = .int kc (n : Int)) (i : TypeInfo) (z : Value)
    (h1 : P.underlying ty = some (.slice e)) (h2 : P.info? e = some i) (h3 : i.zero = some z) (h4 : i.size = size) (hb : i.bytes * n ≤ 281474976710656) (hn : n ≤ maxLen)
    (hK : ∀ Z w', Z.length = n * size → VB w' w.heap.size e Z → Fr w.heap.size no w w' → wpList P ops Q rest (a.put dst (.slice (some ⟨w.heap.size, 0, none⟩) n n)) w') :
    wpList P ops Q (⟨dst, .makeSlice ty x y, type, pos, after, none⟩ :: rest) a w := by
  refine wpList_make_full w rfl x y ty rfl w.heap.size e i z size h1 h2 h3 h4 kl kc _ _ n hx hy rfl rfl hb hn (Nat.le_refl _) ?_
  intro w' ho hg
  obtain ⟨h0, ⟨e1, h5⟩ | ⟨g, cap, cur, e1, h5, h6, h7, h8, h9, h10⟩⟩ := ho
  · cases e1
  · simp only [Value.slice.injEq, Option.some.injEq, Addr.mk.injEq] at e1
    obtain ⟨⟨rfl, -, -⟩, -, rfl⟩ := e1
    refine hK cur.toList w' (by simpa using h9) ?_ ⟨hg.os, hg.tape, hg.output, hg.size, fun k hk _ => hg.block k hk (by simp)⟩
    unfold VB
    rw [h6]

theorem wl_copyV (tt tt' e : TypeId) (x y : Operand) (b b2 n cap cap2 size : Nat) (t t2 : TypeId) (L M : List Value) (hx : a.eval x = .slice (some ⟨b, 0, none⟩) n cap) (hy : a.eval y = .slice (some ⟨b2, 0, none⟩) n cap2)
    (h : VB w b t L) (hv : VB w b2 t2 M) (hd : n * size ≤ L.length) (hd2 : n * size ≤ M.length) (hf : Flat (subV M 0 (n * size))) (i : TypeInfo) (h1 : P.underlying tt = some (.slice e)) (h2 : P.info? e = some i) (h4 : i.size = size)
    (hK : wpList P ops Q rest (a.put dst (.int .i64 (n : Nat))) (setV w b t (layV L 0 (subV M 0 (n * size))))) :
    wpList P ops Q (⟨dst, .call { callee := .builtin .copy, args := #[x, y], argTypes := #[tt, tt'] }, type, pos, after, none⟩ :: rest) a w := by
  refine wpList_plain rfl fun K hK' => ?_
  have hm : Nat.min n n = n := Nat.min_self n
  have hfc : (Builtin.firstCells size n (.slice (some ⟨b2, 0, none⟩) n cap2)).run P w = .ok (subV M 0 (n * size)).toArray w := by
    have hl := run_loadCellsFrom (P := P) w b2 M.toArray t2 (0, 0) hv 0 (n * size) 0 #[] (by simpa using hd2)
    have e : M.toArray.extract (0 + 0) (0 + 0 + n * size) = (subV M 0 (n * size)).toArray := by simp [subV]
    rw [e] at hl
    simp only [Builtin.firstCells, loadCells, hl]
    simp
  have h5 : P.cellsOf e = size := by simp [Program.cellsOf, h2, h4]
  have hst := run_storeCellsV (P := P) (subV M 0 (n * size)) hf w b t L 0 0 h (by simp [subV]; omega)
  unfold Oper.wp execOp
  simp only [resolve, invoke, builtin, Sem.run_bind, Sem.run_pure, Result.andThen_ok, List.map_toArray, List.map_cons, List.map_nil, hx, hy, Builtin.copy_, List.getElem?_toArray, List.getElem?_cons_zero,
    List.getElem?_cons_succ, run_underlying h1, Builtin.lenOf, run_sizeOf w h2, h5]
  simp only [hm, hfc, hst, Result.andThen_ok, Sem.run_bind, Sem.run_pure, Nat.add_zero, goInt, List.toList_toArray]
  exact hK' _ _ hK
end

theorem flat_rows (R : List (List Nat)) (hR : ∀ r ∈ R, r.length = 20) (L : List Value) (hl : 20 * R.length ≤ L.length) (h : ∀ i r, R[i]? = some r → subV L (i * 20) 20 = byV r) : Flat (subV L 0 (R.length * 20)) := by
  intro m hm
  obtain ⟨j, hj, rfl⟩ := List.mem_iff_getElem.1 hm
  have hj2 : j < R.length * 20 := by simp [subV] at hj; omega
  obtain ⟨r, hr⟩ := len_at R (j / 20) (by omega)
  have hs := h _ r hr
  have hlr := hR r (List.mem_of_getElem? hr)
  have e : (subV L 0 (R.length * 20))[j]? = (subV L (j / 20 * 20) 20)[j % 20]? := by
    simp only [subV, List.getElem?_take, List.getElem?_drop]
    rw [if_pos (by omega), if_pos (by omega)]
    congr 1
    omega
  rw [List.getElem?_eq_getElem hj, hs] at e
  have hm2 := List.mem_of_getElem? e.symm
  exact byV_flat r _ hm2

set_option maxRecDepth 10000 in
set_option maxHeartbeats 1000000 in
theorem addrsOf_any (v : Value) (k : Nat) (w : World) (h : AS w k v) (hk : k ≤ 900) :
    Calls Sang.prog 118 #[v] w fun e w' => ∃ v', e = .returned v' ∧ v'.oneCell' = true ∧ noU8 v' ∧ Fr w.heap.size no w w' := by
  obtain ⟨i23, hi, hz, hsz, hby⟩ := info_parts info23
  obtain ⟨R, g1, g2, g3⟩ := h
  rcases g3 with ⟨rfl, rfl⟩ | ⟨b, t, L, cap, rfl, h4, h5, h6, h7, h8⟩
  · have hnil := run_eql_nil (P := Sang.prog) 54 23 none 0 0 Sang.underlying54
    go_enter Sang.func118, Sang.ntmps118
    go_wp2_with fail
    go_ret
    exact ⟨_, rfl, rfl, noU8.slice _ _ _, Fr.refl _ _ _⟩
  · have hnil := run_eql_nil (P := Sang.prog) 54 23 (some ⟨b, 0, none⟩) R.length cap Sang.underlying54
    have HF : Hid (Flat (subV L 0 (R.length * 20))) := flat_rows R g2 L h7 h8
    have H7 : Hid (R.length * 20 ≤ L.length) := by unfold Hid; omega
    have HB : Hid (i23.bytes * R.length ≤ 281474976710656) := by unfold Hid; rw [hby]; omega
    have HM : Hid (R.length ≤ maxLen) := by unfold Hid maxLen; omega
    clear h8 h7 g2 h4 h5 g1 hk
    go_enter Sang.func118, Sang.ntmps118
    go_wp2_with (first
      | ((with_reducible refine wl_makeV 54 23 (.tmp 7) (.tmp 7) .i64 .i64 R.length 20 ?_ ?_ i23 _ Sang.underlying54 hi hz hsz HB.out HM.out ?_); rfl; rfl; (intro Z w1 hZ hV hf))
      | ((with_reducible refine wl_copyV 54 54 23 (.tmp 9) (.tmp 10) w.heap.size b R.length R.length cap 20 23 t Z L ?_ ?_ hV (h6.fr hf h6.lt (fun x => x)) (by omega) H7.out HF.out i23 Sang.underlying54 hi hsz ?_); rfl; rfl))
    go_ret
    exact ⟨_, rfl, rfl, noU8.slice _ _ _, hf.setV (.inl (Nat.le_refl _)) _ _⟩

/-- the value lies in new memory -/
def Nw (B : Nat) (v : Value) : Prop := ∀ a n cap, v = .slice (some a) n cap → B ≤ a.block
end Go.Proofs.YgcsanGreat
