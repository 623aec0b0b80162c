/-
  What the evaluator says of one operation holds of the model's.
-/
import Derived.Test.YgcsanGreatEvA
import Derived.Test.YgcsanGreatBuild
namespace Go.Ev
open Go
open Go.Proofs.YgcsanGreat (zipIdx_layV layV layV_eq layV_length run_mapM_list)
set_option linter.unusedVariables false
set_option linter.unusedSimpArgs false

theorem bare_run {P : Program} {α : Type} : ∀ (s : Sem α) (x : α), bare P s = some x → ∀ w, s.run P w = .ok x w := by
  intro s
  induction s with
  | pure a => intro x h w; simp only [bare, Option.some.injEq] at h; subst h; rfl
  | program k ih => intro x h w; simp only [bare] at h; exact ih P x h w
  | _ => intro x h; simp [bare] at h

section
variable {ι : Im} {v u : Value}

theorem VRel.cellOf (h : VRel ι v u) (hv : oneV v = true) : CRel ι v u := by
  cases h with
  | one h => cases h with
    | top => simp [oneV] at hv
    | undef => simp [Go.undef, oneV] at hv
    | cell h => exact h
    | agg => simp [oneV] at hv
  | tuple => simp [oneV] at hv
theorem VRel.bool {b : Bool} (h : VRel ι (.bool b) u) : u = .bool b := by cases h.cellOf rfl; rfl
theorem VRel.int {k : IntKind} {n : Int} (h : VRel ι (.int k n) u) : u = .int k n := by cases h.cellOf rfl; rfl
theorem VRel.nils {l c : Nat} (h : VRel ι (.slice none l c) u) : u = .slice none l c := by cases h.cellOf rfl; rfl
theorem VRel.ptr {a : Addr} (h : VRel ι (.pointer (some a)) u) : ∃ k o b p z, a = ⟨k, o, none⟩ ∧ ι k = some (b, p, z) ∧ u = .pointer (some ⟨b, p + o, none⟩) := by
  cases h.cellOf rfl with
  | ptr hk => exact ⟨_, _, _, _, _, rfl, hk, rfl⟩
theorem VRel.slc {a : Addr} {l c : Nat} (h : VRel ι (.slice (some a) l c) u) : ∃ k o b p z c', a = ⟨k, o, none⟩ ∧ ι k = some (b, p, z) ∧ capRel c c' (p + o) z ∧ u = .slice (some ⟨b, p + o, none⟩) l c' := by
  cases h.cellOf rfl with
  | slc hk hc => exact ⟨_, _, _, _, _, _, rfl, hk, hc, rfl⟩
theorem VRel.aggOf {cs : Array Value} (h : VRel ι (.agg cs) u) : ∃ m, All2 (CRel ι) cs.toList m ∧ u = .agg m.toArray := by
  generalize hv : Value.agg cs = v at h
  cases h with
  | one h => cases h with
    | top => simp at hv
    | undef => simp [Go.undef] at hv
    | cell h => cases h <;> simp at hv
    | agg h => injection hv with hv; subst hv; exact ⟨_, h, rfl⟩
  | tuple => simp at hv
theorem VRel.tupleOf {vs : Array Value} (h : VRel ι (.tuple vs) u) (hv : vs.toList ≠ []) : ∃ m, All2 (WRel ι) vs.toList m ∧ u = .tuple m.toArray := by
  generalize hx : Value.tuple vs = v at h
  cases h with
  | one h => cases h with
    | top => simp at hx
    | undef => simp only [Go.undef, Value.tuple.injEq] at hx; subst hx; simp at hv
    | cell h => cases h <;> simp at hx
    | agg h => simp at hx
  | tuple h => injection hx with hx; subst hx; exact ⟨_, h, rfl⟩

theorem CRel.flat_eq (h : CRel ι v u) (hf : flat v = true) : u = v := by cases h <;> first | rfl | simp [flat] at hf
theorem flatL_eq {l m : List Value} (h : All2 (CRel ι) l m) (hf : flatL l = true) : m = l := by
  induction h with
  | nil => rfl
  | @cons a b l m h1 h2 ih =>
    simp only [flatL] at hf
    cases hx : flat a with
    | false => simp [hx] at hf
    | true => rw [hx] at hf; rw [h1.flat_eq hx, ih hf]
theorem VRel.flat_eq (h : VRel ι v u) (hf : flatV v = true) : u = v := by
  cases h with
  | one h => cases h with
    | top => simp [flatV, flat] at hf
    | undef => simp [Go.undef, flatV, flat] at hf
    | cell h => exact h.flat_eq (by cases h <;> simpa [flatV] using hf)
    | agg h => rw [flatL_eq h (by simpa [flatV] using hf)]
  | tuple => simp [flatV, flat] at hf
theorem CRel.cells (h : CRel ι v u) : v.cells = #[v] ∧ u.cells = #[u] := by cases h <;> exact ⟨rfl, rfl⟩
theorem VRel.cells (h : VRel ι v u) (ho : okCells v.cells.toList = true) : All2 (CRel ι) v.cells.toList u.cells.toList := by
  cases h with
  | one h => cases h with
    | top => simp [Value.cells, okCells, oneV] at ho
    | undef => simp [Go.undef, Value.cells, okCells, oneV] at ho
    | cell h => obtain ⟨e1, e2⟩ := h.cells; rw [e1, e2]; exact .cons h .nil
    | agg h => simpa [Value.cells] using h
  | tuple => simp [Value.cells, okCells, oneV] at ho

theorem constC_rel (h : constC v = true) : CRel ι v v := by
  cases v with
  | bool b => exact .bool b
  | int k n => exact .int k n
  | string s => exact .string s
  | pointer a => cases a with
    | none => exact .nilp
    | some a => simp [constC] at h
  | slice a l c => cases a with
    | none => exact .nils l c
    | some a => simp [constC] at h
  | nilFunc => exact .nilFunc
  | nilIface => exact .nilIface
  | _ => simp [constC] at h
theorem constL_rel {l : List Value} (h : constL l = true) : All2 (CRel ι) l l := by
  induction l with
  | nil => exact .nil
  | cons a l ih =>
    simp only [constL] at h
    cases hx : constC a with
    | false => simp [hx] at h
    | true => rw [hx] at h; exact .cons (constC_rel hx) (ih h)
theorem constOk_rel (h : constOk v = true) : VRel ι v v := by
  cases v with
  | agg cs => obtain ⟨l⟩ := cs; exact .agg (constL_rel h)
  | _ => exact .cell (constC_rel (by simpa [constOk] using h))
theorem constOk_cells (h : constOk v = true) : All2 (CRel ι) v.cells.toList v.cells.toList := by
  cases v with
  | agg cs => exact constL_rel h
  | _ => exact .cons (constC_rel (by simpa [constOk] using h)) .nil
end

section
variable {P : Program} {w : World}
theorem constO_some {x : Option Value} {z : Value} (h : constO x = some z) : x = some z ∧ constOk z = true := by
  cases x with
  | none => simp [constO] at h
  | some y =>
    simp only [constO] at h
    cases hc : constOk y with
    | false => simp [hc] at h
    | true => rw [hc] at h; injection h with h; subst h; exact ⟨rfl, hc⟩
theorem zeroOf_some {t : TypeId} {z : Value} (h : zeroOf P t = some z) : (zeroValue t).run P w = .ok z w ∧ constOk z = true := by
  unfold zeroOf at h
  cases hi : P.info? t with
  | none => simp [hi] at h
  | some i =>
    rw [hi] at h
    obtain ⟨h1, h2⟩ := constO_some h
    exact ⟨by simp [zeroValue, typeInfo, hi, h1], h2⟩
theorem sizeOfT_some {t : TypeId} {n : Nat} (h : sizeOfT P t = some n) : (sizeOf t).run P w = .ok n w ∧ ∃ i, P.info? t = some i ∧ i.size = n := by
  unfold sizeOfT at h
  cases hi : P.info? t with
  | none => simp [hi] at h
  | some i =>
    rw [hi] at h
    injection h with h
    exact ⟨by simp [sizeOf, typeInfo, hi, h], i, rfl, h⟩
theorem run_under {t : TypeId} {d : TypeDesc} (h : P.underlying t = some d) : (underlying t).run P w = .ok d w := by
  simp [underlying, h]
theorem isAggT_some {t : TypeId} {b : Bool} (h : isAggT P t = some b) : (isAgg t).run P w = .ok b w := by
  unfold isAggT at h
  cases hd : P.underlying t with
  | none => simp [hd] at h
  | some d =>
    rw [hd] at h
    unfold isAgg
    simp only [Sem.run_bind, run_under hd, Result.andThen_ok]
    cases d <;> simp at h <;> subst h <;> rfl
theorem run_newRow (elem : TypeId) (cells : Array Value) : (newRow elem cells).run P w = .ok ⟨w.heap.size, 0, none⟩ (w.alloc (.cells cells elem)) := by
  simp [newRow]
end

/-- what is said of an operation -/
def OpGoes (P : Program) (n0 : Nat) (ι : Im) (h : Hp) (w : World) (ρ : Operand → Value) (o : Oper) : Out → Prop
  | .val v h' => ∃ ι' w' u, ((execOp ρ o).run P w = .ok (.value u) w' ∨ ((execOp ρ o).run P w = .ok .skip w' ∧ u = undef)) ∧ VRel ι' v u ∧ HRel n0 ι' h' w' ∧ Ext ι h w ι' h' w'
  | .call f args => ∃ us, (execOp ρ o).run P w = .ok (.enter f us.toArray) w ∧ All2 (VRel ι) args us

section
variable {P : Program} {n0 : Nat} {ι : Im} {h : Hp} {w : World} {ρ : Operand → Value} {o : Oper}

theorem goes_value (H : HRel n0 ι h w) {v u : Value} (hr : (execOp ρ o).run P w = .ok (.value u) w) (hv : VRel ι v u) : OpGoes P n0 ι h w ρ o (.val v h) :=
  ⟨ι, w, u, .inl hr, hv, H, Ext.refl ι h w⟩

theorem okCells_dec {l : List Value} (h : okCells l = true) : dec l = l := by
  apply dec_plain
  unfold isRep
  split
  · simp [okCells, oneV] at h
  · rfl
theorem newBlock_some {l : List Value} {f : Addr → Value} {out : Out} (he : newBlock h l f = some out) :
    okCells l = true ∧ ∃ m', out = .val (f ⟨h.next, 0, none⟩) ⟨h.next + 1, m'⟩ ∧ Tr.set (some l) 64 h.m h.next = some m' := by
  unfold newBlock at he
  cases ho : okCells l with
  | false => simp [ho] at he
  | true =>
    rw [ho] at he
    obtain ⟨n, m⟩ := h
    simp only at he
    cases hs : Tr.set (some l) 64 m n with
    | none => rw [hs] at he; simp [newO] at he
    | some m' =>
      rw [hs] at he
      simp only [newO, Option.some.injEq] at he
      exact ⟨rfl, m', he.symm, rfl⟩

theorem goes_new (H : HRel n0 ι h w) {l l' rest : List Value} {f : Addr → Value} {out : Out} (he : newBlock h l f = some out) (hl : okCells l = true → All2 (CRel ι) l l') (T : TypeId)
    {g : Addr → Value} (hr : (execOp ρ o).run P w = .ok (.value (g ⟨w.heap.size, 0, none⟩)) (w.alloc (.cells (l' ++ rest).toArray T)))
    (hg : ∀ κ : Im, κ h.next = some (w.heap.size, 0, (l' ++ rest).length) → VRel κ (f ⟨h.next, 0, none⟩) (g ⟨w.heap.size, 0, none⟩)) : OpGoes P n0 ι h w ρ o out := by
  obtain ⟨ho, m', rfl, hs⟩ := newBlock_some he
  obtain ⟨n, m⟩ := h
  obtain ⟨h1, h2⟩ := H.new (rest := rest) hs (okCells_dec ho) (hl ho) T
  exact ⟨_, _, _, .inl hr, hg _ (Im.up_self _ _ _), h1, h2⟩

/-! ### the operations one by one -/
theorem goes_pick (H : HRel n0 ι h w) {c x y : Value} {c' x' y' : Value} (hc : VRel ι c c') (hx : VRel ι x x') (hy : VRel ι y y') {out : Out} (he : evalPick h c x y = some out)
    (hr : (execOp ρ o) = (do pure (.value (if ← asBool c' then x' else y')) : Sem Next)) : OpGoes P n0 ι h w ρ o out := by
  unfold evalPick at he
  cases c with
  | bool b =>
    have := hc.bool
    subst this
    cases b <;> simp only [mk, Option.some.injEq] at he <;> subst he
    · exact goes_value H (by rw [hr]; simp [asBool]) hy
    · exact goes_value H (by rw [hr]; simp [asBool]) hx
  | _ => simp at he

theorem loadT_goes (H : HRel n0 ι h w) {t : TypeId} {a : Addr} {v : Value} (he : loadT P t h a = some v) :
    ∃ k o b p z, a = ⟨k, o, none⟩ ∧ ι k = some (b, p, z) ∧ ∃ u, (loadVar t ⟨b, p + o, none⟩).run P w = .ok u w ∧ VRel ι v u ∧ WRel ι v u := by
  unfold loadT at he
  cases hb : isAggT P t with
  | none => simp [hb] at he
  | some agg =>
    rw [hb] at he
    have h1 := isAggT_some (w := w) hb
    cases agg with
    | true =>
      simp only at he
      cases hs : sizeOfT P t with
      | none => rw [hs] at he; simp [loadAggT] at he
      | some n =>
        rw [hs] at he
        simp only [loadAggT] at he
        cases hr : h.read a n with
        | none => rw [hr] at he; simp [aggO] at he
        | some l =>
          rw [hr] at he
          simp only [aggO, Option.some.injEq] at he
          subst he
          obtain ⟨k, o, b, p, z, rfl, _, hi, m, hm, hlen, hc⟩ := H.read hr
          refine ⟨k, o, b, p, z, rfl, hi, .agg m.toArray, ?_, .agg hm, .agg hm⟩
          have h2 := run_loadCells_list (P := P) w ⟨b, p + o, none⟩ m hc
          rw [hlen] at h2
          unfold loadVar
          simp [h1, (sizeOfT_some (w := w) hs).1, h2]
    | false =>
      simp only at he
      cases hr : h.read a 1 with
      | none => rw [hr] at he; simp [oneO] at he
      | some l =>
        rw [hr] at he
        obtain ⟨k, o, b, p, z, rfl, _, hi, m, hm, hlen, hc⟩ := H.read hr
        cases hm with
        | nil => simp at hlen
        | @cons v' u l m hvu hlm =>
          cases hlm with
          | cons => simp at hlen
          | nil =>
            simp only [oneO, Option.some.injEq] at he
            subst he
            refine ⟨k, o, b, p, z, rfl, hi, u, ?_, .cell hvu, .cell hvu⟩
            have := hc 0 u rfl
            rw [addr_add, Nat.add_zero] at this
            unfold loadVar
            simp [h1, this]
end
end Go.Ev
