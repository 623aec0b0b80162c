/-
  Blocks of values of any kind (structs, rows of structs), and the laws on whole structs.
-/
import Derived.Test.YgcsanGreatBase
namespace Go.Proofs.YgcsanGreat
open Go.RowKit
set_option linter.unusedSimpArgs false
set_option linter.unusedVariables false

/-- Block b holds the values L. -/
def VB (w : World) (b : Nat) (t : TypeId) (L : List Value) : Prop := w.heap[b]? = some (.cells L.toArray t (0, 0))

theorem VB.lt {w : World} {b : Nat} {t : TypeId} {L : List Value} (h : VB w b t L) : b < w.heap.size := by
  unfold VB at h
  exact (Array.getElem?_eq_some_iff.1 h).1
theorem VB.of_ib {w : World} {b : Nat} {k : IntKind} {t : TypeId} {L : List Nat} (h : IB w b k t L) : VB w b t (L.map fun (n : Nat) => Value.int k (n : Int)) := h
theorem VB.cell {w : World} {b : Nat} {t : TypeId} {L : List Value} (h : VB w b t L) (i : Nat) {v : Value} (hi : L[i]? = some v) : w.cell? ⟨b, i, none⟩ = some v := by
  unfold VB at h
  simp only [World.cell?, h]
  simpa using hi
theorem VB.unfrozen {w : World} {b : Nat} {t : TypeId} {L : List Value} (h : VB w b t L) (i : Nat) : w.frozen? ⟨b, i, none⟩ = false := by
  unfold VB at h
  simp [World.frozen?, h]
theorem VB.fr {w w' : World} {b : Nat} {t : TypeId} {L : List Value} (h : VB w b t L) {B : Nat} {X : Nat → Prop} (f : Fr B X w w') (hb : b < B) (hx : ¬ X b) : VB w' b t L := by
  unfold VB at h ⊢
  rw [← h]
  exact f.block b hb hx
theorem VB.alloc {w : World} {b : Nat} {t : TypeId} {L : List Value} (h : VB w b t L) (o : Obj) : VB (w.alloc o) b t L := by
  have hl := h.lt
  unfold VB at h ⊢
  rw [← h]
  exact Below.heap_alloc _ _ _ hl
theorem VB.new (w : World) (t : TypeId) (L : List Value) : VB (w.alloc (.cells L.toArray t)) w.heap.size t L := by
  unfold VB
  show (w.heap.push _)[w.heap.size]? = _
  simp
theorem VB.newAt {w : World} {b : Nat} {cs : Array Value} {t : TypeId} {L : List Value} (hb : w.heap.size = b) (hc : cs = L.toArray) : VB (w.alloc (.cells cs t)) b t L := by
  subst hb; subst hc; exact VB.new w t L
theorem VB.other {w : World} {b : Nat} {t : TypeId} {L : List Value} (h : VB w b t L) {a : Addr} (ha : a.block ≠ b) (v : Value) : VB (w.setCell a v) b t L := by
  unfold VB at h ⊢
  rw [← h]
  exact Below.heap_setCell _ _ _ _ (fun e => ha e.symm)
theorem VB.drew {w : World} {b : Nat} {t : TypeId} {L : List Value} (h : VB w b t L) : VB w.drew b t L := h

/-- The world in which block b holds L. -/
def setV (w : World) (b : Nat) (t : TypeId) (L : List Value) : World := { w with heap := w.heap.setIfInBounds b (.cells L.toArray t (0, 0)) }

theorem setV_self {w : World} {b : Nat} {t : TypeId} {L : List Value} (h : VB w b t L) : setV w b t L = w := by
  have hl := h.lt
  unfold VB at h
  unfold setV
  have e : w.heap.setIfInBounds b (.cells L.toArray t (0, 0)) = w.heap := by
    apply Array.ext
    · simp
    · intro j h1 h2
      rw [Array.getElem_setIfInBounds (by simpa using h1)]
      split
      · rename_i e
        subst e
        exact (Array.getElem?_eq_some_iff.1 h).2.symm
      · rfl
  rw [e]
theorem setV_setV (w : World) (b : Nat) (t : TypeId) (L M : List Value) : setV (setV w b t L) b t M = setV w b t M := by simp [setV]
theorem VB.setV {w : World} {b : Nat} (hl : b < w.heap.size) (t : TypeId) (L : List Value) : VB (setV w b t L) b t L := by
  unfold VB Go.Proofs.YgcsanGreat.setV
  simp [hl]
theorem setV_size (w : World) (b : Nat) (t : TypeId) (L : List Value) : (setV w b t L).heap.size = w.heap.size := by simp [setV]
theorem setV_heap (w : World) (b : Nat) (t : TypeId) (L : List Value) (j : Nat) (h : j ≠ b) : (setV w b t L).heap[j]? = w.heap[j]? := by
  unfold setV
  rw [Array.getElem?_setIfInBounds_ne (fun e => h e.symm)]
theorem VB.otherV {w : World} {b : Nat} {t : TypeId} {L : List Value} (h : VB w b t L) {b' : Nat} (hb : b ≠ b') (t' : TypeId) (L' : List Value) : VB (Go.Proofs.YgcsanGreat.setV w b' t' L') b t L := by
  unfold VB at h ⊢
  rw [← h]
  exact setV_heap _ _ _ _ _ hb
theorem IB.otherV {w : World} {b : Nat} {k : IntKind} {t : TypeId} {L : List Nat} (h : IB w b k t L) {b' : Nat} (hb : b ≠ b') (t' : TypeId) (L' : List Value) : IB (Go.Proofs.YgcsanGreat.setV w b' t' L') b k t L := by
  unfold IB at h ⊢
  rw [← h]
  exact setV_heap _ _ _ _ _ hb
theorem Fr.setV {B : Nat} {X : Nat → Prop} {a w : World} (h : Fr B X a w) {b : Nat} (hb : B ≤ b ∨ X b) (t : TypeId) (L : List Value) : Fr B X a (Go.Proofs.YgcsanGreat.setV w b t L) :=
  h.trans ⟨rfl, rfl, rfl, by rw [setV_size]; omega, fun j hj hx => setV_heap _ _ _ _ _ (fun e => by
    rcases hb with hb | hb
    · omega
    · exact hx (e ▸ hb))⟩
theorem setV_alloc (w : World) (cs : Array Value) (t : TypeId) (L : List Value) : Go.Proofs.YgcsanGreat.setV (w.alloc (.cells cs t)) w.heap.size t L = w.alloc (.cells L.toArray t) := by
  unfold Go.Proofs.YgcsanGreat.setV World.alloc
  congr 1
  apply Array.ext
  · simp
  · intro j h1 h2
    simp only [Array.size_setIfInBounds, Array.size_push] at h1
    rw [Array.getElem_setIfInBounds (by simpa using h1)]
    simp only [Array.getElem_push]
    split
    · rename_i e
      subst e
      simp
    · rename_i e
      rw [dif_pos (by omega), dif_pos (by omega)]

/-- the list with M laid over it from place o on -/
def layV (L : List Value) (o : Nat) (M : List Value) : List Value := match M with
  | [] => L
  | m :: M => layV (L.set o m) (o + 1) M

theorem layV_length (M : List Value) : ∀ (L : List Value) (o : Nat), (layV L o M).length = L.length := by
  induction M with
  | nil => intro L o; rfl
  | cons m M ih => intro L o; simp [layV, ih]

theorem layV_get (M : List Value) : ∀ (L : List Value) (o i : Nat), o + M.length ≤ L.length → (layV L o M)[i]? = if o ≤ i ∧ i < o + M.length then M[i - o]? else L[i]? := by
  induction M with
  | nil => intro L o i _; simp [layV]; omega
  | cons m M ih =>
    intro L o i h
    simp only [List.length_cons] at h
    rw [layV, ih _ _ _ (by simp; omega)]
    by_cases h1 : o = i
    · subst h1
      rw [if_neg (by omega), if_pos (by simp)]
      simp [show o < L.length by omega]
    · by_cases h2 : o + 1 ≤ i ∧ i < o + 1 + M.length
      · rw [if_pos h2, if_pos (by simp; omega)]
        rw [show i - o = (i - (o + 1)) + 1 by omega]; simp
      · rw [if_neg h2, if_neg (by simp; omega)]
        simp [h1]

theorem layV_eq (L : List Value) (o : Nat) (M : List Value) (h : o + M.length ≤ L.length) : layV L o M = L.take o ++ (M ++ L.drop (o + M.length)) := by
  apply List.ext_getElem?
  intro i
  rw [layV_get M L o i h]
  by_cases h1 : i < o
  · rw [if_neg (by omega), List.getElem?_append_left (by simp; omega)]
    simp [h1]
  · by_cases h2 : i < o + M.length
    · rw [if_pos (by omega), List.getElem?_append_right (by simp; omega), List.getElem?_append_left (by simp; omega)]
      congr 1; simp; omega
    · rw [if_neg (by omega), List.getElem?_append_right (by simp; omega), List.getElem?_append_right (by simp; omega)]
      simp only [List.getElem?_drop]
      congr 1; simp; omega

theorem layV_all (L M : List Value) (h : M.length = L.length) : layV L 0 M = M := by
  rw [layV_eq L 0 M (by omega)]
  simp [h]

section
variable {P : Program}

theorem run_store_one (w : World) (b i : Nat) (t : TypeId) (L : List Value) (v : Value) (hv : v.oneCell' = true) (h : VB w b t L) (hi : i < L.length) : (store ⟨b, i, none⟩ v).run P w = .ok () (setV w b t (L.set i v)) := by
  have hc := h.cell i (List.getElem?_eq_getElem hi)
  have hz := h.unfrozen i
  have e : w.setCell ⟨b, i, none⟩ v = setV w b t (L.set i v) := by
    unfold VB at h
    unfold World.setCell setV
    congr 1
    apply Array.ext
    · simp
    · intro j h1 h2
      simp only [Array.size_modify] at h1
      rw [Array.getElem_modify, Array.getElem_setIfInBounds (by simpa using h1)]
      split
      · rename_i ej
        subst ej
        have := (Array.getElem?_eq_some_iff.1 h).2
        simp only at this ⊢
        rw [this]
        simp
      · rfl
  rw [run_store P w _ v .plain hv, hc, hz, ← e]
  rfl

/-- values of one cell each -/
def Flat (M : List Value) : Prop := ∀ m ∈ M, m.oneCell' = true

theorem run_storeCellsV (M : List Value) (hf : Flat M) : ∀ (w : World) (b : Nat) (t : TypeId) (L : List Value) (o i : Nat), VB w b t L → o + i + M.length ≤ L.length →
    (storeCells ⟨b, o, none⟩ M i).run P w = .ok () (setV w b t (layV L (o + i) M)) := by
  induction M with
  | nil => intro w b t L o i h _; simp [storeCells, layV, setV_self h]
  | cons m M ih =>
    intro w b t L o i h hn
    simp only [List.length_cons] at hn
    replace ih := ih (fun x hx => hf x (List.mem_cons_of_mem _ hx))
    have e : (⟨b, o, none⟩ : Addr).add i = ⟨b, o + i, none⟩ := by unfold Addr.add; split <;> simp_all
    have h1 := run_store_one (P := P) w b (o + i) t L m (hf m (List.mem_cons_self ..)) h (by omega)
    have h2 := ih (setV w b t (L.set (o + i) m)) b t (L.set (o + i) m) o (i + 1) (VB.setV h.lt _ _) (by simp; omega)
    rw [setV_setV] at h2
    simp only [storeCells, Sem.run_bind, e, h1, Result.andThen_ok]
    rw [h2]
    rfl

theorem run_storeVarV (w : World) (b o : Nat) (t ty : TypeId) (L M : List Value) (hf : Flat M) (h : VB w b t L) (hM : o + M.length ≤ L.length) (hi : (P.info? ty).map (·.size) = some M.length) :
    (storeVar ty ⟨b, o, none⟩ (.agg M.toArray)).run P w = .ok () (setV w b t (layV L o M)) := by
  obtain ⟨i, hi1, hi2⟩ := Option.map_eq_some_iff.1 hi
  have hs := run_storeCellsV (P := P) M hf w b t L o 0 h (by omega)
  have e2 : M.toArray.size = i.size := by rw [hi2]; simp
  simp only [Value.cells, storeVar, sizeOf, typeInfo, program, bind, Sem.bind, Sem.run, hi1, pure, e2, ne_eq, not_true_eq_false, if_false]
  exact hs

theorem run_loadVarV (w : World) (b o n : Nat) (t ty : TypeId) (L : List Value) (h : VB w b t L) (d : TypeDesc) (hd : P.underlying ty = some d) (hagg : rowish d = true) (hn : o + n ≤ L.length) (hi : (P.info? ty).map (·.size) = some n) :
    (loadVar ty ⟨b, o, none⟩).run P w = .ok (.agg ((L.drop o).take n).toArray) w := by
  obtain ⟨i, hi1, hi2⟩ := Option.map_eq_some_iff.1 hi
  have hl := run_loadCellsFrom (P := P) w b L.toArray t (0, 0) h o n 0 #[] (by simpa using hn)
  have e : L.toArray.extract (o + 0) (o + 0 + n) = ((L.drop o).take n).toArray := by simp
  rw [e] at hl
  have hl' : (loadCells ⟨b, o, none⟩ n).run P w = .ok ((L.drop o).take n).toArray w := by
    unfold loadCells; rw [hl]; simp
  cases d <;> simp_all [rowish, loadVar, isAgg, underlying, sizeOf, typeInfo, go_sem]

theorem results_cellV {fn : Func} {t : Tmp} {ty : TypeId} (hr : fn.results = #[.cell t ty]) {tmps : Array Value} {w : World} {b : Nat} {t' : TypeId} {L : List Value} (hp : tmps.getD t undef = .pointer (some ⟨b, 0, none⟩)) (h : VB w b t' L)
    (d : TypeDesc) (hd : P.underlying ty = some d) (hagg : rowish d = true) (hi : (P.info? ty).map (·.size) = some L.length) :
    (results fn tmps).run P w = .ok (.agg L.toArray) w := by
  have hl := run_loadVarV (P := P) w b 0 L.length t' ty L h d hd hagg (by omega) hi
  rw [List.drop_zero, List.take_length] at hl
  have hp' : tmps[t]?.getD undef = .pointer (some ⟨b, 0, none⟩) := by simpa using hp
  simp [results, hr, hp', asAddr, hl]

variable {ops : Array Oper} {rest : List Oper} {Q : Exit → Act → World → Prop} {a : Act} {w : World} {dst : Option Tmp} {type : TypeId} {pos : String} {after : Array Edge}

/-- a struct or array, n cells from place o on, is loaded -/
theorem wl_loadV (ty : TypeId) (x : Operand) (b o : Nat) (t : TypeId) (L : List Value) (n : Nat) (T : List Value) (hx : a.eval x = .pointer (some ⟨b, o, none⟩)) (h : VB w b t L)
    (d : TypeDesc) (hd : P.underlying ty = some d) (hagg : rowish d = true) (hn : o + n ≤ L.length) (hi : (P.info? ty).map (·.size) = some n) (hT : (L.drop o).take n = T)
    (hK : wpList P ops Q rest (a.put dst (.agg T.toArray)) w) : wpList P ops Q (⟨dst, .load ty x, type, pos, after, none⟩ :: rest) a w := by
  subst hT
  refine wpList_plain rfl fun K hK' => ?_
  have hr := run_loadVarV (P := P) w b o n t ty L h d hd hagg hn hi
  unfold Oper.wp execOp
  simp only [hx, Instr.loadAt, Instr.sureAddr, Sem.run_bind, Sem.run_pure, Result.andThen_ok, hr]
  exact hK' _ _ hK

/-- a struct or array is stored from place o on -/
theorem wl_storeV (ty : TypeId) (x y : Operand) (b o : Nat) (t : TypeId) (L M : List Value) (cs : Array Value) (N : List Value) (hx : a.eval x = .pointer (some ⟨b, o, none⟩)) (hy : a.eval y = .agg cs) (hcs : cs = M.toArray) (hf : Flat M) (h : VB w b t L)
    (hM : o + M.length ≤ L.length) (hi : (P.info? ty).map (·.size) = some M.length) (hN : layV L o M = N)
    (hK : wpList P ops Q rest (a.put dst undef) (setV w b t N)) : wpList P ops Q (⟨dst, .store ty x y, type, pos, after, none⟩ :: rest) a w := by
  subst hN
  subst hcs
  refine wpList_plain rfl fun K hK' => ?_
  have hr := run_storeVarV (P := P) w b o t ty L M hf h hM hi
  unfold Oper.wp execOp
  simp only [hx, hy, Instr.storeAt, Instr.sureAddr, Sem.run_bind, Sem.run_pure, Result.andThen_ok, hr]
  exact hK' _ _ hK

/-- a single value is stored -/
theorem wl_putV (ty : TypeId) (x y : Operand) (b i : Nat) (t : TypeId) (L : List Value) (v : Value) (N : List Value) (hx : a.eval x = .pointer (some ⟨b, i, none⟩)) (hy : a.eval y = v) (hv : v.cells = #[v]) (hf : v.oneCell' = true) (h : VB w b t L)
    (hi : i < L.length) (hs : (P.info? ty).map (·.size) = some 1) (hN : L.set i v = N)
    (hK : wpList P ops Q rest (a.put dst undef) (setV w b t N)) : wpList P ops Q (⟨dst, .store ty x y, type, pos, after, none⟩ :: rest) a w := by
  subst hN
  refine wpList_plain rfl fun K hK' => ?_
  obtain ⟨j, hj1, hj2⟩ := Option.map_eq_some_iff.1 hs
  have hst := run_storeCellsV (P := P) [v] (fun x hx => by rw [List.mem_singleton.1 hx]; exact hf) w b t L i 0 h (by simp; omega)
  have hr : (storeVar ty ⟨b, i, none⟩ v).run P w = .ok () (setV w b t (L.set i v)) := by
    simp only [hv, storeVar, sizeOf, typeInfo, program, bind, Sem.bind, Sem.run, hj1, pure, hj2, ne_eq, List.size_toArray, List.length_cons, List.length_nil, Nat.zero_add, not_true_eq_false, if_false]
    exact hst
  unfold Oper.wp execOp
  simp only [hx, hy, Instr.storeAt, Instr.sureAddr, Sem.run_bind, Sem.run_pure, Result.andThen_ok, hr]
  exact hK' _ _ hK

/-- a new variable, and at once a struct or array is stored to it -/
theorem wl_store_freshV (w0 : World) (cs : Array Value) (ty : TypeId) (x y : Operand) (b : Nat) (t : TypeId) (L M : List Value) (cs' : Array Value) (hx : a.eval x = .pointer (some ⟨b, 0, none⟩)) (hy : a.eval y = .agg cs') (hcs : cs' = M.toArray) (hf : Flat M)
    (hb : b = w0.heap.size) (hc : cs = L.toArray) (hM : M.length = L.length) (hi : (P.info? ty).map (·.size) = some M.length)
    (hK : wpList P ops Q rest (a.put dst undef) (w0.alloc (.cells M.toArray t))) : wpList P ops Q (⟨dst, .store ty x y, type, pos, after, none⟩ :: rest) a (w0.alloc (.cells cs t)) := by
  subst hb
  subst hc
  refine wl_storeV ty x y w0.heap.size 0 t L M cs' M hx hy hcs hf (VB.new w0 t L) (by omega) hi (layV_all _ _ hM) ?_
  rw [setV_alloc]
  exact hK
end

theorem flat_ints (k : IntKind) (L : List Nat) : Flat (L.map fun (n : Nat) => Value.int k (n : Int)) := by
  intro m hm
  obtain ⟨n, _, rfl⟩ := List.mem_map.1 hm
  rfl
theorem Flat.append {L M : List Value} (h : Flat L) (k : Flat M) : Flat (L ++ M) := by
  intro m hm
  rcases List.mem_append.1 hm with h1 | h1
  · exact h m h1
  · exact k m h1
theorem Flat.cons {v : Value} {L : List Value} (h : v.oneCell' = true) (k : Flat L) : Flat (v :: L) := by
  intro m hm
  rcases List.mem_cons.1 hm with rfl | h1
  · exact h
  · exact k m h1
theorem Flat.nil : Flat [] := fun m hm => by cases hm
theorem Flat.replicate {v : Value} (h : v.oneCell' = true) (n : Nat) : Flat (List.replicate n v) := by
  intro m hm
  rw [(List.mem_replicate.1 hm).2]
  exact h
end Go.Proofs.YgcsanGreat
