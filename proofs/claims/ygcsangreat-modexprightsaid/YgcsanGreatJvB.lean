/-
  What the evaluator says of one operation holds of the model's.
-/
import Derived.Test.YgcsanGreatJvA
import Derived.Test.YgcsanGreatBuild
namespace Go.Jv
open Go
open Go.Proofs.YgcsanGreat (zipIdx_layV layV layV_eq layV_length run_mapM_list)
set_option linter.unusedVariables false
set_option linter.unusedSimpArgs false
variable {σ : Va}

theorem bare_run {P : Program} {α : Type} : ∀ (s : Sem α) (x : α), bare P s = some x → ∀ w, s.run P w = .ok x w := by
  intro s
  induction s with
  | pure a => intro x h w; simp only [bare, Option.some.injEq] at h; subst h; rfl
  | program k ih => intro x h w; simp only [bare] at h; exact ih P x h w
  | _ => intro x h; simp [bare] at h

section
variable {ι : Im} {v u : Value}

theorem VRel.cellOf (h : VRel σ ι v u) (hv : oneV v = true) : CRel σ ι v u := by
  rcases h with (rfl | ⟨rfl, rfl⟩ | h | ⟨l, m, _, rfl, rfl⟩) | ⟨l, m, _, rfl, rfl⟩
  · simp [oneV] at hv
  · simp [Go.undef, oneV] at hv
  · exact h
  · simp [oneV] at hv
  · simp [oneV] at hv
theorem CRel.constOf (h : CRel σ ι v u) (hv : constC v = true) : u = v := by
  rcases h with ⟨_, rfl⟩ | ⟨k, o, b, p, z, e, rfl, rfl⟩ | ⟨k, o, b, p, z, l, c, c', e, _, rfl, rfl⟩ | ⟨t, p, rfl, _⟩
  · rfl
  · simp [constC] at hv
  · simp [constC] at hv
  · simp [constC] at hv
theorem VRel.bool {b : Bool} (h : VRel σ ι (.bool b) u) : u = .bool b := (h.cellOf rfl).constOf rfl
theorem VRel.int {k : IntKind} {n : Int} (h : VRel σ ι (.int k n) u) : u = .int k n := (h.cellOf rfl).constOf rfl
theorem VRel.nils {l c : Nat} (h : VRel σ ι (.slice none l c) u) : u = .slice none l c := (h.cellOf rfl).constOf rfl
theorem VRel.ptr {a : Addr} (h : VRel σ ι (.pointer (some a)) u) : ∃ k o b p z, a = ⟨k, o, none⟩ ∧ ι k = some (b, p, z) ∧ u = .pointer (some ⟨b, p + o, none⟩) := by
  rcases h.cellOf rfl with ⟨e, _⟩ | ⟨k, o, b, p, z, hk, e, rfl⟩ | ⟨k, o, b, p, z, l, c, c', hk, _, e, rfl⟩ | ⟨t, p, e, _⟩
  · simp [constC] at e
  · injection e with e; injection e with e; exact ⟨k, o, b, p, z, e, hk, rfl⟩
  · cases e
  · cases e
theorem VRel.slc {a : Addr} {l c : Nat} (h : VRel σ ι (.slice (some a) l c) u) : ∃ k o b p z c', a = ⟨k, o, none⟩ ∧ ι k = some (b, p, z) ∧ capRel c c' (p + o) z ∧ u = .slice (some ⟨b, p + o, none⟩) l c' := by
  rcases h.cellOf rfl with ⟨e, _⟩ | ⟨k, o, b, p, z, hk, e, rfl⟩ | ⟨k, o, b, p, z, l, c, c', hk, hc, e, rfl⟩ | ⟨t, p, e, _⟩
  · simp [constC] at e
  · cases e
  · injection e with e1 e2 e3; injection e1 with e1; subst e2; subst e3; exact ⟨k, o, b, p, z, c', e1, hk, hc, rfl⟩
  · cases e
theorem VRel.tokOf {t : Nat} {p : Value} (h : VRel σ ι (.iface t p) u) : TRel σ ι t p u := by
  rcases h.cellOf rfl with ⟨e, _⟩ | ⟨k, o, b, p, z, hk, e, rfl⟩ | ⟨k, o, b, p, z, l, c, c', hk, hc, e, rfl⟩ | ⟨t, p, e, r⟩
  · simp [constC] at e
  · cases e
  · cases e
  · injection e with e1 e2; subst e1; subst e2; exact r
theorem VRel.aggOf {cs : Array Value} (h : VRel σ ι (.agg cs) u) : ∃ m, All2 (CRel σ ι) cs.toList m ∧ u = .agg m.toArray := by
  rcases h with (e | ⟨e, _⟩ | h | ⟨l, m, h, e, rfl⟩) | ⟨l, m, _, e, rfl⟩
  · cases e
  · simp [Go.undef] at e
  · have := h.oneV; simp [oneV] at this
  · injection e with e; subst e; exact ⟨m, h, rfl⟩
  · cases e
theorem VRel.tupleOf {vs : Array Value} (h : VRel σ ι (.tuple vs) u) (hv : vs.toList ≠ []) : ∃ m, All2 (WRel σ ι) vs.toList m ∧ u = .tuple m.toArray := by
  rcases h with (e | ⟨e, _⟩ | h | ⟨l, m, h, e, rfl⟩) | ⟨l, m, h, e, rfl⟩
  · cases e
  · simp only [Go.undef, Value.tuple.injEq] at e; subst e; simp at hv
  · have := h.oneV; simp [oneV] at this
  · cases e
  · injection e with e; subst e; exact ⟨m, h, rfl⟩

theorem flat_const (hf : flat v = true) : constC v = true := by cases v <;> first | rfl | simp [flat] at hf
theorem CRel.flat_eq (h : CRel σ ι v u) (hf : flat v = true) : u = v := h.constOf (flat_const hf)
theorem flatL_eq {l m : List Value} (h : All2 (CRel σ ι) l m) (hf : flatL l = true) : m = l := by
  refine All2.ind (R := CRel σ ι) (C := fun l m => flatL l = true → m = l) (fun _ => rfl) ?_ h hf
  intro a b l m h1 _ ih hf
  simp only [flatL] at hf
  cases hx : flat a with
  | false => simp [hx] at hf
  | true => rw [hx] at hf; rw [h1.flat_eq hx, ih hf]
theorem VRel.flat_eq (h : VRel σ ι v u) (hf : flatV v = true) : u = v := by
  rcases h with (rfl | ⟨rfl, rfl⟩ | h | ⟨l, m, h, rfl, rfl⟩) | ⟨l, m, h, rfl, rfl⟩
  · simp [flatV, flat] at hf
  · simp [Go.undef, flatV, flat] at hf
  · refine h.flat_eq ?_
    have := h.oneV
    cases v <;> first | exact hf | simp [oneV] at this
  · rw [flatL_eq h (by simpa [flatV] using hf)]
  · simp [flatV, flat] at hf
theorem CRel.cells (h : CRel σ ι v u) : v.cells = #[v] ∧ u.cells = #[u] := by
  have h1 := h.oneV
  have h2 := h.one
  constructor
  · cases v <;> first | rfl | simp [Jv.oneV] at h1
  · cases u <;> first | rfl | simp [Value.oneCell'] at h2
theorem VRel.cells (h : VRel σ ι v u) (ho : okCells v.cells.toList = true) : All2 (CRel σ ι) v.cells.toList u.cells.toList := by
  rcases h with (rfl | ⟨rfl, rfl⟩ | h | ⟨l, m, h, rfl, rfl⟩) | ⟨l, m, h, rfl, rfl⟩
  · simp [Value.cells, okCells, oneV] at ho
  · simp [Go.undef, Value.cells, okCells, oneV] at ho
  · obtain ⟨e1, e2⟩ := h.cells; rw [e1, e2]; exact .cons h .nil
  · simpa [Value.cells] using h
  · simp [Value.cells, okCells, oneV] at ho

theorem constC_rel (h : constC v = true) : CRel σ ι v v := .const h
theorem constL_rel {l : List Value} (h : constL l = true) : All2 (CRel σ ι) l l := by
  induction l with
  | nil => exact .nil
  | cons a l ih =>
    simp only [constL] at h
    cases hx : constC a with
    | false => simp [hx] at h
    | true => rw [hx] at h; exact .cons (constC_rel hx) (ih h)
theorem constOk_rel (h : constOk v = true) : VRel σ ι v v := by
  cases v with
  | agg cs => obtain ⟨l⟩ := cs; exact .agg (constL_rel h)
  | _ => exact .cell (constC_rel (by simpa [constOk] using h))
theorem constOk_cells (h : constOk v = true) : All2 (CRel σ ι) v.cells.toList v.cells.toList := by
  cases v with
  | agg cs => exact constL_rel h
  | _ => exact .cons (constC_rel (by simpa [constOk] using h)) .nil
end

/-! ### tokens -/
theorem kOf_lt {t : Nat} {k : IntKind} (h : kOf t = some k) : t < 3 := by
  match t with
  | 0 | 1 | 2 => omega
  | t + 3 => simp [kOf] at h
theorem decE_encE : ∀ e : List Int, decE (encE e) = e := by
  intro e
  induction e with
  | nil => rfl
  | cons c l ih => simp [encE, decE, ih]
section
variable {ι : Im} {t : Nat} {p u : Value}
/-- a number -/
theorem TRel.num {k : IntKind} (h : TRel σ ι t p u) (hk : kOf t = some k) : ∃ e, p = .tuple e ∧ 0 ≤ evL (decE e.toList) σ.xs ∧ evL (decE e.toList) σ.xs ≤ (maxOf k : Nat) ∧ u = .int k (evL (decE e.toList) σ.xs) := by
  have hlt := kOf_lt hk
  rcases h with ⟨k', e, h1, h2, h3, h4, h5⟩ | ⟨h1, _⟩ | ⟨⟨h1, _⟩ | ⟨h1, _⟩, _⟩ | ⟨k', e, a, c, h1, _⟩ | ⟨k', e, b, q, z, c, h1, _⟩ | ⟨k', e, b, q, z, c, h1, _⟩
  · rw [hk] at h1; injection h1 with h1; subst h1; exact ⟨e, h2, h3, h4, h5⟩
  all_goals omega
theorem rowT_some {v : Value} {k : Nat} {e : List Value} (h : rowT v = some (k, e)) : v = .iface (2 * k + 7) (.tuple e.toArray) := by
  unfold rowT at h
  split at h
  · rename_i t a
    cases hb : (Nat.ble 6 t && Nat.beq (Nat.mod t 2) 1) with
    | false => rw [hb] at h; simp at h
    | true =>
      rw [hb] at h
      simp only [Option.some.injEq, Prod.mk.injEq] at h
      obtain ⟨h1, h2⟩ := h
      subst h2
      simp only [Bool.and_eq_true] at hb
      have h6 := Nat.le_of_ble_eq_true hb.1
      have key : ∀ t k : Nat, 6 ≤ t → t % 2 = 1 → (t - 7) / 2 = k → t = 2 * k + 7 := by intro t k; omega
      have h9 := key t k h6 (Nat.eq_of_beq_eq_true hb.2) h1
      rw [h9]
  · cases h
theorem natT_some {v : Value} {k : Nat} {e : List Value} (h : natT v = some (k, e)) : v = .iface (2 * k + 6) (.tuple e.toArray) := by
  unfold natT at h
  split at h
  · rename_i t a
    cases hb : (Nat.ble 6 t && Nat.beq (Nat.mod t 2) 0) with
    | false => rw [hb] at h; simp at h
    | true =>
      rw [hb] at h
      simp only [Option.some.injEq, Prod.mk.injEq] at h
      obtain ⟨h1, h2⟩ := h
      subst h2
      simp only [Bool.and_eq_true] at hb
      have h6 := Nat.le_of_ble_eq_true hb.1
      have key : ∀ t k : Nat, 6 ≤ t → t % 2 = 0 → (t - 6) / 2 = k → t = 2 * k + 6 := by intro t k; omega
      have h9 := key t k h6 (Nat.eq_of_beq_eq_true hb.2) h1
      rw [h9]
  · cases h
theorem TRel.row {k : Nat} {e : Array Value} (h : TRel σ ι (2 * k + 7) (.tuple e) u) : ∃ b q z c, ι k = some (b, q, z) ∧ 1 ≤ evE σ e.toList ∧ evE σ e.toList ≤ c ∧ c ≤ maxLen ∧ u = .slice (some ⟨b, q, none⟩) (evE σ e.toList) c := by
  rcases h with ⟨k', e', h1, _⟩ | ⟨h1, _⟩ | ⟨⟨h1, _⟩ | ⟨h1, _⟩, _⟩ | ⟨k', e', a, c, h1, _⟩ | ⟨k', e', b, q, z, c, h1, _⟩ | ⟨k', e', b, q, z, c, h1, h2, h3, h4, h5, h6, h7⟩
  · have := kOf_lt h1; omega
  · omega
  · omega
  · omega
  · omega
  · omega
  · have hk : k' = k := by omega
    subst hk
    injection h2 with h2
    subst h2
    exact ⟨b, q, z, c, h4, h3, h5, h6, h7⟩
theorem TRel.nat {k : Nat} {e : Array Value} (h : TRel σ ι (2 * k + 6) (.tuple e) u) : (evL (decE e.toList) σ.xs = 0 ∧ ∃ a c, c ≤ maxLen ∧ u = .slice a 0 c) ∨
    (evE σ e.toList ≠ 0 ∧ ∃ b q z c, ι k = some (b, q, z) ∧ (Go.Proofs.YgcsanGreat.digs (evE σ e.toList)).length ≤ c ∧ (c ≤ maxLen ∧ (Go.Proofs.YgcsanGreat.digs (evE σ e.toList)).length ≤ 41) ∧ u = .slice (some ⟨b, q, none⟩) (Go.Proofs.YgcsanGreat.digs (evE σ e.toList)).length c) := by
  rcases h with ⟨k', e', h1, _⟩ | ⟨h1, _⟩ | ⟨⟨h1, _⟩ | ⟨h1, _⟩, _⟩ | ⟨k', e', a, c, h1, h2, h3, h4, h5⟩ | ⟨k', e', b, q, z, c, h1, h2, h3, h4, h5, h6, h7⟩ | ⟨k', e', b, q, z, c, h1, _⟩
  · have := kOf_lt h1; omega
  · omega
  · omega
  · omega
  · injection h2 with h2; subst h2; exact .inl ⟨h3, a, c, h4, h5⟩
  · have hk : k' = k := by omega
    subst hk
    injection h2 with h2
    subst h2
    exact .inr ⟨h3, b, q, z, c, h4, h5, h6, h7⟩
  · omega
theorem TRel.argOf (h : TRel σ ι 4 p u) : u = σ.arg ∧ σ.isD := by
  rcases h with ⟨k', e', h1, _⟩ | ⟨h1, _⟩ | ⟨⟨_, hd⟩ | ⟨h1, _⟩, h2⟩ | ⟨k', e', a, c, h1, _⟩ | ⟨k', e', b, q, z, c, h1, _⟩ | ⟨k', e', b, q, z, c, h1, _⟩
  · have := kOf_lt h1; omega
  · omega
  · exact ⟨h2, hd⟩
  all_goals omega
theorem TRel.arg0Of (h : TRel σ ι 5 p u) : ∃ a c, c ≤ maxLen ∧ u = .slice (some a) 0 c := by
  rcases h with ⟨k', e', h1, _⟩ | ⟨h1, _⟩ | ⟨⟨h1, _⟩ | ⟨_, a, c, h3, h4⟩, h2⟩ | ⟨k', e', a, c, h1, _⟩ | ⟨k', e', b, q, z, c, h1, _⟩ | ⟨k', e', b, q, z, c, h1, _⟩
  · have := kOf_lt h1; omega
  · omega
  · omega
  · exact ⟨a, c, h4, by rw [h2, h3]⟩
  all_goals omega
end

section
variable {P : Program} {w : World}
theorem constO_some {x : Option Value} {z : Value} (h : constO x = some z) : x = some z ∧ constOk z = true := by
  cases x with
  | none => simp [constO] at h
  | some y =>
    simp only [constO] at h
    cases hc : constOk y with
    | false => simp [hc] at h
    | true => rw [hc] at h; injection h with h; subst h; exact ⟨rfl, hc⟩
theorem zeroOf_some {t : TypeId} {z : Value} (h : zeroOf P t = some z) : (zeroValue t).run P w = .ok z w ∧ constOk z = true := by
  unfold zeroOf at h
  cases hi : P.info? t with
  | none => simp [hi] at h
  | some i =>
    rw [hi] at h
    obtain ⟨h1, h2⟩ := constO_some h
    exact ⟨by simp [zeroValue, typeInfo, hi, h1], h2⟩
theorem sizeOfT_some {t : TypeId} {n : Nat} (h : sizeOfT P t = some n) : (sizeOf t).run P w = .ok n w ∧ ∃ i, P.info? t = some i ∧ i.size = n := by
  unfold sizeOfT at h
  cases hi : P.info? t with
  | none => simp [hi] at h
  | some i =>
    rw [hi] at h
    injection h with h
    exact ⟨by simp [sizeOf, typeInfo, hi, h], i, rfl, h⟩
theorem run_under {t : TypeId} {d : TypeDesc} (h : P.underlying t = some d) : (underlying t).run P w = .ok d w := by
  simp [underlying, h]
theorem isAggT_some {t : TypeId} {b : Bool} (h : isAggT P t = some b) : (isAgg t).run P w = .ok b w := by
  unfold isAggT at h
  cases hd : P.underlying t with
  | none => simp [hd] at h
  | some d =>
    rw [hd] at h
    unfold isAgg
    simp only [Sem.run_bind, run_under hd, Result.andThen_ok]
    cases d <;> simp at h <;> subst h <;> rfl
theorem run_newRow (elem : TypeId) (cells : Array Value) : (newRow elem cells).run P w = .ok ⟨w.heap.size, 0, none⟩ (w.alloc (.cells cells elem)) := by
  simp [newRow]
end

/-- what is said of an operation -/
def OpGoes (σ : Va) (P : Program) (n0 : Nat) (ι : Im) (h : Hp) (w : World) (ρ : Operand → Value) (o : Oper) : Out → Prop
  | ⟨v, h', none⟩ => ∃ ι' w' u, ((execOp ρ o).run P w = .ok (.value u) w' ∨ ((execOp ρ o).run P w = .ok .skip w' ∧ u = undef)) ∧ VRel σ ι' v u ∧ HRel σ n0 ι' h' w' ∧ Ext ι h w ι' h' w'
  | ⟨_, _, some (f, args)⟩ => ∃ us, (execOp ρ o).run P w = .ok (.enter f us.toArray) w ∧ All2 (VRel σ ι) args us

section
variable {P : Program} {n0 : Nat} {ι : Im} {h : Hp} {w : World} {ρ : Operand → Value} {o : Oper}

theorem goes_value (H : HRel σ n0 ι h w) {v u : Value} (hr : (execOp ρ o).run P w = .ok (.value u) w) (hv : VRel σ ι v u) : OpGoes σ P n0 ι h w ρ o (.val v h) :=
  ⟨ι, w, u, .inl hr, hv, H, Ext.refl ι h w⟩

theorem okCells_sym {l : List Value} (h : okCells l = true) : isSym l = none := by
  unfold isSym
  split
  · simp [okCells, oneV] at h
  · rfl
theorem okCells_dec {l : List Value} (h : okCells l = true) : dec σ l = some l := by
  apply dec_plain
  · unfold isRep
    split
    · simp [okCells, oneV] at h
    · rfl
  · exact okCells_sym h
theorem newBlock_some {l : List Value} {f : Addr → Value} {out : Out} (he : newBlock h l f = some out) :
    okCells l = true ∧ ∃ m', out = .val (f ⟨h.next, 0, none⟩) ⟨h.next + 1, m'⟩ ∧ Tr.set (some l) 64 h.m h.next = some m' := by
  unfold newBlock at he
  cases ho : okCells l with
  | false => simp [ho] at he
  | true =>
    rw [ho] at he
    obtain ⟨n, m⟩ := h
    simp only at he
    cases hs : Tr.set (some l) 64 m n with
    | none => rw [hs] at he; simp [newO] at he
    | some m' =>
      rw [hs] at he
      simp only [newO, Option.some.injEq] at he
      exact ⟨rfl, m', he.symm, rfl⟩

theorem goes_new (H : HRel σ n0 ι h w) {l l' rest : List Value} {f : Addr → Value} {out : Out} (he : newBlock h l f = some out) (hl : okCells l = true → All2 (CRel σ ι) l l') (T : TypeId)
    {g : Addr → Value} (hr : (execOp ρ o).run P w = .ok (.value (g ⟨w.heap.size, 0, none⟩)) (w.alloc (.cells (l' ++ rest).toArray T)))
    (hg : ∀ κ : Im, κ h.next = some (w.heap.size, 0, (l' ++ rest).length) → VRel σ κ (f ⟨h.next, 0, none⟩) (g ⟨w.heap.size, 0, none⟩)) : OpGoes σ P n0 ι h w ρ o out := by
  obtain ⟨ho, m', rfl, hs⟩ := newBlock_some he
  obtain ⟨n, m⟩ := h
  obtain ⟨h1, h2⟩ := H.new (rest := rest) hs (okCells_dec ho) (hl ho) T
  exact ⟨_, _, _, .inl hr, hg _ (Im.up_self _ _ _), h1, h2⟩

/-! ### the operations one by one -/
theorem goes_pick (H : HRel σ n0 ι h w) {c x y : Value} {c' x' y' : Value} (hc : VRel σ ι c c') (hx : VRel σ ι x x') (hy : VRel σ ι y y') {out : Out} (he : evalPick h c x y = some out)
    (hr : (execOp ρ o) = (do pure (.value (if ← asBool c' then x' else y')) : Sem Next)) : OpGoes σ P n0 ι h w ρ o out := by
  unfold evalPick at he
  cases c with
  | bool b =>
    have := hc.bool
    subst this
    cases b <;> simp only [mk, Option.some.injEq] at he <;> subst he
    · exact goes_value H (by rw [hr]; simp [asBool]) hy
    · exact goes_value H (by rw [hr]; simp [asBool]) hx
  | _ => simp at he

theorem loadT_goes (H : HRel σ n0 ι h w) {t : TypeId} {a : Addr} {v : Value} (he : loadT P t h a = some v) :
    ∃ k o b p z, a = ⟨k, o, none⟩ ∧ ι k = some (b, p, z) ∧ ∃ u, (loadVar t ⟨b, p + o, none⟩).run P w = .ok u w ∧ VRel σ ι v u ∧ WRel σ ι v u := by
  unfold loadT at he
  cases hb : isAggT P t with
  | none => simp [hb] at he
  | some agg =>
    rw [hb] at he
    have h1 := isAggT_some (w := w) hb
    cases agg with
    | true =>
      simp only at he
      cases hs : sizeOfT P t with
      | none => rw [hs] at he; simp [loadAggT] at he
      | some n =>
        rw [hs] at he
        simp only [loadAggT] at he
        cases hr : h.read a n with
        | none => rw [hr] at he; simp [aggO] at he
        | some l =>
          rw [hr] at he
          simp only [aggO, Option.some.injEq] at he
          subst he
          obtain ⟨k, o, b, p, z, rfl, _, hi, m, hm, hlen, hc⟩ := H.read hr
          refine ⟨k, o, b, p, z, rfl, hi, .agg m.toArray, ?_, .agg hm, .agg hm⟩
          have h2 := run_loadCells_list (P := P) w ⟨b, p + o, none⟩ m hc
          rw [hlen] at h2
          unfold loadVar
          simp [h1, (sizeOfT_some (w := w) hs).1, h2]
    | false =>
      simp only at he
      cases hr : h.read a 1 with
      | none => rw [hr] at he; simp [oneO] at he
      | some l =>
        rw [hr] at he
        obtain ⟨k, o, b, p, z, rfl, _, hi, m, hm, hlen, hc⟩ := H.read hr
        cases l with
        | nil => rw [hm.nilL] at hlen; simp at hlen
        | cons v' l =>
          obtain ⟨u, m', rfl, hvu, hlm⟩ := hm.consL
          cases l with
          | cons x l => obtain ⟨y, m2, rfl, _⟩ := hlm.consL; simp at hlen
          | nil =>
            have e0 := hlm.nilL
            subst e0
            simp only [oneO, Option.some.injEq] at he
            subst he
            refine ⟨k, o, b, p, z, rfl, hi, u, ?_, .cell hvu, .cell hvu⟩
            have := hc 0 u rfl
            rw [addr_add, Nat.add_zero] at this
            unfold loadVar
            simp [h1, this]
end
end Go.Jv
