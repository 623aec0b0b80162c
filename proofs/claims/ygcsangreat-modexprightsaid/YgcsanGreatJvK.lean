/-
  A region whose order is drawn: kinds of operations; where a run stands.
-/
import Derived.Test.YgcsanGreatJvJ
namespace Go.Jv
open Go
set_option linter.unusedVariables false
set_option linter.unusedSimpArgs false
variable {σ : Va}

/-! ### kinds -/
def outV : Option Out → Option Value
  | some ⟨v, _, none⟩ => some v
  | _ => none

section
variable {P : Program} {a : Ac} {o : Oper}

theorem fromR {f : Hp → Option Out} {r : Option Value} (hf : ∀ h, f h = mkO h r) {h : Hp} {out : Out} (he : f h = some out) : ∃ v, out = .val v h ∧ ∀ h2, f h2 = some (.val v h2) := by
  cases hr : r with
  | none => rw [hf, hr] at he; simp [mkO] at he
  | some v =>
    rw [hf, hr] at he
    simp only [mkO, Option.some.injEq] at he
    exact ⟨v, he.symm, fun h2 => by rw [hf, hr]; rfl⟩

theorem mkN_mkO (h : Hp) (x : Option Next) : mkN h x = mkO h (match x with | some (.value v) => (match flat v with | true => some v | false => none) | _ => none) := by
  cases x with
  | none => rfl
  | some nx =>
    cases nx with
    | value v => simp only [mkN]; cases flat v <;> rfl
    | _ => rfl

theorem calm_any {h : Hp} {out : Out} (hk : kindOf o.op = .ready) (he : evalOp P h a o = some out) : ∃ v, out = .val v h ∧ ∀ h2, evalOp P h2 a o = some (.val v h2) := by
  obtain ⟨dst, op, type, pos, after, guard⟩ := o
  cases op with
  | move x => exact fromR (f := fun h => evalOp P h a _) (r := some (Ac.eval a x)) (fun h => rfl) he
  | assign x => exact fromR (f := fun h => evalOp P h a _) (r := some (Ac.eval a x)) (fun h => rfl) he
  | pick c x y =>
    refine fromR (f := fun h => evalOp P h a _) (r := outV (evalPick ⟨0, .nil⟩ (Ac.eval a c) (Ac.eval a x) (Ac.eval a y))) (fun h => ?_) he
    simp only [evalOp]
    generalize Ac.eval a c = vc
    cases vc with
    | bool b => cases b <;> rfl
    | _ => rfl
  | build t ps =>
    refine fromR (f := fun h => evalOp P h a _) (r := outV (evalBuild P ⟨0, .nil⟩ t (partsOf (Ac.eval a) ps.toList))) (fun h => ?_) he
    simp only [evalOp, evalBuild]
    generalize partsOf (Ac.eval a) ps.toList = parts
    cases zeroOf P t with
    | none => rfl
    | some z =>
      simp only
      cases P.underlying t with
      | none => rfl
      | some d =>
        cases d with
        | struct fields =>
          simp only
          cases placesOf P fields.toList with
          | none => rfl
          | some places =>
            simp only
            cases fillL (fun x => places[x]?) (some z.cells.toList) parts <;> rfl
        | array n elem =>
          simp only
          cases sizeOfT P elem with
          | none => rfl
          | some size =>
            simp only
            cases fillL (fun i => some (Nat.mul i size, size)) (some z.cells.toList) parts <;> rfl
        | _ => rfl
  | nilCheck x =>
    refine fromR (f := fun h => evalOp P h a _) (r := outV (evalNil ⟨0, .nil⟩ (Ac.eval a x))) (fun h => ?_) he
    simp only [evalOp]
    generalize Ac.eval a x = vx
    cases vx with
    | pointer ad => cases ad <;> rfl
    | _ => rfl
  | binOp op t x y yt =>
    refine fromR (f := fun h => evalOp P h a _) (r := outV (evalOp P ⟨0, .nil⟩ a ⟨dst, .binOp op t x y yt, type, pos, after, guard⟩)) (fun h => ?_) he
    simp only [evalOp, evalBin]
    cases quickV op (Ac.eval a x) (Ac.eval a y) with
    | some v => rfl
    | none =>
      simp only [slowBin]
      cases (flatV (Ac.eval a x) && flatV (Ac.eval a y)) with
      | true =>
        simp only [mkN_mkO]
        generalize (match bare P (execOp (Ac.eval a) _) with | some (.value v) => (match flat v with | true => some v | false => none) | _ => none : Option Value) = r
        cases r <;> rfl
      | false =>
        simp only
        cases tokBin P t op (Ac.eval a x) (Ac.eval a y) with
        | some v => rfl
        | none =>
          simp only
          split <;> rfl
  | unOp op t x =>
    refine fromR (f := fun h => evalOp P h a _) (r := outV (evalOp P ⟨0, .nil⟩ a ⟨dst, .unOp op t x, type, pos, after, guard⟩)) (fun h => ?_) he
    simp only [evalOp, evalUn]
    cases flatV (Ac.eval a x) with
    | true =>
      simp only [mkN_mkO]
      generalize (match bare P (execOp (Ac.eval a) _) with | some (.value v) => (match flat v with | true => some v | false => none) | _ => none : Option Value) = r
      cases r <;> rfl
    | false => rfl
  | slice t x lo hi mx => exact fromR (f := fun h => evalOp P h a _) (r := evalSlice P t (Ac.eval a x) (evalO a lo) (evalO a hi) (evalO a mx)) (fun h => rfl) he
  | index t x ix =>
    refine fromR (f := fun h => evalOp P h a _) (r := outV (evalIndex P ⟨0, .nil⟩ t (Ac.eval a x) (Ac.eval a ix))) (fun h => ?_) he
    simp only [evalOp]
    generalize Ac.eval a x = vx
    generalize Ac.eval a ix = vi
    cases vi with
    | int k n =>
      cases n with
      | negSucc n => rfl
      | ofNat i =>
        cases vx with
        | agg cs =>
          simp only [evalIndex]
          cases P.underlying t with
          | none => rfl
          | some d =>
            cases d with
            | array len elem =>
              simp only
              split
              · cases oneO (cut0 (skip cs.toList i) 1) <;> rfl
              · rfl
            | _ => rfl
        | _ => rfl
    | _ => rfl
  | fieldAddr s x f =>
    refine fromR (f := fun h => evalOp P h a _) (r := outV (evalFieldAddr P ⟨0, .nil⟩ s (Ac.eval a x) f)) (fun h => ?_) he
    simp only [evalOp, evalFieldAddr]
    generalize Ac.eval a x = vx
    cases vx with
    | pointer ad => cases ad with
      | none => rfl
      | some ad =>
        simp only
        cases fieldOf P s f with
        | none => rfl
        | some y =>
          obtain ⟨y1, y2, y3⟩ := y
          simp only [addrO]
          cases Nat.beq y3 0 <;> rfl
    | _ => rfl
  | field s x f =>
    refine fromR (f := fun h => evalOp P h a _) (r := outV (evalField P ⟨0, .nil⟩ s (Ac.eval a x) f)) (fun h => ?_) he
    simp only [evalOp, evalField]
    generalize Ac.eval a x = vx
    cases vx with
    | agg cs =>
      simp only
      cases fieldOf P s f with
      | none => rfl
      | some y =>
        obtain ⟨y1, y2, y3⟩ := y
        simp only [partO]
        cases isAggT P y2 with
        | none => rfl
        | some b =>
          cases b with
          | true => simp only; cases aggO (cut0 (skip cs.toList y1) y3) <;> rfl
          | false => simp only; cases oneO (cut0 (skip cs.toList y1) 1) <;> rfl
    | _ => rfl
  | indexAddr t x ix =>
    refine fromR (f := fun h => evalOp P h a _) (r := outV (evalIndexAddr P ⟨0, .nil⟩ t (Ac.eval a x) (Ac.eval a ix))) (fun h => ?_) he
    simp only [evalOp, evalIndexAddr]
    have key : ∀ (h : Hp) (ad : Addr) (i len : Nat) (s : Option Nat), indexO h ad i len s = mkO h (outV (indexO ⟨0, .nil⟩ ad i len s)) := by
      intro h ad i len s
      cases s with
      | none => rfl
      | some size => simp only [indexO]; cases Nat.ble (Nat.succ i) len <;> rfl
    generalize Ac.eval a ix = vi
    generalize Ac.eval a x = vx
    cases vi with
    | int k i => cases i with
      | negSucc i => rfl
      | ofNat i =>
        simp only
        cases P.underlying t with
        | none => rfl
        | some d =>
          cases d with
          | array len elem =>
            simp only
            cases vx with
            | pointer ad => cases ad with
              | none => rfl
              | some ad => exact key _ _ _ _ _
            | _ => rfl
          | slice elem =>
            simp only
            cases vx with
            | slice ad len c => cases ad with
              | none => rfl
              | some ad => exact key _ _ _ _ _
            | _ => rfl
          | _ => rfl
    | _ => rfl
  | extract x ix =>
    refine fromR (f := fun h => evalOp P h a _) (r := outV (evalExtract ⟨0, .nil⟩ (Ac.eval a x) ix)) (fun h => ?_) he
    simp only [evalOp]
    generalize Ac.eval a x = vx
    cases vx with
    | tuple vs => simp only [evalExtract]; cases vs.toList[ix]? <;> rfl
    | _ => rfl
  | call c =>
    obtain ⟨callee, args, types⟩ := c
    cases callee with
    | builtin b =>
      cases b with
      | len =>
        refine fromR (f := fun h => evalOp P h a _) (r := outV (evalOp P ⟨0, .nil⟩ a ⟨dst, .call ⟨.builtin .len, args, types⟩, type, pos, after, guard⟩)) (fun h => ?_) he
        simp only [evalOp, evalCall, evalBuiltin]
        generalize argsOf a args.toList = L
        cases L with
        | nil => rfl
        | cons x L =>
          cases L with
          | cons y L => rfl
          | nil =>
            simp only
            cases rowT x with
            | some r =>
              obtain ⟨k, e⟩ := r
              simp only
              cases types.toList[0]? with
              | none => rfl
              | some t =>
                simp only [lenT2, lenT]
                cases P.underlying t with
                | none => rfl
                | some d =>
                  cases d with
                  | slice e => simp only; cases rangeI .i64 (decE _) <;> rfl
                  | _ => rfl
            | none =>
            cases types.toList[0]? with
            | none => rfl
            | some t =>
              simp only [evalLen]
              cases P.underlying t with
              | none => rfl
              | some d =>
                cases d with
                | slice e => simp only; cases x <;> rfl
                | array n e => rfl
                | _ => rfl
      | min =>
        refine fromR (f := fun h => evalOp P h a _) (r := outV (evalOp P ⟨0, .nil⟩ a ⟨dst, .call ⟨.builtin .min, args, types⟩, type, pos, after, guard⟩)) (fun h => ?_) he
        simp only [evalOp, evalCall, evalBuiltin]
        cases flatL (argsOf a args.toList) with
        | false =>
          simp only
          generalize argsOf a args.toList = L
          cases L with
          | nil => rfl
          | cons x L =>
            cases L with
            | nil => rfl
            | cons y L =>
              cases L with
              | cons z L => rfl
              | nil => simp only; cases tokMin1 x y (exOf x) (exOf y) <;> rfl
        | true =>
          simp only [mkN_mkO]
          generalize (match bare P (execOp (Ac.eval a) _) with | some (.value v) => (match flat v with | true => some v | false => none) | _ => none : Option Value) = r
          cases r <;> rfl
      | _ => simp [kindOf] at hk
    | _ => simp [kindOf] at hk
  | _ => simp [kindOf] at hk

theorem load_same {h : Hp} {out : Out} (hk : kindOf o.op = .busy) (he : evalOp P h a o = some out) : ∃ v, out = .val v h := by
  obtain ⟨dst, op, type, pos, after, guard⟩ := o
  cases op with
  | load t x =>
    simp only [evalOp, evalLoad] at he
    split at he
    · rename_i ad _
      cases hl : loadT P t h ad with
      | none => rw [hl] at he; simp [mkO] at he
      | some v => rw [hl] at he; simp only [mkO, Option.some.injEq] at he; exact ⟨v, he.symm⟩
    · cases he
  | convert s d x =>
    simp only [evalOp, evalConv] at he
    split at he
    · split at he
      · rename_i n _ _ _ _
        cases hq : quickConv n (P.underlying d) with
        | some v => rw [hq] at he; simp only [convO, mk, Option.some.injEq] at he; exact ⟨v, he.symm⟩
        | none =>
          rw [hq] at he
          simp only [convO] at he
          obtain ⟨v, _, e, _⟩ := mkN_some he
          exact ⟨v, e⟩
      · cases he
    · rename_i ad len c _
      split at he
      · split at he
        · cases hr : h.read ad len with
          | none => rw [hr] at he; simp [bytesO] at he
          | some l =>
            rw [hr] at he
            simp only [bytesO] at he
            cases hb : toBytes l with
            | none => rw [hb] at he; simp at he
            | some bs => rw [hb] at he; simp only [Option.some.injEq] at he; exact ⟨_, he.symm⟩
        · cases he
      · cases he
    · split at he
      · split at he
        · simp only [bytesO, toBytes, Option.some.injEq] at he; exact ⟨_, he.symm⟩
        · cases he
      · cases he
    · unfold tokConv at he
      split at he
      · split at he
        · rename_i k2 _ _ _ _ e _
          cases hri : rangeI k2 e with
          | none => rw [hri] at he; simp [mkO] at he
          | some v => rw [hri] at he; simp only [mkO, Option.some.injEq] at he; exact ⟨v, he.symm⟩
        · cases he
      · cases he
    · cases he
  | call c =>
    obtain ⟨callee, args, types⟩ := c
    cases callee with
    | builtin b => cases b <;> simp [kindOf] at hk
    | _ => simp [kindOf] at hk
  | _ => simp [kindOf] at hk

/-- what a fresh operation makes -/
structure Made (σ : Va) (h : Hp) (v : Value) (h' : Hp) (l : List Value) (f : Addr → Value) : Prop where
  mem : ∃ m' r, h' = ⟨h.next + 1, m'⟩ ∧ Tr.set (some r) 64 h.m h.next = some m' ∧ dec σ r = some l
  const : ∀ κ : Im, All2 (CRel σ κ) l l
  rel : ∀ (κ : Im) (b : Nat), κ h.next = some (b, 0, l.length) → VRel σ κ v (f ⟨b, 0, none⟩)

theorem fresh_spec {h : Hp} {out : Out} (hk : kindOf o.op = .exhausted) (he : evalOp P h a o = some out) :
    ∃ v h' l f Ty, out = .val v h' ∧ Made σ h v h' l f ∧ ∀ (ι : Im) (ρ : Operand → Value) (w : World), (∀ x ∈ o.op.operands, VRel σ ι (Ac.eval a x) (ρ x)) → (execOp ρ o).run P w = .ok (.value (f ⟨w.heap.size, 0, none⟩)) (w.alloc (.cells l.toArray Ty)) := by
  obtain ⟨dst, op, type, pos, after, guard⟩ := o
  cases op with
  | alloc t =>
    simp only [evalOp] at he
    cases hz : zeroOf P t with
    | none => rw [hz] at he; simp [evalAlloc] at he
    | some z =>
      rw [hz] at he
      simp only [evalAlloc] at he
      obtain ⟨ho, m', rfl, hs⟩ := newBlock_some he
      refine ⟨_, _, z.cells.toList, fun a => .pointer (some a), t, rfl, ⟨⟨m', _, rfl, hs, okCells_dec ho⟩, fun κ => constOk_cells (zeroOf_some (w := default) hz).2, fun κ b hb => .cell (.ptr (o := 0) hb)⟩, ?_⟩
      intro ι ρ w _
      obtain ⟨h1, h2⟩ := zeroOf_some (w := w) hz
      simp [execOp, Instr.alloc, h1, newVar, run_newRow]
  | makeSlice t l c =>
    simp only [evalOp, evalMake] at he
    split at he
    · rename_i kl nl hl
      split at he
      · rename_i kc nc hc
        split at he
        · rename_i elem hd
          cases hb : (Nat.ble nl nc && Nat.ble nc 1048576) with
          | false => rw [hb] at he; simp at he
          | true =>
            rw [hb] at he
            simp only [Bool.and_eq_true] at hb
            have b1 := Nat.le_of_ble_eq_true hb.1
            have b2 := Nat.le_of_ble_eq_true hb.2
            simp only at he
            cases hsm : Nat.ble nc 4096 with
            | true =>
              rw [hsm] at he
              simp only at he
              cases hrow : rowOf P elem nc with
              | none => rw [hrow] at he; simp [makeO] at he
              | some row =>
                rw [hrow] at he
                simp only [makeO] at he
                obtain ⟨ho, m', rfl, hs⟩ := newBlock_some he
                obtain ⟨i, z, _, _, h3, _, _, _, e⟩ := rowOf_some hrow
                refine ⟨_, _, row, fun a => .slice (some a) nl nc, elem, rfl, ⟨⟨m', _, rfl, hs, okCells_dec ho⟩, fun κ => by rw [e]; exact times_rel (constOk_cells h3) nc, fun κ b hb => .cell (.slc (o := 0) hb (capRel_exact (by simp [big]; omega)))⟩, ?_⟩
                intro ι ρ w hx
                have e1 := hx l (by simp [Op.operands])
                have e2 := hx c (by simp [Op.operands])
                rw [hl] at e1
                rw [hc] at e2
                simp only [execOp, e1.int, e2.int, Sem.run_bind, run_mk hd hrow b1 b2, Result.andThen_ok, Sem.run_pure]
            | false =>
              rw [hsm] at he
              simp only at he
              obtain ⟨v, hrow, hout, hcv⟩ := makeLong_some he
              obtain ⟨m', rfl, hset⟩ := hout
              refine ⟨_, _, List.replicate nc v, fun a => .slice (some a) nl nc, elem, rfl, ⟨⟨m', _, rfl, hset, rfl⟩, fun κ => by rw [← times_one]; exact times_rel (hcv κ) nc, fun κ b hb => .cell (.slc (o := 0) hb (capRel_exact (by simp [big]; omega)))⟩, ?_⟩
              intro ι ρ w hx
              have e1 := hx l (by simp [Op.operands])
              have e2 := hx c (by simp [Op.operands])
              rw [hl] at e1
              rw [hc] at e2
              have hrow2 : rowOf P elem nc = some (List.replicate nc v) := by rw [← times_one]; exact rowOf_more hrow nc
              simp only [execOp, e1.int, e2.int, Sem.run_bind, run_mk hd hrow2 b1 b2, Result.andThen_ok, Sem.run_pure]
        · cases he
      · cases he
    · rename_i t1 p hl
      split at he
      · rename_i t2 p2 hc
        obtain ⟨k, k2, e, e2, x1, x2, hee, hmk⟩ := makeT_some (σ := σ) he
        obtain ⟨elem, hd, hrow, h1, h2, hns⟩ := tokMake_some (σ := σ) hmk
        obtain ⟨m', rfl, hset⟩ := newSym_some hns
        refine ⟨_, _, List.replicate (evL e σ.xs).toNat (byteV 0), fun a => .slice (some a) (evL e σ.xs).toNat (evL e σ.xs).toNat, elem, rfl, ⟨⟨m', _, rfl, hset, symD_row0 e⟩, fun κ => by rw [← times_one]; exact times_rel (.cons (.int _ _) .nil) _, fun κ b hb => row_tok hb h1 (Nat.le_refl _) (by simp only [maxLen]; omega)⟩, ?_⟩
        intro ι ρ w hx
        have hl1 := hx l (by simp [Op.operands])
        have hc1 := hx c (by simp [Op.operands])
        rw [hl] at hl1
        rw [hc] at hc1
        have el := exOf_rel x1 hl1
        have ec := exOf_rel x2 hc1
        rw [← hee] at ec
        have hrow2 : rowOf P elem (evL e σ.xs).toNat = some (List.replicate (evL e σ.xs).toNat (byteV 0)) := by
          rw [← times_one]; exact rowOf_more hrow _
        have hn : evL e σ.xs = Int.ofNat (evL e σ.xs).toNat := by
          show _ = (((evL e σ.xs).toNat : Nat) : Int); omega
        have hmk := run_mk (P := P) (w := w) (kl := k) (kc := k2) hd hrow2 (Nat.le_refl _) (by omega)
        rw [← hn] at hmk
        simp only [execOp, el, ec, Sem.run_bind, hmk, Result.andThen_ok, Sem.run_pure]
      · cases he
    · cases he
  | call c =>
    obtain ⟨callee, args, types⟩ := c
    cases callee with
    | builtin b => cases b <;> simp [kindOf] at hk
    | _ => simp [kindOf] at hk
  | _ => simp [kindOf] at hk

/-! a value met again -/
theorem beqA_eq {x y : Addr} (h : beqA x y = true) : x = y := by
  obtain ⟨k, o, s⟩ := x
  obtain ⟨k', o', s'⟩ := y
  cases s <;> cases s' <;> simp [beqA] at h
  have h1 := Nat.eq_of_beq_eq_true (by simpa using h.1)
  have h2 := Nat.eq_of_beq_eq_true (by simpa using h.2)
  subst h1; subst h2; rfl
theorem beqI_eq {x y : Int} (h : beqI x y = true) : x = y := by
  cases x <;> cases y <;> simp [beqI] at h
  · exact congrArg Int.ofNat (Nat.eq_of_beq_eq_true (by simpa using h))
  · exact congrArg Int.negSucc (Nat.eq_of_beq_eq_true (by simpa using h))
theorem beqB_eq : ∀ {x y : List UInt8}, beqB x y = true → x = y := by
  intro x
  induction x with
  | nil => intro y h; cases y <;> simp [beqB] at h; rfl
  | cons a x ih =>
    intro y h
    cases y with
    | nil => simp [beqB] at h
    | cons b y =>
      simp only [beqB, Bool.and_eq_true] at h
      have := Nat.eq_of_beq_eq_true h.1
      rw [UInt8.toNat_inj.1 this, ih h.2]
theorem beqC_eq {x y : Value} (h : beqC x y = true) : x = y := by
  unfold beqC at h
  split at h
  · rename_i a b; simp at h; rw [h]
  · rename_i k a k' b; simp only [Bool.and_eq_true] at h; rw [sameKind_eq h.1, beqI_eq h.2]
  · rename_i a b
    obtain ⟨⟨a⟩⟩ := a
    obtain ⟨⟨b⟩⟩ := b
    have := beqB_eq h
    simp only at this
    rw [this]
  · rfl
  · rename_i a b; rw [beqA_eq h]
  · rename_i l c l' c'; simp only [Bool.and_eq_true] at h; rw [Nat.eq_of_beq_eq_true h.1, Nat.eq_of_beq_eq_true h.2]
  · rename_i a l c b l' c'; simp only [Bool.and_eq_true] at h; rw [beqA_eq h.1, Nat.eq_of_beq_eq_true h.2.1, Nat.eq_of_beq_eq_true h.2.2]
  · rename_i t p t' p'; simp only [Bool.and_eq_true] at h; rw [Nat.eq_of_beq_eq_true h.1, beqP_eq h.2]
  · cases h
theorem beqL_eq : ∀ {x y : List Value}, beqL x y = true → x = y := by
  intro x
  induction x with
  | nil => intro y h; cases y <;> simp [beqL] at h; rfl
  | cons a x ih =>
    intro y h
    cases y with
    | nil => simp [beqL] at h
    | cons b y =>
      simp only [beqL, Bool.and_eq_true] at h
      rw [beqC_eq h.1, ih h.2]
theorem beqV_eq {x y : Value} (h : beqV x y = true) : x = y := by
  unfold beqV at h
  split at h
  · rename_i a b
    have := beqL_eq h
    congr 1
    exact Array.ext' this
  · exact beqC_eq h
theorem again_some {e : Ent} {h : Hp} (hk : kindOf e.o.op = .busy) (ha : again P e h = true) : evalOp P h e.a e.o = some (.val e.v h) := by
  unfold again at ha
  cases hev : evalOp P h e.a e.o with
  | none => rw [hev] at ha; simp [beqOut] at ha
  | some out =>
    obtain ⟨v, rfl⟩ := load_same hk hev
    rw [hev] at ha
    simp only [beqOut] at ha
    rw [beqV_eq ha]
end
end Go.Jv
