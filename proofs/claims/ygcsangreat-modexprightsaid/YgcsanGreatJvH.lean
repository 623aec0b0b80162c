/-
  What the evaluator says of one operation holds of the model's: the whole.
-/
import Derived.Test.YgcsanGreatJvG
namespace Go.Jv
open Go
set_option linter.unusedVariables false
set_option linter.unusedSimpArgs false
variable {σ : Va}

section
variable {P : Program} {n0 : Nat} {ι : Im} {h : Hp} {w : World} {ρ : Operand → Value} {o : Oper}

theorem argsOf_rel {a : Ac} : ∀ (xs : List Operand), (∀ x ∈ xs, VRel σ ι (Ac.eval a x) (ρ x)) → All2 (VRel σ ι) (argsOf a xs) (xs.map ρ) := by
  intro xs
  induction xs with
  | nil => intro _; exact .nil
  | cons x xs ih => intro hx; exact .cons (hx x (List.mem_cons_self ..)) (ih fun y hy => hx y (List.mem_cons_of_mem _ hy))

theorem argsOf_flat {a : Ac} : ∀ (xs : List Operand), flatL (argsOf a xs) = true → ∀ x ∈ xs, flat (Ac.eval a x) = true := by
  intro xs
  induction xs with
  | nil => intro _ x hx; cases hx
  | cons y xs ih =>
    intro hf x hx
    simp only [argsOf, flatL] at hf
    cases hy : flat (Ac.eval a y) with
    | false => rw [hy] at hf; simp at hf
    | true =>
      rw [hy] at hf
      cases hx with
      | head => exact hy
      | tail _ hx => exact ih hf x hx
theorem flat_flatV {v : Value} (hf : flat v = true) : flatV v = true := by cases v <;> first | exact hf | simp [flat] at hf

theorem run_builtin {ρ : Operand → Value} {dst : Option Tmp} {b : Builtin} {args : Array Operand} {types : Array TypeId} {type : TypeId} {pos : String} {after : Array Edge} {guard : Option (Nat × Bool)} :
    execOp ρ ⟨dst, .call ⟨.builtin b, args, types⟩, type, pos, after, guard⟩ = builtin b types type (args.map fun | .const _ => true | _ => false) (args.map ρ) := rfl

theorem goes_len (H : HRel σ n0 ι h w) {t ty : TypeId} {x x' : Value} (hx : VRel σ ι x x') {types : Array TypeId} (ht : types[0]? = some t) {out : Out} (he : evalLen P h x (some t) = some out)
    (hr : execOp ρ o = (do pure (.value (← Builtin.len_ types ty #[x'])) : Sem Next)) : OpGoes σ P n0 ι h w ρ o out := by
  simp only [evalLen] at he
  split at he
  · rename_i e hd
    split at he
    · rename_i ad n c
      simp only [mk, Option.some.injEq] at he
      subst he
      refine goes_value H (u := .int .i64 (Int.ofNat n)) ?_ (.cell (.int _ _))
      rw [hr]
      cases ad with
      | none => rw [hx.nils]; simp [Builtin.len_, ht, run_under hd, goInt]
      | some a => obtain ⟨k, q, b, p, z, c', _, _, _, rfl⟩ := hx.slc; simp [Builtin.len_, ht, run_under hd, goInt]
    · cases he
  · rename_i n e hd
    simp only [mk, Option.some.injEq] at he
    subst he
    refine goes_value H (u := .int .i64 (Int.ofNat n)) ?_ (.cell (.int _ _))
    rw [hr]
    simp [Builtin.len_, ht, run_under hd, goInt]
  · cases he

theorem goes_lenT (H : HRel σ n0 ι h w) {t ty : TypeId} {x x' : Value} (hx : VRel σ ι x x') {types : Array TypeId} (ht : types[0]? = some t) {r : Nat × List Value} (hrt : rowT x = some r) {out : Out} (he : lenT2 P h r (some t) = some out)
    (hr : execOp ρ o = (do pure (.value (← Builtin.len_ types ty #[x'])) : Sem Next)) : OpGoes σ P n0 ι h w ρ o out := by
  obtain ⟨k, e⟩ := r
  simp only [lenT2] at he
  split at he
  · rename_i el hd
    simp only [lenT] at he
    cases hri : rangeI .i64 (decE e) with
    | none => rw [hri] at he; simp [mkO] at he
    | some v =>
      rw [hri] at he
      simp only [mkO, Option.some.injEq] at he
      subst he
      obtain ⟨g1, g2, g3⟩ := rangeI_rel (σ := σ) (ι := ι) hri
      rw [rowT_some hrt] at hx
      obtain ⟨b, q, z, c, hk, h1, h2, h3, rfl⟩ := hx.tokOf.row
      rw [List.toList_toArray] at hr
      have hN : evL (decE e) σ.xs = (evE σ e : Nat) := by unfold evE; omega
      rw [hN] at g1
      refine goes_value H (u := .int .i64 (evE σ e : Nat)) ?_ (.cell g1)
      rw [hr]
      simp [Builtin.len_, ht, run_under hd, goInt]
  · cases he
theorem goes_min (H : HRel σ n0 ι h w) {ty : TypeId} {types : Array TypeId} {x y x' y' : Value} (hx : VRel σ ι x x') (hy : VRel σ ι y y') {out : Out} (he : mkO h (tokMin1 x y (exOf x) (exOf y)) = some out)
    (hr : execOp ρ o = (do pure (.value (← Builtin.min_ types ty #[x', y'])) : Sem Next)) : OpGoes σ P n0 ι h w ρ o out := by
  cases htm : tokMin1 x y (exOf x) (exOf y) with
  | none => rw [htm] at he; simp [mkO] at he
  | some v =>
    rw [htm] at he
    simp only [mkO, Option.some.injEq] at he
    subst he
    unfold tokMin1 at htm
    split at htm
    · rename_i k a k' b h1 h2
      split at htm
      · rename_i hk
        have := sameKind_eq hk
        subst this
        have ex := exOf_rel h1 hx
        have ey := exOf_rel h2 hy
        have hrun : (execOp ρ o).run P w = .ok (.value (.int k (if evL b σ.xs < evL a σ.xs then evL b σ.xs else evL a σ.xs))) w := by
          rw [hr, ex, ey]
          simp [Builtin.min_, Builtin.min2]
        unfold tokMin at htm
        cases h3 : geE b a with
        | true =>
          rw [h3] at htm
          injection htm with htm
          subst htm
          have := geE_ev (σ := σ) h3
          rw [if_neg (by omega), ← ex] at hrun
          exact goes_value H hrun hx
        | false =>
          rw [h3] at htm
          simp only at htm
          cases h4 : geE a b with
          | false => rw [h4] at htm; simp at htm
          | true =>
            rw [h4] at htm
            injection htm with htm
            subst htm
            have := geE_ev (σ := σ) h4
            have e : (if evL b σ.xs < evL a σ.xs then evL b σ.xs else evL a σ.xs) = evL b σ.xs := by split <;> omega
            rw [e, ← ey] at hrun
            exact goes_value H hrun hy
      · cases htm
    · cases htm
theorem goes_index (H : HRel σ n0 ι h w) {t : TypeId} {x x' ix ix' : Value} (hx : VRel σ ι x x') (hi : VRel σ ι ix ix') {out : Out} (he : evalIndex P h t x ix = some out)
    (hr : execOp ρ o = (do pure (.value (← Instr.index t x' ix')) : Sem Next)) : OpGoes σ P n0 ι h w ρ o out := by
  unfold evalIndex at he
  split at he
  · rename_i k i
    have := hi.int
    subst this
    split at he
    · rename_i cs
      obtain ⟨m, hm, rfl⟩ := hx.aggOf
      split at he
      · rename_i len elem hd
        split at he
        · rename_i hb hs hle
          have hle := Nat.le_of_ble_eq_true hle
          have h6 := isAggT_some (w := w) hb
          cases hc : cut0 (skip cs.toList i) 1 with
          | none => rw [hc] at he; simp [oneO, mkO] at he
          | some r =>
            rw [hc] at he
            rcases cut_rel hm hc with ⟨a1, a2⟩ | ⟨a1, _⟩
            · have hlt : i < m.length := by omega
              have e : (m.drop i).take 1 = [m[i]] := by
                rw [List.drop_eq_getElem_cons hlt]; rfl
              rw [e] at a1
              cases r with
              | nil => exact a1.elim
              | cons v r =>
                obtain ⟨hvu, hl⟩ := a1
                cases r with
                | cons x r => exact hl.elim
                | nil =>
                  simp only [oneO, mkO, Option.some.injEq] at he
                  subst he
                  refine goes_value H (u := m[i]) ?_ (.cell hvu)
                  rw [hr]
                  have h0 : (0 : Int) ≤ Int.ofNat i ∧ Int.ofNat i < (len : Int) := by
                    constructor
                    · exact Int.natCast_nonneg i
                    · show (i : Int) < len; omega
                  have h1 : (Int.ofNat i).toNat = i := rfl
                  simp only [Instr.index, Sem.run_bind, asIntOf, Sem.run_pure, Result.andThen_ok, run_under hd, if_pos h0, (sizeOfT_some (w := w) hs).1, part, h6, h1]
                  simp [hlt]
            · simp at a1
        · cases he
      · cases he
    · cases he
  · cases he

theorem goes_call (H : HRel σ n0 ι h w) {a : Ac} {dst : Option Tmp} {c : Call} {type : TypeId} {pos : String} {after : Array Edge} {guard : Option (Nat × Bool)}
    (hx : ∀ x ∈ c.operands, VRel σ ι (Ac.eval a x) (ρ x)) (hfun : ∀ f, ρ (.func f) = .func (.func f) #[] #[])
    {out : Out} (he : evalCall P h a ⟨dst, .call c, type, pos, after, guard⟩ c = some out) : OpGoes σ P n0 ι h w ρ ⟨dst, .call c, type, pos, after, guard⟩ out := by
  obtain ⟨callee, args, types⟩ := c
  have hargs : All2 (VRel σ ι) (argsOf a args.toList) (args.toList.map ρ) := argsOf_rel _ fun x hm => hx x (by simp [Call.operands]; right; simpa using hm)
  unfold evalCall at he
  simp only at he
  cases callee with
  | value f =>
    cases f with
    | func f =>
      simp only [evalCallF] at he
      cases hf : P.funcs[f]? with
      | none => rw [hf] at he; simp at he
      | some fn =>
        rw [hf] at he
        simp only at he
        cases hb : bodyOk fn with
        | false => rw [hb] at he; simp at he
        | true =>
          rw [hb] at he
          simp only [Option.some.injEq] at he
          subst he
          refine ⟨args.toList.map ρ, ?_, hargs⟩
          unfold bodyOk at hb
          cases hbody : fn.body with
          | none => rw [hbody] at hb; simp at hb
          | some c =>
            rw [hbody] at hb
            simp only [Bool.not_eq_true'] at hb
            have : (args.toList.map ρ).toArray = args.map ρ := by apply Array.ext'; simp
            rw [this]
            simp [execOp, resolve, hfun, Deferred.ofValue, invoke, callFunc, hf, hbody]
            simpa using hb
    | _ => simp at he
  | builtin b =>
    simp only at he
    cases b with
    | len =>
      simp only [evalBuiltin] at he
      generalize hl : argsOf a args.toList = L at he hargs
      generalize hm : args.toList.map ρ = M at hargs
      have hm' : args.map ρ = M.toArray := by apply Array.ext'; simp [← hm]
      cases L with
      | nil => simp at he
      | cons x L =>
        obtain ⟨x', M, rfl, hxx, hLM⟩ := hargs.consL
        cases L with
        | cons y L => simp at he
        | nil =>
          have e0 := hLM.nilL
          subst e0
          simp only at he
          cases ht : types.toList[0]? with
          | none => rw [ht] at he; cases hrt : rowT x <;> rw [hrt] at he <;> simp [evalLen, lenT2] at he
          | some t =>
            rw [ht] at he
            cases hrt : rowT x with
            | some r =>
              rw [hrt] at he
              refine goes_lenT H hxx (types := types) (ty := type) (by simpa using ht) hrt he ?_
              rw [run_builtin, hm']; rfl
            | none =>
            rw [hrt] at he
            refine goes_len H hxx (types := types) (ty := type) (by simpa using ht) he ?_
            rw [run_builtin, hm']; rfl
    | append =>
      simp only [evalBuiltin] at he
      generalize hl : argsOf a args.toList = L at he hargs
      generalize hm : args.toList.map ρ = M at hargs
      have hm' : args.map ρ = M.toArray := by apply Array.ext'; simp [← hm]
      split at he
      · rename_i s x t u ht
        obtain ⟨y1, M1, rfl, h1, hr1⟩ := hargs.consL
        obtain ⟨y2, M2, rfl, h2, hr2⟩ := hr1.consL
        have e0 := hr2.nilL
        subst e0
        refine goes_append H h1 h2 (ty := type) he ?_
        have : types = #[t, u] := by apply Array.ext'; simp [ht]
        rw [run_builtin, hm', this]; rfl
      · cases he
    | copy =>
      simp only [evalBuiltin] at he
      generalize hl : argsOf a args.toList = L at he hargs
      generalize hm : args.toList.map ρ = M at hargs
      have hm' : args.map ρ = M.toArray := by apply Array.ext'; simp [← hm]
      split at he
      · rename_i s x t u ht
        obtain ⟨y1, M1, rfl, h1, hr1⟩ := hargs.consL
        obtain ⟨y2, M2, rfl, h2, hr2⟩ := hr1.consL
        have e0 := hr2.nilL
        subst e0
        have : types = #[t, u] := by apply Array.ext'; simp [ht]
        split at he
        · refine goes_tokCopy H h1 h2 (ty := type) (u := u) he ?_
          rw [run_builtin, hm', this]; rfl
        · refine goes_copy H h1 h2 (ty := type) (u := u) he ?_
          rw [run_builtin, hm', this]; rfl
      · cases he
    | min =>
      simp only [evalBuiltin] at he
      cases hf : flatL (argsOf a args.toList) with
      | false =>
        rw [hf] at he
        simp only at he
        generalize hl : argsOf a args.toList = L at he hargs
        generalize hm : args.toList.map ρ = M at hargs
        have hm' : args.map ρ = M.toArray := by apply Array.ext'; simp [← hm]
        split at he
        · obtain ⟨y1, M1, rfl, h1, hr1⟩ := hargs.consL
          obtain ⟨y2, M2, rfl, h2, hr2⟩ := hr1.consL
          have e0 := hr2.nilL
          subst e0
          refine goes_min H (types := types) (ty := type) h1 h2 he ?_
          rw [run_builtin, hm']; rfl
        · cases he
      | true =>
        rw [hf] at he
        simp only at he
        obtain ⟨v, hb, rfl, hfv⟩ := mkN_some he
        have heq : execOp ρ ⟨dst, .call ⟨.builtin .min, args, types⟩, type, pos, after, guard⟩ = execOp (Ac.eval a) ⟨dst, .call ⟨.builtin .min, args, types⟩, type, pos, after, guard⟩ := by
          refine execOp_congr _ (fun cs b e => by cases e) ?_
          intro x hm
          have hm' : x ∈ args := by simpa [Op.operands, Call.operands] using hm
          exact (hx x (by simpa [Call.operands] using hm')).flat_eq (flat_flatV (argsOf_flat _ hf x (by simpa using hm')))
        have hrun := bare_run _ _ hb w
        rw [← heq] at hrun
        exact goes_value H hrun (flat_rel hfv)
    | _ => simp [evalBuiltin] at he
  | _ => simp at he

theorem evalO_rel {a : Ac} {x : Option Operand} (hx : ∀ y ∈ x, VRel σ ι (Ac.eval a y) (ρ y)) : ORel σ ι (evalO a x) (x.map ρ) := by
  cases x with
  | none => exact .no
  | some x => exact .yes (hx x rfl)

/-- One operation. -/
theorem evalOp_goes (H : HRel σ n0 ι h w) {a : Ac} (hx : ∀ x ∈ o.op.operands, VRel σ ι (Ac.eval a x) (ρ x)) (hfun : ∀ f, ρ (.func f) = .func (.func f) #[] #[])
    {out : Out} (he : evalOp P h a o = some out) : OpGoes σ P n0 ι h w ρ o out := by
  obtain ⟨dst, op, type, pos, after, guard⟩ := o
  simp only at hx
  cases op with
  | move x => simp only [evalOp, mk, Option.some.injEq] at he; subst he; exact goes_value H rfl (hx x (by simp [Op.operands]))
  | assign x => simp only [evalOp, mk, Option.some.injEq] at he; subst he; exact goes_value H rfl (hx x (by simp [Op.operands]))
  | pick c x y => exact goes_pick H (hx c (by simp [Op.operands])) (hx x (by simp [Op.operands])) (hx y (by simp [Op.operands])) he rfl
  | alloc t => exact goes_alloc H he rfl
  | box t x => exact goes_box H (hx x (by simp [Op.operands])) he rfl
  | build t ps =>
    refine goes_build H (partsOf_rel ps.toList fun p hp => hx p.2 (by simp [Op.operands]; exact ⟨p.1, by simpa using hp⟩)) he ?_
    show (do pure (.value (← Instr.build t (ps.map fun (i, x) => (i, ρ x)))) : Sem Next) = _
    congr 2
    apply Array.ext'; simp
  | buildSlice t len ps =>
    refine goes_buildSlice H (partsOf_rel ps.toList fun p hp => hx p.2 (by simp [Op.operands]; exact ⟨p.1, by simpa using hp⟩)) he ?_
    show (do pure (.value (← Instr.buildSlice t len (ps.map fun (i, x) => (i, ρ x)))) : Sem Next) = _
    congr 2
    apply Array.ext'; simp
  | load t x => exact goes_load H (hx x (by simp [Op.operands])) he rfl
  | store t x y => exact goes_store H (hx x (by simp [Op.operands])) (hx y (by simp [Op.operands])) he rfl
  | nilCheck x =>
    refine goes_nil H (hx x (by simp [Op.operands])) he ?_
    intro ad e
    simp only [execOp, e]
  | binOp op t x y yt => exact goes_bin H (hx x (by simp [Op.operands])) (hx y (by simp [Op.operands])) rfl he
  | unOp op t x => exact goes_un H (hx x (by simp [Op.operands])) rfl he
  | convert s d x => exact goes_conv H (hx x (by simp [Op.operands])) rfl he
  | makeSlice t l c => exact goes_make H (hx l (by simp [Op.operands])) (hx c (by simp [Op.operands])) he rfl
  | slice t x lo hi mx =>
    simp only [evalOp] at he
    cases hv : evalSlice P t (Ac.eval a x) (evalO a lo) (evalO a hi) (evalO a mx) with
    | none => rw [hv] at he; simp [mkO] at he
    | some v =>
      rw [hv] at he
      simp only [mkO, Option.some.injEq] at he
      subst he
      exact goes_slice H (hx x (by simp [Op.operands])) (evalO_rel fun y hy => hx y (by cases hy; simp [Op.operands])) (evalO_rel fun y hy => hx y (by cases hy; simp [Op.operands])) (evalO_rel fun y hy => hx y (by cases hy; simp [Op.operands])) hv rfl
  | index t x ix => exact goes_index H (hx x (by simp [Op.operands])) (hx ix (by simp [Op.operands])) he rfl
  | fieldAddr s x f => exact goes_fieldAddr H (hx x (by simp [Op.operands])) he rfl
  | field s x f => exact goes_field H (hx x (by simp [Op.operands])) he rfl
  | indexAddr t x ix => exact goes_indexAddr H (hx x (by simp [Op.operands])) (hx ix (by simp [Op.operands])) he rfl
  | extract x ix => exact goes_extract H (hx x (by simp [Op.operands])) he rfl
  | call c => exact goes_call H hx hfun he
  | _ => simp [evalOp] at he
end
end Go.Jv
