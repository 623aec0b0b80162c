/-
  What the evaluator says of one operation holds of the model's: the whole.
-/
import Derived.Test.YgcsanGreatEvG
namespace Go.Ev
open Go
set_option linter.unusedVariables false
set_option linter.unusedSimpArgs false

section
variable {P : Program} {n0 : Nat} {ι : Im} {h : Hp} {w : World} {ρ : Operand → Value} {o : Oper}

theorem argsOf_rel {a : Ac} : ∀ (xs : List Operand), (∀ x ∈ xs, VRel ι (Ac.eval a x) (ρ x)) → All2 (VRel ι) (argsOf a xs) (xs.map ρ) := by
  intro xs
  induction xs with
  | nil => intro _; exact .nil
  | cons x xs ih => intro hx; exact .cons (hx x (List.mem_cons_self ..)) (ih fun y hy => hx y (List.mem_cons_of_mem _ hy))

theorem argsOf_flat {a : Ac} : ∀ (xs : List Operand), flatL (argsOf a xs) = true → ∀ x ∈ xs, flat (Ac.eval a x) = true := by
  intro xs
  induction xs with
  | nil => intro _ x hx; cases hx
  | cons y xs ih =>
    intro hf x hx
    simp only [argsOf, flatL] at hf
    cases hy : flat (Ac.eval a y) with
    | false => rw [hy] at hf; simp at hf
    | true =>
      rw [hy] at hf
      cases hx with
      | head => exact hy
      | tail _ hx => exact ih hf x hx
theorem flat_flatV {v : Value} (hf : flat v = true) : flatV v = true := by cases v <;> first | exact hf | simp [flat] at hf

theorem run_builtin {ρ : Operand → Value} {dst : Option Tmp} {b : Builtin} {args : Array Operand} {types : Array TypeId} {type : TypeId} {pos : String} {after : Array Edge} {guard : Option (Nat × Bool)} :
    execOp ρ ⟨dst, .call ⟨.builtin b, args, types⟩, type, pos, after, guard⟩ = builtin b types type (args.map fun | .const _ => true | _ => false) (args.map ρ) := rfl

theorem goes_len (H : HRel n0 ι h w) {t ty : TypeId} {x x' : Value} (hx : VRel ι x x') {types : Array TypeId} (ht : types[0]? = some t) {out : Out} (he : evalLen P h x (some t) = some out)
    (hr : execOp ρ o = (do pure (.value (← Builtin.len_ types ty #[x'])) : Sem Next)) : OpGoes P n0 ι h w ρ o out := by
  simp only [evalLen] at he
  split at he
  · rename_i e hd
    split at he
    · rename_i ad n c
      simp only [mk, Option.some.injEq] at he
      subst he
      refine goes_value H (u := .int .i64 (Int.ofNat n)) ?_ (.cell (.int _ _))
      rw [hr]
      cases ad with
      | none => rw [hx.nils]; simp [Builtin.len_, ht, run_under hd, goInt]
      | some a => obtain ⟨k, q, b, p, z, c', _, _, _, rfl⟩ := hx.slc; simp [Builtin.len_, ht, run_under hd, goInt]
    · cases he
  · rename_i n e hd
    simp only [mk, Option.some.injEq] at he
    subst he
    refine goes_value H (u := .int .i64 (Int.ofNat n)) ?_ (.cell (.int _ _))
    rw [hr]
    simp [Builtin.len_, ht, run_under hd, goInt]
  · cases he

theorem goes_call (H : HRel n0 ι h w) {a : Ac} {dst : Option Tmp} {c : Call} {type : TypeId} {pos : String} {after : Array Edge} {guard : Option (Nat × Bool)}
    (hx : ∀ x ∈ c.operands, VRel ι (Ac.eval a x) (ρ x)) (hfun : ∀ f, ρ (.func f) = .func (.func f) #[] #[])
    {out : Out} (he : evalCall P h a ⟨dst, .call c, type, pos, after, guard⟩ c = some out) : OpGoes P n0 ι h w ρ ⟨dst, .call c, type, pos, after, guard⟩ out := by
  obtain ⟨callee, args, types⟩ := c
  have hargs : All2 (VRel ι) (argsOf a args.toList) (args.toList.map ρ) := argsOf_rel _ fun x hm => hx x (by simp [Call.operands]; right; simpa using hm)
  unfold evalCall at he
  simp only at he
  cases callee with
  | value f =>
    cases f with
    | func f =>
      simp only [evalCallF] at he
      cases hf : P.funcs[f]? with
      | none => rw [hf] at he; simp at he
      | some fn =>
        rw [hf] at he
        simp only at he
        cases hb : bodyOk fn with
        | false => rw [hb] at he; simp at he
        | true =>
          rw [hb] at he
          simp only [Option.some.injEq] at he
          subst he
          refine ⟨args.toList.map ρ, ?_, hargs⟩
          unfold bodyOk at hb
          cases hbody : fn.body with
          | none => rw [hbody] at hb; simp at hb
          | some c =>
            rw [hbody] at hb
            simp only [Bool.not_eq_true'] at hb
            have : (args.toList.map ρ).toArray = args.map ρ := by apply Array.ext'; simp
            rw [this]
            simp [execOp, resolve, hfun, Deferred.ofValue, invoke, callFunc, hf, hbody]
            simpa using hb
    | _ => simp at he
  | builtin b =>
    simp only at he
    cases b with
    | len =>
      simp only [evalBuiltin] at he
      generalize hl : argsOf a args.toList = L at he hargs
      generalize hm : args.toList.map ρ = M at hargs
      have hm' : args.map ρ = M.toArray := by apply Array.ext'; simp [← hm]
      cases L with
      | nil => simp at he
      | cons x L =>
        obtain ⟨x', M, rfl, hxx, hLM⟩ := hargs.consL
        cases L with
        | cons y L => simp at he
        | nil =>
          have e0 := hLM.nilL
          subst e0
          simp only at he
          cases ht : types.toList[0]? with
          | none => rw [ht] at he; simp [evalLen] at he
          | some t =>
            rw [ht] at he
            refine goes_len H hxx (types := types) (ty := type) (by simpa using ht) he ?_
            rw [run_builtin, hm']; rfl
    | append =>
      simp only [evalBuiltin] at he
      generalize hl : argsOf a args.toList = L at he hargs
      generalize hm : args.toList.map ρ = M at hargs
      have hm' : args.map ρ = M.toArray := by apply Array.ext'; simp [← hm]
      split at he
      · rename_i s x t u ht
        obtain ⟨y1, M1, rfl, h1, hr1⟩ := hargs.consL
        obtain ⟨y2, M2, rfl, h2, hr2⟩ := hr1.consL
        have e0 := hr2.nilL
        subst e0
        refine goes_append H h1 h2 (ty := type) he ?_
        have : types = #[t, u] := by apply Array.ext'; simp [ht]
        rw [run_builtin, hm', this]; rfl
      · cases he
    | copy =>
      simp only [evalBuiltin] at he
      generalize hl : argsOf a args.toList = L at he hargs
      generalize hm : args.toList.map ρ = M at hargs
      have hm' : args.map ρ = M.toArray := by apply Array.ext'; simp [← hm]
      split at he
      · rename_i s x t u ht
        obtain ⟨y1, M1, rfl, h1, hr1⟩ := hargs.consL
        obtain ⟨y2, M2, rfl, h2, hr2⟩ := hr1.consL
        have e0 := hr2.nilL
        subst e0
        refine goes_copy H h1 h2 (ty := type) (u := u) he ?_
        have : types = #[t, u] := by apply Array.ext'; simp [ht]
        rw [run_builtin, hm', this]; rfl
      · cases he
    | min =>
      simp only [evalBuiltin] at he
      cases hf : flatL (argsOf a args.toList) with
      | false => rw [hf] at he; simp at he
      | true =>
        rw [hf] at he
        simp only at he
        obtain ⟨v, hb, rfl, hfv⟩ := mkN_some he
        have heq : execOp ρ ⟨dst, .call ⟨.builtin .min, args, types⟩, type, pos, after, guard⟩ = execOp (Ac.eval a) ⟨dst, .call ⟨.builtin .min, args, types⟩, type, pos, after, guard⟩ := by
          refine execOp_congr _ (fun cs b e => by cases e) ?_
          intro x hm
          have hm' : x ∈ args := by simpa [Op.operands, Call.operands] using hm
          exact (hx x (by simpa [Call.operands] using hm')).flat_eq (flat_flatV (argsOf_flat _ hf x (by simpa using hm')))
        have hrun := bare_run _ _ hb w
        rw [← heq] at hrun
        exact goes_value H hrun (flat_rel hfv)
    | _ => simp [evalBuiltin] at he
  | _ => simp at he

theorem evalO_rel {a : Ac} {x : Option Operand} (hx : ∀ y ∈ x, VRel ι (Ac.eval a y) (ρ y)) : ORel ι (evalO a x) (x.map ρ) := by
  cases x with
  | none => exact .no
  | some x => exact .yes (hx x rfl)

/-- One operation. -/
theorem evalOp_goes (H : HRel n0 ι h w) {a : Ac} (hx : ∀ x ∈ o.op.operands, VRel ι (Ac.eval a x) (ρ x)) (hfun : ∀ f, ρ (.func f) = .func (.func f) #[] #[])
    {out : Out} (he : evalOp P h a o = some out) : OpGoes P n0 ι h w ρ o out := by
  obtain ⟨dst, op, type, pos, after, guard⟩ := o
  simp only at hx
  cases op with
  | move x => simp only [evalOp, mk, Option.some.injEq] at he; subst he; exact goes_value H rfl (hx x (by simp [Op.operands]))
  | assign x => simp only [evalOp, mk, Option.some.injEq] at he; subst he; exact goes_value H rfl (hx x (by simp [Op.operands]))
  | pick c x y => exact goes_pick H (hx c (by simp [Op.operands])) (hx x (by simp [Op.operands])) (hx y (by simp [Op.operands])) he rfl
  | alloc t => exact goes_alloc H he rfl
  | box t x => exact goes_box H (hx x (by simp [Op.operands])) he rfl
  | build t ps =>
    refine goes_build H (partsOf_rel ps.toList fun p hp => hx p.2 (by simp [Op.operands]; exact ⟨p.1, by simpa using hp⟩)) he ?_
    show (do pure (.value (← Instr.build t (ps.map fun (i, x) => (i, ρ x)))) : Sem Next) = _
    congr 2
    apply Array.ext'; simp
  | buildSlice t len ps =>
    refine goes_buildSlice H (partsOf_rel ps.toList fun p hp => hx p.2 (by simp [Op.operands]; exact ⟨p.1, by simpa using hp⟩)) he ?_
    show (do pure (.value (← Instr.buildSlice t len (ps.map fun (i, x) => (i, ρ x)))) : Sem Next) = _
    congr 2
    apply Array.ext'; simp
  | load t x => exact goes_load H (hx x (by simp [Op.operands])) he rfl
  | store t x y => exact goes_store H (hx x (by simp [Op.operands])) (hx y (by simp [Op.operands])) he rfl
  | nilCheck x =>
    refine goes_nil H (hx x (by simp [Op.operands])) he ?_
    intro ad e
    simp only [execOp, e]
  | binOp op t x y yt => exact goes_bin H (hx x (by simp [Op.operands])) (hx y (by simp [Op.operands])) rfl he
  | unOp op t x => exact goes_un H (hx x (by simp [Op.operands])) rfl he
  | convert s d x => exact goes_conv H (hx x (by simp [Op.operands])) rfl he
  | makeSlice t l c => exact goes_make H (hx l (by simp [Op.operands])) (hx c (by simp [Op.operands])) he rfl
  | slice t x lo hi mx =>
    simp only [evalOp] at he
    cases hv : evalSlice P t (Ac.eval a x) (evalO a lo) (evalO a hi) (evalO a mx) with
    | none => rw [hv] at he; simp [mkO] at he
    | some v =>
      rw [hv] at he
      simp only [mkO, Option.some.injEq] at he
      subst he
      exact goes_slice H (hx x (by simp [Op.operands])) (evalO_rel fun y hy => hx y (by cases hy; simp [Op.operands])) (evalO_rel fun y hy => hx y (by cases hy; simp [Op.operands])) (evalO_rel fun y hy => hx y (by cases hy; simp [Op.operands])) hv rfl
  | fieldAddr s x f => exact goes_fieldAddr H (hx x (by simp [Op.operands])) he rfl
  | field s x f => exact goes_field H (hx x (by simp [Op.operands])) he rfl
  | indexAddr t x ix => exact goes_indexAddr H (hx x (by simp [Op.operands])) (hx ix (by simp [Op.operands])) he rfl
  | extract x ix => exact goes_extract H (hx x (by simp [Op.operands])) he rfl
  | call c => exact goes_call H hx hfun he
  | _ => simp [evalOp] at he
end
end Go.Ev
