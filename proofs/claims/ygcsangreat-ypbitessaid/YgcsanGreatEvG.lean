/-
  What the evaluator says of one operation holds of the model's: numbers; the whole.
-/
import Derived.Test.YgcsanGreatEvF
namespace Go.Ev
open Go
set_option linter.unusedVariables false
set_option linter.unusedSimpArgs false

section
variable {P : Program} {n0 : Nat} {ι : Im} {h : Hp} {w : World} {ρ : Operand → Value} {o : Oper}

theorem wrap_in (k : IntKind) {n : Nat} (h : n ≤ maxOf k) : k.wrap (n : Int) = n := by
  cases k <;> simp only [maxOf] at h <;> simp [IntKind.wrap, IntKind.bits, IntKind.signed] <;> omega

theorem inK_some {k : IntKind} {n : Nat} {v : Value} (h : inK k n = some v) : n ≤ maxOf k ∧ v = .int k (n : Int) := by
  unfold inK at h
  cases hb : Nat.ble n (maxOf k) with
  | false => rw [hb] at h; simp at h
  | true => rw [hb] at h; injection h with h; exact ⟨Nat.le_of_ble_eq_true hb, h.symm⟩

theorem sameKind_eq {a b : IntKind} (h : sameKind a b = true) : a = b := by cases a <;> cases b <;> first | rfl | simp [sameKind] at h

theorem ble_dec (x y : Nat) : Nat.ble x y = decide (x ≤ y) := by
  by_cases h : x ≤ y
  · rw [bleT h]; simp [h]
  · rw [bleF h]; simp [h]
theorem beq_dec (x y : Nat) : Nat.beq x y = decide (x = y) := by
  by_cases h : x = y
  · rw [beqT h]; simp [h]
  · rw [beqF h]; simp [h]

theorem quick_run {op : BinOp} {k : IntKind} {x y : Nat} {v : Value} (h : quick op k x y = some v) (t : TypeId) : (binOp op t (.int k (x : Int)) (.int k (y : Int))).run P w = .ok v w := by
  cases op with
  | eql => simp only [quick, boolO, Option.some.injEq] at h; subst h; simp [binOp, Op.intCmp, beq_dec]; rw [Bool.eq_iff_iff]; simp; omega
  | neq => simp only [quick, boolO, Option.some.injEq] at h; subst h; simp [binOp, Op.intCmp, beq_dec]; rw [Bool.eq_iff_iff]; simp; omega
  | lss => simp only [quick, boolO, Option.some.injEq] at h; subst h; simp [binOp, Op.intCmp, ble_dec]; omega
  | leq => simp only [quick, boolO, Option.some.injEq] at h; subst h; simp [binOp, Op.intCmp, ble_dec]
  | gtr => simp only [quick, boolO, Option.some.injEq] at h; subst h; simp [binOp, Op.intCmp, ble_dec]; omega
  | geq => simp only [quick, boolO, Option.some.injEq] at h; subst h; simp [binOp, Op.intCmp, ble_dec]
  | add =>
    simp only [quick] at h
    obtain ⟨h1, rfl⟩ := inK_some h
    have := wrap_in k h1
    simp [binOp, Op.intArith]
    simpa using this
  | mul =>
    simp only [quick] at h
    obtain ⟨h1, rfl⟩ := inK_some h
    have := wrap_in k h1
    simp [binOp, Op.intArith]
    simpa using this
  | sub =>
    simp only [quick] at h
    cases hb : Nat.ble y x with
    | false => rw [hb] at h; simp at h
    | true =>
      rw [hb] at h
      simp only at h
      obtain ⟨h1, rfl⟩ := inK_some h
      have hle := Nat.le_of_ble_eq_true hb
      have := wrap_in k h1
      have e : ((Nat.sub x y : Nat) : Int) = (x : Int) - (y : Int) := by show ((x - y : Nat) : Int) = _; omega
      rw [e] at this ⊢
      simp [binOp, Op.intArith, this]
  | _ => simp [quick] at h

theorem eqGuard_run {op : BinOp} {t : TypeId} {x y : Operand} {a b : Value} (ha : (∃ k n, a = .int k n) ∨ ∃ ad l c, a = .slice ad l c) : (eqGuard op t x y a b).run P w = .ok () w := by
  unfold eqGuard
  rcases ha with ⟨k, n, rfl⟩ | ⟨ad, l, c, rfl⟩
  · split <;> rfl
  · split <;> rfl

theorem mkN_some {x : Option Next} {out : Out} (he : mkN h x = some out) : ∃ v, x = some (.value v) ∧ out = .val v h ∧ flat v = true := by
  cases x with
  | none => simp [mkN] at he
  | some nx =>
    cases nx with
    | value v =>
      simp only [mkN] at he
      cases hf : flat v with
      | false => rw [hf] at he; simp at he
      | true => rw [hf] at he; injection he with he; exact ⟨v, rfl, he.symm, hf⟩
    | _ => simp [mkN] at he
theorem flat_rel {v : Value} (hf : flat v = true) : VRel ι v v := .cell (constC_rel (by cases v <;> simp [flat] at hf <;> rfl))

theorem equalIn_nil {d : Nat} {t e : TypeId} {a : Option Addr} {l c l2 c2 : Nat} (hd : P.underlying t = some (.slice e)) : (Op.equalIn (d + 1) t (.slice a l c) (.slice none l2 c2)).run P w = .ok a.isNone w := by
  rw [Op.equalIn]
  simp only [Sem.run_bind, run_under hd, Result.andThen_ok]
  cases a <;> rfl
theorem equal_nil {t e : TypeId} {a : Option Addr} {l c l2 c2 : Nat} (hd : P.underlying t = some (.slice e)) : (Op.equal t (.slice a l c) (.slice none l2 c2)).run P w = .ok a.isNone w :=
  equalIn_nil (d := 9999) hd
theorem bin_eql_nil {t e : TypeId} {a : Option Addr} {l c l2 c2 : Nat} (hd : P.underlying t = some (.slice e)) : (binOp .eql t (.slice a l c) (.slice none l2 c2)).run P w = .ok (.bool a.isNone) w := by
  have : binOp .eql t (.slice a l c) (.slice none l2 c2) = (do pure (.bool (← Op.equal t (.slice a l c) (.slice none l2 c2)))) := rfl
  rw [this]
  simp only [Sem.run_bind, equal_nil hd, Result.andThen_ok, Sem.run_pure]
theorem bin_neq_nil {t e : TypeId} {a : Option Addr} {l c l2 c2 : Nat} (hd : P.underlying t = some (.slice e)) : (binOp .neq t (.slice a l c) (.slice none l2 c2)).run P w = .ok (.bool !a.isNone) w := by
  have : binOp .neq t (.slice a l c) (.slice none l2 c2) = (do pure (.bool (!(← Op.equal t (.slice a l c) (.slice none l2 c2))))) := rfl
  rw [this]
  simp only [Sem.run_bind, equal_nil hd, Result.andThen_ok, Sem.run_pure]

theorem goes_bin (H : HRel n0 ι h w) {a : Ac} {op : BinOp} {t : TypeId} {x y : Operand} {yt : TypeId} (hx : VRel ι (Ac.eval a x) (ρ x)) (hy : VRel ι (Ac.eval a y) (ρ y)) (ho : o.op = .binOp op t x y yt)
    {out : Out} (he : evalBin P h (Ac.eval a) o op t (Ac.eval a x) (Ac.eval a y) = some out) : OpGoes P n0 ι h w ρ o out := by
  have hr : ∀ ρ : Operand → Value, execOp ρ o = (do pure (.value (← (do eqGuard op t x y (ρ x) (ρ y); binOp op t (ρ x) (ρ y)))) : Sem Next) := by intro ρ; unfold execOp; rw [ho]
  unfold evalBin at he
  cases hq : quickV op (Ac.eval a x) (Ac.eval a y) with
  | some v =>
    rw [hq] at he
    simp only [mk, Option.some.injEq] at he
    subst he
    generalize Ac.eval a x = vx at hx hq
    generalize Ac.eval a y = vy at hy hq
    unfold quickV at hq
    cases vx with
    | int k n =>
      have e1 := hx.int
      cases n with
      | negSucc n => simp at hq
      | ofNat nx =>
        simp only at hq
        cases vy with
        | int k' m =>
          have e2 := hy.int
          cases m with
          | negSucc m => simp at hq
          | ofNat ny =>
            simp only at hq
            cases hk : sameKind k k' with
            | false => rw [hk] at hq; simp at hq
            | true =>
              rw [hk] at hq
              have := sameKind_eq hk
              subst this
              simp only at hq
              have hv : VRel ι v v := by
                have : (∃ b, v = .bool b) ∨ ∃ k n, v = .int k n := by
                  cases op <;> simp only [quick, boolO, Option.some.injEq] at hq <;> first
                    | exact .inl ⟨_, hq.symm⟩
                    | exact .inr ⟨_, _, (inK_some hq).2⟩
                    | (split at hq
                       · exact .inr ⟨_, _, (inK_some hq).2⟩
                       · cases hq)
                    | cases hq
                rcases this with ⟨b, rfl⟩ | ⟨k, n, rfl⟩
                · exact .cell (.bool b)
                · exact .cell (.int k n)
              refine goes_value H (u := v) ?_ hv
              rw [hr, e1, e2]
              have e3 : (Int.ofNat nx) = (nx : Int) := rfl
              have e4 : (Int.ofNat ny) = (ny : Int) := rfl
              simp only [Sem.run_bind, eqGuard_run (.inl ⟨_, _, rfl⟩), Result.andThen_ok, e3, e4, quick_run hq, Sem.run_pure]
        | _ => simp at hq
    | _ => simp at hq
  | none =>
    rw [hq] at he
    simp only [slowBin] at he
    cases hf : (flatV (Ac.eval a x) && flatV (Ac.eval a y)) with
    | true =>
      rw [hf] at he
      simp only [Bool.and_eq_true] at hf
      simp only at he
      obtain ⟨v, hb, rfl, hfv⟩ := mkN_some he
      have e1 := hx.flat_eq hf.1
      have e2 := hy.flat_eq hf.2
      have heq : execOp ρ o = execOp (Ac.eval a) o := by rw [hr, hr, e1, e2]
      have hrun := bare_run _ _ hb w
      rw [← heq] at hrun
      exact goes_value H hrun (flat_rel hfv)
    | false =>
      rw [hf] at he
      simp only at he
      split at he
      · rename_i ad l c l2 c2 e hvx hvy hd
        simp only [mk, Option.some.injEq] at he
        subst he
        rw [hvx] at hx
        rw [hvy] at hy
        have ey := hy.nils
        refine goes_value H (u := .bool ad.isNone) ?_ (.cell (.bool _))
        rw [hr, ey]
        cases ad with
        | none =>
          rw [hx.nils]
          simp only [Sem.run_bind, eqGuard_run (.inr ⟨_, _, _, rfl⟩), Result.andThen_ok, bin_eql_nil hd, Sem.run_pure]
        | some a =>
          obtain ⟨k, q, b, p, z, c', _, _, _, e⟩ := hx.slc
          rw [e]
          simp only [Sem.run_bind, eqGuard_run (.inr ⟨_, _, _, rfl⟩), Result.andThen_ok, bin_eql_nil hd, Sem.run_pure]
          rfl
      · rename_i ad l c l2 c2 e hvx hvy hd
        simp only [mk, Option.some.injEq] at he
        subst he
        rw [hvx] at hx
        rw [hvy] at hy
        have ey := hy.nils
        refine goes_value H (u := .bool !ad.isNone) ?_ (.cell (.bool _))
        rw [hr, ey]
        cases ad with
        | none =>
          rw [hx.nils]
          simp only [Sem.run_bind, eqGuard_run (.inr ⟨_, _, _, rfl⟩), Result.andThen_ok, bin_neq_nil hd, Sem.run_pure]
        | some a =>
          obtain ⟨k, q, b, p, z, c', _, _, _, e⟩ := hx.slc
          rw [e]
          simp only [Sem.run_bind, eqGuard_run (.inr ⟨_, _, _, rfl⟩), Result.andThen_ok, bin_neq_nil hd, Sem.run_pure]
          rfl
      · cases he

theorem goes_un (H : HRel n0 ι h w) {a : Ac} {op : UnOp} {t : TypeId} {x : Operand} (hx : VRel ι (Ac.eval a x) (ρ x)) (ho : o.op = .unOp op t x)
    {out : Out} (he : evalUn P h (Ac.eval a) o (Ac.eval a x) = some out) : OpGoes P n0 ι h w ρ o out := by
  have hr : ∀ ρ : Operand → Value, execOp ρ o = (do pure (.value (← Op.unary op (ρ x))) : Sem Next) := by intro ρ; unfold execOp; rw [ho]
  unfold evalUn at he
  cases hf : flatV (Ac.eval a x) with
  | false => rw [hf] at he; simp at he
  | true =>
    rw [hf] at he
    obtain ⟨v, hb, rfl, hfv⟩ := mkN_some he
    have heq : execOp ρ o = execOp (Ac.eval a) o := by rw [hr, hr, hx.flat_eq hf]
    have hrun := bare_run _ _ hb w
    rw [← heq] at hrun
    exact goes_value H hrun (flat_rel hfv)

theorem toBytes_some : ∀ (l : List Value) (bs : List UInt8), toBytes l = some bs → ∃ ns : List Int, l = ns.map (Value.int .u8) ∧ bs = ns.map fun n => UInt8.ofNat n.toNat := by
  intro l
  induction l with
  | nil => intro bs h; simp only [toBytes, Option.some.injEq] at h; subst h; exact ⟨[], rfl, rfl⟩
  | cons v l ih =>
    intro bs h
    cases v with
    | int k n =>
      cases k with
      | u8 =>
        simp only [toBytes] at h
        cases hr : toBytes l with
        | none => rw [hr] at h; simp at h
        | some r =>
          rw [hr] at h
          injection h with h
          subst h
          obtain ⟨ns, rfl, rfl⟩ := ih r hr
          exact ⟨n :: ns, rfl, rfl⟩
      | _ => simp [toBytes] at h
    | _ => simp [toBytes] at h

theorem foldl_push (ns : List Int) : ∀ (acc : Array UInt8), ns.foldl (fun (r : ByteArray) n => r.push (UInt8.ofNat n.toNat)) ⟨acc⟩ = ⟨acc ++ (ns.map fun n => UInt8.ofNat n.toNat).toArray⟩ := by
  induction ns with
  | nil => intro acc; simp
  | cons n ns ih =>
    intro acc
    rw [List.foldl_cons]
    have : (ByteArray.push ⟨acc⟩ (UInt8.ofNat n.toNat)) = ⟨acc.push (UInt8.ofNat n.toNat)⟩ := rfl
    rw [this, ih]
    congr 1
    apply Array.ext'
    simp

theorem goes_conv (H : HRel n0 ι h w) {a : Ac} {s d : TypeId} {x : Operand} (hx : VRel ι (Ac.eval a x) (ρ x)) (ho : o.op = .convert s d x)
    {out : Out} (he : evalConv P h (Ac.eval a) o s d (Ac.eval a x) = some out) : OpGoes P n0 ι h w ρ o out := by
  have hr : ∀ ρ : Operand → Value, execOp ρ o = (do pure (.value (← convert s d (ρ x))) : Sem Next) := by intro ρ; unfold execOp; rw [ho]
  unfold evalConv at he
  split at he
  · rename_i k n hv
    rw [hv] at hx
    have ex := hx.int
    split at he
    · rename_i k2 hs
      cases hq : quickConv n (P.underlying d) with
      | some v =>
        rw [hq] at he
        simp only [convO, mk, Option.some.injEq] at he
        subst he
        unfold quickConv at hq
        split at hq
        · rename_i k3 hd
          split at hq
          · rename_i m
            obtain ⟨h1, rfl⟩ := inK_some hq
            refine goes_value H (u := .int k3 (m : Int)) ?_ (.cell (.int _ _))
            rw [hr, ex]
            have := wrap_in k3 h1
            simp only [convert, Sem.run_bind, run_under hs, run_under hd, Result.andThen_ok, Conv.intToInt, Sem.run_pure]
            rw [← this]; rfl
          · cases hq
        · cases hq
      | none =>
        rw [hq] at he
        simp only [convO] at he
        obtain ⟨v, hb, rfl, hfv⟩ := mkN_some he
        have heq : execOp ρ o = execOp (Ac.eval a) o := by rw [hr, hr, ex, hv]
        have hrun := bare_run _ _ hb w
        rw [← heq] at hrun
        exact goes_value H hrun (flat_rel hfv)
    · cases he
  · rename_i ad len c hv
    rw [hv] at hx
    split at he
    · rename_i e hs hd
      split at he
      · rename_i he2
        cases hrd : h.read ad len with
        | none => rw [hrd] at he; simp [bytesO] at he
        | some l =>
          rw [hrd] at he
          simp only [bytesO] at he
          cases hb : toBytes l with
          | none => rw [hb] at he; simp at he
          | some bs =>
            rw [hb] at he
            simp only [Option.some.injEq] at he
            subst he
            obtain ⟨ns, rfl, rfl⟩ := toBytes_some l bs hb
            obtain ⟨k, q, b, p, z, rfl, _, hi, m, hm, hlen, hc⟩ := H.read hrd
            obtain ⟨k2, q2, b2, p2, z2, c', e', hi2, _, ex⟩ := hx.slc
            injection e' with e1 e2
            subst e1; subst e2
            rw [hi] at hi2
            injection hi2 with hi2
            injection hi2 with e1 e2
            injection e2 with e2 e3
            subst e1; subst e2
            have hml : m = ns.map (Value.int .u8) := flatL_eq hm (by
              clear hm hb hrd hlen hc
              induction ns with
              | nil => rfl
              | cons n ns ih => simpa [flatL, flat] using ih)
            have hl := run_loadCells_list (P := P) w ⟨b, p + q, none⟩ m hc
            rw [hlen, hml] at hl
            have hrun := run_bytesToString w ⟨b, p + q, none⟩ len c' ns hl
            have hem : ByteArray.empty = ⟨#[]⟩ := rfl
            rw [hem, foldl_push] at hrun
            refine goes_value H (u := .string ⟨(ns.map fun n => UInt8.ofNat n.toNat).toArray⟩) ?_ (.cell (.string _))
            rw [hr, ex]
            simp only [convert, Sem.run_bind, run_under hs, run_under hd, Result.andThen_ok, run_under he2, hrun, Sem.run_pure]
            simp
      · cases he
    · cases he
  · cases he
end
end Go.Ev
