/-
  What the evaluator says of one operation holds of the model's: numbers; the whole.
-/
import Derived.Test.YgcsanGreatJvF
import Derived.Laws.StructEq
namespace Go.Jv
open Go
set_option linter.unusedVariables false
set_option linter.unusedSimpArgs false
variable {σ : Va}

section
variable {P : Program} {n0 : Nat} {ι : Im} {h : Hp} {w : World} {ρ : Operand → Value} {o : Oper}

theorem wrap_in (k : IntKind) {n : Nat} (h : n ≤ maxOf k) : k.wrap (n : Int) = n := by
  cases k <;> simp only [maxOf] at h <;> simp [IntKind.wrap, IntKind.bits, IntKind.signed] <;> omega

theorem inK_some {k : IntKind} {n : Nat} {v : Value} (h : inK k n = some v) : n ≤ maxOf k ∧ v = .int k (n : Int) := by
  unfold inK at h
  cases hb : Nat.ble n (maxOf k) with
  | false => rw [hb] at h; simp at h
  | true => rw [hb] at h; injection h with h; exact ⟨Nat.le_of_ble_eq_true hb, h.symm⟩

theorem sameKind_eq {a b : IntKind} (h : sameKind a b = true) : a = b := by cases a <;> cases b <;> first | rfl | simp [sameKind] at h

theorem ble_dec (x y : Nat) : Nat.ble x y = decide (x ≤ y) := by
  by_cases h : x ≤ y
  · rw [bleT h]; simp [h]
  · rw [bleF h]; simp [h]
theorem beq_dec (x y : Nat) : Nat.beq x y = decide (x = y) := by
  by_cases h : x = y
  · rw [beqT h]; simp [h]
  · rw [beqF h]; simp [h]

theorem quick_run {op : BinOp} {k : IntKind} {x y : Nat} {v : Value} (h : quick op k x y = some v) (t : TypeId) : (binOp op t (.int k (x : Int)) (.int k (y : Int))).run P w = .ok v w := by
  cases op with
  | eql => simp only [quick, boolO, Option.some.injEq] at h; subst h; simp [binOp, Op.intCmp, beq_dec]; rw [Bool.eq_iff_iff]; simp; omega
  | neq => simp only [quick, boolO, Option.some.injEq] at h; subst h; simp [binOp, Op.intCmp, beq_dec]; rw [Bool.eq_iff_iff]; simp; omega
  | lss => simp only [quick, boolO, Option.some.injEq] at h; subst h; simp [binOp, Op.intCmp, ble_dec]; omega
  | leq => simp only [quick, boolO, Option.some.injEq] at h; subst h; simp [binOp, Op.intCmp, ble_dec]
  | gtr => simp only [quick, boolO, Option.some.injEq] at h; subst h; simp [binOp, Op.intCmp, ble_dec]; omega
  | geq => simp only [quick, boolO, Option.some.injEq] at h; subst h; simp [binOp, Op.intCmp, ble_dec]
  | add =>
    simp only [quick] at h
    obtain ⟨h1, rfl⟩ := inK_some h
    have := wrap_in k h1
    simp [binOp, Op.intArith]
    simpa using this
  | mul =>
    simp only [quick] at h
    obtain ⟨h1, rfl⟩ := inK_some h
    have := wrap_in k h1
    simp [binOp, Op.intArith]
    simpa using this
  | sub =>
    simp only [quick] at h
    cases hb : Nat.ble y x with
    | false => rw [hb] at h; simp at h
    | true =>
      rw [hb] at h
      simp only at h
      obtain ⟨h1, rfl⟩ := inK_some h
      have hle := Nat.le_of_ble_eq_true hb
      have := wrap_in k h1
      have e : ((Nat.sub x y : Nat) : Int) = (x : Int) - (y : Int) := by show ((x - y : Nat) : Int) = _; omega
      rw [e] at this ⊢
      simp [binOp, Op.intArith, this]
  | _ => simp [quick] at h

theorem eqGuard_run {op : BinOp} {t : TypeId} {x y : Operand} {a b : Value} (ha : (∃ k n, a = .int k n) ∨ ∃ ad l c, a = .slice ad l c) : (eqGuard op t x y a b).run P w = .ok () w := by
  unfold eqGuard
  rcases ha with ⟨k, n, rfl⟩ | ⟨ad, l, c, rfl⟩
  · split <;> rfl
  · split <;> rfl

theorem mkN_some {x : Option Next} {out : Out} (he : mkN h x = some out) : ∃ v, x = some (.value v) ∧ out = .val v h ∧ flat v = true := by
  cases x with
  | none => simp [mkN] at he
  | some nx =>
    cases nx with
    | value v =>
      simp only [mkN] at he
      cases hf : flat v with
      | false => rw [hf] at he; simp at he
      | true => rw [hf] at he; injection he with he; exact ⟨v, rfl, he.symm, hf⟩
    | _ => simp [mkN] at he
theorem flat_rel {v : Value} (hf : flat v = true) : VRel σ ι v v := .cell (constC_rel (by cases v <;> simp [flat] at hf <;> rfl))

theorem equalIn_nil {d : Nat} {t e : TypeId} {a : Option Addr} {l c l2 c2 : Nat} (hd : P.underlying t = some (.slice e)) : (Op.equalIn (d + 1) t (.slice a l c) (.slice none l2 c2)).run P w = .ok a.isNone w := by
  rw [Op.equalIn]
  simp only [Sem.run_bind, run_under hd, Result.andThen_ok]
  cases a <;> rfl
theorem equal_nil {t e : TypeId} {a : Option Addr} {l c l2 c2 : Nat} (hd : P.underlying t = some (.slice e)) : (Op.equal t (.slice a l c) (.slice none l2 c2)).run P w = .ok a.isNone w :=
  equalIn_nil (d := 9999) hd
theorem bin_eql_nil {t e : TypeId} {a : Option Addr} {l c l2 c2 : Nat} (hd : P.underlying t = some (.slice e)) : (binOp .eql t (.slice a l c) (.slice none l2 c2)).run P w = .ok (.bool a.isNone) w := by
  have : binOp .eql t (.slice a l c) (.slice none l2 c2) = (do pure (.bool (← Op.equal t (.slice a l c) (.slice none l2 c2)))) := rfl
  rw [this]
  simp only [Sem.run_bind, equal_nil hd, Result.andThen_ok, Sem.run_pure]
theorem bin_neq_nil {t e : TypeId} {a : Option Addr} {l c l2 c2 : Nat} (hd : P.underlying t = some (.slice e)) : (binOp .neq t (.slice a l c) (.slice none l2 c2)).run P w = .ok (.bool !a.isNone) w := by
  have : binOp .neq t (.slice a l c) (.slice none l2 c2) = (do pure (.bool (!(← Op.equal t (.slice a l c) (.slice none l2 c2))))) := rfl
  rw [this]
  simp only [Sem.run_bind, equal_nil hd, Result.andThen_ok, Sem.run_pure]

theorem wrap_ev (k : IntKind) {n : Int} (h0 : 0 ≤ n) (h : n ≤ (maxOf k : Nat)) : k.wrap n = n := by
  have := wrap_in k (n := n.toNat) (by omega)
  rw [show ((n.toNat : Nat) : Int) = n by omega] at this
  exact this
theorem yesNo_some {b c : Bool} {v : Value} (h : yesNo b c = some v) : (b = true ∧ v = .bool true) ∨ (b = false ∧ c = true ∧ v = .bool false) := by
  unfold yesNo at h
  cases b with
  | true => simp only [Option.some.injEq] at h; exact .inl ⟨rfl, h.symm⟩
  | false =>
    simp only at h
    cases c with
    | true => simp only [Option.some.injEq] at h; exact .inr ⟨rfl, rfl, h.symm⟩
    | false => simp at h
/-- an operator on numbers that are not known -/
theorem tokBin2_run {op : BinOp} {k : IntKind} {a b : List Int} {v : Value} (h : tokBin2 op k a b = some v) (t : TypeId) :
    ∃ u, (binOp op t (.int k (evL a σ.xs)) (.int k (evL b σ.xs))).run P w = .ok u w ∧ CRel σ ι v u := by
  have cmp : ∀ (q : Bool), (∃ x y, yesNo x y = some v ∧ (x = true → q = true) ∧ (y = true → q = false)) → CRel σ ι v (.bool q) := by
    rintro q ⟨x, y, hy, h1, h2⟩
    rcases yesNo_some hy with ⟨hx, rfl⟩ | ⟨_, hx, rfl⟩
    · rw [h1 hx]; exact .bool _
    · rw [h2 hx]; exact .bool _
  cases op with
  | eql =>
    refine ⟨.bool (decide (evL a σ.xs = evL b σ.xs)), by simp [binOp, Op.intCmp]; rw [Bool.eq_iff_iff]; simp, cmp _ ⟨_, _, h, ?_, ?_⟩⟩
    · intro e; exact decide_eq_true (eqE_ev e)
    · intro e
      simp only [Bool.or_eq_true] at e
      rcases e with e | e
      · have := gtE_ev (σ := σ) e; exact decide_eq_false (by omega)
      · have := gtE_ev (σ := σ) e; exact decide_eq_false (by omega)
  | neq =>
    refine ⟨.bool (decide (evL a σ.xs ≠ evL b σ.xs)), by simp [binOp, Op.intCmp]; rw [Bool.eq_iff_iff]; simp, cmp _ ⟨_, _, h, ?_, ?_⟩⟩
    · intro e
      simp only [Bool.or_eq_true] at e
      rcases e with e | e
      · have := gtE_ev (σ := σ) e; exact decide_eq_true (by omega)
      · have := gtE_ev (σ := σ) e; exact decide_eq_true (by omega)
    · intro e; have := eqE_ev (σ := σ) e; exact decide_eq_false (by omega)
  | lss =>
    refine ⟨.bool (decide (evL a σ.xs < evL b σ.xs)), by simp [binOp, Op.intCmp], cmp _ ⟨_, _, h, ?_, ?_⟩⟩
    · intro e; exact decide_eq_true (gtE_ev e)
    · intro e; have := geE_ev (σ := σ) e; exact decide_eq_false (by omega)
  | leq =>
    refine ⟨.bool (decide (evL a σ.xs ≤ evL b σ.xs)), by simp [binOp, Op.intCmp], cmp _ ⟨_, _, h, ?_, ?_⟩⟩
    · intro e; exact decide_eq_true (geE_ev e)
    · intro e; have := gtE_ev (σ := σ) e; exact decide_eq_false (by omega)
  | gtr =>
    refine ⟨.bool (decide (evL b σ.xs < evL a σ.xs)), by simp [binOp, Op.intCmp], cmp _ ⟨_, _, h, ?_, ?_⟩⟩
    · intro e; exact decide_eq_true (gtE_ev e)
    · intro e; have := geE_ev (σ := σ) e; exact decide_eq_false (by omega)
  | geq =>
    refine ⟨.bool (decide (evL b σ.xs ≤ evL a σ.xs)), by simp [binOp, Op.intCmp], cmp _ ⟨_, _, h, ?_, ?_⟩⟩
    · intro e; exact decide_eq_true (geE_ev e)
    · intro e; have := gtE_ev (σ := σ) e; exact decide_eq_false (by omega)
  | add =>
    simp only [tokBin2] at h
    obtain ⟨h1, h2, h3⟩ := rangeI_rel (σ := σ) (ι := ι) h
    rw [evL_addE] at h1 h2 h3
    exact ⟨_, by simp [binOp, Op.intArith, wrap_ev k h2 h3], h1⟩
  | mul =>
    simp only [tokBin2] at h
    cases hm : mulEE a b with
    | none => rw [hm] at h; simp [mulI] at h
    | some e =>
      rw [hm] at h
      simp only [mulI] at h
      obtain ⟨h1, h2, h3⟩ := rangeI_rel (σ := σ) (ι := ι) h
      rw [mulEE_ev hm] at h1 h2 h3
      exact ⟨_, by simp [binOp, Op.intArith, wrap_ev k h2 h3], h1⟩
  | quo =>
    simp only [tokBin2] at h
    cases hn : nnE a with
    | false => rw [hn] at h; simp at h
    | true =>
      rw [hn] at h
      simp only at h
      unfold quoI at h
      split at h
      · rename_i c hc
        split at h
        · rename_i q hq
          obtain ⟨q1, q2⟩ := quoE_ev (σ := σ) hq
          obtain ⟨h1, h2, h3⟩ := rangeI_rel (σ := σ) (ι := ι) h
          have hb := isC_ev (σ := σ) hc
          have ha := nnE_ev (σ := σ) hn
          rw [hb]
          have hne : (Int.ofNat c) ≠ 0 := by show ((c : Nat) : Int) ≠ 0; omega
          have htd : (evL a σ.xs).tdiv (Int.ofNat c) = evL q σ.xs := by
            rw [Int.tdiv_eq_ediv_of_nonneg ha]; exact q1
          refine ⟨_, ?_, h1⟩
          simp only [binOp, ne_eq, not_true_eq_false, if_false, Op.intDiv, hne, htd, wrap_ev k h2 h3, Sem.run_pure]
        · cases h
      · cases h
  | _ => simp [tokBin2] at h

theorem sameN_rel : ∀ {a b m m' : List Value}, sameN a b = true → All2 (CRel σ ι) a m → All2 (CRel σ ι) b m' → m' = m ∧ ∀ x ∈ m, ∃ n, x = .int .u8 n := by
  intro a
  induction a with
  | nil =>
    intro b m m' h h1 h2
    cases b with
    | nil => rw [h1.nilL, h2.nilL]; exact ⟨rfl, fun x hx => by cases hx⟩
    | cons => simp [sameN] at h
  | cons v l ih =>
    intro b m m' h h1 h2
    obtain ⟨u, m, rfl, hvu, hl⟩ := h1.consL
    unfold sameN at h
    split at h
    · rename_i e; cases e
    · rename_i a1 l1 b1 l2 e
      injection e with e1 e2
      subst e1; subst e2
      obtain ⟨u2, m2, rfl, hvu2, hl2⟩ := h2.consL
      cases hb : Nat.beq a1 b1 with
      | false => rw [hb] at h; simp at h
      | true =>
        rw [hb] at h
        have e := Nat.eq_of_beq_eq_true hb
        subst e
        obtain ⟨i1, i2⟩ := ih h hl hl2
        subst i1
        rw [hvu.constOf rfl, hvu2.constOf rfl]
        refine ⟨rfl, fun x hx => ?_⟩
        cases hx with
        | head => exact ⟨_, rfl⟩
        | tail _ hx => exact i2 x hx
    · rename_i t p l1 t' p' l2 e
      injection e with e1 e2
      subst e1; subst e2
      obtain ⟨u2, m2, rfl, hvu2, hl2⟩ := h2.consL
      split at h
      · rename_i hb
        simp only [Bool.and_eq_true] at hb
        have t0 := Nat.eq_of_beq_eq_true hb.1
        have t1 := Nat.eq_of_beq_eq_true hb.2.1
        have t2 := beqP_eq hb.2.2
        subst t0; subst t1; subst t2
        obtain ⟨i1, i2⟩ := ih h hl hl2
        subst i1
        obtain ⟨e1, g1, _, _, g2⟩ := (VRel.cell hvu).tokOf.num (k := .u8) rfl
        obtain ⟨e3, g3, _, _, g4⟩ := (VRel.cell hvu2).tokOf.num (k := .u8) rfl
        rw [g1] at g3
        injection g3 with g3
        subst g3
        rw [g2, g4]
        refine ⟨rfl, fun x hx => ?_⟩
        cases hx with
        | head => exact ⟨_, rfl⟩
        | tail _ hx => exact i2 x hx
      · cases h
    · cases h
theorem run_equalIn_refl (w : World) (d : Nat) (t e : TypeId) (n : Nat) (ht : P.underlying t = some (.array n e)) (he : P.underlying e = some (.int .u8)) (hsz : (sizeOf e).run P w = .ok 1 w)
    (m : List Value) (hm : m.length = n) (hb : ∀ x ∈ m, ∃ z, x = .int .u8 z) : (Op.equalIn (d + 2) t (.agg m.toArray) (.agg m.toArray)).run P w = .ok true w := by
  rw [Op.equalIn]
  simp only [Sem.run_bind, run_underlying ht, Result.andThen_ok, hsz, Std.Legacy.Range.forIn_eq_forIn_range', Std.Legacy.Range.size, Nat.sub_zero, Nat.add_sub_cancel, Nat.div_one]
  have hl : ∀ i ∈ List.range' 0 n 1, i < n := fun i hi => by simpa using (List.mem_range'_1.1 hi).2
  generalize List.range' 0 n 1 = l at hl ⊢
  induction l with
  | nil => simp
  | cons i l ih =>
    have hi : i < m.length := by rw [hm]; exact hl i (by simp)
    obtain ⟨z, hz⟩ := hb m[i] (List.getElem_mem hi)
    have px : (Go.part e m.toArray (i * 1)).run P w = .ok (.int .u8 z) w := by
      simp [Go.part, isAgg, run_underlying he, List.getElem?_eq_getElem hi, hz]
    have pe : (Op.equalIn (d + 1) e (.int .u8 z) (.int .u8 z)).run P w = .ok true w := by
      rw [run_equalIn_int w d e .u8 .u8 _ _ he]
      simp
    simp only [List.forIn_cons, Sem.run_bind, px, pe, Result.andThen_ok]
    simp only [Bool.not_true, Bool.false_eq_true, if_false, Sem.run_pure, Result.andThen_ok]
    exact ih fun j hj => hl j (by simp [hj])
theorem byteArr_some {t : TypeId} {n : Nat} (h : byteArr P t n = true) : ∃ e, P.underlying t = some (.array n e) ∧ P.underlying e = some (.int .u8) ∧ sizeOfT P e = some 1 ∧ P.eqGuardType P.depth t = false := by
  unfold byteArr at h
  split at h
  · rename_i m e hd
    split at h
    · rename_i s h1 h2
      simp only [Bool.and_eq_true] at h
      have e1 := Nat.eq_of_beq_eq_true h.1
      have e2 := Nat.eq_of_beq_eq_true h.2.1
      subst e1; subst e2
      exact ⟨e, hd, h1, h2, by simpa using h.2.2⟩
    · cases h
  · cases h
theorem tokBin_run {op : BinOp} {t : TypeId} {x y x' y' v : Value} {ox oy : Operand} (h : tokBin P t op x y = some v) (hx : VRel σ ι x x') (hy : VRel σ ι y y') :
    ∃ u, (do eqGuard op t ox oy x' y'; binOp op t x' y' : Sem Value).run P w = .ok u w ∧ CRel σ ι v u := by
  unfold tokBin at h
  split at h
  · rename_i a b
    unfold tokAgg at h
    split at h
    · split at h
      · rename_i hb
        simp only [Option.some.injEq] at h
        subst h
        simp only [Bool.and_eq_true] at hb
        obtain ⟨e, h1, h2, h3, h4⟩ := byteArr_some hb.1
        obtain ⟨m, hm, rfl⟩ := hx.aggOf
        obtain ⟨m', hm', rfl⟩ := hy.aggOf
        obtain ⟨rfl, hall⟩ := sameN_rel hb.2 hm hm'
        refine ⟨.bool true, ?_, .bool _⟩
        have hg : (eqGuard .eql t ox oy (.agg m'.toArray) (.agg m'.toArray)).run P w = .ok () w := by
          unfold eqGuard
          simp [h4]
        have heq := run_equalIn_refl w 9998 t e _ h1 h2 (sizeOfT_some (w := w) h3).1 m' hm.length.symm hall
        have hbin : binOp .eql t (.agg m'.toArray) (.agg m'.toArray) = (do pure (.bool (← Op.equal t (.agg m'.toArray) (.agg m'.toArray)))) := rfl
        have heq2 : (Op.equal t (.agg m'.toArray) (.agg m'.toArray)).run P w = .ok true w := heq
        rw [hbin]
        simp only [Sem.run_bind, hg, Result.andThen_ok, heq2, Sem.run_pure]
      · cases h
    · cases h
  · unfold tokBin1 at h
    split at h
    · rename_i k a k' b h1 h2
      split at h
      · rename_i hk
        have := sameKind_eq hk
        subst this
        rw [exOf_rel h1 hx, exOf_rel h2 hy]
        obtain ⟨u, hu, hv⟩ := tokBin2_run (P := P) (w := w) (σ := σ) (ι := ι) h t
        refine ⟨u, ?_, hv⟩
        simp only [Sem.run_bind, eqGuard_run (.inl ⟨_, _, rfl⟩), Result.andThen_ok, hu]
      · cases h
    · cases h

theorem goes_bin (H : HRel σ n0 ι h w) {a : Ac} {op : BinOp} {t : TypeId} {x y : Operand} {yt : TypeId} (hx : VRel σ ι (Ac.eval a x) (ρ x)) (hy : VRel σ ι (Ac.eval a y) (ρ y)) (ho : o.op = .binOp op t x y yt)
    {out : Out} (he : evalBin P h (Ac.eval a) o op t (Ac.eval a x) (Ac.eval a y) = some out) : OpGoes σ P n0 ι h w ρ o out := by
  have hr : ∀ ρ : Operand → Value, execOp ρ o = (do pure (.value (← (do eqGuard op t x y (ρ x) (ρ y); binOp op t (ρ x) (ρ y)))) : Sem Next) := by intro ρ; unfold execOp; rw [ho]
  unfold evalBin at he
  cases hq : quickV op (Ac.eval a x) (Ac.eval a y) with
  | some v =>
    rw [hq] at he
    simp only [mk, Option.some.injEq] at he
    subst he
    generalize Ac.eval a x = vx at hx hq
    generalize Ac.eval a y = vy at hy hq
    unfold quickV at hq
    cases vx with
    | int k n =>
      have e1 := hx.int
      cases n with
      | negSucc n => simp at hq
      | ofNat nx =>
        simp only at hq
        cases vy with
        | int k' m =>
          have e2 := hy.int
          cases m with
          | negSucc m => simp at hq
          | ofNat ny =>
            simp only at hq
            cases hk : sameKind k k' with
            | false => rw [hk] at hq; simp at hq
            | true =>
              rw [hk] at hq
              have := sameKind_eq hk
              subst this
              simp only at hq
              have hv : VRel σ ι v v := by
                have : (∃ b, v = .bool b) ∨ ∃ k n, v = .int k n := by
                  cases op <;> simp only [quick, boolO, Option.some.injEq] at hq <;> first
                    | exact .inl ⟨_, hq.symm⟩
                    | exact .inr ⟨_, _, (inK_some hq).2⟩
                    | (split at hq
                       · exact .inr ⟨_, _, (inK_some hq).2⟩
                       · cases hq)
                    | cases hq
                rcases this with ⟨b, rfl⟩ | ⟨k, n, rfl⟩
                · exact .cell (.bool b)
                · exact .cell (.int k n)
              refine goes_value H (u := v) ?_ hv
              rw [hr, e1, e2]
              have e3 : (Int.ofNat nx) = (nx : Int) := rfl
              have e4 : (Int.ofNat ny) = (ny : Int) := rfl
              simp only [Sem.run_bind, eqGuard_run (.inl ⟨_, _, rfl⟩), Result.andThen_ok, e3, e4, quick_run hq, Sem.run_pure]
        | _ => simp at hq
    | _ => simp at hq
  | none =>
    rw [hq] at he
    simp only [slowBin] at he
    cases hf : (flatV (Ac.eval a x) && flatV (Ac.eval a y)) with
    | true =>
      rw [hf] at he
      simp only [Bool.and_eq_true] at hf
      simp only at he
      obtain ⟨v, hb, rfl, hfv⟩ := mkN_some he
      have e1 := hx.flat_eq hf.1
      have e2 := hy.flat_eq hf.2
      have heq : execOp ρ o = execOp (Ac.eval a) o := by rw [hr, hr, e1, e2]
      have hrun := bare_run _ _ hb w
      rw [← heq] at hrun
      exact goes_value H hrun (flat_rel hfv)
    | false =>
      rw [hf] at he
      simp only at he
      cases htb : tokBin P t op (Ac.eval a x) (Ac.eval a y) with
      | some v =>
        rw [htb] at he
        simp only [mk, Option.some.injEq] at he
        subst he
        obtain ⟨u, hu, hv⟩ := tokBin_run (w := w) (ox := x) (oy := y) htb hx hy
        refine goes_value H (u := u) ?_ (.cell hv)
        rw [hr, Sem.run_bind, hu]
        rfl
      | none =>
      rw [htb] at he
      simp only at he
      split at he
      · rename_i ad l c l2 c2 e hvx hvy hd
        simp only [mk, Option.some.injEq] at he
        subst he
        rw [hvx] at hx
        rw [hvy] at hy
        have ey := hy.nils
        refine goes_value H (u := .bool ad.isNone) ?_ (.cell (.bool _))
        rw [hr, ey]
        cases ad with
        | none =>
          rw [hx.nils]
          simp only [Sem.run_bind, eqGuard_run (.inr ⟨_, _, _, rfl⟩), Result.andThen_ok, bin_eql_nil hd, Sem.run_pure]
        | some a =>
          obtain ⟨k, q, b, p, z, c', _, _, _, e⟩ := hx.slc
          rw [e]
          simp only [Sem.run_bind, eqGuard_run (.inr ⟨_, _, _, rfl⟩), Result.andThen_ok, bin_eql_nil hd, Sem.run_pure]
          rfl
      · rename_i ad l c l2 c2 e hvx hvy hd
        simp only [mk, Option.some.injEq] at he
        subst he
        rw [hvx] at hx
        rw [hvy] at hy
        have ey := hy.nils
        refine goes_value H (u := .bool !ad.isNone) ?_ (.cell (.bool _))
        rw [hr, ey]
        cases ad with
        | none =>
          rw [hx.nils]
          simp only [Sem.run_bind, eqGuard_run (.inr ⟨_, _, _, rfl⟩), Result.andThen_ok, bin_neq_nil hd, Sem.run_pure]
        | some a =>
          obtain ⟨k, q, b, p, z, c', _, _, _, e⟩ := hx.slc
          rw [e]
          simp only [Sem.run_bind, eqGuard_run (.inr ⟨_, _, _, rfl⟩), Result.andThen_ok, bin_neq_nil hd, Sem.run_pure]
          rfl
      · cases he

theorem goes_un (H : HRel σ n0 ι h w) {a : Ac} {op : UnOp} {t : TypeId} {x : Operand} (hx : VRel σ ι (Ac.eval a x) (ρ x)) (ho : o.op = .unOp op t x)
    {out : Out} (he : evalUn P h (Ac.eval a) o (Ac.eval a x) = some out) : OpGoes σ P n0 ι h w ρ o out := by
  have hr : ∀ ρ : Operand → Value, execOp ρ o = (do pure (.value (← Op.unary op (ρ x))) : Sem Next) := by intro ρ; unfold execOp; rw [ho]
  unfold evalUn at he
  cases hf : flatV (Ac.eval a x) with
  | false => rw [hf] at he; simp at he
  | true =>
    rw [hf] at he
    obtain ⟨v, hb, rfl, hfv⟩ := mkN_some he
    have heq : execOp ρ o = execOp (Ac.eval a) o := by rw [hr, hr, hx.flat_eq hf]
    have hrun := bare_run _ _ hb w
    rw [← heq] at hrun
    exact goes_value H hrun (flat_rel hfv)

theorem toBytes_some : ∀ (l : List Value) (bs : List UInt8), toBytes l = some bs → ∃ ns : List Int, l = ns.map (Value.int .u8) ∧ bs = ns.map fun n => UInt8.ofNat n.toNat := by
  intro l
  induction l with
  | nil => intro bs h; simp only [toBytes, Option.some.injEq] at h; subst h; exact ⟨[], rfl, rfl⟩
  | cons v l ih =>
    intro bs h
    cases v with
    | int k n =>
      cases k with
      | u8 =>
        simp only [toBytes] at h
        cases hr : toBytes l with
        | none => rw [hr] at h; simp at h
        | some r =>
          rw [hr] at h
          injection h with h
          subst h
          obtain ⟨ns, rfl, rfl⟩ := ih r hr
          exact ⟨n :: ns, rfl, rfl⟩
      | _ => simp [toBytes] at h
    | _ => simp [toBytes] at h

theorem foldl_push (ns : List Int) : ∀ (acc : Array UInt8), ns.foldl (fun (r : ByteArray) n => r.push (UInt8.ofNat n.toNat)) ⟨acc⟩ = ⟨acc ++ (ns.map fun n => UInt8.ofNat n.toNat).toArray⟩ := by
  induction ns with
  | nil => intro acc; simp
  | cons n ns ih =>
    intro acc
    rw [List.foldl_cons]
    have : (ByteArray.push ⟨acc⟩ (UInt8.ofNat n.toNat)) = ⟨acc.push (UInt8.ofNat n.toNat)⟩ := rfl
    rw [this, ih]
    congr 1
    apply Array.ext'
    simp

theorem goes_conv (H : HRel σ n0 ι h w) {a : Ac} {s d : TypeId} {x : Operand} (hx : VRel σ ι (Ac.eval a x) (ρ x)) (ho : o.op = .convert s d x)
    {out : Out} (he : evalConv P h (Ac.eval a) o s d (Ac.eval a x) = some out) : OpGoes σ P n0 ι h w ρ o out := by
  have hr : ∀ ρ : Operand → Value, execOp ρ o = (do pure (.value (← convert s d (ρ x))) : Sem Next) := by intro ρ; unfold execOp; rw [ho]
  unfold evalConv at he
  split at he
  · rename_i k n hv
    rw [hv] at hx
    have ex := hx.int
    split at he
    · rename_i k2 hs
      cases hq : quickConv n (P.underlying d) with
      | some v =>
        rw [hq] at he
        simp only [convO, mk, Option.some.injEq] at he
        subst he
        unfold quickConv at hq
        split at hq
        · rename_i k3 hd
          split at hq
          · rename_i m
            obtain ⟨h1, rfl⟩ := inK_some hq
            refine goes_value H (u := .int k3 (m : Int)) ?_ (.cell (.int _ _))
            rw [hr, ex]
            have := wrap_in k3 h1
            simp only [convert, Sem.run_bind, run_under hs, run_under hd, Result.andThen_ok, Conv.intToInt, Sem.run_pure]
            rw [← this]; rfl
          · cases hq
        · cases hq
      | none =>
        rw [hq] at he
        simp only [convO] at he
        obtain ⟨v, hb, rfl, hfv⟩ := mkN_some he
        have heq : execOp ρ o = execOp (Ac.eval a) o := by rw [hr, hr, ex, hv]
        have hrun := bare_run _ _ hb w
        rw [← heq] at hrun
        exact goes_value H hrun (flat_rel hfv)
    · cases he
  · rename_i ad len c hv
    rw [hv] at hx
    split at he
    · rename_i e hs hd
      split at he
      · rename_i he2
        cases hrd : h.read ad len with
        | none => rw [hrd] at he; simp [bytesO] at he
        | some l =>
          rw [hrd] at he
          simp only [bytesO] at he
          cases hb : toBytes l with
          | none => rw [hb] at he; simp at he
          | some bs =>
            rw [hb] at he
            simp only [Option.some.injEq] at he
            subst he
            obtain ⟨ns, rfl, rfl⟩ := toBytes_some l bs hb
            obtain ⟨k, q, b, p, z, rfl, _, hi, m, hm, hlen, hc⟩ := H.read hrd
            obtain ⟨k2, q2, b2, p2, z2, c', e', hi2, _, ex⟩ := hx.slc
            injection e' with e1 e2
            subst e1; subst e2
            rw [hi] at hi2
            injection hi2 with hi2
            injection hi2 with e1 e2
            injection e2 with e2 e3
            subst e1; subst e2
            have hml : m = ns.map (Value.int .u8) := flatL_eq hm (by
              clear hm hb hrd hlen hc
              induction ns with
              | nil => rfl
              | cons n ns ih => simpa [flatL, flat] using ih)
            have hl := run_loadCells_list (P := P) w ⟨b, p + q, none⟩ m hc
            rw [hlen, hml] at hl
            have hrun := run_bytesToString w ⟨b, p + q, none⟩ len c' ns hl
            have hem : ByteArray.empty = ⟨#[]⟩ := rfl
            rw [hem, foldl_push] at hrun
            refine goes_value H (u := .string ⟨(ns.map fun n => UInt8.ofNat n.toNat).toArray⟩) ?_ (.cell (.string _))
            rw [hr, ex]
            simp only [convert, Sem.run_bind, run_under hs, run_under hd, Result.andThen_ok, run_under he2, hrun, Sem.run_pure]
            simp
      · cases he
    · cases he
  · rename_i c hv
    rw [hv] at hx
    split at he
    · rename_i e hs hd
      split at he
      · rename_i he2
        simp only [bytesO, toBytes, Option.some.injEq] at he
        subst he
        refine goes_value H (u := .string ⟨#[]⟩) ?_ (.cell (.string _))
        rw [hr, hx.nils]
        simp only [convert, Sem.run_bind, run_under hs, run_under hd, Result.andThen_ok, run_under he2, Conv.bytesToString, Sem.run_pure]
        rfl
      · cases he
    · cases he
  · rename_i t p hv
    rw [hv] at hx
    unfold tokConv at he
    split at he
    · rename_i k1 k2 hs hd
      split at he
      · rename_i k e hex
        cases hri : rangeI k2 e with
        | none => rw [hri] at he; simp [mkO] at he
        | some v =>
          rw [hri] at he
          simp only [mkO, Option.some.injEq] at he
          subst he
          obtain ⟨g1, g2, g3⟩ := rangeI_rel (σ := σ) (ι := ι) hri
          have ex := exOf_rel (v := .iface t p) (k := k) (e := e) hex hx
          refine goes_value H (u := .int k2 (evL e σ.xs)) ?_ (.cell g1)
          rw [hr, ex]
          simp only [convert, Sem.run_bind, run_under hs, run_under hd, Result.andThen_ok, Conv.intToInt, Sem.run_pure, wrap_ev k2 g2 g3]
      · cases he
    · cases he
  · cases he
end
end Go.Jv
