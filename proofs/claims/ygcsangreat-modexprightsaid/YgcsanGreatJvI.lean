/-
  Frames; regions in the text's order.
-/
import Derived.Test.YgcsanGreatJvH
import Derived.Tactics
namespace Go.Jv
open Go
set_option linter.unusedVariables false
set_option linter.unusedSimpArgs false
variable {σ : Va}

/-- The frame's values, as the evaluator has them. -/
structure ARel (σ : Va) (ι : Im) (n : Nat) (a : Ac) (act : Act) : Prop where
  size : act.tmps.size = n
  rel : ∀ t, VRel σ ι (orUndef (Tr.get a t)) (act.tmps.getD t undef)
  defers : act.defers = []

section
variable {P : Program} {n0 n : Nat} {ι : Im} {h h' : Hp} {w : World} {a a' : Ac} {act : Act} {o : Oper}

theorem ARel.mono {κ : Im} (A : ARel σ ι n a act) (hl : ι.le κ) : ARel σ κ n a act := ⟨A.size, fun t => (A.rel t).mono hl, A.defers⟩
theorem ARel.eval (A : ARel σ ι n a act) (x : Operand) : VRel σ ι (Ac.eval a x) (act.eval x) := by
  cases x with
  | tmp t => exact A.rel t
  | const v =>
    simp only [Ac.eval, Act.eval]
    cases hc : constOk v with
    | true => exact constOk_rel hc
    | false => exact .top _
  | global g => exact .top _
  | func f => exact .top _
theorem put_some {d : Option Tmp} {v : Value} (hp : Ac.put n a d v = some a') : ∀ t, Tr.get a' t = if d = some t then some v else Tr.get a t := by
  intro t
  cases d with
  | none => simp only [Ac.put, Option.some.injEq] at hp; subst hp; simp
  | some d =>
    simp only [Ac.put] at hp
    cases hb : Nat.ble n d with
    | true => rw [hb] at hp; simp at hp
    | false =>
      rw [hb] at hp
      rw [Tr.get_set _ _ _ _ _ hp t]
      by_cases e : t = d
      · subst e; simp
      · rw [if_neg e, if_neg (fun e' => e (by injection e' with e'; exact e'.symm))]
theorem put_lt {d : Tmp} {v : Value} (hp : Ac.put n a (some d) v = some a') : d < n := by
  simp only [Ac.put] at hp
  cases hb : Nat.ble n d with
  | true => rw [hb] at hp; simp at hp
  | false =>
    rcases Nat.lt_or_ge d n with e | e
    · exact e
    · rw [bleT e] at hb; cases hb
theorem ARel.put {d : Option Tmp} {v u : Value} (A : ARel σ ι n a act) (hp : Ac.put n a d v = some a') (hv : VRel σ ι v u) : ARel σ ι n a' (act.put d u) := by
  have hg := put_some hp
  cases d with
  | none =>
    exact ⟨A.size, fun t => by rw [hg t, if_neg (by simp)]; exact A.rel t, A.defers⟩
  | some d =>
    have hd := put_lt hp
    refine ⟨by simp [Act.put, A.size], fun t => ?_, by simpa [Act.put] using A.defers⟩
    rw [hg t]
    by_cases e : d = t
    · subst e
      rw [if_pos rfl]
      simp only [Act.put, Array.getD_eq_getD_getElem?, Array.getElem?_setIfInBounds, A.size, hd]
      simpa [orUndef] using hv
    · rw [if_neg (fun e' => e (by injection e'))]
      have := A.rel t
      simp only [Act.put, Array.getD_eq_getD_getElem?, Array.getElem?_setIfInBounds_ne e] at this ⊢
      exact this

/-- Is an operation wanted? -/
theorem wantedA_some {ops : Array Oper} {b : Bool} (hw : wantedA ops a o = some b)
    (hr : ∀ j want d, o.guard = some (j, want) → (ops[j]?).bind (·.dst) = some d → VRel σ ι (orUndef (Tr.get a d)) (act.tmps.getD d undef)) : Region.wanted o (yielded ops act.tmps) = b := by
  unfold wantedA at hw
  unfold Region.wanted
  cases hg : o.guard with
  | none => rw [hg] at hw; simp only [Option.some.injEq] at hw; subst hw; rfl
  | some gw =>
    obtain ⟨j, want⟩ := gw
    rw [hg] at hw
    simp only at hw
    cases ho : ops[j]? with
    | none => rw [ho] at hw; simp [dstOf, wantD] at hw
    | some oj =>
      rw [ho] at hw
      simp only [dstOf] at hw
      cases hd : oj.dst with
      | none => rw [hd] at hw; simp [wantD] at hw
      | some d =>
        rw [hd] at hw
        simp only [wantD] at hw
        have hv := hr j want d hg (by rw [ho]; simp [hd])
        cases ht : Tr.get a d with
        | none => rw [ht] at hw; simp [wantV] at hw
        | some v =>
          rw [ht] at hw hv
          simp only [orUndef] at hv
          simp only
          have hy : yielded ops act.tmps j = match act.tmps[d]? with | some (.bool b) => some b | _ => none := by
            unfold yielded
            rw [ho]
            simp only [Option.bind_some, hd]
            cases act.tmps[d]? with
            | none => rfl
            | some y => cases y <;> rfl
          rw [hy]
          cases v with
          | bool b0 =>
            simp only [wantV, Option.some.injEq] at hw
            subst hw
            have e := hv.bool
            rw [Array.getD_eq_getD_getElem?] at e
            cases ht2 : act.tmps[d]? with
            | none => rw [ht2] at e; simp [undef] at e
            | some y =>
              rw [ht2] at e
              simp only [Option.getD_some] at e
              subst e
              simp
          | tuple vs =>
            obtain ⟨l⟩ := vs
            cases l with
            | nil =>
              simp only [wantV, Option.some.injEq] at hw
              subst hw
              have e : act.tmps.getD d undef = undef := by
                rcases hv with (e | ⟨_, e⟩ | hc | ⟨l, m, _, e, _⟩) | ⟨l, m, hlm, e, e2⟩
                · cases e
                · exact e
                · have := hc.oneV; simp [oneV] at this
                · cases e
                · injection e with e
                  have e3 : ([] : List Value) = l := by have := congrArg Array.toList e; simpa using this
                  subst e3
                  rw [hlm.nilL] at e2
                  exact e2
              rw [Array.getD_eq_getD_getElem?] at e
              cases ht2 : act.tmps[d]? with
              | none => simp
              | some y =>
                rw [ht2] at e
                simp only [Option.getD_some] at e
                subst e
                simp [undef]
            | cons x l => simp [wantV] at hw
          | _ => simp [wantV] at hw

/-- What is asked of calls. -/
def CallOk (σ : Va) (P : Program) (n0 : Nat) (call : Caller) : Prop :=
  ∀ f args h v h' ι w us, call f args h = some (v, h') → HRel σ n0 ι h w → All2 (VRel σ ι) args us →
    Calls P f us.toArray w fun e w' => ∃ u ι', e = .returned u ∧ VRel σ ι' v u ∧ HRel σ n0 ι' h' w' ∧ Ext ι h w ι' h' w'

theorem stepOp_wp {call : Caller} (hc : CallOk σ P n0 call) (H : HRel σ n0 ι h w) (hx : ∀ x ∈ o.op.operands, VRel σ ι (Ac.eval a x) (act.eval x)) {v : Value} (he : stepOp P call h a o = some (v, h'))
    {K : Act → World → Prop} {Q : Exit → Act → World → Prop} (hK : ∀ ι' w' u, VRel σ ι' v u → HRel σ n0 ι' h' w' → Ext ι h w ι' h' w' → K (act.put o.dst u) w') : o.wp P act w K Q := by
  unfold stepOp at he
  cases hev : evalOp P h a o with
  | none => rw [hev] at he; simp [callO] at he
  | some out =>
    rw [hev] at he
    have hg := evalOp_goes H hx (fun f => rfl) hev
    unfold Oper.wp
    obtain ⟨v', h1, oc⟩ := out
    cases oc with
    | none =>
      simp only [callO, Option.some.injEq, Prod.mk.injEq] at he
      obtain ⟨rfl, rfl⟩ := he
      obtain ⟨ι', w', u, hr, hv, H', E⟩ := hg
      rcases hr with hr | ⟨hr, rfl⟩
      · rw [hr]; exact hK ι' w' u hv H' E
      · rw [hr]; exact hK ι' w' _ hv H' E
    | some fa =>
      obtain ⟨f, args⟩ := fa
      simp only [callO] at he
      obtain ⟨us, hr, hus⟩ := hg
      rw [hr]
      refine (hc f args h v h' ι w us he H hus).mono ?_
      rintro e w' ⟨u, ι', rfl, hv, H', E⟩
      exact hK ι' w' u hv H' E

/-- what follows on the evaluator's answer -/
def After (σ : Va) (n0 n : Nat) (ι : Im) (h : Hp) (w : World) (a' : Ac) (h' : Hp) (act : Act) (w' : World) : Prop :=
  ∃ ι', HRel σ n0 ι' h' w' ∧ ARel σ ι' n a' act ∧ Ext ι h w ι' h' w'

theorem thenOps_some {k : Ac → Hp → Option (Ac × Hp)} {x : Option (Ac × Hp)} {r : Ac × Hp} (he : thenOps k x = some r) : ∃ a h, x = some (a, h) ∧ k a h = some r := by
  cases x with
  | none => simp [thenOps] at he
  | some p => exact ⟨p.1, p.2, rfl, he⟩
theorem putO_some {d : Option Tmp} {x : Option (Value × Hp)} {r : Ac × Hp} (he : putO n a d x = some r) : ∃ v, x = some (v, r.2) ∧ Ac.put n a d v = some r.1 := by
  cases x with
  | none => simp [putO] at he
  | some p =>
    obtain ⟨v, h⟩ := p
    simp only [putO] at he
    cases hp : Ac.put n a d v with
    | none => rw [hp] at he; simp [withH] at he
    | some a' =>
      rw [hp] at he
      simp only [withH, Option.some.injEq] at he
      subst he
      exact ⟨v, rfl, hp⟩

theorem evOps_wp {call : Caller} (hc : CallOk σ P n0 call) {ops : Array Oper} : ∀ (l : List Oper) (ι : Im) (a : Ac) (h : Hp) (act : Act) (w : World) (a' : Ac) (h' : Hp), evOps P call n ops l a h = some (a', h') → HRel σ n0 ι h w → ARel σ ι n a act →
    ∀ {Q : Exit → Act → World → Prop}, (∀ act' w', After σ n0 n ι h w a' h' act' w' → Q .normal act' w') → wpList P ops Q l act w := by
  intro l
  induction l with
  | nil =>
    intro ι a h act w a' h' he H A Q hQ
    simp only [evOps, Option.some.injEq, Prod.mk.injEq] at he
    obtain ⟨rfl, rfl⟩ := he
    exact hQ _ _ ⟨ι, H, A, Ext.refl _ _ _⟩
  | cons o l ih =>
    intro ι a h act w a' h' he H A Q hQ
    simp only [evOps] at he
    obtain ⟨a1, h1, hgo, hrest⟩ := thenOps_some he
    cases hw : wantedA ops a o with
    | none => rw [hw] at hgo; simp [goOp] at hgo
    | some b =>
      rw [hw] at hgo
      have hwant := wantedA_some hw (act := act) (ι := ι) (fun j want d _ _ => A.rel d)
      cases b with
      | true =>
        simp only [goOp] at hgo
        obtain ⟨v, hs, hp⟩ := putO_some hgo
        simp only at hs hp
        simp only [wpList, hwant, if_true]
        left
        refine stepOp_wp hc H (fun x _ => A.eval x) hs ?_
        intro ι' w' u hv H' E
        exact ih ι' a1 h1 _ w' a' h' hrest H' ((A.mono E.le).put hp hv) (fun act' w2 ⟨κ, K1, K2, K3⟩ => hQ act' w2 ⟨κ, K1, K2, E.trans K3⟩)
      | false =>
        simp only [goOp] at hgo
        obtain ⟨v, hs, hp⟩ := putO_some hgo
        simp only [Option.some.injEq, Prod.mk.injEq] at hs hp
        obtain ⟨rfl, rfl⟩ := hs
        simp only [wpList, hwant]
        exact ih ι a1 h _ w a' h' hrest H (A.put hp .undef) hQ
end
end Go.Jv
