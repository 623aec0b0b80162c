/-
  Calls: what the evaluator says holds.
-/
import Derived.Test.YgcsanGreatJvN
namespace Go.Jv
open Go
set_option linter.unusedVariables false
set_option linter.unusedSimpArgs false
variable {σ : Va}

section
variable {P : Program} {n0 : Nat} {n : Nat}

theorem fromList_get : ∀ (l : List Value) (i : Nat) (t t' : Tr Value), fromList l i t = some t' → ∀ m, Tr.get t' m = if i ≤ m ∧ m < i + l.length then l[m - i]? else Tr.get t m := by
  intro l
  induction l with
  | nil => intro i t t' h m; simp only [fromList, Option.some.injEq] at h; subst h; rw [if_neg (by simp)]
  | cons v l ih =>
    intro i t t' h m
    simp only [fromList] at h
    cases hs : Tr.set (some v) 64 t i with
    | none => rw [hs] at h; simp at h
    | some t1 =>
      rw [hs] at h
      have h1 := ih (i + 1) t1 t' h m
      rw [h1, Tr.get_set _ _ _ _ _ hs m]
      simp only [List.length_cons]
      by_cases e : m = i
      · subst e
        rw [if_neg (by omega), if_pos rfl, if_pos (by omega)]; simp
      · by_cases e2 : i + 1 ≤ m ∧ m < i + 1 + l.length
        · rw [if_pos e2, if_pos (by omega), show m - i = (m - (i + 1)) + 1 by omega]; simp
        · rw [if_neg e2, if_neg e, if_neg (by omega)]

theorem VRel.wOf {ι : Im} {v u : Value} (h : VRel σ ι v u) (hw : wOk v = true) : WRel σ ι v u := by
  rcases h with h | ⟨l, m, h, rfl, rfl⟩
  · exact h
  · cases l with
    | nil => rw [h.nilL]; exact .undef
    | cons x l => simp [wOk] at hw

/-- one result -/
def resOne (tmps : Array Value) : ResultVar → Sem Value
  | .tmp t => pure (tmps.getD t undef)
  | .cell x t => do loadVar t (← asAddr (tmps.getD x undef))
theorem results_eq (fn : Func) (tmps : Array Value) : results fn tmps = (do let vs ← fn.results.mapM (resOne tmps); pure (if h : vs.size = 1 then vs[0] else .tuple vs)) := by
  unfold results
  congr 1
/-- what a function hands back -/
theorem evResults_run {ι : Im} {a : Ac} {h : Hp} {act : Act} {w : World} (H : HRel σ n0 ι h w) (A : ARel σ ι n a act) : ∀ (rs : List ResultVar) (vs : List Value), evResults P a h rs = some vs →
    ∃ us, (rs.mapM (resOne act.tmps)).run P w = .ok us w ∧ All2 (VRel σ ι) vs us := by
  intro rs
  induction rs with
  | nil => intro vs he; simp only [evResults, Option.some.injEq] at he; subst he; exact ⟨[], by simp, .nil⟩
  | cons r rs ih =>
    intro vs he
    cases r with
    | tmp t =>
      simp only [evResults] at he
      cases hr : evResults P a h rs with
      | none => rw [hr] at he; simp [consV] at he
      | some l =>
        rw [hr] at he
        simp only [consV, Option.some.injEq] at he
        subst he
        obtain ⟨us, h1, h2⟩ := ih l hr
        exact ⟨act.tmps.getD t undef :: us, by simp only [List.mapM_cons, resOne, Sem.run_bind, Sem.run_pure, Result.andThen_ok, h1], .cons (A.eval (.tmp t)) h2⟩
    | cell x ty =>
      simp only [evResults] at he
      cases hl : loadV P ty h (Ac.eval a (.tmp x)) with
      | none => rw [hl] at he; simp [consVO] at he
      | some v =>
        rw [hl] at he
        simp only [consVO] at he
        cases hr : evResults P a h rs with
        | none => rw [hr] at he; simp [consV] at he
        | some l =>
          rw [hr] at he
          simp only [consV, Option.some.injEq] at he
          subst he
          obtain ⟨us, h1, h2⟩ := ih l hr
          have hx := A.eval (.tmp x)
          generalize Ac.eval a (.tmp x) = vx at hl hx
          cases vx with
          | pointer ad => cases ad with
            | none => simp [loadV] at hl
            | some ad =>
              simp only [loadV] at hl
              obtain ⟨k, o, b, p, z, rfl, hi, u, hu, hv, _⟩ := loadT_goes H hl
              obtain ⟨k2, o2, b2, p2, z2, e, hi2, hx2⟩ := hx.ptr
              injection e with e1 e2
              subst e1; subst e2
              rw [hi] at hi2
              injection hi2 with hi2
              injection hi2 with e1 e2
              injection e2 with e2 e3
              subst e1; subst e2
              have hx3 : act.tmps.getD x undef = .pointer (some ⟨b, p + o, none⟩) := hx2
              exact ⟨u :: us, by simp only [List.mapM_cons, resOne, Sem.run_bind, hx3, asAddr, Sem.run_pure, Result.andThen_ok, hu, h1], .cons hv h2⟩
          | _ => simp [loadV] at hl

theorem wOkL_rel {ι : Im} {l m : List Value} (h : All2 (VRel σ ι) l m) (hw : wOkL l = true) : All2 (WRel σ ι) l m := by
  refine All2.ind (R := VRel σ ι) (C := fun l m => wOkL l = true → All2 (WRel σ ι) l m) (fun _ => .nil) ?_ h hw
  intro a b l m h1 _ ih hw
  simp only [wOkL] at hw
  cases hx : wOk a with
  | false => rw [hx] at hw; simp at hw
  | true => rw [hx] at hw; exact .cons (h1.wOf hx) (ih hw)

theorem packR_run {ι : Im} {a : Ac} {h h1 : Hp} {act : Act} {w : World} (H : HRel σ n0 ι h w) (A : ARel σ ι n a act) (fn : Func) {v : Value} (he : packR h (evResults P a h fn.results.toList) = some (v, h1)) :
    h1 = h ∧ ∃ u, (results fn act.tmps).run P w = .ok u w ∧ VRel σ ι v u := by
  cases hr : evResults P a h fn.results.toList with
  | none => rw [hr] at he; simp [packR] at he
  | some vs =>
    rw [hr] at he
    obtain ⟨us, h1', h2⟩ := evResults_run H A _ _ hr
    have hrun : (results fn act.tmps).run P w = .ok (if h : us.toArray.size = 1 then us.toArray[0] else .tuple us.toArray) w := by
      rw [results_eq, Array.mapM_eq_mapM_toList]
      simp only [map_eq_pure_bind, Sem.run_bind, h1', Result.andThen_ok, Sem.run_pure]
    have gen : ∀ us : List Value, us.length ≠ 1 → (if h : us.toArray.size = 1 then us.toArray[0] else Value.tuple us.toArray) = .tuple us.toArray := by
      intro us hne
      rw [dif_neg (by simpa using hne)]
    cases vs with
    | nil =>
      have e0 := h2.nilL
      subst e0
      simp only [packR, wOkL, Option.some.injEq, Prod.mk.injEq] at he
      obtain ⟨rfl, rfl⟩ := he
      refine ⟨rfl, _, hrun, ?_⟩
      rw [gen _ (by simp)]
      exact .tuple .nil
    | cons x l =>
      obtain ⟨y, m, rfl, hxy, hlm⟩ := h2.consL
      cases l with
      | nil =>
        have e0 := hlm.nilL
        subst e0
        simp only [packR, Option.some.injEq, Prod.mk.injEq] at he
        obtain ⟨rfl, rfl⟩ := he
        refine ⟨rfl, _, hrun, ?_⟩
        simpa using hxy
      | cons x2 l =>
        obtain ⟨y2, m, rfl, hxy2, hlm⟩ := hlm.consL
        simp only [packR] at he
        cases hw : wOkL (x :: x2 :: l) with
        | false => rw [hw] at he; simp at he
        | true =>
          rw [hw] at he
          simp only [Option.some.injEq, Prod.mk.injEq] at he
          obtain ⟨rfl, rfl⟩ := he
          refine ⟨rfl, _, hrun, ?_⟩
          rw [gen _ (by simp)]
          exact .tuple (wOkL_rel (.cons hxy (.cons hxy2 hlm)) hw)

theorem ARel.start {ι : Im} {N : Nat} {args us : List Value} {t : Tr Value} (hle : args.length ≤ N) (hus : All2 (VRel σ ι) args us) (ht : fromList args 0 .nil = some t) :
    ARel σ ι N t { tmps := us.toArray ++ Array.replicate (N - us.toArray.size) undef, defers := [] } := by
  have hlen := hus.length
  refine ⟨by simp; omega, ?_, rfl⟩
  intro m
  rw [fromList_get _ _ _ _ ht m]
  simp only [Nat.zero_le, true_and, Nat.zero_add, Nat.sub_zero, Tr.get_nil]
  by_cases hm' : m < args.length
  · rw [if_pos hm']
    obtain ⟨u, hu, hvu⟩ := hus.get m args[m] (by simp [hm'])
    have : (us.toArray ++ Array.replicate (N - us.toArray.size) undef).getD m undef = u := by
      rw [Array.getD_eq_getD_getElem?, Array.getElem?_append_left (by simp; omega)]
      simp [hu]
    rw [this]
    simpa [hm', orUndef] using hvu
  · rw [if_neg hm']
    have : (us.toArray ++ Array.replicate (N - us.toArray.size) undef).getD m undef = undef := by
      rw [Array.getD_eq_getD_getElem?, Array.getElem?_append_right (by simp; omega), Array.getElem?_replicate]
      split <;> rfl
    rw [this]
    exact .undef

/-- What is asked of the answers that are given without a run. -/
def OrcOk (σ : Va) (P : Program) (n0 : Nat) : Prop :=
  ∀ f args h v h' ι w us, orc σ.md f args h = some (some (v, h')) → HRel σ n0 ι h w → All2 (VRel σ ι) args us →
    Calls P f us.toArray w fun e w' => ∃ u ι', e = .returned u ∧ VRel σ ι' v u ∧ HRel σ n0 ι' h' w' ∧ Ext ι h w ι' h' w'
end
end Go.Jv
