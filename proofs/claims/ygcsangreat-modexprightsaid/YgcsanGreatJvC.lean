/-
  What the evaluator says of one operation holds of the model's: reading, writing, places.
-/
import Derived.Test.YgcsanGreatJvB
namespace Go.Jv
open Go
open Go.Proofs.YgcsanGreat (zipIdx_layV layV layV_eq layV_length run_mapM_list)
set_option linter.unusedVariables false
set_option linter.unusedSimpArgs false
variable {σ : Va}

section
variable {P : Program} {n0 : Nat} {ι : Im} {h : Hp} {w : World} {ρ : Operand → Value} {o : Oper}

theorem goes_load (H : HRel σ n0 ι h w) {t : TypeId} {a a' : Value} (ha : VRel σ ι a a') {out : Out} (he : evalLoad P h t a = some out)
    (hr : execOp ρ o = (do pure (.value (← Instr.loadAt t a')) : Sem Next)) : OpGoes σ P n0 ι h w ρ o out := by
  unfold evalLoad at he
  cases a with
  | pointer ad => cases ad with
    | none => simp at he
    | some ad =>
      simp only at he
      cases hl : loadT P t h ad with
      | none => rw [hl] at he; simp [mkO] at he
      | some v =>
        rw [hl] at he
        simp only [mkO, Option.some.injEq] at he
        subst he
        obtain ⟨k, o', b, p, z, rfl, hi, u, hu, hv, _⟩ := loadT_goes H hl
        obtain ⟨k2, o2, b2, p2, z2, e, hi2, rfl⟩ := ha.ptr
        injection e with e1 e2
        subst e1; subst e2
        rw [hi] at hi2
        injection hi2 with hi2
        injection hi2 with e1 e2
        injection e2 with e2 e3
        subst e1; subst e2
        exact goes_value H (by rw [hr]; simp [Instr.loadAt, Instr.sureAddr, hu]) hv
  | _ => simp at he

theorem goes_store (H : HRel σ n0 ι h w) {t : TypeId} {a a' x x' : Value} (ha : VRel σ ι a a') (hx : VRel σ ι x x') {out : Out} (he : evalStore h a x (sizeOfT P t) = some out)
    (hr : execOp ρ o = (do Instr.storeAt t a' x'; pure .skip : Sem Next)) : OpGoes σ P n0 ι h w ρ o out := by
  cases hs : sizeOfT P t with
  | none => rw [hs] at he; simp [evalStore] at he
  | some n =>
    rw [hs] at he
    unfold evalStore at he
    cases a with
    | pointer ad => cases ad with
      | none => simp at he
      | some ad =>
        simp only at he
        cases hc : (Nat.beq x.cells.toList.length n && okCells x.cells.toList) with
        | false => rw [hc] at he; simp at he
        | true =>
          rw [hc] at he
          simp only [Bool.and_eq_true] at hc
          have hn := Nat.eq_of_beq_eq_true hc.1
          have hcs := hx.cells hc.2
          simp only at he
          cases hw : h.write ad x.cells.toList with
          | none => rw [hw] at he; simp [mkH] at he
          | some h' =>
            rw [hw] at he
            simp only [mkH, Option.some.injEq] at he
            subst he
            obtain ⟨k, o', b, p, z, rfl, hi, w', hrun, H', E⟩ := H.write (P := P) hw hcs
            obtain ⟨k2, o2, b2, p2, z2, e, hi2, rfl⟩ := ha.ptr
            injection e with e1 e2
            subst e1; subst e2
            rw [hi] at hi2
            injection hi2 with hi2
            injection hi2 with e1 e2
            injection e2 with e2 e3
            subst e1; subst e2
            refine ⟨ι, w', undef, .inr ⟨?_, rfl⟩, .undef, H', E⟩
            have hlen : x'.cells.size = n := by rw [← hn, hcs.length]; simp
            rw [hr]
            simp [Instr.storeAt, Instr.sureAddr, storeVar, (sizeOfT_some (w := w) hs).1, hlen, hrun]
    | _ => simp at he

theorem goes_nil (H : HRel σ n0 ι h w) {x x' : Value} (hx : VRel σ ι x x') {out : Out} (he : evalNil h x = some out)
    (hr : ∀ a, x' = .pointer (some a) → execOp ρ o = (pure (.value x') : Sem Next)) : OpGoes σ P n0 ι h w ρ o out := by
  unfold evalNil at he
  cases x with
  | pointer ad => cases ad with
    | none => simp at he
    | some ad =>
      simp only [mk, Option.some.injEq] at he
      subst he
      obtain ⟨k, o', b, p, z, rfl, hi, rfl⟩ := hx.ptr
      exact goes_value H (by rw [hr _ rfl]; rfl) hx
  | _ => simp at he

theorem fieldOf_some {s : TypeId} {f : Nat} {x : Nat × TypeId × Nat} (h : fieldOf P s f = some x) :
    ∃ fields fd, P.underlying s = some (.struct fields) ∧ fields[f]? = some fd ∧ sizeOfT P fd.type = some x.2.2 ∧ x.1 = fd.offset ∧ x.2.1 = fd.type := by
  unfold fieldOf at h
  cases hd : P.underlying s with
  | none => simp [hd] at h
  | some d =>
    rw [hd] at h
    cases d with
    | struct fields =>
      simp only at h
      cases hf : fields[f]? with
      | none => rw [hf] at h; simp at h
      | some fd =>
        rw [hf] at h
        simp only at h
        cases hs : sizeOfT P fd.type with
        | none => rw [hs] at h; simp at h
        | some n =>
          rw [hs] at h
          injection h with h
          subst h
          exact ⟨fields, fd, rfl, hf, hs, rfl, rfl⟩
    | _ => simp at h

theorem goes_fieldAddr (H : HRel σ n0 ι h w) {s : TypeId} {x x' : Value} {f : Nat} (hx : VRel σ ι x x') {out : Out} (he : evalFieldAddr P h s x f = some out)
    (hr : execOp ρ o = (do pure (.value (← Instr.fieldAt s x' f)) : Sem Next)) : OpGoes σ P n0 ι h w ρ o out := by
  unfold evalFieldAddr at he
  cases x with
  | pointer ad => cases ad with
    | none => simp at he
    | some ad =>
      simp only at he
      cases hf : fieldOf P s f with
      | none => rw [hf] at he; simp [addrO] at he
      | some y =>
        rw [hf] at he
        obtain ⟨fields, fd, h1, h2, h3, h4, h5⟩ := fieldOf_some hf
        obtain ⟨y1, y2, y3⟩ := y
        simp only at h3 h4 h5
        subst h4; subst h5
        simp only [addrO] at he
        cases hz : Nat.beq y3 0 with
        | true => rw [hz] at he; simp at he
        | false =>
          rw [hz] at he
          simp only [mk, Option.some.injEq] at he
          subst he
          have hne : y3 ≠ 0 := fun e => by subst e; simp at hz
          obtain ⟨k, o', b, p, z, rfl, hi, rfl⟩ := hx.ptr
          refine goes_value H (u := .pointer (some ⟨b, p + (o' + fd.offset), none⟩)) ?_ (.cell ?_)
          · rw [hr]
            simp [Instr.fieldAt, run_under h1, h2, Instr.sureAddr, fieldPlace, (sizeOfT_some (w := w) h3).1, hne, addr_add, Nat.add_assoc]
          · rw [addr_add]; exact .ptr hi
  | _ => simp at he

theorem cut_rel {l m : List Value} (hm : All2 (CRel σ ι) l m) {o n : Nat} {r : List Value} (hc : cut0 (skip l o) n = some r) :
    All2 (CRel σ ι) r ((m.drop o).take n) ∧ o + n ≤ m.length ∨ n = 0 ∧ r = [] := by
  rw [skip_eq] at hc
  obtain ⟨h1, rfl⟩ := cut0_spec _ _ _ hc
  by_cases hn : n = 0
  · subst hn; right; simp
  · left
    refine ⟨(hm.drop o).take n, ?_⟩
    have := hm.length
    simp at h1
    omega

theorem goes_field (H : HRel σ n0 ι h w) {s : TypeId} {x x' : Value} {f : Nat} (hx : VRel σ ι x x') {out : Out} (he : evalField P h s x f = some out)
    (hr : execOp ρ o = (do pure (.value (← Instr.field s x' f)) : Sem Next)) : OpGoes σ P n0 ι h w ρ o out := by
  unfold evalField at he
  cases x with
  | agg cs =>
    simp only at he
    obtain ⟨m, hm, rfl⟩ := hx.aggOf
    cases hf : fieldOf P s f with
    | none => rw [hf] at he; simp [partO] at he
    | some y =>
      rw [hf] at he
      obtain ⟨fields, fd, h1, h2, h3, h4, h5⟩ := fieldOf_some hf
      obtain ⟨y1, y2, y3⟩ := y
      simp only at h3 h4 h5
      subst h4; subst h5
      simp only [partO] at he
      cases hb : isAggT P fd.type with
      | none => rw [hb] at he; simp at he
      | some agg =>
        rw [hb] at he
        have h6 := isAggT_some (w := w) hb
        cases agg with
        | true =>
          simp only at he
          cases hc : cut0 (skip cs.toList fd.offset) y3 with
          | none => rw [hc] at he; simp [aggO, mkO] at he
          | some r =>
            rw [hc] at he
            simp only [aggO, mkO, Option.some.injEq] at he
            subst he
            refine goes_value H (u := .agg ((m.drop fd.offset).take y3).toArray) ?_ ?_
            · rw [hr]
              simp [Instr.field, run_under h1, h2, asAgg, part, h6, (sizeOfT_some (w := w) h3).1]
            · rcases cut_rel hm hc with ⟨a1, _⟩ | ⟨a1, a2⟩
              · exact .agg a1
              · subst a1; subst a2; simp; exact .agg .nil
        | false =>
          simp only at he
          cases hc : cut0 (skip cs.toList fd.offset) 1 with
          | none => rw [hc] at he; simp [oneO, mkO] at he
          | some r =>
            rw [hc] at he
            rcases cut_rel hm hc with ⟨a1, a2⟩ | ⟨a1, _⟩
            · have hlt : fd.offset < m.length := by omega
              have e : (m.drop fd.offset).take 1 = [m[fd.offset]] := by
                rw [List.drop_eq_getElem_cons hlt]; rfl
              rw [e] at a1
              cases r with
              | nil => exact a1.elim
              | cons v r =>
                obtain ⟨hvu, hl⟩ := a1
                cases r with
                | cons x r => exact hl.elim
                | nil =>
                  simp only [oneO, mkO, Option.some.injEq] at he
                  subst he
                  refine goes_value H (u := m[fd.offset]) ?_ (.cell hvu)
                  rw [hr]
                  simp [Instr.field, run_under h1, h2, asAgg, part, h6, hlt]
            · simp at a1
  | _ => simp at he

theorem goes_indexAddr (H : HRel σ n0 ι h w) {t : TypeId} {x x' ix ix' : Value} (hx : VRel σ ι x x') (hi : VRel σ ι ix ix') {out : Out} (he : evalIndexAddr P h t x ix = some out)
    (hr : execOp ρ o = (do pure (.value (← Instr.indexAt t x' ix')) : Sem Next)) : OpGoes σ P n0 ι h w ρ o out := by
  unfold evalIndexAddr at he
  cases ix with
  | int k n =>
    have := hi.int
    subst this
    cases n with
    | negSucc n => simp at he
    | ofNat i =>
      simp only at he
      have key : ∀ (a : Addr) (len : Nat) (elem : TypeId), indexO h a i len (sizeOfT P elem) = some out → ∃ size, sizeOfT P elem = some size ∧ i < len ∧ out = .val (.pointer (some (a.add (Nat.mul i size)))) h := by
        intro a len elem he
        cases hs : sizeOfT P elem with
        | none => rw [hs] at he; simp [indexO] at he
        | some size =>
          rw [hs] at he
          simp only [indexO] at he
          cases hb : Nat.ble (Nat.succ i) len with
          | false => rw [hb] at he; simp at he
          | true =>
            rw [hb] at he
            simp only [mk, Option.some.injEq] at he
            exact ⟨size, rfl, Nat.le_of_ble_eq_true hb, he.symm⟩
      cases hd : P.underlying t with
      | none => rw [hd] at he; simp at he
      | some d =>
        rw [hd] at he
        cases d with
        | array len elem =>
          simp only at he
          cases x with
          | pointer ad => cases ad with
            | none => simp at he
            | some a =>
              simp only at he
              obtain ⟨size, hs, hlt, rfl⟩ := key a len elem he
              obtain ⟨k', o', b, p, z, rfl, hk, rfl⟩ := hx.ptr
              refine goes_value H (u := .pointer (some ⟨b, p + (o' + i * size), none⟩)) ?_ (.cell ?_)
              · rw [hr]
                have h0 : (0 : Int) ≤ Int.ofNat i ∧ Int.ofNat i < (len : Int) := by constructor <;> simp <;> omega
                simp [Instr.indexAt, asIntOf, run_under hd, Instr.sureAddr, (sizeOfT_some (w := w) hs).1, addr_add, Nat.add_assoc, hlt]
              · show CRel σ ι (.pointer (some ((⟨k', o', none⟩ : Addr).add (i * size)))) _
                rw [addr_add]; exact .ptr hk
          | _ => simp at he
        | slice elem =>
          simp only at he
          cases x with
          | slice ad len cap => cases ad with
            | none => simp at he
            | some a =>
              simp only at he
              obtain ⟨size, hs, hlt, rfl⟩ := key a len elem he
              obtain ⟨k', o', b, p, z, c', rfl, hk, _, rfl⟩ := hx.slc
              refine goes_value H (u := .pointer (some ⟨b, p + (o' + i * size), none⟩)) ?_ (.cell ?_)
              · rw [hr]
                simp [Instr.indexAt, asIntOf, run_under hd, (sizeOfT_some (w := w) hs).1, addr_add, Nat.add_assoc, hlt]
              · show CRel σ ι (.pointer (some ((⟨k', o', none⟩ : Addr).add (i * size)))) _
                rw [addr_add]; exact .ptr hk
          | _ => simp at he
        | _ => simp at he
  | _ => simp at he

theorem goes_extract (H : HRel σ n0 ι h w) {x x' : Value} {ix : Nat} (hx : VRel σ ι x x') {out : Out} (he : evalExtract h x ix = some out)
    (hr : execOp ρ o = (do pure (.value (← Instr.extract x' ix)) : Sem Next)) : OpGoes σ P n0 ι h w ρ o out := by
  unfold evalExtract at he
  cases x with
  | tuple vs =>
    simp only at he
    cases hv : vs.toList[ix]? with
    | none => rw [hv] at he; simp [mkO] at he
    | some v =>
      rw [hv] at he
      simp only [mkO, Option.some.injEq] at he
      subst he
      obtain ⟨m, hm, rfl⟩ := hx.tupleOf (fun e => by rw [e] at hv; simp at hv)
      obtain ⟨u, hu, hvu⟩ := hm.get ix v hv
      refine goes_value H (u := u) ?_ (.one hvu)
      rw [hr]
      simp [Instr.extract, hu]
  | _ => simp at he

theorem evalBound_some {x : Value} {y n : Nat} (he : evalBound x y = some n) : n ≤ y ∧ ∃ k, x = .int k (Int.ofNat n) := by
  unfold evalBound at he
  cases x with
  | int k i => cases i with
    | negSucc i => simp at he
    | ofNat i =>
      simp only at he
      cases hb : Nat.ble i y with
      | false => rw [hb] at he; simp at he
      | true =>
        rw [hb] at he
        injection he with he
        subst he
        exact ⟨Nat.le_of_ble_eq_true hb, k, rfl⟩
  | _ => simp at he
theorem run_sliceBound {k : IntKind} {n y : Nat} (h : n ≤ y) (c : BoundsCode) : (Instr.sliceBound (.int k (Int.ofNat n)) y c).run P w = .ok n w := by
  have h0 : (0 : Int) ≤ Int.ofNat n ∧ Int.ofNat n ≤ (y : Int) := by constructor <;> simp <;> omega
  simp [Instr.sliceBound, asIntOf, h]

/-- what the three bounds are -/
theorem bounds_run {len cap cap' : Nat} {lo hi mx lo' hi' mx' : Option Value} {l h0 m : Nat} (hcap : cap ≤ cap') (isS : Bool)
    (h1 : boundO (some cap) cap mx = some m) (h2 : boundO (hiOf len mx) m hi = some h0) (h3 : boundO (some 0) h0 lo = some l)
    (e1 : mx' = mx) (e2 : hi' = hi) (e3 : lo' = lo) :
    ∃ m', (Instr.sliceBounds isS len cap' lo' hi' mx').run P w = .ok (l, h0, m') w ∧ m ≤ m' ∧ m ≤ cap ∧ l ≤ h0 ∧ h0 ≤ max m len ∧ (mx.isSome = true → m' = m) ∧ (mx = none → m = cap ∧ m' = cap') := by
  subst e1; subst e2; subst e3
  cases mx' with
  | some vm =>
    obtain ⟨a1, km, rfl⟩ := evalBound_some (by simpa [boundO] using h1)
    cases hi' with
    | none => simp [boundO, hiOf] at h2
    | some vh =>
      obtain ⟨a2, kh, rfl⟩ := evalBound_some (by simpa [boundO, hiOf] using h2)
      refine ⟨m, ?_, Nat.le_refl _, a1, ?_, by omega, fun _ => rfl, fun e => by simp at e⟩
      · cases lo' with
        | none =>
          have e3 : l = 0 := by simpa [boundO] using h3.symm
          subst e3
          simp only [Instr.sliceBounds, Sem.run_bind, run_sliceBound (Nat.le_trans a1 hcap), run_sliceBound a2, Result.andThen_ok, Sem.run_pure]
        | some vl =>
          obtain ⟨a3, kl, rfl⟩ := evalBound_some (by simpa [boundO] using h3)
          simp only [Instr.sliceBounds, Sem.run_bind, run_sliceBound (Nat.le_trans a1 hcap), run_sliceBound a2, run_sliceBound a3, Result.andThen_ok, Sem.run_pure]
      · cases lo' with
        | none => have e3 : l = 0 := by simpa [boundO] using h3.symm
                  omega
        | some vl => exact (evalBound_some (by simpa [boundO] using h3)).1
  | none =>
    have em : cap = m := by simpa [boundO] using h1
    subst em
    refine ⟨cap', ?_, hcap, Nat.le_refl _, ?_, ?_, fun e => by simp at e, fun _ => ⟨rfl, rfl⟩⟩
    · cases hi' with
      | none =>
        have eh : len = h0 := by simpa [boundO, hiOf] using h2
        subst eh
        cases lo' with
        | none =>
          have e3 : l = 0 := by simpa [boundO] using h3.symm
          subst e3
          simp only [Instr.sliceBounds, Sem.run_bind, Result.andThen_ok, Sem.run_pure]
        | some vl =>
          obtain ⟨a3, kl, rfl⟩ := evalBound_some (by simpa [boundO] using h3)
          simp only [Instr.sliceBounds, Sem.run_bind, run_sliceBound a3, Result.andThen_ok, Sem.run_pure]
      | some vh =>
        obtain ⟨a2, kh, rfl⟩ := evalBound_some (by simpa [boundO, hiOf] using h2)
        cases lo' with
        | none =>
          have e3 : l = 0 := by simpa [boundO] using h3.symm
          subst e3
          simp only [Instr.sliceBounds, Sem.run_bind, run_sliceBound (Nat.le_trans a2 hcap), Result.andThen_ok, Sem.run_pure]
        | some vl =>
          obtain ⟨a3, kl, rfl⟩ := evalBound_some (by simpa [boundO] using h3)
          simp only [Instr.sliceBounds, Sem.run_bind, run_sliceBound (Nat.le_trans a2 hcap), run_sliceBound a3, Result.andThen_ok, Sem.run_pure]
    · cases lo' with
      | none => have e3 : l = 0 := by simpa [boundO] using h3.symm
                omega
      | some vl => exact (evalBound_some (by simpa [boundO] using h3)).1
    · cases hi' with
      | none => have eh : len = h0 := by simpa [boundO, hiOf] using h2
                omega
      | some vh => have := (evalBound_some (by simpa [boundO, hiOf] using h2)).1
                   omega
end
end Go.Jv
