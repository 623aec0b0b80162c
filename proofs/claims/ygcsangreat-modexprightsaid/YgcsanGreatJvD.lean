/-
  What the evaluator says of one operation holds of the model's: slices, new memory, numbers.
-/
import Derived.Test.YgcsanGreatJvC
import Derived.Laws.BytesString
import Derived.Deep.AppendSrc
namespace Go.Jv
open Go
open Go.Proofs.YgcsanGreat (zipIdx_layV layV layV_eq layV_length run_mapM_list)
set_option linter.unusedVariables false
set_option linter.unusedSimpArgs false
variable {σ : Va}

/-- values that may be there or not -/
def ORel (σ : Va) (ι : Im) : Option Value → Option Value → Prop
  | none, none => True
  | some v, some u => VRel σ ι v u
  | _, _ => False
theorem ORel.no {ι : Im} : ORel σ ι none none := trivial
theorem ORel.yes {ι : Im} {v u : Value} (h : VRel σ ι v u) : ORel σ ι (some v) (some u) := h

section
variable {P : Program} {n0 : Nat} {ι : Im} {h : Hp} {w : World} {ρ : Operand → Value} {o : Oper}

theorem ORel.bound {x x' : Option Value} (hx : ORel σ ι x x') {d : Option Nat} {y n : Nat} (he : boundO d y x = some n) : x' = x := by
  cases x with
  | none => cases x' with
    | none => rfl
    | some u => exact hx.elim
  | some v => cases x' with
    | none => exact hx.elim
    | some u =>
      have hv : VRel σ ι v u := hx
      simp only [boundO] at he
      obtain ⟨_, k, rfl⟩ := evalBound_some he
      rw [hv.int]

theorem capFits_of {c size : Nat} (h : capFits c size = true) (hb : big ≤ c) : c / big - 1 = size := by
  unfold capFits at h
  rw [bleT hb] at h
  have := Nat.eq_of_beq_eq_true h
  have e : Nat.div c big = c / big := rfl
  rw [e] at this
  omega
theorem capAt_big (c size : Nat) : big ≤ capAt c size := by
  show big ≤ c + big * (size + 1)
  rw [Nat.mul_succ]; omega
theorem capAt_div {c size : Nat} (h : c < big) : capAt c size / big - 1 = size := by
  show (c + big * (size + 1)) / big - 1 = size
  have hb : 0 < big := by decide
  rw [Nat.add_mul_div_left _ _ hb, Nat.div_eq_of_lt h]
  omega
theorem capAt_mod {c size : Nat} (h : c < big) : capAt c size % big = c := by
  show (c + big * (size + 1)) % big = c
  rw [Nat.add_mul_mod_self_left, Nat.mod_eq_of_lt h]

/-- one slicing: the place and what is left behind it -/
theorem slice2_goes {a : Option Addr} {len cap cap' size : Nat} {exact : Bool} {lo hi mx lo' hi' mx' : Option Value} {v : Value} {isS : Bool}
    (he : evalSlice2 a len cap exact size lo hi mx = some v) (e1 : ORel σ ι lo lo') (e2 : ORel σ ι hi hi') (e3 : ORel σ ι mx mx') (hcap : cap ≤ cap') (hex : exact = true → cap' = cap)
    {a' : Option Addr} (ha : (a = none ∧ a' = none) ∨ ∃ k o b p z, a = some ⟨k, o, none⟩ ∧ ι k = some (b, p, z) ∧ a' = some ⟨b, p + o, none⟩ ∧ (exact = false → p + o + cap' * size ≤ z)) :
    ∃ l h0 m', (Instr.sliceBounds isS len cap' lo' hi' mx').run P w = .ok (l, h0, m') w ∧
      VRel σ ι v (.slice (if m' = l then a' else a'.map (·.add (l * size))) (h0 - l) (m' - l)) := by
  unfold evalSlice2 at he
  cases hbig : Nat.ble big cap with
  | true => rw [hbig] at he; simp at he
  | false =>
  have hlt : cap < big := by
    rcases Nat.lt_or_ge cap big with e | e
    · exact e
    · rw [bleT e] at hbig; cases hbig
  rw [hbig] at he
  simp only at he
  cases h1 : boundO (some cap) cap mx with
  | none => rw [h1] at he; simp at he
  | some m =>
    rw [h1] at he
    simp only at he
    cases h2 : boundO (hiOf len mx) m hi with
    | none => rw [h2] at he; simp at he
    | some h0 =>
      rw [h2] at he
      simp only at he
      cases h3 : boundO (some 0) h0 lo with
      | none => rw [h3] at he; simp at he
      | some l =>
        rw [h3] at he
        simp only at he
        obtain ⟨m', hrun, b1, b0, b2, b3, b4, b5⟩ := bounds_run (P := P) (w := w) hcap isS h1 h2 h3 (e3.bound h1) (e2.bound h2) (e1.bound h3)
        refine ⟨l, h0, m', hrun, ?_⟩
        cases hlm : Nat.ble l m with
        | false => rw [hlm] at he; simp at he
        | true =>
          rw [hlm] at he
          have hlm' := Nat.le_of_ble_eq_true hlm
          simp only at he
          cases hx : (exact || mx.isSome) with
          | true =>
            rw [hx] at he
            simp only [Option.some.injEq] at he
            subst he
            have hm : m' = m := by
              rw [Bool.or_eq_true] at hx
              rcases hx with hx | hx
              · cases hmx : mx with
                | none => obtain ⟨c1, c2⟩ := b5 hmx; rw [c1, c2]; exact hex hx
                | some y => exact b4 (by rw [hmx]; rfl)
              · exact b4 hx
            subst hm
            rcases ha with ⟨rfl, rfl⟩ | ⟨k, o, b, p, z, rfl, hk, rfl, _⟩
            · have : placeL none l m' size = none := by unfold placeL; split <;> rfl
              rw [this]
              simp only [Option.map_none, ite_self]
              exact .cell (.nils _ _)
            · have hpl : placeL (some ⟨k, o, none⟩) l m' size = some ⟨k, o + (if m' = l then 0 else l * size), none⟩ := by
                unfold placeL
                by_cases e : m' = l
                · rw [beqT e, if_pos e]; rfl
                · rw [beqF e, if_neg e]; show some ((⟨k, o, none⟩ : Addr).add (l * size)) = _; rw [addr_add]
              have hpc : (if m' = l then some (⟨b, p + o, none⟩ : Addr) else (some (⟨b, p + o, none⟩ : Addr)).map (·.add (l * size))) = some ⟨b, p + (o + (if m' = l then 0 else l * size)), none⟩ := by
                by_cases e : m' = l
                · simp [e]
                · simp [e, addr_add, Nat.add_assoc]
              rw [hpl, hpc]
              refine .cell (.slc hk ?_)
              refine ⟨fun _ => rfl, fun hb => ?_⟩
              have e : Nat.sub m' l = m' - l := rfl
              rw [e] at hb
              omega
          | false =>
            rw [hx] at he
            simp only at he
            simp only [Bool.or_eq_false_iff] at hx
            have hmx : mx = none := by cases mx with | none => rfl | some y => simp at hx
            obtain ⟨c1, c2⟩ := b5 hmx
            rcases ha with ⟨rfl, rfl⟩ | ⟨k, o, b, p, z, rfl, hk, rfl, hroom⟩
            · simp at he
            · simp only at he
              cases hz : (Nat.beq m l && !Nat.beq l 0) with
              | true => rw [hz] at he; simp at he
              | false =>
                rw [hz] at he
                simp only [Option.some.injEq] at he
                subst he
                have hml : m = l → l = 0 := by
                  intro e
                  rw [beqT e] at hz
                  simp only [Bool.true_and] at hz
                  rcases Nat.eq_zero_or_pos l with e0 | e0
                  · exact e0
                  · rw [beqF (by omega)] at hz; simp at hz
                have hpl : placeL (some ⟨k, o, none⟩) l m size = some ⟨k, o + l * size, none⟩ := by
                  unfold placeL
                  by_cases e : m = l
                  · rw [beqT e]; have := hml e; subst this; simp
                  · rw [beqF e]; show some ((⟨k, o, none⟩ : Addr).add (l * size)) = _; rw [addr_add]
                have hpc : (if m' = l then some (⟨b, p + o, none⟩ : Addr) else (some (⟨b, p + o, none⟩ : Addr)).map (·.add (l * size))) = some ⟨b, p + (o + l * size), none⟩ := by
                  by_cases e : m' = l
                  · have e0 : l = 0 := hml (by omega)
                    subst e0; simp [e]
                  · simp [e, addr_add, Nat.add_assoc]
                rw [hpl, hpc]
                refine .cell (.slc hk ?_)
                have hsm : Nat.sub m l < big := Nat.lt_of_le_of_lt (Nat.sub_le _ _) (by omega)
                refine ⟨fun hb => absurd (capAt_big _ _) hb, fun _ => ?_⟩
                rw [capAt_mod hsm, capAt_div hsm]
                refine ⟨by show m - l ≤ m' - l; omega, ?_⟩
                have := hroom hx.1
                have hle : l ≤ cap' := by omega
                have e2 : cap' * size = l * size + (cap' - l) * size := by rw [← Nat.add_mul]; congr 1; omega
                rw [c2]
                omega

theorem capRel_room {c c' q z size : Nat} (hc : capRel c c' q z) (hf : capFits c size = true) : capLow c ≤ c' ∧ (Nat.ble big c = false → c' = capLow c) ∧ (Nat.ble big c = true → q + c' * size ≤ z) := by
  by_cases hb : big ≤ c
  · obtain ⟨h1, h2⟩ := hc.2 hb
    rw [capFits_of hf hb] at h2
    rw [bleT hb]
    exact ⟨h1, (by simp), fun _ => h2⟩
  · have h1 := hc.1 hb
    rw [bleF hb]
    have e : capLow c = c := Nat.mod_eq_of_lt (by omega)
    rw [e]
    exact ⟨by omega, fun _ => h1, (by simp)⟩

theorem goes_slice (H : HRel σ n0 ι h w) {t : TypeId} {x x' : Value} {lo hi mx lo' hi' mx' : Option Value} (hx : VRel σ ι x x') (e1 : ORel σ ι lo lo') (e2 : ORel σ ι hi hi') (e3 : ORel σ ι mx mx')
    {v : Value} (he : evalSlice P t x lo hi mx = some v)
    (hr : execOp ρ o = (do pure (.value (← Instr.sliceAt t x' lo' hi' mx')) : Sem Next)) : OpGoes σ P n0 ι h w ρ o (.val v h) := by
  unfold evalSlice at he
  cases hd : P.underlying t with
  | none => rw [hd] at he; simp at he
  | some d =>
    rw [hd] at he
    cases d with
    | array n elem =>
      simp only at he
      cases x with
      | pointer ad => cases ad with
        | none => simp at he
        | some a =>
          simp only at he
          cases hs : sizeOfT P elem with
          | none => rw [hs] at he; simp at he
          | some size =>
            rw [hs] at he
            simp only at he
            obtain ⟨k, o', b, p, z, rfl, hk, rfl⟩ := hx.ptr
            obtain ⟨l, h0, m', hb, hv⟩ := slice2_goes (P := P) (w := w) (isS := false) he e1 e2 e3 (Nat.le_refl _) (fun _ => rfl) (.inr ⟨k, o', b, p, z, rfl, hk, rfl, fun e => by cases e⟩)
            refine goes_value H ?_ hv
            rw [hr]
            simp only [Instr.sliceAt, Sem.run_bind, run_under hd, Result.andThen_ok, Instr.sureAddr, Sem.run_pure, hb, (sizeOfT_some (w := w) hs).1]
            congr 3
            split <;> rfl
      | _ => simp at he
    | slice elem =>
      simp only at he
      cases x with
      | slice a len cap =>
        simp only at he
        cases hs : sizeOfT P elem with
        | none => rw [hs] at he; simp at he
        | some size =>
          rw [hs] at he
          simp only at he
          cases hf : capFits cap size with
          | false => rw [hf] at he; simp at he
          | true =>
            rw [hf] at he
            simp only at he
            cases a with
            | none =>
              have := hx.nils
              subst this
              have hcl : capLow cap ≤ cap := Nat.mod_le _ _
              obtain ⟨l, h0, m', hb, hv⟩ := slice2_goes (P := P) (w := w) (isS := true) he e1 e2 e3 hcl (fun e => by
                have : ¬ big ≤ cap := fun h' => by rw [bleT h'] at e; simp at e
                exact (Nat.mod_eq_of_lt (by omega)).symm) (.inl ⟨rfl, rfl⟩)
              refine goes_value H ?_ hv
              rw [hr]
              simp only [Instr.sliceAt, Instr.slice, Sem.run_bind, run_under hd, Result.andThen_ok, Sem.run_pure, hb, (sizeOfT_some (w := w) hs).1]
            | some ad =>
              obtain ⟨k, o', b, p, z, c', rfl, hk, hc, rfl⟩ := hx.slc
              obtain ⟨g1, g2, g3⟩ := capRel_room hc hf
              obtain ⟨l, h0, m', hb, hv⟩ := slice2_goes (P := P) (w := w) (isS := true) he e1 e2 e3 g1 (fun e => g2 (by simpa using e)) (.inr ⟨k, o', b, p, z, rfl, hk, rfl, fun e => g3 (by simpa using e)⟩)
              refine goes_value H ?_ hv
              rw [hr]
              simp only [Instr.sliceAt, Instr.slice, Sem.run_bind, run_under hd, Result.andThen_ok, Sem.run_pure, hb, (sizeOfT_some (w := w) hs).1]
      | iface u p =>
        simp only [tokSlice, hd] at he
        cases hrt : rowT (.iface u p) with
        | none => rw [hrt] at he; simp at he
        | some ke =>
          obtain ⟨k, e⟩ := ke
          rw [hrt] at he
          cases hs : sizeOfT P elem with
          | none => rw [hs] at he; simp at he
          | some size =>
            rw [hs] at he
            simp only at he
            split at he
            · rename_i hn
              simp only [Option.some.injEq] at he
              subst he
              have hv := hx
              have ev := rowT_some hrt
              rw [ev] at hx
              obtain ⟨b, q, z, c, hk, h1, h2, h3, rfl⟩ := hx.tokOf.row
              cases hi' with
              | some y => exact e2.elim
              | none =>
              cases mx' with
              | some y => exact e3.elim
              | none =>
              have hlo : lo' = none ∨ ∃ k, lo' = some (.int k 0) := by
                unfold isNought at hn
                split at hn
                · cases lo' with
                  | none => exact .inl rfl
                  | some y => exact e1.elim
                · cases lo' with
                  | none => exact e1.elim
                  | some y =>
                    have hy : VRel σ ι _ y := e1
                    exact .inr ⟨_, by rw [hy.int]; rfl⟩
                · cases hn
              generalize hN : evE σ e.toArray.toList = N at hv h1 h2 hr
              refine goes_value H (u := .slice (some ⟨b, q, none⟩) N c) ?_ hv
              have hb : (Instr.sliceBounds true N c lo' none none).run P w = .ok (0, N, c) w := by
                rcases hlo with rfl | ⟨k', rfl⟩
                · simp [Instr.sliceBounds]
                · have := run_sliceBound (P := P) (w := w) (k := k') (n := 0) (y := N) (Nat.zero_le _)
                  simp only [Instr.sliceBounds, Sem.run_bind, Result.andThen_ok, Sem.run_pure]
                  simp [Instr.sliceBound, asIntOf]
              rw [hr]
              simp only [Instr.sliceAt, Instr.slice, Sem.run_bind, run_under hd, Result.andThen_ok, Sem.run_pure, hb, (sizeOfT_some (w := w) hs).1]
              have hc : c ≠ 0 := by omega
              simp [hc, addr_add]
            · cases he
      | _ => simp at he
    | _ => simp at he
end
end Go.Jv
