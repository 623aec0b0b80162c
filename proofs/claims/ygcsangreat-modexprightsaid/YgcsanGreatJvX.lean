/-
  Numbers that are not known: what the reckoning with sums says.
-/
import Derived.Test.YgcsanGreatJvD
namespace Go.Jv
open Go
set_option linter.unusedVariables false
set_option linter.unusedSimpArgs false
variable {σ : Va}

theorem evL_nil (xs : List Nat) : evL [] xs = 0 := rfl
theorem evL_addE : ∀ (x y : List Int) (xs : List Nat), evL (addE x y) xs = evL x xs + evL y xs := by
  intro x
  induction x with
  | nil => intro y xs; simp [addE, evL]
  | cons a l ih =>
    intro y xs
    cases y with
    | nil => simp [addE, evL]
    | cons b m =>
      cases xs with
      | nil => simp [addE, evL]
      | cons v xs =>
        simp only [addE, evL, ih]
        show (a + b) * (v : Int) + _ = _
        rw [Int.add_mul]; omega
theorem evL_mulE (k : Int) : ∀ (x : List Int) (xs : List Nat), evL (mulE k x) xs = k * evL x xs := by
  intro x
  induction x with
  | nil => intro xs; simp [mulE, evL]
  | cons a l ih =>
    intro xs
    cases xs with
    | nil => simp [mulE, evL]
    | cons v xs =>
      simp only [mulE, evL, ih]
      show (k * a) * (v : Int) + _ = _
      rw [Int.mul_add, Int.mul_assoc]
theorem evL_subE (x y : List Int) (xs : List Nat) : evL (subE x y) xs = evL x xs - evL y xs := by
  unfold subE
  rw [evL_addE, evL_mulE]; omega
theorem isZ_eq {a : Int} (h : isZ a = true) : a = 0 := by
  unfold isZ at h
  split at h
  · rw [Nat.eq_of_beq_eq_true h]; rfl
  · cases h
theorem zeroE_ev : ∀ {l : List Int} (xs : List Nat), zeroE l = true → evL l xs = 0 := by
  intro l
  induction l with
  | nil => intro xs _; rfl
  | cons a l ih =>
    intro xs h
    simp only [zeroE] at h
    cases hz : isZ a with
    | false => rw [hz] at h; simp at h
    | true =>
      rw [hz] at h
      have := isZ_eq hz
      subst this
      cases xs with
      | nil => rfl
      | cons v xs => simp [evL, ih xs h]
theorem Va.one (σ : Va) : ∃ xs, σ.xs = 1 :: xs := by
  have h := σ.okb
  cases hx : σ.xs with
  | nil => rw [hx] at h; simp [bnds, okB] at h
  | cons v xs =>
    rw [hx] at h
    simp only [bnds, okB] at h
    exact ⟨xs, by rw [show v = 1 by omega]⟩
theorem ev_one (σ : Va) (n : Int) : evL [n] σ.xs = n := by
  obtain ⟨xs, h⟩ := σ.one
  rw [h]; simp [evL]
theorem isC_ev {e : List Int} {c : Int} (h : isC e = some c) : evL e σ.xs = c := by
  cases e with
  | nil => simp only [isC, Option.some.injEq] at h; subst h; rfl
  | cons a l =>
    simp only [isC] at h
    cases hz : zeroE l with
    | false => rw [hz] at h; simp at h
    | true =>
      rw [hz] at h
      injection h with h
      subst h
      obtain ⟨xs, h⟩ := σ.one
      rw [h]
      simp [evL, zeroE_ev xs hz]
theorem loE_le : ∀ (e : List Int) (xs : List Nat) (b : List (Nat × Nat)), okB xs b → loE e b ≤ evL e xs := by
  intro e
  induction e with
  | nil => intro xs b _; simp [loE, evL]
  | cons a l ih =>
    intro xs b h
    cases xs with
    | nil =>
      cases b with
      | nil => simp [loE, evL]
      | cons => simp [okB] at h
    | cons v xs =>
      cases b with
      | nil => simp [okB] at h
      | cons p b =>
        obtain ⟨lo, hi⟩ := p
        simp only [okB] at h
        have h3 := ih xs b h.2.2
        simp only [loE, evL]
        have h4 : loT a lo hi ≤ a * (v : Int) := by
          unfold loT
          split
          · rename_i n
            show ((n * lo : Nat) : Int) ≤ (n : Int) * v
            have := Nat.mul_le_mul_left n h.1
            exact_mod_cast this
          · rename_i n
            show Int.negOfNat (Nat.mul (Nat.succ n) hi) ≤ _
            rw [Int.negOfNat_eq]
            have h5 : ((n + 1) * v : Nat) ≤ (n + 1) * hi := Nat.mul_le_mul_left _ h.2.1
            have h6 : Int.negSucc n * (v : Int) = -(((n + 1) * v : Nat) : Int) := by
              rw [Int.negSucc_eq]; push_cast; rw [Int.neg_mul]
            rw [h6]
            have h7 : (Int.ofNat (Nat.mul (Nat.succ n) hi)) = (((n + 1) * hi : Nat) : Int) := rfl
            rw [h7]
            omega
        show loT a lo hi + loE l b ≤ _
        omega
theorem nnE_ev {e : List Int} (h : nnE e = true) : 0 ≤ evL e σ.xs := by
  have := loE_le e σ.xs bnds σ.okb
  unfold nnE at h
  split at h
  · rename_i n hn
    rw [hn] at this
    have h0 : (0 : Int) ≤ Int.ofNat n := Int.natCast_nonneg n
    omega
  · cases h
theorem geE_ev {x y : List Int} (h : geE x y = true) : evL y σ.xs ≤ evL x σ.xs := by
  have := nnE_ev (σ := σ) h
  rw [evL_subE] at this
  omega
theorem gtE_ev {x y : List Int} (h : gtE x y = true) : evL y σ.xs < evL x σ.xs := by
  have := nnE_ev (σ := σ) h
  rw [evL_subE, evL_subE, ev_one] at this
  omega
theorem eqE_ev {x y : List Int} (h : eqE x y = true) : evL x σ.xs = evL y σ.xs := by
  have := zeroE_ev σ.xs h
  rw [evL_subE] at this
  omega
theorem cmpE_ev {x y : List Int} {c : Int} (h : cmpE x y = some c) : (c = 0 ∧ evL x σ.xs = evL y σ.xs) ∨ (c = 1 ∧ evL y σ.xs < evL x σ.xs) ∨ (c = -1 ∧ evL x σ.xs < evL y σ.xs) := by
  unfold cmpE at h
  cases h1 : eqE x y with
  | true => rw [h1] at h; injection h with h; exact .inl ⟨h.symm, eqE_ev h1⟩
  | false =>
    rw [h1] at h
    simp only at h
    cases h2 : gtE x y with
    | true => rw [h2] at h; injection h with h; exact .inr (.inl ⟨h.symm, gtE_ev h2⟩)
    | false =>
      rw [h2] at h
      simp only at h
      cases h3 : gtE y x with
      | true => rw [h3] at h; injection h with h; exact .inr (.inr ⟨h.symm, gtE_ev h3⟩)
      | false => rw [h3] at h; simp at h
theorem rest_part (c : Nat) : ∀ (l : List Int) (xs : List Nat), evL l xs = evL (restE c l) xs + (c : Int) * evL (partE c l) xs := by
  intro l
  induction l with
  | nil => intro xs; simp [restE, partE, evL]
  | cons a l ih =>
    intro xs
    cases xs with
    | nil => simp [restE, partE, evL]
    | cons v xs =>
      simp only [restE, partE, evL]
      have h := ih xs
      cases hz : isZ (Int.emod a (Int.ofNat c)) with
      | true =>
        have h0 := isZ_eq hz
        have h1 : a = (c : Int) * (a / (c : Int)) := by
          have := Int.mul_ediv_add_emod a (c : Int)
          have h2 : a % (c : Int) = 0 := h0
          omega
        have h3 : Int.ediv a (Int.ofNat c) = a / (c : Int) := rfl
        simp only [h3]
        rw [h, Int.mul_add, ← Int.mul_assoc, ← h1]
        omega
      | false => simp only [Int.zero_mul, Int.zero_add]; rw [h]; omega
theorem findQ_ev {e : List Int} {c : Nat} {q : List Int} {xs : List Nat} : ∀ (l : List (List Int × Nat × List Int)), findQ e c l = some q → okQ xs l → evL e xs / (c : Int) = evL q xs := by
  intro l
  induction l with
  | nil => intro h; simp [findQ] at h
  | cons p l ih =>
    intro h hq
    obtain ⟨e', c', q'⟩ := p
    simp only [findQ] at h
    simp only [okQ] at hq
    cases hb : (Nat.beq c c' && eqE e e') with
    | false => rw [hb] at h; exact ih h hq.2
    | true =>
      rw [hb] at h
      injection h with h
      subst h
      simp only [Bool.and_eq_true] at hb
      have h1 := Nat.eq_of_beq_eq_true hb.1
      subst h1
      have h2 := zeroE_ev xs hb.2
      rw [evL_subE] at h2
      rw [show evL e xs = evL e' xs by omega]
      exact hq.1.1
theorem quoE_ev {e q : List Int} {c : Nat} (h : quoE e c = some q) : evL e σ.xs / (c : Int) = evL q σ.xs ∧ 0 < c := by
  unfold quoE at h
  cases hc : Nat.ble c 0 with
  | true => rw [hc] at h; simp at h
  | false =>
    have hc0 : 0 < c := by
      rcases Nat.eq_zero_or_pos c with e | e
      · subst e; simp at hc
      · exact e
    refine ⟨?_, hc0⟩
    rw [hc] at h
    simp only at h
    cases e with
    | nil => simp only [Option.some.injEq] at h; subst h; simp [evL]
    | cons a l =>
      simp only [quoE3] at h
      generalize Int.ediv (loE (a :: restE c l) bnds) (Int.ofNat c) = t at h
      unfold quoE2 at h
      split at h
      · rename_i hb
        injection h with h
        subst h
        simp only [Bool.and_eq_true] at hb
        have h1 := nnE_ev (σ := σ) hb.1
        have h2 := geE_ev (σ := σ) hb.2
        rw [ev_one] at h2
        have h3 : Int.ofNat (Nat.pred c) = (c : Int) - 1 := by
          show ((c - 1 : Nat) : Int) = _; omega
        rw [h3] at h2
        obtain ⟨xs, hx⟩ := σ.one
        rw [hx] at h1 h2 ⊢
        simp only [evL] at h1 h2 ⊢
        have h4 := rest_part c l xs
        have h5 : Int.sub a (Int.mul (Int.ofNat c) t) = a - (c : Int) * t := rfl
        rw [h5] at h1 h2
        have h6 : a * ((1 : Nat) : Int) + evL l xs = ((a - (c : Int) * t) * ((1 : Nat) : Int) + evL (restE c l) xs) + (c : Int) * (t * ((1 : Nat) : Int) + evL (partE c l) xs) := by
          rw [h4, Int.mul_add]
          simp only [Int.natCast_one, Int.mul_one]
          omega
        rw [h6, Int.add_mul_ediv_left _ _ (by omega), Int.ediv_eq_zero_of_lt h1 (by omega)]
        omega
      · exact findQ_ev _ h σ.okq
theorem mulEE_ev {x y e : List Int} (h : mulEE x y = some e) : evL e σ.xs = evL x σ.xs * evL y σ.xs := by
  unfold mulEE at h
  cases h1 : isC x with
  | some k => rw [h1] at h; injection h with h; subst h; rw [evL_mulE, isC_ev h1]
  | none =>
    rw [h1] at h
    simp only at h
    cases h2 : isC y with
    | some k => rw [h2] at h; injection h with h; subst h; rw [evL_mulE, isC_ev h2, Int.mul_comm]
    | none => rw [h2] at h; simp at h

/-! ### values -/
theorem tOf_kOf {k : IntKind} {t : Nat} (h : tOf k = some t) : kOf t = some k := by
  cases k <;> simp [tOf] at h <;> subst h <;> rfl
section
variable {ι : Im}
theorem mkI_rel {k : IntKind} {e : List Int} {v : Value} (h : mkI k e = some v) (h0 : 0 ≤ evL e σ.xs) (h1 : evL e σ.xs ≤ (maxOf k : Nat)) : CRel σ ι v (.int k (evL e σ.xs)) := by
  unfold mkI at h
  cases hc : isC e with
  | some c =>
    rw [hc] at h
    injection h with h
    subst h
    rw [isC_ev hc]
    exact .int _ _
  | none =>
    rw [hc] at h
    simp only at h
    cases ht : tOf k with
    | none => rw [ht] at h; simp [tokO] at h
    | some t =>
      rw [ht] at h
      simp only [tokO, tokV, Option.some.injEq] at h
      subst h
      refine .tok (.inl ⟨k, _, tOf_kOf ht, rfl, ?_⟩)
      rw [List.toList_toArray, decE_encE]
      exact ⟨h0, h1, rfl⟩
theorem rangeI_rel {k : IntKind} {e : List Int} {v : Value} (h : rangeI k e = some v) : CRel σ ι v (.int k (evL e σ.xs)) ∧ 0 ≤ evL e σ.xs ∧ evL e σ.xs ≤ (maxOf k : Nat) := by
  unfold rangeI at h
  cases hb : (nnE e && geE [Int.ofNat (maxOf k)] e) with
  | false => rw [hb] at h; simp at h
  | true =>
    rw [hb] at h
    simp only [Bool.and_eq_true] at hb
    have h1 := nnE_ev (σ := σ) hb.1
    have h2 := geE_ev (σ := σ) hb.2
    rw [ev_one] at h2
    exact ⟨mkI_rel h h1 h2, h1, h2⟩
theorem exOf_rel {v u : Value} {k : IntKind} {e : List Int} (h : exOf v = some (k, e)) (hv : VRel σ ι v u) : u = .int k (evL e σ.xs) := by
  unfold exOf at h
  split at h
  · simp only [Option.some.injEq, Prod.mk.injEq] at h
    obtain ⟨rfl, rfl⟩ := h
    rw [hv.int, ev_one]
  · rename_i t p
    cases hk : kOf t with
    | none => rw [hk] at h; simp [exT] at h
    | some k' =>
      rw [hk] at h
      obtain ⟨e', rfl, h0, h1, h2⟩ := hv.tokOf.num hk
      simp only [exT, Option.some.injEq, Prod.mk.injEq] at h
      obtain ⟨rfl, rfl⟩ := h
      exact h2
  · cases h
end
end Go.Jv
