/-
  A region whose order is drawn: the record of the run in the text's order, and what the checks say.
-/
import Derived.Test.YgcsanGreatJvI
namespace Go.Jv
open Go
set_option linter.unusedVariables false
set_option linter.unusedSimpArgs false
variable {σ : Va}

/-! ### what must come ahead -/
theorem allBelow_iff {p : Nat → Bool} : ∀ {n : Nat}, allBelow p n = true ↔ ∀ i, i < n → p i = true := by
  intro n
  induction n with
  | zero => simp [allBelow]
  | succ n ih =>
    simp only [allBelow]
    cases hp : p n with
    | false => simp; exact ⟨n, by omega, hp⟩
    | true =>
      simp only
      rw [ih]
      constructor
      · intro h i hi
        rcases Nat.lt_succ_iff_lt_or_eq.1 hi with e | e
        · exact h i e
        · rw [e]; exact hp
      · intro h i hi; exact h i (by omega)

theorem maskOf_bit {acc : List Nat} {i : Nat} : ∀ {es : List Edge}, Nat.testBit (maskOf acc es) i = true → ∃ e ∈ es, Region.binds .any e = true ∧ (e.on = i ∨ Nat.testBit (acc.getD e.on 0) i = true) := by
  intro es
  induction es with
  | nil => intro h; simp [maskOf] at h
  | cons e es ih =>
    intro h
    simp only [maskOf] at h
    cases hb : Region.binds .any e with
    | false =>
      rw [hb] at h
      obtain ⟨e', h1, h2⟩ := ih h
      exact ⟨e', List.mem_cons_of_mem _ h1, h2⟩
    | true =>
      rw [hb] at h
      simp only [Nat.testBit_or, Bool.or_eq_true, Nat.testBit_two_pow, decide_eq_true_eq] at h
      rcases h with (h | h) | h
      · exact ⟨e, List.mem_cons_self .., hb, .inl h⟩
      · exact ⟨e, List.mem_cons_self .., hb, .inr h⟩
      · obtain ⟨e', h1, h2⟩ := ih h
        exact ⟨e', List.mem_cons_of_mem _ h1, h2⟩

theorem befs_spec : ∀ (l : List Oper) (acc : List Nat), (befs l acc).length = acc.length + l.length ∧ (∀ j, j < acc.length → (befs l acc).getD j 0 = acc.getD j 0) ∧
    ∀ k o, l[k]? = some o → ∃ acc', (befs l acc).getD (acc.length + k) 0 = maskOf acc' o.after.toList ∧ ∀ m, acc'.getD m 0 = if m < acc.length + k then (befs l acc).getD m 0 else 0 := by
  intro l
  induction l with
  | nil => intro acc; exact ⟨rfl, fun _ _ => rfl, fun k o h => by simp at h⟩
  | cons o l ih =>
    intro acc
    obtain ⟨h1, h2, h3⟩ := ih (acc ++ [maskOf acc o.after.toList])
    simp only [befs]
    refine ⟨by rw [h1]; simp; omega, ?_, ?_⟩
    · intro j hj
      rw [h2 j (by simp; omega)]
      simp only [List.getD_eq_getElem?_getD, List.getElem?_append_left hj]
    · intro k o' hk
      cases k with
      | zero =>
        simp only [List.getElem?_cons_zero, Option.some.injEq] at hk
        subst hk
        refine ⟨acc, ?_, ?_⟩
        · rw [Nat.add_zero, h2 _ (by simp)]
          simp [List.getD_eq_getElem?_getD]
        · intro m
          split
          · rename_i hm
            rw [h2 m (by simp; omega)]
            simp only [List.getD_eq_getElem?_getD]
            rw [List.getElem?_append_left (by omega)]
          · simp only [List.getD_eq_getElem?_getD]
            rw [List.getElem?_eq_none (by omega)]; rfl
      | succ k =>
        obtain ⟨acc', e1, e2⟩ := h3 k o' (by simpa using hk)
        simp only [List.length_append, List.length_cons, List.length_nil] at e1 e2
        refine ⟨acc', ?_, ?_⟩
        · rw [← e1]; congr 1; omega
        · intro m; rw [e2 m]
          have : (m < acc.length + (0 + 1) + k) = (m < acc.length + (k + 1)) := by rw [show acc.length + (0 + 1) + k = acc.length + (k + 1) by omega]
          simp only [this]

theorem bit_step {l : List Oper} {i j : Nat} (h : bit (befs l []) i j = true) : ∃ o, l[j]? = some o ∧ ∃ e ∈ o.after, Region.binds .any e = true ∧ (e.on = i ∨ (e.on < j ∧ bit (befs l []) i e.on = true)) := by
  obtain ⟨h1, h2, h3⟩ := befs_spec l []
  unfold bit at h
  have hj : j < l.length := by
    rcases Nat.lt_or_ge j l.length with e | e
    · exact e
    · rw [List.getD_eq_getElem?_getD, List.getElem?_eq_none (by rw [h1]; simpa using e)] at h
      simp at h
  obtain ⟨acc', e1, e2⟩ := h3 j l[j] (by simp)
  simp only [List.length_nil, Nat.zero_add] at e1 e2
  rw [e1] at h
  obtain ⟨e, he, hb, hor⟩ := maskOf_bit h
  refine ⟨l[j], by simp, e, by simpa using he, hb, ?_⟩
  rcases hor with hor | hor
  · exact .inl hor
  · rw [e2] at hor
    split at hor
    · rename_i hm; exact .inr ⟨hm, hor⟩
    · simp at hor

/-- The set of what is done holds with each operation all that must come ahead of it. -/
def Closed (ops : Array Oper) (D : Nat → Bool) : Prop := ∀ i o e, ops[i]? = some o → D i = true → e ∈ o.after → Region.binds .any e = true → D e.on = true
theorem bit_in {ops : Array Oper} {D : Nat → Bool} (hc : Closed ops D) : ∀ (j i : Nat) (o : Oper), ops[j]? = some o → (∀ e ∈ o.after, Region.binds .any e = true → D e.on = true) → bit (befs ops.toList []) i j = true → D i = true := by
  intro j
  induction j using Nat.strongRecOn with
  | _ j ih =>
    intro i o ho hall hb
    obtain ⟨o', ho', e, he, hbd, hor⟩ := bit_step hb
    have : o' = o := by rw [Array.getElem?_toList, ho] at ho'; injection ho' with h; exact h.symm
    subst this
    have hD := hall e he hbd
    rcases hor with rfl | ⟨hlt, hb2⟩
    · exact hD
    · obtain ⟨o2, ho2, _⟩ := bit_step hb2
      rw [Array.getElem?_toList] at ho2
      exact ih e.on hlt i o2 ho2 (fun e' he' hb' => hc e.on o2 e' ho2 hD he' hb') hb2
theorem bit_done {ops : Array Oper} {D : Nat → Bool} (hc : Closed ops D) {i j : Nat} (hb : bit (befs ops.toList []) i j = true) (hj : D j = true) : D i = true := by
  obtain ⟨o, ho, _⟩ := bit_step hb
  rw [Array.getElem?_toList] at ho
  exact bit_in hc j i o ho (fun e he hbd => hc j o e ho hj he hbd) hb

/-! ### the record -/
def Tra (P : Program) (call : Caller) (n : Nat) (ops : Array Oper) : List Ent → Ac → Hp → Ac → Hp → Prop
  | [], a, h, a', h' => a' = a ∧ h' = h
  | e :: T, a, h, a', h' => e.a = a ∧ e.h = h ∧ wantedA ops a e.o = some e.w ∧ (e.w = true → stepOp P call h a e.o = some (e.v, e.h')) ∧ (e.w = false → e.v = undef ∧ e.h' = h) ∧
      ∃ a1, Ac.put n a e.o.dst e.v = some a1 ∧ Tra P call n ops T a1 e.h' a' h'

theorem entO_some {e : Value → Hp → Ent} {n : Nat} {a : Ac} {d : Option Tmp} {x : Option (Value × Hp)} {r : Ent × Ac} (he : entO e n a d x = some r) : ∃ v h, x = some (v, h) ∧ r.1 = e v h ∧ Ac.put n a d v = some r.2 := by
  cases x with
  | none => simp [entO] at he
  | some p =>
    obtain ⟨v, h⟩ := p
    simp only [entO] at he
    cases hp : Ac.put n a d v with
    | none => rw [hp] at he; simp at he
    | some a' =>
      rw [hp] at he
      injection he with he
      subst he
      exact ⟨v, h, rfl, rfl, hp⟩

theorem evTrace_some {P : Program} {call : Caller} {n : Nat} {ops : Array Oper} : ∀ (l : List Oper) (a : Ac) (h : Hp) (t t' : List Ent) (a' : Ac) (h' : Hp), evTrace P call n ops l a h t = some (t', a', h') →
    ∃ T, t' = T.reverse ++ t ∧ T.map (·.o) = l ∧ Tra P call n ops T a h a' h' := by
  intro l
  induction l with
  | nil =>
    intro a h t t' a' h' he
    simp only [evTrace, Option.some.injEq, Prod.mk.injEq] at he
    obtain ⟨rfl, rfl, rfl⟩ := he
    exact ⟨[], rfl, rfl, rfl, rfl⟩
  | cons o l ih =>
    intro a h t t' a' h' he
    simp only [evTrace] at he
    cases hw : wantedA ops a o with
    | none => rw [hw] at he; simp [goEnt, thenEnt] at he
    | some b =>
      rw [hw] at he
      cases hg : goEnt P call n h a o (some b) with
      | none => rw [hg] at he; simp [thenEnt] at he
      | some r =>
        rw [hg] at he
        obtain ⟨e, a1⟩ := r
        simp only [thenEnt] at he
        obtain ⟨T, h1, h2, h3⟩ := ih a1 e.h' (e :: t) t' a' h' he
        refine ⟨e :: T, by rw [h1]; simp, ?_, ?_⟩
        · cases b with
          | true =>
            simp only [goEnt] at hg
            obtain ⟨v, h2', _, he1, _⟩ := entO_some hg
            simp only at he1
            subst he1
            simp [h2]
          | false =>
            simp only [goEnt] at hg
            obtain ⟨v, h2', _, he1, _⟩ := entO_some hg
            simp only at he1
            subst he1
            simp [h2]
        · cases b with
          | true =>
            simp only [goEnt] at hg
            obtain ⟨v, h2', hs, he1, hp⟩ := entO_some hg
            simp only at he1 hp
            subst he1
            exact ⟨rfl, rfl, hw, fun _ => hs, (fun e => by cases e), a1, hp, h3⟩
          | false =>
            simp only [goEnt] at hg
            obtain ⟨v, h2', hs, he1, hp⟩ := entO_some hg
            simp only at he1 hp
            subst he1
            simp only [Option.some.injEq, Prod.mk.injEq] at hs
            obtain ⟨rfl, rfl⟩ := hs
            exact ⟨rfl, rfl, hw, (fun e => by cases e), (fun _ => ⟨rfl, rfl⟩), a1, hp, h3⟩

/-- the memory ahead of entry i -/
def hAt : List Ent → Hp → Nat → Hp
  | [], h, _ => h
  | _ :: _, h, 0 => h
  | e :: T, _, i + 1 => hAt T e.h' i
theorem hAt_zero (T : List Ent) (h : Hp) : hAt T h 0 = h := by cases T <;> rfl
/-- what tmp t holds when the entries of D are done -/
def tv : List Ent → Nat → (Nat → Bool) → Tmp → Value → Value
  | [], _, _, _, x => x
  | e :: T, k, D, t, x => tv T (k + 1) D t (if D k = true ∧ e.o.dst = some t then e.v else x)

theorem tv_congr {t : Tmp} {D D' : Nat → Bool} : ∀ (T : List Ent) (k : Nat) (x : Value), (∀ i e, T[i]? = some e → e.o.dst = some t → D (k + i) = D' (k + i)) → tv T k D t x = tv T k D' t x := by
  intro T
  induction T with
  | nil => intro k x _; rfl
  | cons e T ih =>
    intro k x h
    simp only [tv]
    have e1 : (if D k = true ∧ e.o.dst = some t then e.v else x) = (if D' k = true ∧ e.o.dst = some t then e.v else x) := by
      by_cases hd : e.o.dst = some t
      · have := h 0 e rfl hd
        simp only [Nat.add_zero] at this
        rw [this]
      · simp [hd]
    rw [e1]
    exact ih (k + 1) _ (fun i e' hi hd => by
      have := h (i + 1) e' (by simpa using hi) hd
      rw [show k + (i + 1) = k + 1 + i by omega] at this
      exact this)
theorem tv_none {t : Tmp} {D : Nat → Bool} : ∀ (T : List Ent) (k : Nat) (x : Value), (∀ i e, T[i]? = some e → e.o.dst = some t → D (k + i) = false) → tv T k D t x = x := by
  intro T
  induction T with
  | nil => intro k x _; rfl
  | cons e T ih =>
    intro k x h
    simp only [tv]
    rw [ih (k + 1) _ (fun i e' hi hd => by
      have := h (i + 1) e' (by simpa using hi) hd
      rw [show k + (i + 1) = k + 1 + i by omega] at this
      exact this)]
    rw [if_neg]
    rintro ⟨h1, h2⟩
    have := h 0 e rfl h2
    simp only [Nat.add_zero] at this
    rw [h1] at this; cases this
theorem tv_last {t : Tmp} {D : Nat → Bool} : ∀ (T : List Ent) (k : Nat) (x : Value) (j : Nat) (e : Ent), T[j]? = some e → e.o.dst = some t → D (k + j) = true → (∀ i e', j < i → T[i]? = some e' → e'.o.dst = some t → D (k + i) = false) → tv T k D t x = e.v := by
  intro T
  induction T with
  | nil => intro k x j e h; simp at h
  | cons e0 T ih =>
    intro k x j e hj hd hD hn
    cases j with
    | zero =>
      simp only [List.getElem?_cons_zero, Option.some.injEq] at hj
      subst hj
      simp only [tv]
      rw [if_pos ⟨by simpa using hD, hd⟩]
      exact tv_none T (k + 1) _ (fun i e' hi hd' => by
        have := hn (i + 1) e' (by omega) (by simpa using hi) hd'
        rw [show k + (i + 1) = k + 1 + i by omega] at this
        exact this)
    | succ j =>
      simp only [tv]
      refine ih (k + 1) _ j e (by simpa using hj) hd (by rw [show k + 1 + j = k + (j + 1) by omega]; exact hD) ?_
      intro i e' hi hT hd'
      have := hn (i + 1) e' (by omega) (by simpa using hT) hd'
      rw [show k + (i + 1) = k + 1 + i by omega] at this
      exact this

section
variable {P : Program} {call : Caller} {n : Nat} {ops : Array Oper}

/-- what the record says of entry j -/
theorem Tra.at : ∀ {T : List Ent} {a : Ac} {h : Hp} {a' : Ac} {h' : Hp}, Tra P call n ops T a h a' h' → ∀ {j : Nat} {e : Ent}, T[j]? = some e →
    e.h = hAt T h j ∧ e.h' = hAt T h (j + 1) ∧ wantedA ops e.a e.o = some e.w ∧ (e.w = true → stepOp P call e.h e.a e.o = some (e.v, e.h')) ∧ (e.w = false → e.v = undef ∧ e.h' = e.h) ∧ (∃ a1, Ac.put n e.a e.o.dst e.v = some a1) := by
  intro T
  induction T with
  | nil => intro a h a' h' _ j e hj; simp at hj
  | cons e0 T ih =>
    intro a h a' h' ht j e hj
    obtain ⟨rfl, rfl, h3, h4, h5, a1, h6, h7⟩ := ht
    cases j with
    | zero =>
      simp only [List.getElem?_cons_zero, Option.some.injEq] at hj
      subst hj
      exact ⟨rfl, (hAt_zero T _).symm, h3, h4, h5, a1, h6⟩
    | succ j => exact ih h7 (by simpa using hj)

/-- the frame ahead of entry j, and behind all -/
theorem Tra.tmps : ∀ {T : List Ent} {a : Ac} {h : Hp} {a' : Ac} {h' : Hp}, Tra P call n ops T a h a' h' → ∀ (k : Nat) (t : Tmp),
    (∀ {j : Nat} {e : Ent}, T[j]? = some e → orUndef (Tr.get e.a t) = tv T k (fun i => decide (i < k + j)) t (orUndef (Tr.get a t))) ∧
    orUndef (Tr.get a' t) = tv T k (fun _ => true) t (orUndef (Tr.get a t)) := by
  intro T
  induction T with
  | nil => intro a h a' h' ht k t; obtain ⟨rfl, rfl⟩ := ht; exact ⟨fun hj => by simp at hj, rfl⟩
  | cons e0 T ih =>
    intro a h a' h' ht k t
    obtain ⟨rfl, rfl, h3, h4, h5, a1, h6, h7⟩ := ht
    have hg : orUndef (Tr.get a1 t) = if e0.o.dst = some t then e0.v else orUndef (Tr.get e0.a t) := by
      rw [put_some h6 t]; split <;> rfl
    obtain ⟨i1, i2⟩ := ih h7 (k + 1) t
    refine ⟨?_, ?_⟩
    · intro j e hj
      cases j with
      | zero =>
        simp only [List.getElem?_cons_zero, Option.some.injEq] at hj
        subst hj
        rw [tv_none (e0 :: T) k _ (fun i e' _ _ => by simp)]
      | succ j =>
        have := i1 (j := j) (e := e) (by simpa using hj)
        rw [this, hg]
        simp only [tv]
        have e1 : decide (k < k + (j + 1)) = true := by simp
        simp only [e1, true_and]
        have e2 : (fun i => decide (i < k + 1 + j)) = (fun i => decide (i < k + (j + 1))) := by funext i; rw [show k + 1 + j = k + (j + 1) by omega]
        rw [e2]
    · rw [i2, hg]; simp [tv]

theorem Tra.end : ∀ {T : List Ent} {a : Ac} {h : Hp} {a' : Ac} {h' : Hp}, Tra P call n ops T a h a' h' → h' = hAt T h T.length := by
  intro T
  induction T with
  | nil => intro a h a' h' ht; exact ht.2
  | cons e0 T ih => intro a h a' h' ht; obtain ⟨_, _, _, _, _, a1, _, h7⟩ := ht; exact ih h7
end
end Go.Jv
