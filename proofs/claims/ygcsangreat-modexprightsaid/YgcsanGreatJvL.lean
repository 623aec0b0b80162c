/-
  A region whose order is drawn: one run in the text's order serves every order.
-/
import Derived.Test.YgcsanGreatJvK
namespace Go.Jv
open Go
set_option linter.unusedVariables false
set_option linter.unusedSimpArgs false
variable {σ : Va}

/-- an effect that is wanted -/
def efE (e : Ent) : Bool := e.w && effK (kindOf e.o.op)
/-- the first effect that is not done -/
def fr : List Ent → Nat → (Nat → Bool) → Nat
  | [], k, _ => k
  | e :: T, k, D => if efE e = true ∧ D k = false then k else fr T (k + 1) D

theorem fr_spec : ∀ (T : List Ent) (k : Nat) (D : Nat → Bool), k ≤ fr T k D ∧ fr T k D ≤ k + T.length ∧ (∀ i e, T[i]? = some e → k + i < fr T k D → efE e = true → D (k + i) = true) ∧
    (fr T k D < k + T.length → ∃ e, T[fr T k D - k]? = some e ∧ efE e = true ∧ D (fr T k D) = false) := by
  intro T
  induction T with
  | nil => intro k D; exact ⟨Nat.le_refl _, Nat.le_refl _, fun i e h => by simp at h, fun h => by simp [fr] at h⟩
  | cons e T ih =>
    intro k D
    simp only [fr]
    split
    · rename_i hc
      refine ⟨Nat.le_refl _, by simp, fun i e' _ h => by omega, fun _ => ⟨e, by simp, hc.1, hc.2⟩⟩
    · rename_i hc
      obtain ⟨h1, h2, h3, h4⟩ := ih (k + 1) D
      refine ⟨by omega, by simp; omega, ?_, ?_⟩
      · intro i e' hi hlt hE
        cases i with
        | zero =>
          simp only [List.getElem?_cons_zero, Option.some.injEq] at hi
          subst hi
          cases hD : D k with
          | true => simp [hD]
          | false => exact absurd ⟨hE, hD⟩ hc
        | succ i =>
          have := h3 i e' (by simpa using hi) (by omega) hE
          rw [show k + 1 + i = k + (i + 1) by omega] at this
          exact this
      · intro hlt
        obtain ⟨e', a1, a2, a3⟩ := h4 (by simp at hlt; omega)
        refine ⟨e', ?_, a2, a3⟩
        rw [show fr T (k + 1) D - k = (fr T (k + 1) D - (k + 1)) + 1 by omega]
        simpa using a1

theorem fr_unique {T : List Ent} {D : Nat → Bool} {c : Nat} (hc : c ≤ T.length) (h1 : ∀ i e, T[i]? = some e → i < c → efE e = true → D i = true) (h2 : c < T.length → ∃ e, T[c]? = some e ∧ efE e = true ∧ D c = false) : fr T 0 D = c := by
  obtain ⟨_, b, s1, s2⟩ := fr_spec T 0 D
  simp only [Nat.zero_add, Nat.sub_zero] at b s1 s2
  rcases Nat.lt_trichotomy (fr T 0 D) c with h | h | h
  · obtain ⟨e, e1, e2, e3⟩ := s2 (by omega)
    rw [h1 _ e e1 h e2] at e3; cases e3
  · exact h
  · obtain ⟨e, e1, e2, e3⟩ := h2 (by omega)
    rw [s1 c e e1 h e2] at e3; cases e3

abbrev befOf (ops : Array Oper) : List Nat := befs ops.toList []

/-- The record of a region's run in the text's order, with its checks. -/
structure Sit (σ : Va) (P : Program) (n0 : Nat) (call : Caller) (n : Nat) (ops : Array Oper) (T : List Ent) (a0 : Ac) (h0 : Hp) (a' : Ac) (h' : Hp) : Prop where
  callOk : CallOk σ P n0 call
  tra : Tra P call n ops T a0 h0 a' h'
  opsT : ops.toList = T.map (·.o)
  text : textOk ops (befOf ops) = true
  reads : readsOk P T (Jv.reads ops (befOf ops)) = true

theorem edgesOk_spec : ∀ (l : List Oper) (i : Nat), edgesOk l i = true → ∀ k o ed, l[k]? = some o → ed ∈ o.after → Region.binds .any ed = true → ed.on < i + k := by
  intro l
  induction l with
  | nil => intro i _ k o ed h; simp at h
  | cons o l ih =>
    intro i h k o' ed hk he hb
    simp only [edgesOk, Bool.and_eq_true, List.all_eq_true] at h
    cases k with
    | zero =>
      simp only [List.getElem?_cons_zero, Option.some.injEq] at hk
      subst hk
      have := h.1 ed (by simpa using he)
      simp only [hb, Bool.not_true, Bool.false_or] at this
      exact Nat.le_of_ble_eq_true this
    | succ k =>
      have := ih (i + 1) h.2 k o' ed (by simpa using hk) he hb
      omega
theorem readsOk_mem {P : Program} {t : List Ent} : ∀ {l : List (Nat × Nat)}, readsOk P t l = true → ∀ p ∈ l, readOk P t p = true := by
  intro l
  induction l with
  | nil => intro _ p hp; cases hp
  | cons q l ih =>
    intro h p hp
    simp only [readsOk] at h
    cases hq : readOk P t q with
    | false => rw [hq] at h; simp at h
    | true =>
      rw [hq] at h
      cases hp with
      | head => exact hq
      | tail _ hp => exact ih h p hp

section
variable {P : Program} {n0 : Nat} {call : Caller} {n : Nat} {ops : Array Oper} {T : List Ent} {a0 : Ac} {h0 : Hp} {a' : Ac} {h' : Hp}

theorem Sit.op (S : Sit σ P n0 call n ops T a0 h0 a' h') {j : Nat} {e : Ent} (h : T[j]? = some e) : ops[j]? = some e.o := by
  rw [← Array.getElem?_toList, S.opsT, List.getElem?_map, h]; rfl
theorem Sit.ent (S : Sit σ P n0 call n ops T a0 h0 a' h') {j : Nat} {o : Oper} (h : ops[j]? = some o) : ∃ e, T[j]? = some e ∧ e.o = o := by
  rw [← Array.getElem?_toList, S.opsT, List.getElem?_map] at h
  cases hT : T[j]? with
  | none => rw [hT] at h; simp at h
  | some e => rw [hT] at h; simp at h; exact ⟨e, rfl, h⟩
theorem Sit.size (S : Sit σ P n0 call n ops T a0 h0 a' h') : ops.size = T.length := by
  have := congrArg List.length S.opsT
  simpa using this
theorem Sit.kd (S : Sit σ P n0 call n ops T a0 h0 a' h') {j : Nat} {e : Ent} (h : T[j]? = some e) : kdO ops[j]? = kindOf e.o.op := by rw [S.op h]; rfl
theorem Sit.parts (S : Sit σ P n0 call n ops T a0 h0 a' h') : edgesOk ops.toList 0 = true ∧ Region.noSelect ops = true ∧ (∀ j, j < ops.size → ∀ i, i < j → pairOk ops (befOf ops) i j = true) ∧ ∀ q, q < ops.size → lateOk ops (befOf ops) q = true := by
  have h := S.text
  simp only [textOk, Bool.and_eq_true] at h
  obtain ⟨h1, h2, h3, h4⟩ := h
  exact ⟨h1, h2, fun j hj i hi => allBelow_iff.1 (allBelow_iff.1 h3 j hj) i hi, allBelow_iff.1 h4⟩
theorem lt_of_some {α : Type} {l : List α} {i : Nat} {e : α} (h : l[i]? = some e) : i < l.length := (List.getElem?_eq_some_iff.1 h).1
theorem Sit.pair (S : Sit σ P n0 call n ops T a0 h0 a' h') {i j : Nat} {x y : Ent} (hx : T[i]? = some x) (hy : T[j]? = some y) (hij : i < j) (hb : bit (befOf ops) i j = false) :
    x.o.apart ops y.o = true ∧ kindsOk (kindOf x.o.op) (kindOf y.o.op) = true := by
  have := S.parts.2.2.1 j (by rw [S.size]; exact lt_of_some hy) i hij
  simp only [pairOk, hb, Bool.false_or, Bool.and_eq_true, S.op hx, S.op hy, apartO, kdO] at this
  exact this
theorem Sit.edge (S : Sit σ P n0 call n ops T a0 h0 a' h') {i : Nat} {o : Oper} {ed : Edge} (ho : ops[i]? = some o) (he : ed ∈ o.after) (hb : Region.binds .any ed = true) : ed.on < i := by
  have := edgesOk_spec _ _ S.parts.1 i o ed (by rw [Array.getElem?_toList]; exact ho) he hb
  omega
theorem Sit.read (S : Sit σ P n0 call n ops T a0 h0 a' h') {l i : Nat} {x y : Ent} (hx : T[l]? = some x) (hy : T[i]? = some y) (hk : kindOf x.o.op = .busy) (hE : efE y = true) (hw : x.w = true)
    (b1 : bit (befOf ops) l i = false) (b2 : bit (befOf ops) i l = false) : (l ≤ i → again P x y.h' = true) ∧ (¬ l ≤ i → again P x y.h = true) := by
  simp only [efE, Bool.and_eq_true] at hE
  have hm : (l, i) ∈ Jv.reads ops (befOf ops) := by
    unfold Jv.reads
    rw [List.mem_flatMap]
    refine ⟨l, by rw [List.mem_range, S.size]; exact lt_of_some hx, ?_⟩
    rw [List.mem_map]
    refine ⟨i, ?_, rfl⟩
    rw [List.mem_filter, List.mem_range]
    refine ⟨by rw [S.size]; exact lt_of_some hy, ?_⟩
    simp [readPair, S.kd hx, S.kd hy, hk, loadK, hE.2, b1, b2]
  have := readsOk_mem S.reads _ hm
  simp only [readOk, hx, hy, hw, hE.1] at this
  constructor
  · intro hle; rw [bleT hle] at this; exact this
  · intro hle; rw [bleF hle] at this; exact this

theorem Sit.hAt_same (S : Sit σ P n0 call n ops T a0 h0 a' h') {i : Nat} {e : Ent} (hT : T[i]? = some e) (hE : efE e = false) : hAt T h0 (i + 1) = hAt T h0 i := by
  obtain ⟨t1, t2, t3, t4, t5, _⟩ := S.tra.at hT
  rw [← t1, ← t2]
  cases hw : e.w with
  | false => exact (t5 hw).2
  | true =>
    have hs := t4 hw
    simp only [efE, hw, Bool.true_and] at hE
    unfold stepOp at hs
    cases hev : evalOp P e.h e.a e.o with
    | none => rw [hev] at hs; simp [callO] at hs
    | some out =>
      have : ∃ v, out = .val v e.h := by
        cases hk : kindOf e.o.op with
        | ready => obtain ⟨v, h1, _⟩ := calm_any hk hev; exact ⟨v, h1⟩
        | busy => exact load_same hk hev
        | done => rw [hk] at hE; simp [effK] at hE
        | exhausted => rw [hk] at hE; simp [effK] at hE
      obtain ⟨v, rfl⟩ := this
      rw [hev] at hs
      simp only [callO, Option.some.injEq, Prod.mk.injEq] at hs
      exact hs.2.symm
theorem Sit.hAt_range (S : Sit σ P n0 call n ops T a0 h0 a' h') {c : Nat} : ∀ {d : Nat}, c ≤ d → d ≤ T.length → (∀ i e, c ≤ i → i < d → T[i]? = some e → efE e = false) → hAt T h0 d = hAt T h0 c := by
  intro d
  induction d with
  | zero => intro h _ _; rw [show c = 0 by omega]
  | succ d ih =>
    intro h hd hn
    by_cases hcd : c = d + 1
    · rw [hcd]
    · have hlt : d < T.length := by omega
      rw [S.hAt_same (i := d) (e := T[d]) (by simp) (hn d _ (by omega) (by omega) (by simp))]
      exact ih (by omega) (by omega) (fun i e h1 h2 => hn i e h1 (by omega))

/-- late operations: all that hangs on them waits for the effects ahead of them; there is one at most -/
theorem Sit.late (S : Sit σ P n0 call n ops T a0 h0 a' h') {q : Nat} {e : Ent} (hq : T[q]? = some e) (hl : lateAt ops (befOf ops) q = true) :
    kindOf e.o.op = .exhausted ∧ (∀ j i y, bit (befOf ops) q j = true → i < q → T[i]? = some y → efE y = true → bit (befOf ops) i j = true) ∧ (∀ q', q' < q → lateAt ops (befOf ops) q' = false) := by
  have h := S.parts.2.2.2 q (by rw [S.size]; exact lt_of_some hq)
  simp only [lateOk, hl, Bool.not_true, Bool.false_or, Bool.and_eq_true, lateGood] at h
  refine ⟨?_, ?_, ?_⟩
  · simp only [lateAt, Bool.and_eq_true, S.kd hq] at hl
    cases hk : kindOf e.o.op with
    | exhausted => rfl
    | _ => rw [hk] at hl; simp [freshK] at hl
  · intro j i y hb hi hy hE
    obtain ⟨o, ho, _⟩ := bit_step hb
    have hj : j < ops.size := by rw [S.size, ← List.length_map (f := (·.o)), ← S.opsT]; exact lt_of_some ho
    have h1 := allBelow_iff.1 h.1 j hj
    simp only [hb, Bool.not_true, Bool.false_or] at h1
    have h2 := allBelow_iff.1 h1 i hi
    simp only [efE, Bool.and_eq_true] at hE
    simpa [S.kd hy, hE.2] using h2
  · intro q' hq'
    have := allBelow_iff.1 h.2 q' hq'
    simpa using this
theorem Sit.notLate (S : Sit σ P n0 call n ops T a0 h0 a' h') {q : Nat} {e : Ent} (hq : T[q]? = some e) (hk : kindOf e.o.op = .exhausted) (hl : lateAt ops (befOf ops) q = false) {i : Nat} {y : Ent} (hi : i < q) (hy : T[i]? = some y) (hE : efE y = true) :
    bit (befOf ops) i q = true := by
  simp only [lateAt, S.kd hq, hk, freshK, Bool.true_and, Bool.not_eq_false'] at hl
  have := allBelow_iff.1 hl i hi
  simp only [efE, Bool.and_eq_true] at hE
  simpa [S.kd hy, hE.2] using this
theorem Sit.oneLate (S : Sit σ P n0 call n ops T a0 h0 a' h') {q q' : Nat} {e e' : Ent} (hq : T[q]? = some e) (hl : lateAt ops (befOf ops) q = true) (hq' : T[q']? = some e') (hl' : lateAt ops (befOf ops) q' = true) : q = q' := by
  rcases Nat.lt_trichotomy q q' with h | h | h
  · rw [(S.late hq' hl').2.2 q h] at hl; cases hl
  · exact h
  · rw [(S.late hq hl).2.2 q' h] at hl'; cases hl'
end
end Go.Jv
