/-
  The evaluator's memory and the world's: how they stand to each other.
-/
import Derived.Test.YgcsanGreatJv
import Derived.Laws.CopyRow
import Derived.Laws.Cells
namespace Go.Jv
open Go
set_option linter.unusedVariables false
set_option linter.unusedSimpArgs false
variable {σ : Va}

/-! ### rows by number -/
theorem beqT {a b : Nat} (h : a = b) : Nat.beq a b = true := by subst h; exact Nat.beq_refl a
theorem beqF {a b : Nat} (h : a ≠ b) : Nat.beq a b = false := by
  cases e : Nat.beq a b with
  | false => rfl
  | true => exact absurd (Nat.eq_of_beq_eq_true e) h
theorem bleT {a b : Nat} (h : a ≤ b) : Nat.ble a b = true := Nat.ble_eq_true_of_le h
theorem bleF {a b : Nat} (h : ¬ a ≤ b) : Nat.ble a b = false := by
  cases e : Nat.ble a b with
  | false => rfl
  | true => exact absurd (Nat.le_of_ble_eq_true e) h
theorem Tr.get_node {α : Type} (b o : Nat) (v : Option α) (l r : Tr α) (n : Nat) :
    Tr.get (.node b o v l r : Tr α) n = if n = 0 then v else if n % 2 = 1 then Tr.get l (n / 2) else Tr.get r (n / 2 - 1) := by
  show (match Nat.beq n 0 with | true => v | false => match Nat.beq (Nat.mod n 2) 1 with | true => Tr.get l (Nat.div n 2) | false => Tr.get r (Nat.pred (Nat.div n 2))) = _
  by_cases h : n = 0
  · subst h; rfl
  · have h1 : Nat.beq n 0 = false := beqF h
    rw [h1, if_neg h]
    by_cases h2 : n % 2 = 1
    · have h3 : Nat.beq (Nat.mod n 2) 1 = true := beqT h2
      rw [h3, if_pos h2]; rfl
    · have h3 : Nat.beq (Nat.mod n 2) 1 = false := beqF h2
      rw [h3, if_neg h2]; rfl
theorem Tr.get_nil {α : Type} (n : Nat) : Tr.get (.nil : Tr α) n = none := rfl

theorem Tr.get_set {α : Type} (v : Option α) : ∀ (d : Nat) (t t' : Tr α) (n : Nat), Tr.set v d t n = some t' → ∀ m, Tr.get t' m = if m = n then v else Tr.get t m := by
  intro d
  induction d with
  | zero => intro t t' n h; simp [Tr.set] at h
  | succ d ih =>
    intro t t' n h m
    have key : ∀ (u : Option α) (l r : Tr α), (∀ m, Tr.get t m = Tr.get (.node 0 0 u l r : Tr α) m) →
        (match Nat.beq n 0 with | true => some (.node 0 0 v l r) | false => match Nat.beq (Nat.mod n 2) 1 with
          | true => Tr.mkL u r (Tr.set v d l (Nat.div n 2))
          | false => Tr.mkR u l (Tr.set v d r (Nat.pred (Nat.div n 2)))) = some t' → Tr.get t' m = if m = n then v else Tr.get t m := by
      intro u l r ht h
      rw [ht m]
      by_cases h0 : n = 0
      · subst h0
        simp only [Nat.beq_eq, Nat.beq] at h
        injection h with h
        subst h
        rw [Tr.get_node, Tr.get_node]
        by_cases hm : m = 0
        · simp [hm]
        · simp [hm]
      · have h1 : Nat.beq n 0 = false := beqF h0
        rw [h1] at h
        by_cases h2 : n % 2 = 1
        · have h3 : Nat.beq (Nat.mod n 2) 1 = true := beqT h2
          rw [h3] at h
          simp only at h
          cases hs : Tr.set v d l (Nat.div n 2) with
          | none => rw [hs] at h; simp [Tr.mkL] at h
          | some l' =>
            rw [hs] at h
            simp only [Tr.mkL] at h
            injection h with h
            subst h
            have e := ih l l' (Nat.div n 2) hs
            rw [Tr.get_node, Tr.get_node]
            have hd : Nat.div n 2 = n / 2 := rfl
            by_cases hm : m = n
            · subst hm
              rw [if_neg h0, if_pos h2, e, if_pos hd.symm, if_pos rfl]
            · rw [if_neg hm]
              by_cases hm0 : m = 0
              · simp [hm0]
              · rw [if_neg hm0, if_neg hm0]
                by_cases hm2 : m % 2 = 1
                · rw [if_pos hm2, if_pos hm2, e, if_neg (by rw [hd]; omega)]
                · rw [if_neg hm2, if_neg hm2]
        · have h3 : Nat.beq (Nat.mod n 2) 1 = false := beqF h2
          rw [h3] at h
          simp only at h
          cases hs : Tr.set v d r (Nat.pred (Nat.div n 2)) with
          | none => rw [hs] at h; simp [Tr.mkR] at h
          | some r' =>
            rw [hs] at h
            simp only [Tr.mkR] at h
            injection h with h
            subst h
            have e := ih r r' (Nat.pred (Nat.div n 2)) hs
            rw [Tr.get_node, Tr.get_node]
            have hd : Nat.pred (Nat.div n 2) = n / 2 - 1 := rfl
            by_cases hm : m = n
            · subst hm
              rw [if_neg h0, if_neg h2, e, if_pos hd.symm, if_pos rfl]
            · rw [if_neg hm]
              by_cases hm0 : m = 0
              · simp [hm0]
              · rw [if_neg hm0, if_neg hm0]
                by_cases hm2 : m % 2 = 1
                · rw [if_pos hm2, if_pos hm2]
                · rw [if_neg hm2, if_neg hm2, e, if_neg (by rw [hd]; omega)]
    cases t with
    | nil =>
      refine key none .nil .nil ?_ h
      intro m
      rw [Tr.get_node]; simp [Tr.get_nil]
    | node b o u l r => exact key u l r (fun m => by rw [Tr.get_node, Tr.get_node]) h

theorem dec_plain {l : List Value} (h : isRep l = none) (h' : isSym l = none) : dec σ l = some l := by
  unfold dec
  split
  · simp [isRep] at h
  · simp [isSym] at h'
  · rfl
theorem dec_rep {l : List Value} {n : Nat} {v : Value} (h : isRep l = some (n, v)) : dec σ l = some (List.replicate n v) := by
  unfold isRep at h
  split at h
  · injection h with h; injection h with h1 h2; subst h1; subst h2; rfl
  · cases h
theorem dec_sym {l : List Value} {j : Nat} {e : List Value} (h : isSym l = some (j, e)) : dec σ l = symD σ j e := by
  unfold isSym at h
  split at h
  · injection h with h; injection h with h1 h2; subst h1; subst h2; rfl
  · cases h
theorem Hp.raw_put {h h' : Hp} {k : Nat} {l : List Value} (e : h.put k l = some h') : h'.next = h.next ∧ ∀ m, h'.raw m = if m = k then some l else h.raw m := by
  obtain ⟨n, m⟩ := h
  simp only [Hp.put] at e
  cases hs : Tr.set (some l) 64 m k with
  | none => rw [hs] at e; simp [mkHp] at e
  | some m' =>
    rw [hs] at e
    simp only [mkHp, Option.some.injEq] at e
    subst e
    exact ⟨rfl, fun j => Tr.get_set _ _ _ _ _ hs j⟩
theorem Hp.get_put {h h' : Hp} {k : Nat} {l : List Value} (e : h.put k l = some h') : h'.next = h.next ∧ ∀ m, h'.get σ m = if m = k then dec σ l else h.get σ m := by
  obtain ⟨h1, h2⟩ := Hp.raw_put e
  refine ⟨h1, fun m => ?_⟩
  unfold Hp.get
  rw [h2 m]
  split <;> rfl
theorem Hp.get_kill {h h' : Hp} {k : Nat} (e : h.kill k = some h') : h'.next = h.next ∧ ∀ m, h'.get σ m = if m = k then none else h.get σ m := by
  obtain ⟨n, m⟩ := h
  simp only [Hp.kill] at e
  cases hs : Tr.set none 64 m k with
  | none => rw [hs] at e; simp [mkHp] at e
  | some m' =>
    rw [hs] at e
    simp only [mkHp, Option.some.injEq] at e
    subst e
    refine ⟨rfl, fun j => ?_⟩
    show decO σ (Tr.get m' j) = if j = k then none else decO σ (Tr.get m j)
    rw [Tr.get_set _ _ _ _ _ hs j]
    split <;> rfl
/-- a new block -/
theorem Hp.get_set {n : Nat} {m m' : Tr (List Value)} {r : List Value} (hs : Tr.set (some r) 64 m n = some m') (N : Nat) (k : Nat) : (⟨N, m'⟩ : Hp).get σ k = if k = n then dec σ r else (⟨n, m⟩ : Hp).get σ k := by
  show decO σ (Tr.get m' k) = if k = n then dec σ r else decO σ (Tr.get m k)
  rw [Tr.get_set _ _ _ _ _ hs k]
  split <;> rfl

/-! ### lists -/
theorem consO_some {v : Value} {x : Option (List Value)} {r : List Value} (h : consO v x = some r) : ∃ l, x = some l ∧ r = v :: l := by
  cases x with
  | none => simp [consO] at h
  | some l => simp only [consO, Option.some.injEq] at h; exact ⟨l, rfl, h.symm⟩
theorem cut0_spec : ∀ (l : List Value) (n : Nat) (r : List Value), cut0 l n = some r → n ≤ l.length ∧ r = l.take n := by
  intro l
  induction l with
  | nil =>
    intro n r h
    cases n with
    | zero => simp [cut0] at h; simp [h]
    | succ n => simp [cut0] at h
  | cons v l ih =>
    intro n r h
    cases n with
    | zero => simp [cut0] at h; simp [h]
    | succ n =>
      simp only [cut0] at h
      obtain ⟨l', h1, rfl⟩ := consO_some h
      obtain ⟨h2, rfl⟩ := ih n l' h1
      exact ⟨by simp; omega, by simp⟩
theorem skip_eq : ∀ (l : List Value) (o : Nat), skip l o = l.drop o := by
  intro l
  induction l with
  | nil => intro o; cases o <;> simp [skip]
  | cons v l ih => intro o; cases o <;> simp [skip, ih]
theorem lay0_spec : ∀ (l M r : List Value), lay0 l M = some r → M.length ≤ l.length ∧ r = M ++ l.drop M.length := by
  intro l
  induction l with
  | nil =>
    intro M r h
    cases M with
    | nil => simp [lay0] at h; simp [h]
    | cons m M => simp [lay0] at h
  | cons v l ih =>
    intro M r h
    cases M with
    | nil => simp [lay0] at h; simp [h]
    | cons m M =>
      simp only [lay0] at h
      obtain ⟨l', h1, rfl⟩ := consO_some h
      obtain ⟨h2, rfl⟩ := ih M l' h1
      exact ⟨by simp; omega, by simp⟩
theorem lay_spec : ∀ (l : List Value) (o : Nat) (M r : List Value), lay l o M = some r → o + M.length ≤ l.length ∧ r = l.take o ++ (M ++ l.drop (o + M.length)) := by
  intro l
  induction l with
  | nil =>
    intro o M r h
    cases o with
    | zero => simp only [lay] at h; obtain ⟨h1, rfl⟩ := lay0_spec _ _ _ h; exact ⟨by simpa using h1, by simp⟩
    | succ o => simp [lay] at h
  | cons v l ih =>
    intro o M r h
    cases o with
    | zero => simp only [lay] at h; obtain ⟨h1, rfl⟩ := lay0_spec _ _ _ h; exact ⟨by simpa using h1, by simp⟩
    | succ o =>
      simp only [lay] at h
      obtain ⟨l', h1, rfl⟩ := consO_some h
      obtain ⟨h2, rfl⟩ := ih o M l' h1
      refine ⟨by simp; omega, ?_⟩
      rw [show o + 1 + M.length = (o + M.length) + 1 by omega]
      simp

def All2 {α β : Type} (R : α → β → Prop) : List α → List β → Prop
  | [], [] => True
  | a :: l, b :: m => R a b ∧ All2 R l m
  | _, _ => False
section
variable {α β : Type} {R : α → β → Prop}
theorem All2.nil : All2 R [] [] := trivial
theorem All2.cons {a : α} {b : β} {l : List α} {m : List β} (h1 : R a b) (h2 : All2 R l m) : All2 R (a :: l) (b :: m) := ⟨h1, h2⟩
theorem All2.nilL {m : List β} (h : All2 R [] m) : m = [] := by cases m with | nil => rfl | cons b m => exact h.elim
theorem All2.consL {a : α} {l : List α} {m : List β} (h : All2 R (a :: l) m) : ∃ b m', m = b :: m' ∧ R a b ∧ All2 R l m' := by
  cases m with
  | nil => exact h.elim
  | cons b m => exact ⟨b, m, rfl, h.1, h.2⟩
theorem All2.ind {C : List α → List β → Prop} (nil : C [] []) (cons : ∀ a b l m, R a b → All2 R l m → C l m → C (a :: l) (b :: m)) : ∀ {l : List α} {m : List β}, All2 R l m → C l m := by
  intro l
  induction l with
  | nil => intro m h; rw [h.nilL]; exact nil
  | cons a l ih =>
    intro m h
    obtain ⟨b, m', rfl, h1, h2⟩ := h.consL
    exact cons a b l m' h1 h2 (ih h2)
end
theorem All2.length {α β : Type} {R : α → β → Prop} {l : List α} {m : List β} (h : All2 R l m) : l.length = m.length := by
  refine All2.ind (R := R) (C := fun l m => l.length = m.length) rfl ?_ h
  intro a b l m _ _ ih
  simp [ih]
theorem All2.mono {α β : Type} {R S : α → β → Prop} (hs : ∀ a b, R a b → S a b) {l : List α} {m : List β} (h : All2 R l m) : All2 S l m :=
  All2.ind (C := fun l m => All2 S l m) .nil (fun a b l m h1 _ ih => .cons (hs _ _ h1) ih) h
theorem All2.get {α β : Type} {R : α → β → Prop} {l : List α} {m : List β} (h : All2 R l m) : ∀ (i : Nat) (a : α), l[i]? = some a → ∃ b, m[i]? = some b ∧ R a b := by
  refine All2.ind (C := fun l m => ∀ (i : Nat) (a : α), l[i]? = some a → ∃ b, m[i]? = some b ∧ R a b) (fun i a h => by simp at h) ?_ h
  intro a b l m h1 _ ih i x h
  cases i with
  | zero => simp at h; subst h; exact ⟨_, rfl, h1⟩
  | succ i => simpa using ih i x (by simpa using h)
theorem All2.get' {α β : Type} {R : α → β → Prop} {l : List α} {m : List β} (h : All2 R l m) : ∀ (i : Nat) (b : β), m[i]? = some b → ∃ a, l[i]? = some a ∧ R a b := by
  refine All2.ind (C := fun l m => ∀ (i : Nat) (b : β), m[i]? = some b → ∃ a, l[i]? = some a ∧ R a b) (fun i a h => by simp at h) ?_ h
  intro a b l m h1 _ ih i x h
  cases i with
  | zero => simp at h; subst h; exact ⟨_, rfl, h1⟩
  | succ i => simpa using ih i x (by simpa using h)
theorem All2.append {α β : Type} {R : α → β → Prop} {l l' : List α} {m m' : List β} (h : All2 R l m) (h' : All2 R l' m') : All2 R (l ++ l') (m ++ m') :=
  All2.ind (C := fun l m => All2 R (l ++ l') (m ++ m')) h' (fun a b l m h1 _ ih => .cons h1 ih) h
theorem All2.of_get {α β : Type} {R : α → β → Prop} : ∀ (l : List α) (m : List β), l.length = m.length → (∀ (i : Nat) (a : α) (b : β), l[i]? = some a → m[i]? = some b → R a b) → All2 R l m := by
  intro l
  induction l with
  | nil => intro m h _; cases m with | nil => exact .nil | cons => simp at h
  | cons a l ih =>
    intro m h hr
    cases m with
    | nil => simp at h
    | cons b m => exact .cons (hr 0 a b rfl rfl) (ih m (by simpa using h) (fun i x y hx hy => hr (i + 1) x y (by simpa using hx) (by simpa using hy)))
theorem All2.take {α β : Type} {R : α → β → Prop} {l : List α} {m : List β} (h : All2 R l m) (n : Nat) : All2 R (l.take n) (m.take n) := by
  refine All2.ind (C := fun l m => ∀ n, All2 R (l.take n) (m.take n)) (fun n => by simp; exact .nil) ?_ h n
  intro a b l m h1 _ ih n
  cases n with
  | zero => simp; exact .nil
  | succ n => simpa using All2.cons h1 (ih n)
theorem All2.drop {α β : Type} {R : α → β → Prop} {l : List α} {m : List β} (h : All2 R l m) (n : Nat) : All2 R (l.drop n) (m.drop n) := by
  refine All2.ind (C := fun l m => ∀ n, All2 R (l.drop n) (m.drop n)) (fun n => by simp; exact .nil) ?_ h n
  intro a b l m h1 h2 ih n
  cases n with
  | zero => simpa using All2.cons h1 h2
  | succ n => simpa using ih n

/-! ### values -/
/-- where each block of the evaluator's memory lies -/
abbrev Im := Nat → Option (Nat × Nat × Nat)
def Im.le (ι κ : Im) : Prop := ∀ k x, ι k = some x → κ k = some x
theorem Im.le.refl (ι : Im) : ι.le ι := fun _ _ h => h
theorem Im.le.trans {ι κ μ : Im} (h : ι.le κ) (h' : κ.le μ) : ι.le μ := fun k x e => h' k x (h k x e)

/-- the capacities c and c' of a slice at place q of a block of z cells -/
def capRel (c c' q z : Nat) : Prop := (¬ big ≤ c → c' = c) ∧ (big ≤ c → c % big ≤ c' ∧ q + c' * (c / big - 1) ≤ z)

/-- the argument holds the data -/
def Va.isD (σ : Va) : Prop := ∃ b off cap C T f, σ.arg = .slice (some ⟨b, off, none⟩) σ.data.length cap ∧ σ.data.length ≤ cap ∧ cap ≤ maxLen ∧
  σ.old b = some (.cells C T f) ∧ ∀ i, i < σ.data.length → C[off + i]? = some (byteV (σ.data.getD i 0))
/-- what a token stands for -/
def TRel (σ : Va) (ι : Im) (t : Nat) (p u : Value) : Prop :=
  (∃ k e, kOf t = some k ∧ p = .tuple e ∧ 0 ≤ evL (decE e.toList) σ.xs ∧ evL (decE e.toList) σ.xs ≤ (maxOf k : Nat) ∧ u = .int k (evL (decE e.toList) σ.xs)) ∨
  (t = 3 ∧ ∃ n : Nat, n < 256 ∧ u = .int .u8 n) ∨
  ((t = 4 ∧ σ.isD ∨ t = 5 ∧ ∃ a c, σ.arg = .slice (some a) 0 c ∧ c ≤ maxLen) ∧ u = σ.arg) ∨
  (∃ k e a c, t = 2 * k + 6 ∧ p = .tuple e ∧ evL (decE e.toList) σ.xs = 0 ∧ c ≤ maxLen ∧ u = .slice a 0 c) ∨
  (∃ k e b q z c, t = 2 * k + 6 ∧ p = .tuple e ∧ evE σ e.toList ≠ 0 ∧ ι k = some (b, q, z) ∧ (Go.Proofs.YgcsanGreat.digs (evE σ e.toList)).length ≤ c ∧ (c ≤ maxLen ∧ (Go.Proofs.YgcsanGreat.digs (evE σ e.toList)).length ≤ 41) ∧
    u = .slice (some ⟨b, q, none⟩) (Go.Proofs.YgcsanGreat.digs (evE σ e.toList)).length c) ∨
  (∃ k e b q z c, t = 2 * k + 7 ∧ p = .tuple e ∧ 1 ≤ evE σ e.toList ∧ ι k = some (b, q, z) ∧ evE σ e.toList ≤ c ∧ c ≤ maxLen ∧ u = .slice (some ⟨b, q, none⟩) (evE σ e.toList) c)
theorem TRel.mono {ι κ : Im} (h : ι.le κ) {t : Nat} {p u : Value} (r : TRel σ ι t p u) : TRel σ κ t p u := by
  rcases r with r | r | r | r | ⟨k, e, b, q, z, c, h1, h2, h3, h4, r⟩ | ⟨k, e, b, q, z, c, h1, h2, h3, h4, r⟩
  · exact .inl r
  · exact .inr (.inl r)
  · exact .inr (.inr (.inl r))
  · exact .inr (.inr (.inr (.inl r)))
  · exact .inr (.inr (.inr (.inr (.inl ⟨k, e, b, q, z, c, h1, h2, h3, h _ _ h4, r⟩))))
  · exact .inr (.inr (.inr (.inr (.inr ⟨k, e, b, q, z, c, h1, h2, h3, h _ _ h4, r⟩))))
theorem TRel.one {ι : Im} {t : Nat} {p u : Value} (r : TRel σ ι t p u) : u.oneCell' = true := by
  rcases r with ⟨k, e, _, _, _, _, rfl⟩ | ⟨_, n, _, rfl⟩ | ⟨⟨_, b, off, cap, C, T, f, h, _⟩ | ⟨_, a, c, h, _⟩, rfl⟩ | ⟨k, e, a, c, _, _, _, _, rfl⟩ | ⟨k, e, b, q, z, c, _, _, _, _, _, _, rfl⟩ | ⟨k, e, b, q, z, c, _, _, _, _, _, _, rfl⟩
  · rfl
  · rfl
  · rw [h]; rfl
  · rw [h]; rfl
  · rfl
  · rfl
  · rfl

/-- one cell: a value that leads nowhere; a pointer; a slice; what is not known -/
def CRel (σ : Va) (ι : Im) (v u : Value) : Prop :=
  (constC v = true ∧ u = v) ∨ (∃ k o b p z, ι k = some (b, p, z) ∧ v = .pointer (some ⟨k, o, none⟩) ∧ u = .pointer (some ⟨b, p + o, none⟩)) ∨
  (∃ k o b p z l c c', ι k = some (b, p, z) ∧ capRel c c' (p + o) z ∧ v = .slice (some ⟨k, o, none⟩) l c ∧ u = .slice (some ⟨b, p + o, none⟩) l c') ∨
  ∃ t p, v = .iface t p ∧ TRel σ ι t p u
section
variable {ι : Im}
theorem CRel.const {v : Value} (h : constC v = true) : CRel σ ι v v := .inl ⟨h, rfl⟩
theorem CRel.bool (b : Bool) : CRel σ ι (.bool b) (.bool b) := .const rfl
theorem CRel.int (k : IntKind) (n : Int) : CRel σ ι (.int k n) (.int k n) := .const rfl
theorem CRel.string (s : ByteArray) : CRel σ ι (.string s) (.string s) := .const rfl
theorem CRel.nilp : CRel σ ι (.pointer none) (.pointer none) := .const rfl
theorem CRel.nils (l c : Nat) : CRel σ ι (.slice none l c) (.slice none l c) := .const rfl
theorem CRel.ptr {k o b p z : Nat} (h : ι k = some (b, p, z)) : CRel σ ι (.pointer (some ⟨k, o, none⟩)) (.pointer (some ⟨b, p + o, none⟩)) := .inr (.inl ⟨k, o, b, p, z, h, rfl, rfl⟩)
theorem CRel.slc {k o b p z l c c' : Nat} (h : ι k = some (b, p, z)) (hc : capRel c c' (p + o) z) : CRel σ ι (.slice (some ⟨k, o, none⟩) l c) (.slice (some ⟨b, p + o, none⟩) l c') := .inr (.inr (.inl ⟨k, o, b, p, z, l, c, c', h, hc, rfl, rfl⟩))
theorem CRel.tok {t : Nat} {p u : Value} (h : TRel σ ι t p u) : CRel σ ι (.iface t p) u := .inr (.inr (.inr ⟨t, p, rfl, h⟩))
theorem CRel.mono {κ : Im} (h : ι.le κ) {v u : Value} (r : CRel σ ι v u) : CRel σ κ v u := by
  rcases r with r | ⟨k, o, b, p, z, e, r⟩ | ⟨k, o, b, p, z, l, c, c', e, r⟩ | ⟨t, p, e, r⟩
  · exact .inl r
  · exact .inr (.inl ⟨k, o, b, p, z, h _ _ e, r⟩)
  · exact .inr (.inr (.inl ⟨k, o, b, p, z, l, c, c', h _ _ e, r⟩))
  · exact .inr (.inr (.inr ⟨t, p, e, r.mono h⟩))
theorem CRel.one {v u : Value} (r : CRel σ ι v u) : u.oneCell' = true := by
  rcases r with ⟨r, rfl⟩ | ⟨k, o, b, p, z, e, _, rfl⟩ | ⟨k, o, b, p, z, l, c, c', e, _, _, rfl⟩ | ⟨t, p, _, r⟩
  · cases u <;> first | rfl | simp [constC] at r
  · rfl
  · rfl
  · exact r.one
/-- what has a cell's relation is a cell's value -/
theorem CRel.oneV {v u : Value} (r : CRel σ ι v u) : oneV v = true := by
  rcases r with ⟨r, rfl⟩ | ⟨k, o, b, p, z, e, rfl, rfl⟩ | ⟨k, o, b, p, z, l, c, c', e, _, rfl, rfl⟩ | ⟨t, p, rfl, r⟩
  · cases u <;> first | rfl | simp [constC] at r
  · rfl
  · rfl
  · rfl

/-- cells, structs and arrays; an unknown value (the nil channel); no value -/
def WRel (σ : Va) (ι : Im) (v u : Value) : Prop :=
  v = .chan none ∨ (v = Go.undef ∧ u = Go.undef) ∨ CRel σ ι v u ∨ ∃ l m, All2 (CRel σ ι) l m ∧ v = .agg l.toArray ∧ u = .agg m.toArray
def VRel (σ : Va) (ι : Im) (v u : Value) : Prop := WRel σ ι v u ∨ ∃ l m, All2 (WRel σ ι) l m ∧ v = .tuple l.toArray ∧ u = .tuple m.toArray
theorem WRel.top (u : Value) : WRel σ ι (.chan none) u := .inl rfl
theorem WRel.undef : WRel σ ι Go.undef Go.undef := .inr (.inl ⟨rfl, rfl⟩)
theorem WRel.cell {v u : Value} (h : CRel σ ι v u) : WRel σ ι v u := .inr (.inr (.inl h))
theorem WRel.agg {l m : List Value} (h : All2 (CRel σ ι) l m) : WRel σ ι (.agg l.toArray) (.agg m.toArray) := .inr (.inr (.inr ⟨l, m, h, rfl, rfl⟩))
theorem VRel.one {v u : Value} (h : WRel σ ι v u) : VRel σ ι v u := .inl h
theorem VRel.tuple {l m : List Value} (h : All2 (WRel σ ι) l m) : VRel σ ι (.tuple l.toArray) (.tuple m.toArray) := .inr ⟨l, m, h, rfl, rfl⟩
theorem WRel.mono {κ : Im} (h : ι.le κ) {v u : Value} (r : WRel σ ι v u) : WRel σ κ v u := by
  rcases r with r | r | r | ⟨l, m, r, e⟩
  · exact .inl r
  · exact .inr (.inl r)
  · exact .inr (.inr (.inl (r.mono h)))
  · exact .inr (.inr (.inr ⟨l, m, r.mono fun _ _ => CRel.mono h, e⟩))
theorem VRel.mono {κ : Im} (h : ι.le κ) {v u : Value} (r : VRel σ ι v u) : VRel σ κ v u := by
  rcases r with r | ⟨l, m, r, e⟩
  · exact .inl (r.mono h)
  · exact .inr ⟨l, m, r.mono fun _ _ => WRel.mono h, e⟩
theorem VRel.top (u : Value) : VRel σ ι (.chan none) u := .one (.top u)
theorem VRel.undef : VRel σ ι Go.undef Go.undef := .one .undef
theorem VRel.cell {v u : Value} (h : CRel σ ι v u) : VRel σ ι v u := .one (.cell h)
theorem VRel.agg {l m : List Value} (h : All2 (CRel σ ι) l m) : VRel σ ι (.agg l.toArray) (.agg m.toArray) := .one (.agg h)
end

/-! ### memories -/
/-- The world w bears the memory h, laid by ι; from block n0 on. -/
structure HRel (σ : Va) (n0 : Nat) (ι : Im) (h : Hp) (w : World) : Prop where
  base : n0 ≤ w.heap.size
  low : ∀ k b p z, ι k = some (b, p, z) → n0 ≤ b
  dom : ∀ k x, ι k = some x → k < h.next
  img : ∀ k b p z, ι k = some (b, p, z) → b < w.heap.size
  live : ∀ k l, h.get σ k = some l → ∃ b p C T, ι k = some (b, p, C.size) ∧ w.heap[b]? = some (.cells C T (0, 0)) ∧ ∀ i v, l[i]? = some v → ∃ u, C[p + i]? = some u ∧ CRel σ ι v u
  inj : ∀ k k' b p p' z z', (h.get σ k).isSome → (h.get σ k').isSome → ι k = some (b, p, z) → ι k' = some (b, p', z') → k = k'
  old : ∀ b o, σ.old b = some o → b < n0 ∧ w.heap[b]? = some o

structure Ext (ι : Im) (h : Hp) (w : World) (ι' : Im) (h' : Hp) (w' : World) : Prop where
  le : ι.le ι'
  next : h.next ≤ h'.next
  size : w.heap.size ≤ w'.heap.size
  frame : ∀ b, b < w.heap.size → (∀ k p z, ι k ≠ some (b, p, z)) → w'.heap[b]? = w.heap[b]?
  img : ∀ k b p z, ι' k = some (b, p, z) → b < w.heap.size → ∃ k0 p0 z0, ι k0 = some (b, p0, z0)
  os : w'.os = w.os
  tape : w'.tape = w.tape
  output : w'.output = w.output

theorem Ext.refl (ι : Im) (h : Hp) (w : World) : Ext ι h w ι h w :=
  ⟨.refl ι, Nat.le_refl _, Nat.le_refl _, fun _ _ _ => rfl, fun k b p z e _ => ⟨k, p, z, e⟩, rfl, rfl, rfl⟩
theorem Ext.trans {ι ι' ι'' : Im} {h h' h'' : Hp} {w w' w'' : World} (a : Ext ι h w ι' h' w') (b : Ext ι' h' w' ι'' h'' w'') : Ext ι h w ι'' h'' w'' := by
  refine ⟨a.le.trans b.le, Nat.le_trans a.next b.next, Nat.le_trans a.size b.size, ?_, ?_, b.os.trans a.os, b.tape.trans a.tape, b.output.trans a.output⟩
  · intro x hx hn
    rw [b.frame x (Nat.lt_of_lt_of_le hx a.size) (fun k p z e => by
      obtain ⟨k0, p0, z0, e0⟩ := a.img k x p z e hx
      exact hn k0 p0 z0 e0), a.frame x hx hn]
  · intro k x p z e hx
    obtain ⟨k1, p1, z1, e1⟩ := b.img k x p z e (Nat.lt_of_lt_of_le hx a.size)
    exact a.img k1 x p1 z1 e1 hx

theorem HRel.drew {n0 : Nat} {ι : Im} {h : Hp} {w : World} (H : HRel σ n0 ι h w) (d : Nat) : HRel σ n0 ι h { w with drawn := d } :=
  ⟨H.base, H.low, H.dom, H.img, H.live, H.inj, H.old⟩
theorem Ext.drew (ι : Im) (h : Hp) (w : World) (d : Nat) : Ext ι h w ι h { w with drawn := d } :=
  ⟨.refl ι, Nat.le_refl _, Nat.le_refl _, fun _ _ _ => rfl, fun k b p z e _ => ⟨k, p, z, e⟩, rfl, rfl, rfl⟩

theorem addr_add (b o n : Nat) : (⟨b, o, none⟩ : Addr).add n = ⟨b, o + n, none⟩ := by
  unfold Addr.add
  split
  · rename_i e; subst e; simp
  · rfl

theorem Hp.read_some {h : Hp} {a : Addr} {n : Nat} {l : List Value} (hr : h.read a n = some l) : ∃ k o L, a = ⟨k, o, none⟩ ∧ h.get σ k = some L ∧ n ≤ L.length - o ∧ l = (L.drop o).take n := by
  obtain ⟨k, o, spot⟩ := a
  cases spot with
  | some s => simp [Hp.read] at hr
  | none =>
    simp only [Hp.read] at hr
    cases hk : h.raw k with
    | none => rw [hk] at hr; simp [readL] at hr
    | some r =>
      rw [hk] at hr
      simp only [readL] at hr
      have hget : h.get σ k = dec σ r := by unfold Hp.get; rw [hk]; rfl
      cases hq : isSym r with
      | some q => rw [hq] at hr; simp at hr
      | none =>
      rw [hq] at hr
      simp only at hr
      cases hi : isRep r with
      | none =>
        rw [hi] at hr
        simp only [readRow, skip_eq] at hr
        obtain ⟨h1, rfl⟩ := cut0_spec _ _ _ hr
        rw [dec_plain hi hq] at hget
        exact ⟨k, o, _, rfl, hget, by simpa using h1, rfl⟩
      | some nv =>
        obtain ⟨N, v⟩ := nv
        rw [hi] at hr
        simp only [readRow] at hr
        cases hb : (Nat.ble (Nat.add o n) N && Nat.ble n 4096) with
        | false => rw [hb] at hr; simp at hr
        | true =>
          rw [hb] at hr
          injection hr with hr
          subst hr
          simp only [Bool.and_eq_true] at hb
          have h1 : o + n ≤ N := Nat.le_of_ble_eq_true hb.1
          rw [dec_rep hi] at hget
          refine ⟨k, o, _, rfl, hget, by simp; omega, ?_⟩
          simp only [List.drop_replicate, List.take_replicate]
          congr 1
          omega

theorem HRel.readSem {n0 : Nat} {ι : Im} {h : Hp} {w : World} (H : HRel σ n0 ι h w) {k o n : Nat} {L : List Value} (hk : h.get σ k = some L) (h1 : n ≤ L.length - o) :
    ∃ b p z, ι k = some (b, p, z) ∧ ∃ m, All2 (CRel σ ι) ((L.drop o).take n) m ∧ m.length = n ∧ ∀ j v, m[j]? = some v → w.cell? ((⟨b, p + o, none⟩ : Addr).add j) = some v := by
  obtain ⟨b, p, C, T, hi, hb, hc⟩ := H.live k L hk
  refine ⟨b, p, _, hi, ((C.toList.drop (p + o)).take n), ?_, ?_, ?_⟩
  · by_cases hn : n = 0
    · subst hn; simp; exact .nil
    apply All2.of_get
    · have : o + (n - 1) < L.length := by omega
      obtain ⟨u, hu, _⟩ := hc (o + (n - 1)) (L[o + (n - 1)]) (by simp [this])
      have hlt : p + (o + (n - 1)) < C.size := (Array.getElem?_eq_some_iff.1 hu).1
      simp; omega
    · intro i x y hx hy
      have hin : i < n := by
        have := (List.getElem?_eq_some_iff.1 hx).1
        simp at this; omega
      have ex : L[o + i]? = some x := by
        rw [← hx, List.getElem?_take_of_lt hin, List.getElem?_drop]
      obtain ⟨u, hu, hr⟩ := hc (o + i) x ex
      have ey : C[p + (o + i)]? = some y := by
        rw [← hy, List.getElem?_take_of_lt hin, List.getElem?_drop, Array.getElem?_toList]
        congr 1; omega
      rw [hu] at ey
      injection ey with ey
      exact ey ▸ hr
  · by_cases hn : n = 0
    · subst hn; simp
    have : o + (n - 1) < L.length := by omega
    obtain ⟨u, hu, _⟩ := hc (o + (n - 1)) (L[o + (n - 1)]) (by simp [this])
    have hlt : p + (o + (n - 1)) < C.size := (Array.getElem?_eq_some_iff.1 hu).1
    simp; omega
  · intro j v hj
    have hin : j < n := by
      have := (List.getElem?_eq_some_iff.1 hj).1
      simp at this; omega
    rw [List.getElem?_take_of_lt hin, List.getElem?_drop, Array.getElem?_toList] at hj
    rw [addr_add]
    simp only [World.cell?, hb]
    simpa using hj
theorem HRel.read {n0 : Nat} {ι : Im} {h : Hp} {w : World} (H : HRel σ n0 ι h w) {a : Addr} {n : Nat} {l : List Value} (hr : h.read a n = some l) :
    ∃ k o b p z, a = ⟨k, o, none⟩ ∧ (h.get σ k).isSome ∧ ι k = some (b, p, z) ∧ ∃ m, All2 (CRel σ ι) l m ∧ m.length = n ∧ ∀ j v, m[j]? = some v → w.cell? ((⟨b, p + o, none⟩ : Addr).add j) = some v := by
  obtain ⟨k, o, L, rfl, hk, h1, rfl⟩ := Hp.read_some hr
  obtain ⟨b, p, z, hi, rest⟩ := H.readSem hk h1
  exact ⟨k, o, b, p, z, rfl, by rw [hk]; rfl, hi, rest⟩

theorem Hp.write_some {h h' : Hp} {a : Addr} {M : List Value} (hw : h.write a M = some h') : ∃ k o L, a = ⟨k, o, none⟩ ∧ h.get σ k = some L ∧ h'.next = h.next ∧
    ((M = [] ∧ ∀ m, h'.get σ m = h.get σ m) ∨ ∃ L', lay L o M = some L' ∧ ∀ m, h'.get σ m = if m = k then some L' else h.get σ m) := by
  obtain ⟨k, o, spot⟩ := a
  cases spot with
  | some s => simp [Hp.write] at hw
  | none =>
    simp only [Hp.write] at hw
    cases hk : h.raw k with
    | none => rw [hk] at hw; simp [Hp.writeL] at hw
    | some r =>
      rw [hk] at hw
      simp only [Hp.writeL] at hw
      have hget : h.get σ k = dec σ r := by unfold Hp.get; rw [hk]; rfl
      cases hq : isSym r with
      | some q => rw [hq] at hw; simp at hw
      | none =>
      rw [hq] at hw
      simp only at hw
      cases hi : isRep r with
      | some nv =>
        obtain ⟨N, v⟩ := nv
        rw [dec_rep hi] at hget
        rw [hi] at hw
        cases M with
        | cons x M => simp [Hp.writeRow] at hw
        | nil =>
          simp only [Hp.writeRow, Option.some.injEq] at hw
          subst hw
          exact ⟨k, o, _, rfl, hget, rfl, .inl ⟨rfl, fun _ => rfl⟩⟩
      | none =>
        rw [dec_plain hi hq] at hget
        rw [hi] at hw
        simp only [Hp.writeRow] at hw
        cases hl : lay r o M with
        | none => rw [hl] at hw; simp [Hp.putO] at hw
        | some L' =>
          rw [hl] at hw
          simp only [Hp.putO] at hw
          cases hi2 : isRep L' with
          | some nv => rw [hi2] at hw; simp at hw
          | none =>
            rw [hi2] at hw
            cases hq2 : isSym L' with
            | some q => rw [hq2] at hw; simp at hw
            | none =>
            rw [hq2] at hw
            obtain ⟨hn, hg⟩ := Hp.get_put (σ := σ) hw
            rw [dec_plain hi2 hq2] at hg
            exact ⟨k, o, _, rfl, hget, hn, .inr ⟨L', hl, hg⟩⟩

theorem HRel.same {n0 : Nat} {ι : Im} {h h' : Hp} {w : World} (H : HRel σ n0 ι h w) (hn : h'.next = h.next) (hg' : ∀ m, h'.get σ m = h.get σ m) : HRel σ n0 ι h' w ∧ Ext ι h w ι h' w :=
  ⟨⟨H.base, H.low, fun k x e => hn ▸ H.dom k x e, H.img, fun k l e => H.live k l (by rw [← hg']; exact e), fun k k' b p p' z z' a1 a2 => H.inj k k' b p p' z z' (by rw [← hg']; exact a1) (by rw [← hg']; exact a2), H.old⟩,
    ⟨.refl ι, Nat.le_of_eq hn.symm, Nat.le_refl _, fun _ _ _ => rfl, fun k b p z e _ => ⟨k, p, z, e⟩, rfl, rfl, rfl⟩⟩

theorem HRel.writeSem {P : Program} {n0 : Nat} {ι : Im} {h h' : Hp} {w : World} (H : HRel σ n0 ι h w) {k o : Nat} {L L' M M' : List Value} (hk : h.get σ k = some L) (hl : lay L o M = some L') (hn : h'.next = h.next)
    (hg : ∀ m, h'.get σ m = if m = k then some L' else h.get σ m) (hM : All2 (CRel σ ι) M M') :
    ∃ b p z, ι k = some (b, p, z) ∧ ∃ w', (storeCells ⟨b, p + o, none⟩ M').run P w = .ok () w' ∧ HRel σ n0 ι h' w' ∧ Ext ι h w ι h' w' := by
  obtain ⟨h1, rfl⟩ := lay_spec _ _ _ _ hl
  obtain ⟨b, p, C, T, hi, hb, hc⟩ := H.live k L hk
  refine ⟨b, p, _, hi, ?_⟩
  by_cases hz : M.length = 0
  · have e1 : M = [] := List.eq_nil_of_length_eq_zero hz
    subst e1
    have e0 := hM.nilL
    subst e0
    have hg' : ∀ m, h'.get σ m = h.get σ m := by
      intro m
      rw [hg m]
      split
      · rename_i e; subst e; rw [hk]; simp
      · rfl
    refine ⟨w, rfl, ⟨H.base, H.low, fun k x e => hn ▸ H.dom k x e, H.img, fun k l e => H.live k l (by rw [← hg']; exact e), fun k k' b p p' z z' a1 a2 => H.inj k k' b p p' z z' (by rw [← hg']; exact a1) (by rw [← hg']; exact a2), H.old⟩, ?_⟩
    exact ⟨.refl ι, Nat.le_of_eq hn.symm, Nat.le_refl _, fun _ _ _ => rfl, fun k b p z e _ => ⟨k, p, z, e⟩, rfl, rfl, rfl⟩
  have hfit : p + o + 0 + M'.length ≤ C.size := by
    rw [← hM.length]
    have : o + (M.length - 1) < L.length := by omega
    obtain ⟨u, hu, _⟩ := hc (o + (M.length - 1)) (L[o + (M.length - 1)]) (by simp [this])
    have hlt : p + (o + (M.length - 1)) < C.size := (Array.getElem?_eq_some_iff.1 hu).1
    omega
  have hrun := run_storeCells_at (P := P) b (p + o) T M' 0 C w hb hfit (fun v hv => by
    obtain ⟨i, hi', hv'⟩ := List.getElem_of_mem hv
    obtain ⟨x, _, r⟩ := hM.get' i v (by rw [List.getElem?_eq_getElem hi', hv'])
    exact r.one)
  simp only [Nat.add_zero] at hrun hfit
  refine ⟨_, hrun, ?_, ?_⟩
  · have hb' := setRow_heap w b C (C.toList.take (p + o) ++ M' ++ C.toList.drop (p + o + M'.length)).toArray T (0, 0) hb
    refine ⟨by simpa using H.base, H.low, fun k x e => hn ▸ H.dom k x e, fun k b p z e => by simpa using H.img k b p z e, ?_, ?_, fun x o e => ⟨(H.old x o e).1, by
      rw [setRow_other w b x _ (fun h => by have := H.low k b p _ hi; have := (H.old x o e).1; omega)]; exact (H.old x o e).2⟩⟩
    · intro k2 l2 e2
      rw [hg k2] at e2
      by_cases hk2 : k2 = k
      · subst hk2
        rw [if_pos rfl] at e2
        injection e2 with e2
        subst e2
        refine ⟨b, p, _, T, by rw [hi]; congr 3; simp; omega, hb', ?_⟩
        intro i v hv
        have hML := hM.length
        by_cases c1 : i < o
        · have : L[i]? = some v := by
            rw [← hv, List.getElem?_append_left (by simp; omega)]
            simp [c1]
          obtain ⟨u, hu, hr⟩ := hc i v this
          have hlt := (Array.getElem?_eq_some_iff.1 hu).1
          refine ⟨u, ?_, hr⟩
          rw [← hu, List.getElem?_toArray, List.getElem?_append_left (by simp; omega), List.getElem?_append_left (by simp; omega)]
          simp [show p + i < p + o by omega]
        · by_cases c2 : i < o + M.length
          · have : M[i - o]? = some v := by
              rw [← hv, List.getElem?_append_right (by simp; omega), List.getElem?_append_left (by simp; omega)]
              congr 1; simp; omega
            obtain ⟨u, hu, hr⟩ := hM.get (i - o) v this
            refine ⟨u, ?_, hr⟩
            rw [← hu, List.getElem?_toArray, List.getElem?_append_left (by simp; omega), List.getElem?_append_right (by simp; omega)]
            congr 1; simp; omega
          · have : L[i]? = some v := by
              rw [← hv, List.getElem?_append_right (by simp; omega), List.getElem?_append_right (by simp; omega)]
              simp only [List.getElem?_drop]
              congr 1; simp; omega
            obtain ⟨u, hu, hr⟩ := hc i v this
            refine ⟨u, ?_, hr⟩
            rw [← hu, List.getElem?_toArray, List.getElem?_append_right (by simp; omega)]
            simp only [List.getElem?_drop, Array.getElem?_toList]
            congr 1; simp; omega
      · rw [if_neg hk2] at e2
        obtain ⟨b2, p2, C2, T2, hi2, hb2, hc2⟩ := H.live k2 l2 e2
        have hne : b2 ≠ b := fun e => hk2 (H.inj k2 k b p2 p _ _ (by rw [e2]; rfl) (by rw [hk]; rfl) (e ▸ hi2) hi)
        exact ⟨b2, p2, C2, T2, hi2, by rw [setRow_other w b b2 _ hne]; exact hb2, hc2⟩
    · intro k1 k2 b1 p1 p2 z1 z2 a1 a2
      refine H.inj k1 k2 b1 p1 p2 z1 z2 ?_ ?_
      · rw [hg] at a1; split at a1
        · rename_i e; rw [e, hk]; rfl
        · exact a1
      · rw [hg] at a2; split at a2
        · rename_i e; rw [e, hk]; rfl
        · exact a2
  · refine ⟨.refl ι, Nat.le_of_eq hn.symm, by simp, ?_, fun k b p z e _ => ⟨k, p, z, e⟩, rfl, rfl, rfl⟩
    intro x hx hnx
    exact setRow_other w b x _ (fun e => hnx k p _ (e ▸ hi))

theorem HRel.write {P : Program} {n0 : Nat} {ι : Im} {h h' : Hp} {w : World} (H : HRel σ n0 ι h w) {a : Addr} {M M' : List Value} (hw : h.write a M = some h') (hM : All2 (CRel σ ι) M M') :
    ∃ k o b p z, a = ⟨k, o, none⟩ ∧ ι k = some (b, p, z) ∧ ∃ w', (storeCells ⟨b, p + o, none⟩ M').run P w = .ok () w' ∧ HRel σ n0 ι h' w' ∧ Ext ι h w ι h' w' := by
  obtain ⟨k, o, L, rfl, hk, hn, hor⟩ := Hp.write_some hw
  rcases hor with ⟨rfl, hg⟩ | ⟨L', hl, hg⟩
  · have e0 := hM.nilL
    subst e0
    obtain ⟨b, p, C, T, hi, _⟩ := H.live k L hk
    obtain ⟨H', E⟩ := H.same hn hg
    exact ⟨k, o, b, p, _, rfl, hi, w, rfl, H', E⟩
  · obtain ⟨b, p, z, hi, rest⟩ := H.writeSem (P := P) hk hl hn hg hM
    exact ⟨k, o, b, p, z, rfl, hi, rest⟩

/-- A new block. -/
def Im.up (ι : Im) (k : Nat) (x : Nat × Nat × Nat) : Im := fun j => if j = k then some x else ι j
theorem Im.le_up {ι : Im} {k : Nat} (h : ι k = none) (x : Nat × Nat × Nat) : ι.le (ι.up k x) := by
  intro j y e
  unfold Im.up
  split
  · rename_i h'; subst h'; rw [h] at e; cases e
  · exact e
theorem Im.up_self (ι : Im) (k : Nat) (x : Nat × Nat × Nat) : ι.up k x k = some x := by simp [Im.up]
theorem Im.up_ne (ι : Im) {j k : Nat} (h : j ≠ k) (x : Nat × Nat × Nat) : ι.up k x j = ι j := by simp [Im.up, h]
theorem HRel.unlaid {n0 : Nat} {ι : Im} {h : Hp} {w : World} (H : HRel σ n0 ι h w) {k : Nat} (hk : h.next ≤ k) : ι k = none := by
  cases e : ι k with
  | none => rfl
  | some x => have := H.dom k x e; omega

theorem HRel.new {n0 : Nat} {ι : Im} {n : Nat} {m m' : Tr (List Value)} {w : World} (H : HRel σ n0 ι ⟨n, m⟩ w) {r l l' rest : List Value} (hs : Tr.set (some r) 64 m n = some m') (hdec : dec σ r = some l)
    (hl : All2 (CRel σ ι) l l') (T : TypeId) :
    HRel σ n0 (ι.up n (w.heap.size, 0, (l' ++ rest).length)) ⟨n + 1, m'⟩ (w.alloc (.cells (l' ++ rest).toArray T)) ∧ Ext ι ⟨n, m⟩ w (ι.up n (w.heap.size, 0, (l' ++ rest).length)) ⟨n + 1, m'⟩ (w.alloc (.cells (l' ++ rest).toArray T)) := by
  have hn : ι n = none := H.unlaid (Nat.le_refl _)
  have hle := Im.le_up hn (w.heap.size, 0, (l' ++ rest).length)
  have hsz : (w.alloc (.cells (l' ++ rest).toArray T)).heap.size = w.heap.size + 1 := by show (w.heap.push _).size = _; simp
  have hold : ∀ b, b < w.heap.size → (w.alloc (.cells (l' ++ rest).toArray T)).heap[b]? = w.heap[b]? := by
    intro b hb
    show (w.heap.push _)[b]? = _
    rw [Array.getElem?_push, if_neg (by omega)]
  have hnew : (w.alloc (.cells (l' ++ rest).toArray T)).heap[w.heap.size]? = some (.cells (l' ++ rest).toArray T (0, 0)) := by show (w.heap.push _)[w.heap.size]? = _; simp
  have hget : ∀ k, (⟨n + 1, m'⟩ : Hp).get σ k = if k = n then some l else (⟨n, m⟩ : Hp).get σ k := fun k => by rw [← hdec]; exact Hp.get_set hs _ k
  refine ⟨⟨by rw [hsz]; have := H.base; omega, ?_, ?_, ?_, ?_, ?_, fun x o e => ⟨(H.old x o e).1, by rw [hold x (by have := (H.old x o e).1; have := H.base; omega)]; exact (H.old x o e).2⟩⟩, ⟨hle, Nat.le_succ _, by rw [hsz]; omega, fun b hb _ => hold b hb, ?_, rfl, rfl, rfl⟩⟩
  · intro k b p z e
    by_cases hk : k = n
    · subst hk; rw [Im.up_self] at e; injection e with e; injection e with e1 e2; subst e1; exact H.base
    · rw [Im.up_ne _ hk] at e; exact H.low k b p z e
  · intro k x e
    by_cases hk : k = n
    · subst hk; exact Nat.lt_succ_self _
    · rw [Im.up_ne _ hk] at e; have := H.dom k x e; simp at this ⊢; omega
  · intro k b p z e
    rw [hsz]
    by_cases hk : k = n
    · subst hk; rw [Im.up_self] at e; injection e with e; injection e with e1 e2; omega
    · rw [Im.up_ne _ hk] at e; have := H.img k b p z e; omega
  · intro k l2 e
    rw [hget] at e
    by_cases hk : k = n
    · subst hk
      rw [if_pos rfl] at e
      injection e with e
      subst e
      refine ⟨w.heap.size, 0, _, T, by rw [Im.up_self]; simp, hnew, ?_⟩
      intro i v hv
      obtain ⟨u, hu, hr⟩ := hl.get i v hv
      refine ⟨u, ?_, hr.mono hle⟩
      have := (List.getElem?_eq_some_iff.1 hu).1
      rw [Nat.zero_add, List.getElem?_toArray, List.getElem?_append_left this]
      exact hu
    · rw [if_neg hk] at e
      obtain ⟨b, p, C, T', hi, hb, hc⟩ := H.live k l2 e
      refine ⟨b, p, C, T', by rw [Im.up_ne _ hk]; exact hi, by rw [hold b (H.img k b p _ hi)]; exact hb, ?_⟩
      intro i v hv
      obtain ⟨u, hu, hr⟩ := hc i v hv
      exact ⟨u, hu, hr.mono hle⟩
  · intro k k' b p p' z z' a1 a2 e1 e2
    by_cases hk : k = n
    · by_cases hk' : k' = n
      · rw [hk, hk']
      · subst hk
        rw [Im.up_self] at e1; injection e1 with e1; injection e1 with e1 _
        rw [Im.up_ne _ hk'] at e2
        have := H.img _ _ _ _ e2; omega
    · by_cases hk' : k' = n
      · subst hk'
        rw [Im.up_self] at e2; injection e2 with e2; injection e2 with e2 _
        rw [Im.up_ne _ hk] at e1
        have := H.img _ _ _ _ e1; omega
      · rw [Im.up_ne _ hk] at e1
        rw [Im.up_ne _ hk'] at e2
        rw [hget, if_neg hk] at a1
        rw [hget, if_neg hk'] at a2
        exact H.inj k k' b p p' z z' a1 a2 e1 e2
  · intro k b p z e hb
    by_cases hk : k = n
    · subst hk; rw [Im.up_self] at e; injection e with e; injection e with e1 e2; omega
    · rw [Im.up_ne _ hk] at e; exact ⟨k, p, z, e⟩

/-- A block is given up. -/
theorem HRel.kill {n0 : Nat} {ι : Im} {h h' : Hp} {w : World} (H : HRel σ n0 ι h w) {k : Nat} (e : h.kill k = some h') : HRel σ n0 ι h' w ∧ Ext ι h w ι h' w := by
  obtain ⟨hn, hg⟩ := Hp.get_kill (σ := σ) e
  refine ⟨⟨H.base, H.low, fun j x e => hn ▸ H.dom j x e, H.img, ?_, ?_, H.old⟩, ⟨.refl ι, Nat.le_of_eq hn.symm, Nat.le_refl _, fun _ _ _ => rfl, fun k b p z e _ => ⟨k, p, z, e⟩, rfl, rfl, rfl⟩⟩
  · intro j l e
    rw [hg] at e
    split at e
    · cases e
    · exact H.live j l e
  · intro k1 k2 b p p' z z' a1 a2
    refine H.inj k1 k2 b p p' z z' ?_ ?_
    · rw [hg] at a1; split at a1
      · simp at a1
      · exact a1
    · rw [hg] at a2; split at a2
      · simp at a2
      · exact a2
end Go.Jv
