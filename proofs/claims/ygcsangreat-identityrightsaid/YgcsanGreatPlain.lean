/-
  Plain arithmetic: digits and limbs to a base, least first; no Go in sight.
-/
namespace Go.Proofs.YgcsanGreat
set_option linter.unusedSimpArgs false
set_option linter.unusedVariables false

def W64 : Nat := 18446744073709551616
theorem W64_eq : W64 = 18446744073709551616 := rfl

/-- the number that the digits make to the base B, the least first -/
def val (B : Nat) : List Nat → Nat
  | [] => 0
  | d :: l => d + B * val B l

/-- all digits are below B -/
def Dg (B : Nat) (l : List Nat) : Prop := ∀ d ∈ l, d < B

theorem Dg.nil (B : Nat) : Dg B [] := fun _ h => by cases h
theorem Dg.cons {B d : Nat} {l : List Nat} (h : d < B) (hl : Dg B l) : Dg B (d :: l) := fun x hx => by
  rcases List.mem_cons.1 hx with rfl | hx
  · exact h
  · exact hl x hx
theorem Dg.head {B d : Nat} {l : List Nat} (h : Dg B (d :: l)) : d < B := h d (List.mem_cons_self)
theorem Dg.tail {B d : Nat} {l : List Nat} (h : Dg B (d :: l)) : Dg B l := fun x hx => h x (List.mem_cons_of_mem _ hx)
theorem Dg.getD {B : Nat} {l : List Nat} (h : Dg B l) (hB : 0 < B) (i : Nat) : l.getD i 0 < B := by
  by_cases hi : i < l.length
  · have e : l.getD i 0 = l[i] := by simp [List.getD, hi]
    rw [e]; exact h _ (List.getElem_mem hi)
  · have e : l.getD i 0 = 0 := by simp [List.getD, Nat.le_of_not_lt hi]
    rw [e]; exact hB
theorem Dg.set {B : Nat} {l : List Nat} (h : Dg B l) (i v : Nat) (hv : v < B) : Dg B (l.set i v) := fun x hx => by
  rcases List.mem_or_eq_of_mem_set hx with hx | rfl
  · exact h x hx
  · exact hv
theorem Dg.take {B : Nat} {l : List Nat} (h : Dg B l) (n : Nat) : Dg B (l.take n) := fun x hx => h x (List.mem_of_mem_take hx)
theorem Dg.drop {B : Nat} {l : List Nat} (h : Dg B l) (n : Nat) : Dg B (l.drop n) := fun x hx => h x (List.mem_of_mem_drop hx)
theorem Dg.append {B : Nat} {l m : List Nat} (h : Dg B l) (k : Dg B m) : Dg B (l ++ m) := fun x hx => by
  rcases List.mem_append.1 hx with hx | hx
  · exact h x hx
  · exact k x hx
theorem Dg.replicate {B : Nat} (hB : 0 < B) (n : Nat) : Dg B (List.replicate n 0) := fun x hx => by
  have := (List.mem_replicate.1 hx).2
  omega

theorem val_append (B : Nat) (l m : List Nat) : val B (l ++ m) = val B l + B ^ l.length * val B m := by
  induction l with
  | nil => simp [val]
  | cons d l ih =>
    simp only [List.cons_append, val, ih, List.length_cons, Nat.pow_succ]
    rw [Nat.mul_add, ← Nat.mul_assoc, Nat.mul_comm B (B ^ l.length)]
    omega

theorem val_lt {B : Nat} {l : List Nat} (h : Dg B l) : val B l < B ^ l.length := by
  induction l with
  | nil => simp [val]
  | cons d l ih =>
    have h1 := h.head
    have h2 := ih h.tail
    simp only [val, List.length_cons, Nat.pow_succ]
    have h3 : B * (val B l + 1) ≤ B * B ^ l.length := Nat.mul_le_mul_left B h2
    rw [Nat.mul_comm (B ^ l.length) B]
    rw [Nat.mul_add] at h3
    omega

theorem val_replicate (B n : Nat) : val B (List.replicate n 0) = 0 := by
  induction n with
  | zero => rfl
  | succ n ih => simp [List.replicate_succ, val, ih]

theorem val_set (B : Nat) : ∀ (l : List Nat) (i v : Nat), i < l.length → val B (l.set i v) + l.getD i 0 * B ^ i = val B l + v * B ^ i
  | [], _, _, h => by simp at h
  | d :: l, 0, v, _ => by simp [val, List.getD]; omega
  | d :: l, i + 1, v, h => by
    have ih := val_set B l i v (by simpa using h)
    simp only [List.set_cons_succ, val, List.getD_cons_succ, Nat.pow_succ]
    have e1 : l.getD i 0 * (B ^ i * B) = B * (l.getD i 0 * B ^ i) := by rw [← Nat.mul_assoc, Nat.mul_comm]
    have e2 : v * (B ^ i * B) = B * (v * B ^ i) := by rw [← Nat.mul_assoc, Nat.mul_comm]
    rw [e1, e2]
    have := congrArg (B * ·) ih
    simp only [Nat.mul_add] at this
    omega

theorem val_take_succ (B : Nat) (l : List Nat) (i : Nat) (h : i < l.length) : val B (l.take (i + 1)) = val B (l.take i) + l.getD i 0 * B ^ i := by
  rw [List.take_succ_eq_append_getElem h, val_append]
  have e : (l.take i).length = i := by simp; omega
  simp [val, e, List.getD, h, Nat.mul_comm]

theorem val_split (B : Nat) (l : List Nat) (i : Nat) (h : i ≤ l.length) : val B l = val B (l.take i) + B ^ i * val B (l.drop i) := by
  have e : (l.take i).length = i := by simp; omega
  have := val_append B (l.take i) (l.drop i)
  rw [List.take_append_drop, e] at this
  exact this

/-- k digits of n to the base B -/
def limbs (B : Nat) : Nat → Nat → List Nat
  | 0, _ => []
  | k + 1, n => n % B :: limbs B k (n / B)

theorem limbs_length (B : Nat) : ∀ k n, (limbs B k n).length = k
  | 0, _ => rfl
  | k + 1, n => by simp [limbs, limbs_length B k]

theorem limbs_dg {B : Nat} (hB : 0 < B) : ∀ k n, Dg B (limbs B k n)
  | 0, _ => Dg.nil B
  | k + 1, n => Dg.cons (Nat.mod_lt _ hB) (limbs_dg hB k _)

theorem val_limbs (B : Nat) : ∀ k n, val B (limbs B k n) = n % B ^ k
  | 0, n => by simp [limbs, val, Nat.mod_one]
  | k + 1, n => by
    simp only [limbs, val, val_limbs B k, Nat.pow_succ]
    rw [Nat.mul_comm (B ^ k) B, Nat.mod_mul]

theorem limbs_val {B : Nat} : ∀ {l : List Nat}, Dg B l → limbs B l.length (val B l) = l
  | [], _ => rfl
  | d :: l, h => by
    have h1 := h.head
    have e1 : (d + B * val B l) % B = d := by rw [Nat.add_mul_mod_self_left]; exact Nat.mod_eq_of_lt h1
    have e2 : (d + B * val B l) / B = val B l := by rw [Nat.add_mul_div_left _ _ (by omega), Nat.div_eq_of_lt h1]; omega
    simp only [List.length_cons, limbs, val, e1, e2, limbs_val h.tail]

/-- digits are told by their number and their count -/
theorem val_inj {B : Nat} {l m : List Nat} (hl : Dg B l) (hm : Dg B m) (hn : l.length = m.length) (h : val B l = val B m) : l = m := by
  rw [← limbs_val hl, ← limbs_val hm, hn, h]

theorem eq_limbs {B : Nat} {l : List Nat} (hl : Dg B l) (k n : Nat) (hk : l.length = k) (h : val B l = n) : l = limbs B k n := by
  subst hk; subst h; exact (limbs_val hl).symm

theorem limbs_get (B : Nat) : ∀ (k n i : Nat), i < k → (limbs B k n).getD i 0 = n / B ^ i % B
  | 0, _, _, h => by omega
  | k + 1, n, 0, _ => by simp [limbs, List.getD]
  | k + 1, n, i + 1, h => by
    have := limbs_get B k (n / B) i (by omega)
    simp only [limbs, List.getD_cons_succ, this, Nat.pow_succ, Nat.div_div_eq_div_mul, Nat.mul_comm (B ^ i) B]

/-- the digits without the zeros at the top -/
def trimL : List Nat → List Nat
  | [] => []
  | d :: l => match trimL l with
    | [] => if d = 0 then [] else [d]
    | e :: m => d :: e :: m

theorem val_trimL (B : Nat) (l : List Nat) : val B (trimL l) = val B l := by
  induction l with
  | nil => rfl
  | cons d l ih =>
    unfold trimL
    split
    · rename_i h
      rw [h] at ih
      simp only [val] at ih ⊢
      rw [← ih]
      by_cases h0 : d = 0 <;> simp [h0, val]
    · rename_i e m h
      rw [h] at ih
      simp only [val] at ih ⊢
      rw [← ih]

theorem trimL_dg {B : Nat} {l : List Nat} (h : Dg B l) : Dg B (trimL l) := by
  induction l with
  | nil => exact h
  | cons d l ih =>
    have := ih h.tail
    unfold trimL
    split
    · split
      · exact Dg.nil B
      · exact Dg.cons h.head (Dg.nil B)
    · rename_i e m hm
      rw [hm] at this
      exact Dg.cons h.head this

/-- no zero at the top -/
def Top (l : List Nat) : Prop := l = [] ∨ ∃ m d, l = m ++ [d] ∧ d ≠ 0

theorem trimL_top (l : List Nat) : Top (trimL l) := by
  induction l with
  | nil => exact .inl rfl
  | cons d l ih =>
    unfold trimL
    split
    · split
      · exact .inl rfl
      · rename_i h; exact .inr ⟨[], d, rfl, h⟩
    · rename_i e m hm
      rw [hm] at ih
      rcases ih with h | ⟨m', d', h, hd⟩
      · cases h
      · exact .inr ⟨d :: m', d', by rw [h]; rfl, hd⟩

theorem trimL_self {l : List Nat} (h : Top l) : trimL l = l := by
  induction l with
  | nil => rfl
  | cons d l ih =>
    have hl : Top l ∧ (l = [] → d ≠ 0) := by
      rcases h with h | ⟨m, e, h, he⟩
      · cases h
      · cases m with
        | nil => simp at h; exact ⟨.inl h.2, fun _ => by rw [h.1]; exact he⟩
        | cons x m =>
          simp at h
          refine ⟨.inr ⟨m, e, h.2, he⟩, fun h0 => ?_⟩
          rw [h.2] at h0
          simp at h0
    unfold trimL
    rw [ih hl.1]
    split
    · rename_i h0
      rw [if_neg (hl.2 rfl)]
    · rfl

theorem canon_unique {B : Nat} : ∀ {l m : List Nat}, Dg B l → Dg B m → Top l → Top m → val B l = val B m → l = m := by
  have zero : ∀ (l : List Nat), Dg B l → Top l → val B l = 0 → l = [] := by
    intro l
    induction l with
    | nil => intros; rfl
    | cons d l ih =>
      intro hd ht hv
      have hB : 0 < B := by have := hd.head; omega
      simp only [val] at hv
      have hd0 : d = 0 := by omega
      have hl0 : val B l = 0 := by
        have : B * val B l = 0 := by omega
        rcases Nat.mul_eq_zero.1 this with h | h
        · omega
        · exact h
      rcases ht with h | ⟨m, e, h, he⟩
      · cases h
      · cases m with
        | nil => simp at h; omega
        | cons x m =>
          simp at h
          have := ih hd.tail (.inr ⟨m, e, h.2, he⟩) hl0
          rw [this] at h
          simp at h
  intro l
  induction l with
  | nil => intro m _ hm _ ht hv; exact (zero m hm ht hv.symm).symm
  | cons d l ih =>
    intro m hl hm tl tm hv
    cases m with
    | nil => exact zero _ hl tl hv
    | cons e m =>
      have h1 := hl.head
      have h2 := hm.head
      simp only [val] at hv
      have e1 : d = e := by
        have := congrArg (· % B) hv
        simp only [Nat.add_mul_mod_self_left, Nat.mod_eq_of_lt h1, Nat.mod_eq_of_lt h2] at this
        exact this
      subst e1
      have e2 : val B l = val B m := Nat.eq_of_mul_eq_mul_left (by omega : 0 < B) (by omega)
      have sub : ∀ {x : Nat} {l : List Nat}, Top (x :: l) → Top l := by
        intro x l h
        rcases h with h | ⟨m, e, h, he⟩
        · cases h
        · cases m with
          | nil => simp at h; exact .inl h.2
          | cons y m => simp at h; exact .inr ⟨m, e, h.2, he⟩
      rw [ih hl.tail hm.tail (sub tl) (sub tm) e2]

/-- the digits of n to the base 256, no zero at the top -/
def digs (n : Nat) : List Nat := trimL (limbs 256 n n)

theorem lt_pow256 (n : Nat) : n < 256 ^ n := by
  induction n with
  | zero => simp
  | succ n ih => rw [Nat.pow_succ]; omega

theorem digs_dg (n : Nat) : Dg 256 (digs n) := trimL_dg (limbs_dg (by decide) _ _)
theorem digs_top (n : Nat) : Top (digs n) := trimL_top _
theorem val_digs (n : Nat) : val 256 (digs n) = n := by
  unfold digs
  rw [val_trimL, val_limbs, Nat.mod_eq_of_lt (lt_pow256 n)]

theorem trimL_eq {l : List Nat} (h : Dg 256 l) : trimL l = digs (val 256 l) :=
  canon_unique (trimL_dg h) (digs_dg _) (trimL_top _) (digs_top _) (by rw [val_trimL, val_digs])

theorem eq_digs {l : List Nat} (h : Dg 256 l) (ht : Top l) {n : Nat} (hv : val 256 l = n) : l = digs n := by
  subst hv
  exact canon_unique h (digs_dg _) ht (digs_top _) (by rw [val_digs])

theorem digs_zero : digs 0 = [] := rfl

theorem digs_length_le (n k : Nat) : (digs n).length ≤ k ↔ n < 256 ^ k := by
  constructor
  · intro h
    have h1 := val_lt (digs_dg n)
    rw [val_digs] at h1
    exact Nat.lt_of_lt_of_le h1 (Nat.pow_le_pow_right (by decide) h)
  · intro h
    rcases digs_top n with h0 | ⟨m, d, hm, hd⟩
    · rw [h0]; simp
    · have h1 := val_digs n
      rw [hm, val_append] at h1
      simp only [val, Nat.mul_zero, Nat.add_zero] at h1
      have h2 : 256 ^ m.length ≤ n := by
        have : 256 ^ m.length * 1 ≤ 256 ^ m.length * d := Nat.mul_le_mul_left _ (by omega)
        omega
      have h3 : m.length < k := by
        rcases Nat.lt_or_ge m.length k with h' | h'
        · exact h'
        · have := Nat.pow_le_pow_right (by decide : 0 < 256) h'
          omega
      rw [hm]; simp; omega

theorem digs_take_top {l : List Nat} (h : Dg 256 l) (k : Nat) (hk : k < l.length) (h0 : l.getD k 0 ≠ 0) : l.take (k + 1) = digs (val 256 (l.take (k + 1))) := by
  refine eq_digs (h.take _) ?_ rfl
  rw [List.take_succ_eq_append_getElem hk]
  refine .inr ⟨_, _, rfl, ?_⟩
  simpa [List.getD, hk] using h0

theorem val_take_zero {l : List Nat} (k : Nat) (hk : k < l.length) (h0 : l.getD k 0 = 0) : val 256 (l.take (k + 1)) = val 256 (l.take k) := by
  rw [val_take_succ 256 l k hk, h0]; simp

theorem val_zeros {B : Nat} : ∀ {l : List Nat}, (∀ d ∈ l, d = 0) → val B l = 0
  | [], _ => rfl
  | d :: l, h => by
    have h1 := h d (List.mem_cons_self)
    have h2 := val_zeros (B := B) (l := l) (fun x hx => h x (List.mem_cons_of_mem _ hx))
    simp [val, h1, h2]

/-- zeros ahead of a big-endian number -/
theorem be_drop {l : List Nat} (k : Nat) (h : ∀ j, j < k → l.getD j 0 = 0) : val 256 l.reverse = val 256 (l.drop k).reverse := by
  have e : l.reverse = (l.drop k).reverse ++ (l.take k).reverse := by rw [← List.reverse_append, List.take_append_drop]
  rw [e, val_append, val_zeros (l := (l.take k).reverse)]
  · simp
  · intro d hd
    rw [List.mem_reverse] at hd
    obtain ⟨i, hi, rfl⟩ := List.getElem_of_mem hd
    simp only [List.length_take] at hi
    have := h i (by omega)
    rw [List.getElem_take]
    simpa [List.getD, show i < l.length by omega] using this

theorem be_top {l : List Nat} (hd : Dg 256 l) (k : Nat) (hk : k < l.length) (h : ∀ j, j < k → l.getD j 0 = 0) (h0 : l.getD k 0 ≠ 0) : (l.drop k).reverse = digs (val 256 l.reverse) := by
  rw [be_drop k h]
  refine eq_digs (fun x hx => hd.drop k x (List.mem_reverse.1 hx)) ?_ rfl
  rw [List.drop_eq_getElem_cons hk, List.reverse_cons]
  exact .inr ⟨_, _, rfl, by simpa [List.getD, hk] using h0⟩

theorem be_zero {l : List Nat} (h : ∀ j, j < l.length → l.getD j 0 = 0) : digs (val 256 l.reverse) = [] := by
  rw [be_drop l.length h]
  simp [val, digs_zero]

/-- what is laid of m after i rounds -/
def part (m : List Nat) (i : Nat) : List Nat := m.take i ++ List.replicate (m.length - i) 0
theorem part_length (m : List Nat) (i : Nat) (h : i ≤ m.length) : (part m i).length = m.length := by simp [part]; omega
theorem part_zero (m : List Nat) : part m 0 = List.replicate m.length 0 := by simp [part]
theorem part_all (m : List Nat) : part m m.length = m := by simp [part]
theorem part_succ (m : List Nat) (i : Nat) (h : i < m.length) : part m (i + 1) = (part m i).set i (m.getD i 0) := by
  have e : (m.take i).length = i := by simp; omega
  have e3 : m.length - i = (m.length - (i + 1)) + 1 := by omega
  have e4 : m.getD i 0 = m[i] := by simp [List.getD, h]
  unfold part
  rw [List.set_append_right _ _ (by omega), e, Nat.sub_self, e3, List.replicate_succ, List.set_cons_zero, List.take_succ_eq_append_getElem h, List.append_assoc, e4]
  rfl

theorem digs_lt_of_length {x y : Nat} (h : (digs x).length < (digs y).length) : x < y := by
  rcases Nat.lt_or_ge x y with h' | h'
  · exact h'
  · have h1 := (digs_length_le x (digs x).length).1 (Nat.le_refl _)
    have h2 := (digs_length_le y (digs x).length).2 (by omega)
    omega

theorem val_lt_top {B : Nat} {l m : List Nat} (hl : Dg B l) (hn : l.length = m.length) (k : Nat) (hk : k < l.length) (hd : l.drop (k + 1) = m.drop (k + 1)) (h : l.getD k 0 < m.getD k 0) : val B l < val B m := by
  have e1 : l.getD k 0 = l[k] := by simp [List.getD, hk]
  have e2 : m.getD k 0 = m[k] := by simp [List.getD, show k < m.length by omega]
  have h1 := val_split B l k (by omega)
  have h2 := val_split B m k (by omega)
  rw [List.drop_eq_getElem_cons hk] at h1
  rw [List.drop_eq_getElem_cons (show k < m.length by omega)] at h2
  simp only [val, ← hd] at h1 h2
  have h3 := val_lt (hl.take k)
  rw [show (l.take k).length = k by simp; omega] at h3
  rw [e1, e2] at h
  have h4 : B ^ k * (l[k] + B * val B (l.drop (k + 1)) + 1) ≤ B ^ k * (m[k] + B * val B (l.drop (k + 1))) := Nat.mul_le_mul_left _ (by omega)
  rw [Nat.mul_add, Nat.mul_one] at h4
  omega

/-- how two numbers stand to each other, as nat.Cmp says it -/
def cmpZ (x y : Nat) : Int := if x < y then -1 else if y < x then 1 else 0

theorem cmpZ_lt {x y : Nat} (h : x < y) : cmpZ x y = -1 := by simp [cmpZ, h]
theorem cmpZ_gt {x y : Nat} (h : y < x) : cmpZ x y = 1 := by simp [cmpZ, h]; omega
theorem cmpZ_eq (x : Nat) : cmpZ x x = 0 := by simp [cmpZ]

/-- one digit of a row of the schoolbook's product -/
theorem mul_step (B : Nat) (L : List Nat) (k j c d e g v A : Nat) (hp : k + j < L.length) (HG : L.getD (k + j) 0 = g) (HV : val B L + c * B ^ (k + j) = A + d * v * B ^ k) :
    val B (L.set (k + j) ((c + (d * e + g)) % B)) + (c + (d * e + g)) / B * B ^ (k + (j + 1)) = A + d * (v + e * B ^ j) * B ^ k := by
  have h1 := val_set B L (k + j) ((c + (d * e + g)) % B) hp
  rw [HG] at h1
  have h2 : (c + (d * e + g)) / B * B ^ (k + (j + 1)) + (c + (d * e + g)) % B * B ^ (k + j) = (c + (d * e + g)) * B ^ (k + j) := by
    rw [← Nat.add_assoc k j 1, Nat.pow_succ, Nat.mul_comm (B ^ (k + j)) B, ← Nat.mul_assoc, ← Nat.add_mul]
    congr 1
    rw [Nat.mul_comm]
    exact Nat.div_add_mod _ _
  have h3 : d * (v + e * B ^ j) * B ^ k = d * v * B ^ k + d * e * B ^ (k + j) := by
    rw [Nat.mul_add, Nat.add_mul, Nat.pow_add]
    congr 1
    rw [← Nat.mul_assoc d e, Nat.mul_assoc (d * e), Nat.mul_comm (B ^ j)]
  have h4 : (c + (d * e + g)) * B ^ (k + j) = c * B ^ (k + j) + d * e * B ^ (k + j) + g * B ^ (k + j) := by
    rw [Nat.add_mul, Nat.add_mul]; omega
  omega

/-- the row's last carry -/
theorem mul_last (B : Nat) (L : List Nat) (p c A : Nat) (hp : p < L.length) (h0 : L.getD p 0 = 0) (HV : val B L + c * B ^ p = A) : val B (L.set p c) = A := by
  have h1 := val_set B L p c hp
  rw [h0] at h1
  omega

/-- one digit of a difference -/
theorem sub_step (B : Nat) (L : List Nat) (i br br' e g new v A : Nat) (hp : i < L.length) (HG : L.getD i 0 = g) (HV : val B L + v = A + br * B ^ i) (hn : new + br + e = g + B * br') :
    val B (L.set i new) + (v + e * B ^ i) = A + br' * B ^ (i + 1) := by
  have h1 := val_set B L i new hp
  rw [HG] at h1
  have h2 : br' * B ^ (i + 1) = B * br' * B ^ i := by rw [Nat.pow_succ, Nat.mul_comm (B ^ i) B, ← Nat.mul_assoc, Nat.mul_comm br' B]
  have h3 : (new + br + e) * B ^ i = (g + B * br') * B ^ i := by rw [hn]
  simp only [Nat.add_mul] at h3
  omega

theorem val_take_any (B : Nat) (l : List Nat) (i : Nat) : val B (l.take (i + 1)) = val B (l.take i) + l.getD i 0 * B ^ i := by
  by_cases h : i < l.length
  · exact val_take_succ B l i h
  · rw [List.take_of_length_le (by omega), List.take_of_length_le (by omega)]
    simp [List.getD, show l.length ≤ i by omega]

/-- a digit out of the number -/
theorem getD_val {B : Nat} {l : List Nat} (h : Dg B l) (hB : 0 < B) (p : Nat) : l.getD p 0 = val B l / B ^ p % B := by
  by_cases hp : p < l.length
  · have h1 := limbs_get B l.length (val B l) p hp
    rw [limbs_val h] at h1
    exact h1
  · have h1 := val_lt h
    have h2 : B ^ l.length ≤ B ^ p := Nat.pow_le_pow_right hB (by omega)
    rw [Nat.div_eq_of_lt (by omega)]
    simp [List.getD, show l.length ≤ p by omega]

theorem mod_bit (a b : Nat) (hb : b < 8) : a % 256 / 2 ^ b % 2 = a / 2 ^ b % 2 := by
  have : b = 0 ∨ b = 1 ∨ b = 2 ∨ b = 3 ∨ b = 4 ∨ b = 5 ∨ b = 6 ∨ b = 7 := by omega
  rcases this with h | h | h | h | h | h | h | h <;> subst h <;> omega

theorem bit_of_digit {l : List Nat} (h : Dg 256 l) (i : Nat) : l.getD (i / 8) 0 / 2 ^ (i % 8) % 2 = val 256 l / 2 ^ i % 2 := by
  rw [getD_val h (by decide), mod_bit _ _ (by omega), Nat.div_div_eq_div_mul]
  congr 2
  rw [show 256 = 2 ^ 8 from rfl, ← Nat.pow_mul, ← Nat.pow_add]
  congr 1
  omega

/-- one digit of a number that is doubled -/
theorem dbl_step (L : List Nat) (j c d A : Nat) (hp : j < L.length) (HG : L.getD j 0 = d) (HV : val 256 L + c * 256 ^ j = A) :
    val 256 (L.set j (2 * d % 256 + c)) + d / 128 * 256 ^ (j + 1) = A + d * 256 ^ j := by
  have h1 := val_set 256 L j (2 * d % 256 + c) hp
  rw [HG] at h1
  have h2 : d / 128 * 256 ^ (j + 1) = (256 * (d / 128)) * 256 ^ j := by rw [Nat.pow_succ, Nat.mul_comm (256 ^ j) 256, ← Nat.mul_assoc, Nat.mul_comm (d / 128)]
  have h3 : (2 * d % 256 + c + 256 * (d / 128)) * 256 ^ j = (d + d + c) * 256 ^ j := by congr 1; omega
  simp only [Nat.add_mul] at h1 h3
  omega

/-- one bit of a division: the quotient and the rest behind it -/
theorem div_bit (x y i : Nat) (hy : y ≠ 0) :
    x / 2 ^ i = 2 * (x / 2 ^ (i + 1)) + x / 2 ^ i % 2 ∧
    (y ≤ 2 * (x / 2 ^ (i + 1) % y) + x / 2 ^ i % 2 → x / 2 ^ i / y = 2 * (x / 2 ^ (i + 1) / y) + 1 ∧ x / 2 ^ i % y = 2 * (x / 2 ^ (i + 1) % y) + x / 2 ^ i % 2 - y) ∧
    (2 * (x / 2 ^ (i + 1) % y) + x / 2 ^ i % 2 < y → x / 2 ^ i / y = 2 * (x / 2 ^ (i + 1) / y) ∧ x / 2 ^ i % y = 2 * (x / 2 ^ (i + 1) % y) + x / 2 ^ i % 2) := by
  have e : x / 2 ^ (i + 1) = x / 2 ^ i / 2 := by rw [Nat.pow_succ, Nat.div_div_eq_div_mul]
  rw [e]
  generalize x / 2 ^ i = X
  have hX : X = 2 * (X / 2) + X % 2 := by omega
  have h1 := Nat.div_add_mod (X / 2) y
  have h2 := Nat.mod_lt (X / 2) (by omega : y > 0)
  refine ⟨hX, fun h => ?_, fun h => ?_⟩
  · have e2 : X = (2 * (X / 2 % y) + X % 2 - y) + y * (2 * (X / 2 / y) + 1) := by
      rw [Nat.mul_add, Nat.mul_one, ← Nat.mul_assoc, Nat.mul_comm y 2, Nat.mul_assoc]
      omega
    have h3 : 2 * (X / 2 % y) + X % 2 - y < y := by omega
    constructor
    · have := congrArg (· / y) e2
      simp only [Nat.add_mul_div_left _ _ (by omega : 0 < y), Nat.div_eq_of_lt h3] at this
      omega
    · have := congrArg (· % y) e2
      simp only [Nat.add_mul_mod_self_left, Nat.mod_eq_of_lt h3] at this
      exact this
  · have e2 : X = (2 * (X / 2 % y) + X % 2) + y * (2 * (X / 2 / y)) := by
      rw [← Nat.mul_assoc, Nat.mul_comm y 2, Nat.mul_assoc]
      omega
    constructor
    · have := congrArg (· / y) e2
      simp only [Nat.add_mul_div_left _ _ (by omega : 0 < y), Nat.div_eq_of_lt h] at this
      omega
    · have := congrArg (· % y) e2
      simp only [Nat.add_mul_mod_self_left, Nat.mod_eq_of_lt h] at this
      exact this

/-- the bit that is laid into the quotient was not set -/
theorem quo_digit (L : List Nat) (hL : Dg 256 L) (K i : Nat) (h : val 256 L = K * 2 ^ (i + 1)) : L.getD (i / 8) 0 % 2 ^ (i % 8 + 1) = 0 := by
  rw [getD_val hL (by decide), h]
  have e : K * 2 ^ (i + 1) / 256 ^ (i / 8) = K * 2 ^ (i % 8 + 1) := by
    rw [show i + 1 = (i % 8 + 1) + 8 * (i / 8) by omega, Nat.pow_add, Nat.pow_mul, ← Nat.mul_assoc]
    exact Nat.mul_div_cancel _ (Nat.pow_pos (by decide))
  rw [e]
  have : i % 8 = 0 ∨ i % 8 = 1 ∨ i % 8 = 2 ∨ i % 8 = 3 ∨ i % 8 = 4 ∨ i % 8 = 5 ∨ i % 8 = 6 ∨ i % 8 = 7 := by omega
  rcases this with h | h | h | h | h | h | h | h <;> rw [h] <;> omega

theorem or_bit (g b : Nat) (hb : b < 8) (hg : g < 256) (h : g % 2 ^ (b + 1) = 0) : g ||| 2 ^ b = g + 2 ^ b ∧ g + 2 ^ b < 256 := by
  constructor
  · have e1 : g = g / 2 ^ (b + 1) * 2 ^ (b + 1) := by
      have := Nat.div_add_mod g (2 ^ (b + 1))
      rw [Nat.mul_comm]; omega
    have e2 : 2 ^ (b + 1) * (g / 2 ^ (b + 1)) + 2 ^ b = 2 ^ (b + 1) * (g / 2 ^ (b + 1)) ||| 2 ^ b := Nat.two_pow_add_eq_or_of_lt (Nat.pow_lt_pow_right (by decide) (by omega)) _
    rw [e1, Nat.mul_comm]
    exact e2.symm
  · have : b = 0 ∨ b = 1 ∨ b = 2 ∨ b = 3 ∨ b = 4 ∨ b = 5 ∨ b = 6 ∨ b = 7 := by omega
    rcases this with e | e | e | e | e | e | e | e <;> subst e <;> omega

theorem quo_set (L : List Nat) (K i : Nat) (hp : i / 8 < L.length) (h : val 256 L = K * 2 ^ (i + 1)) : val 256 (L.set (i / 8) (L.getD (i / 8) 0 + 2 ^ (i % 8))) = (2 * K + 1) * 2 ^ i := by
  have h1 := val_set 256 L (i / 8) (L.getD (i / 8) 0 + 2 ^ (i % 8)) hp
  have h2 : 2 ^ (i % 8) * 256 ^ (i / 8) = 2 ^ i := by
    rw [show 256 = 2 ^ 8 from rfl, ← Nat.pow_mul, ← Nat.pow_add]
    congr 1; omega
  have h3 := Nat.add_mul (L.getD (i / 8) 0) (2 ^ (i % 8)) (256 ^ (i / 8))
  rw [h2] at h3
  have h4 : (2 * K + 1) * 2 ^ i = K * 2 ^ (i + 1) + 2 ^ i := by
    rw [Nat.add_mul, Nat.one_mul, Nat.pow_succ', ← Nat.mul_assoc, Nat.mul_comm K 2]
  omega

theorem W64_pow : W64 = 256 ^ 8 := rfl
theorem W64_pos : 0 < W64 := by decide

theorem mod_digit (a r : Nat) (hr : r < 8) : a % W64 / 256 ^ r % 256 = a / 256 ^ r % 256 := by
  have : r = 0 ∨ r = 1 ∨ r = 2 ∨ r = 3 ∨ r = 4 ∨ r = 5 ∨ r = 6 ∨ r = 7 := by omega
  rw [W64_eq]
  rcases this with h | h | h | h | h | h | h | h <;> subst h <;> omega

/-- the bytes of a row of limbs -/
theorem limb_byte {l : List Nat} (h : Dg W64 l) (i : Nat) (hi : i < 8 * l.length) : (limbs 256 (8 * l.length) (val W64 l)).getD i 0 = l.getD (i / 8) 0 / 2 ^ (8 * (i % 8)) % 256 := by
  rw [limbs_get _ _ _ _ hi, getD_val h W64_pos, Nat.pow_mul 2 8, show 2 ^ 8 = 256 from rfl, mod_digit _ _ (by omega), Nat.div_div_eq_div_mul]
  congr 2
  rw [W64_pow, ← Nat.pow_mul, ← Nat.pow_add]
  congr 1
  omega

theorem val_limb_bytes {l : List Nat} (h : Dg W64 l) : val 256 (limbs 256 (8 * l.length) (val W64 l)) = val W64 l := by
  rw [val_limbs]
  apply Nat.mod_eq_of_lt
  rw [Nat.pow_mul]
  exact val_lt h

theorem pow256_split (i : Nat) : 256 ^ (i % 8) * W64 ^ (i / 8) = 256 ^ i := by
  rw [W64_pow, ← Nat.pow_mul, ← Nat.pow_add]
  congr 1; omega

theorem pow_digit (i : Nat) : 2 ^ (8 * (i % 8)) = 256 ^ (i % 8) := by rw [Nat.pow_mul]

/-- the limb into which digit i is laid is below that digit's weight -/
theorem limb_low (k N i : Nat) (hN : N < 256 ^ i) (hk : i / 8 < k) : (limbs W64 k N).getD (i / 8) 0 < 256 ^ (i % 8) := by
  rw [limbs_get _ _ _ _ hk]
  refine Nat.lt_of_le_of_lt (Nat.mod_le _ _) ?_
  rw [Nat.div_lt_iff_lt_mul (Nat.pow_pos W64_pos), pow256_split]
  exact hN

theorem lay_digit (k N i d : Nat) (hN : N < 256 ^ i) (hd : d < 256) (hk : i / 8 < k) :
    (limbs W64 k N).set (i / 8) ((limbs W64 k N).getD (i / 8) 0 + d * 256 ^ (i % 8)) = limbs W64 k (N + d * 256 ^ i) := by
  have hlow := limb_low k N i hN hk
  have hNk : N < W64 ^ k := by
    refine Nat.lt_of_lt_of_le hN ?_
    rw [W64_pow, ← Nat.pow_mul]
    exact Nat.pow_le_pow_right (by decide) (by omega)
  have h256 : 256 ^ (i % 8 + 1) ≤ W64 := by rw [W64_pow]; exact Nat.pow_le_pow_right (by decide) (by omega)
  have hnew : (limbs W64 k N).getD (i / 8) 0 + d * 256 ^ (i % 8) < W64 := by
    have : d * 256 ^ (i % 8) ≤ 255 * 256 ^ (i % 8) := Nat.mul_le_mul_right _ (by omega)
    rw [Nat.pow_succ] at h256
    omega
  have hl : ((limbs W64 k N).set (i / 8) ((limbs W64 k N).getD (i / 8) 0 + d * 256 ^ (i % 8))).length = k := by simp [limbs_length]
  have hdg : Dg W64 ((limbs W64 k N).set (i / 8) ((limbs W64 k N).getD (i / 8) 0 + d * 256 ^ (i % 8))) := (limbs_dg W64_pos _ _).set _ _ hnew
  refine eq_limbs hdg k _ hl ?_
  have h1 := val_set W64 (limbs W64 k N) (i / 8) ((limbs W64 k N).getD (i / 8) 0 + d * 256 ^ (i % 8)) (by rw [limbs_length]; exact hk)
  rw [val_limbs, Nat.mod_eq_of_lt hNk] at h1
  have h2 := Nat.add_mul ((limbs W64 k N).getD (i / 8) 0) (d * 256 ^ (i % 8)) (W64 ^ (i / 8))
  rw [Nat.mul_assoc d, pow256_split] at h2
  omega

theorem or_low (x y k : Nat) (h : x < 2 ^ k) : x ||| y * 2 ^ k = x + y * 2 ^ k := by
  have := Nat.two_pow_add_eq_or_of_lt h y
  rw [Nat.mul_comm y, Nat.or_comm, ← this, Nat.add_comm]

theorem limbs_zero (B : Nat) : ∀ k, limbs B k 0 = List.replicate k 0
  | 0 => rfl
  | k + 1 => by simp [limbs, limbs_zero B k, List.replicate_succ]

/-- bytes, the most significant first, as a number -/
def be (l : List Nat) : Nat := val 256 l.reverse

theorem be_snoc (l : List Nat) (c : Nat) : be (l ++ [c]) = be l * 256 + c := by
  unfold be
  rw [List.reverse_append, List.reverse_singleton, List.singleton_append, val]
  omega

theorem be_lt {l : List Nat} (h : Dg 256 l) : be l < 256 ^ l.length := by
  have := val_lt (B := 256) (l := l.reverse) (fun x hx => h x (List.mem_reverse.1 hx))
  rwa [List.length_reverse] at this

theorem be_append (l m : List Nat) : be (l ++ m) = be l * 256 ^ m.length + be m := by
  unfold be
  rw [List.reverse_append, val_append, List.length_reverse, Nat.mul_comm]
  omega

/-- what n limbs hold when k bytes of L are read into them, the top limb first -/
def beY (n : Nat) (L : List Nat) (k : Nat) : Nat := be (L.take (8 * (k / 8))) * W64 ^ (n - k / 8) + be ((L.drop (8 * (k / 8))).take (k % 8)) * W64 ^ (n - 1 - k / 8)

theorem beY_zero (n : Nat) (L : List Nat) : beY n L 0 = 0 := by simp [beY, be, val]

theorem beY_all (n : Nat) (L : List Nat) (h : L.length = 8 * n) : beY n L (8 * n) = be L := by
  unfold beY
  rw [show 8 * n / 8 = n by omega, show 8 * n % 8 = 0 by omega, List.take_of_length_le (by omega)]
  simp [be, val]

theorem byte_room (P c : Nat) (h : P < 72057594037927936) (hc : c < 256) : P * 256 + c < W64 := by
  rw [W64_eq]; omega

theorem be_step (n : Nat) (L : List Nat) (k : Nat) (hk : k < 8 * n) (hL : L.length = 8 * n) (hd : Dg 256 L) :
    (limbs W64 n (beY n L k)).getD (n - 1 - k / 8) 0 * 256 < W64 ∧
    (limbs W64 n (beY n L k)).set (n - 1 - k / 8) ((limbs W64 n (beY n L k)).getD (n - 1 - k / 8) 0 * 256 + L.getD k 0) = limbs W64 n (beY n L (k + 1)) := by
  have hq : k / 8 < n := by omega
  have hc : L.getD k 0 < 256 := hd.getD (by decide) k
  have hP : be ((L.drop (8 * (k / 8))).take (k % 8)) < 256 ^ (k % 8) := by
    have := be_lt ((hd.drop (8 * (k / 8))).take (k % 8))
    rwa [show ((L.drop (8 * (k / 8))).take (k % 8)).length = k % 8 by simp; omega] at this
  have hA : be (L.take (8 * (k / 8))) < W64 ^ (k / 8) := by
    have := be_lt (hd.take (8 * (k / 8)))
    rwa [show (L.take (8 * (k / 8))).length = 8 * (k / 8) by simp; omega, Nat.pow_mul] at this
  have h7 : 256 ^ (k % 8) ≤ 256 ^ 7 := Nat.pow_le_pow_right (by decide) (by omega)
  have hP' : be ((L.drop (8 * (k / 8))).take (k % 8 + 1)) = be ((L.drop (8 * (k / 8))).take (k % 8)) * 256 + L.getD k 0 := by
    have hlt : k % 8 < (L.drop (8 * (k / 8))).length := by simp; omega
    rw [List.take_succ_eq_append_getElem hlt, be_snoc]
    congr 1
    rw [List.getElem_drop]
    simp only [show 8 * (k / 8) + k % 8 = k by omega]
    simp [List.getD, show k < L.length by omega]
  have hY : beY n L k = be (L.take (8 * (k / 8))) * W64 ^ (n - k / 8) + be ((L.drop (8 * (k / 8))).take (k % 8)) * W64 ^ (n - 1 - k / 8) := rfl
  have hY' : beY n L (k + 1) = be (L.take (8 * (k / 8))) * W64 ^ (n - k / 8) + be ((L.drop (8 * (k / 8))).take (k % 8 + 1)) * W64 ^ (n - 1 - k / 8) := by
    by_cases h8 : k % 8 = 7
    · unfold beY
      rw [show (k + 1) / 8 = k / 8 + 1 by omega, show (k + 1) % 8 = 0 by omega, h8, show 7 + 1 = 8 from rfl]
      have e1 : L.take (8 * (k / 8 + 1)) = L.take (8 * (k / 8)) ++ (L.drop (8 * (k / 8))).take 8 := by
        rw [show 8 * (k / 8 + 1) = 8 * (k / 8) + 8 by omega, List.take_add]
      rw [e1, be_append, show ((L.drop (8 * (k / 8))).take 8).length = 8 by simp; omega, ← W64_pow, Nat.add_mul, Nat.mul_assoc, ← Nat.pow_succ', show (n - (k / 8 + 1)).succ = n - k / 8 by omega, show n - (k / 8 + 1) = n - 1 - k / 8 by omega]
      simp [be, val]
    · unfold beY
      rw [show (k + 1) / 8 = k / 8 by omega, show (k + 1) % 8 = k % 8 + 1 by omega]
  generalize be (L.take (8 * (k / 8))) = A at *
  generalize be ((L.drop (8 * (k / 8))).take (k % 8)) = P at *
  generalize be ((L.drop (8 * (k / 8))).take (k % 8 + 1)) = P' at *
  have hPW2 : P * 256 + L.getD k 0 < W64 := by
    have e7 : (256 : Nat) ^ 7 = 72057594037927936 := by decide
    have h8 : P < 72057594037927936 := by rw [← e7]; exact Nat.lt_of_lt_of_le hP h7
    exact byte_room _ _ h8 hc
  have hPW : P * 256 < W64 := Nat.lt_of_le_of_lt (Nat.le_add_right _ _) hPW2
  have hPlt : P < W64 := Nat.lt_of_le_of_lt (Nat.le_mul_of_pos_right P (by decide)) hPW
  clear h7 hP
  have hWW : W64 ^ (n - k / 8) = W64 * W64 ^ (n - 1 - k / 8) := by rw [← Nat.pow_succ']; congr 1; omega
  have hget : (limbs W64 n (beY n L k)).getD (n - 1 - k / 8) 0 = P := by
    rw [limbs_get _ _ _ _ (by omega), hY, hWW, ← Nat.mul_assoc, ← Nat.add_mul, Nat.mul_div_cancel _ (Nat.pow_pos W64_pos), Nat.add_comm, Nat.mul_comm A, Nat.add_mul_mod_self_left, Nat.mod_eq_of_lt hPlt]
  rw [hget]
  refine ⟨hPW, ?_⟩
  have hlen : ((limbs W64 n (beY n L k)).set (n - 1 - k / 8) (P * 256 + L.getD k 0)).length = n := by simp [limbs_length]
  refine eq_limbs ((limbs_dg W64_pos _ _).set _ _ hPW2) n _ hlen ?_
  have h1 := val_set W64 (limbs W64 n (beY n L k)) (n - 1 - k / 8) (P * 256 + L.getD k 0) (by rw [limbs_length]; omega)
  have hYlt : beY n L k < W64 ^ n := by
    rw [hY]
    have e : W64 ^ n = W64 ^ (k / 8) * W64 ^ (n - k / 8) := by rw [← Nat.pow_add]; congr 1; omega
    have h2 : (A + 1) * W64 ^ (n - k / 8) ≤ W64 ^ (k / 8) * W64 ^ (n - k / 8) := Nat.mul_le_mul_right _ hA
    have h3 : P * W64 ^ (n - 1 - k / 8) < W64 * W64 ^ (n - 1 - k / 8) := Nat.mul_lt_mul_of_pos_right (by omega) (Nat.pow_pos W64_pos)
    rw [Nat.add_mul, Nat.one_mul] at h2
    omega
  rw [val_limbs, Nat.mod_eq_of_lt hYlt, hget] at h1
  rw [hY', hP']
  omega

/-- how many of the first k limbs are in use -/
def lcF (L : List Nat) : Nat → Nat
  | 0 => 0
  | k + 1 => if L.getD k 0 = 0 then lcF L k else k + 1

theorem lcF_le (L : List Nat) : ∀ k, lcF L k ≤ k
  | 0 => Nat.le_refl _
  | k + 1 => by unfold lcF; have := lcF_le L k; split <;> omega
theorem lcF_top (L : List Nat) : ∀ k, lcF L k ≠ 0 → L.getD (lcF L k - 1) 0 ≠ 0
  | 0, h => by simp [lcF] at h
  | k + 1, h => by
    unfold lcF at h ⊢
    split
    · rename_i h0; rw [if_pos h0] at h; exact lcF_top L k h
    · rename_i h0; simpa using h0
theorem lcF_zero (L : List Nat) : ∀ k i, lcF L k ≤ i → i < k → L.getD i 0 = 0
  | 0, i, _, h => by omega
  | k + 1, i, h, hi => by
    unfold lcF at h
    split at h
    · rename_i h0
      by_cases e : i = k
      · subst e; exact h0
      · exact lcF_zero L k i h (by omega)
    · omega

end Go.Proofs.YgcsanGreat
