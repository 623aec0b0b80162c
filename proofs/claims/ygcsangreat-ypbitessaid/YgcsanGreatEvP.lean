/-
  The evaluator in a form that the kernel runs with less toil: each operation, each region is laid once as a function.
-/
import Derived.Test.YgcsanGreatEvO
namespace Go.Ev
open Go
set_option linter.unusedVariables false
set_option linter.unusedSimpArgs false
noncomputable section

/-- the road to a number in a row -/
inductive Way where
  | here
  | left (w : Way)
  | right (w : Way)
def wayOf : Nat → Nat → Way
  | 0, _ => .here
  | d + 1, n => match Nat.beq n 0 with
    | true => .here
    | false => match Nat.beq (Nat.mod n 2) 1 with
      | true => .left (wayOf d (Nat.div n 2))
      | false => .right (wayOf d (Nat.pred (Nat.div n 2)))
def wget (w : Way) : Tr Value → Value :=
  Way.rec (fun t => Tr.rec undef (fun v _ _ _ _ => Option.rec undef (fun x => x) v) t)
    (fun _ ih t => Tr.rec undef (fun _ l _ _ _ => ih l) t)
    (fun _ ih t => Tr.rec undef (fun _ _ r _ _ => ih r) t) w
def wset (v : Value) (w : Way) : Tr Value → Tr Value :=
  Way.rec (fun t => Tr.rec (Tr.node (some v) .nil .nil) (fun _ l r _ _ => .node (some v) l r) t)
    (fun _ ih t => Tr.rec (Tr.node none (ih .nil) .nil) (fun u l r _ _ => .node u (ih l) r) t)
    (fun _ ih t => Tr.rec (Tr.node none .nil (ih .nil)) (fun u l r _ _ => .node u l (ih r)) t) w

theorem wget_eq : ∀ (d n : Nat) (t : Tr Value), n < 2 ^ d → wget (wayOf d n) t = orUndef (Tr.get t n) := by
  intro d
  induction d with
  | zero =>
    intro n t h
    have : n = 0 := by simpa using h
    subst this
    cases t with
    | nil => rfl
    | node v l r => cases v <;> rfl
  | succ d ih =>
    intro n t h
    simp only [wayOf]
    by_cases h0 : n = 0
    · subst h0
      cases t with
      | nil => rfl
      | node v l r => cases v <;> rfl
    · rw [beqF h0]
      have hp : 2 ^ (d + 1) = 2 * 2 ^ d := by rw [Nat.pow_succ]; omega
      by_cases h2 : n % 2 = 1
      · have h3 : Nat.beq (Nat.mod n 2) 1 = true := beqT h2
        rw [h3]
        cases t with
        | nil => rfl
        | node v l r =>
          rw [Tr.get_node, if_neg h0, if_pos h2]
          exact ih (n / 2) l (by omega)
      · have h3 : Nat.beq (Nat.mod n 2) 1 = false := beqF h2
        rw [h3]
        cases t with
        | nil => rfl
        | node v l r =>
          rw [Tr.get_node, if_neg h0, if_neg h2]
          exact ih (n / 2 - 1) r (by omega)
theorem wset_eq (v : Value) : ∀ (d n : Nat) (t : Tr Value), n < 2 ^ d → Tr.set (some v) (d + 1) t n = some (wset v (wayOf (d + 1) n) t) := by
  intro d
  induction d with
  | zero =>
    intro n t h
    have : n = 0 := by simpa using h
    subst this
    cases t <;> rfl
  | succ d ih =>
    intro n t h
    have hw : wayOf (d + 1 + 1) n = match Nat.beq n 0 with | true => .here | false => match Nat.beq (Nat.mod n 2) 1 with | true => .left (wayOf (d + 1) (Nat.div n 2)) | false => .right (wayOf (d + 1) (Nat.pred (Nat.div n 2))) := rfl
    rw [hw]
    by_cases h0 : n = 0
    · subst h0
      cases t <;> rfl
    · have hp : 2 ^ (d + 1) = 2 * 2 ^ d := by rw [Nat.pow_succ]; omega
      by_cases h2 : n % 2 = 1
      · have h3 : Nat.beq (Nat.mod n 2) 1 = true := beqT h2
        cases t with
        | nil =>
          rw [Tr.set, beqF h0, h3]
          simp only
          rw [show Nat.div n 2 = n / 2 from rfl, ih (n / 2) .nil (by omega)]; rfl
        | node u l r =>
          rw [Tr.set, beqF h0, h3]
          simp only
          rw [show Nat.div n 2 = n / 2 from rfl, ih (n / 2) l (by omega)]; rfl
      · have h3 : Nat.beq (Nat.mod n 2) 1 = false := beqF h2
        cases t with
        | nil =>
          rw [Tr.set, beqF h0, h3]
          simp only
          rw [show Nat.pred (Nat.div n 2) = n / 2 - 1 from rfl, ih (n / 2 - 1) .nil (by omega)]; rfl
        | node u l r =>
          rw [Tr.set, beqF h0, h3]
          simp only
          rw [show Nat.pred (Nat.div n 2) = n / 2 - 1 from rfl, ih (n / 2 - 1) r (by omega)]; rfl

structure Get where
  f : Ac → Value
def getTmp (t : Tmp) : Bool → Get
  | true => ⟨fun a => wget (wayOf 64 t) a⟩
  | false => ⟨fun a => orUndef (Tr.get a t)⟩
def getConst (v : Value) : Bool → Get
  | true => ⟨fun _ => v⟩
  | false => ⟨fun _ => .chan none⟩
def getOf : Operand → Get
  | .tmp t => getTmp t (Nat.ble t 1048576)
  | .const v => getConst v (constOk v)
  | .global _ => ⟨fun _ => .chan none⟩
  | .func _ => ⟨fun _ => .chan none⟩
theorem getOf_eq (x : Operand) (a : Ac) : (getOf x).f a = Ac.eval a x := by
  cases x with
  | tmp t =>
    simp only [getOf, Ac.eval]
    cases h : Nat.ble t 1048576 with
    | true => exact wget_eq 64 t a (by have := Nat.le_of_ble_eq_true h; omega)
    | false => rfl
  | const v => simp only [getOf, Ac.eval]; cases constOk v <;> rfl
  | global g => rfl
  | func f => rfl

/-- what an operation does -/
structure Do where
  f : Hp → Ac → Option Out
def g1 (k : Hp → Value → Option Out) (x : Get) : Do := match x with
  | ⟨x⟩ => ⟨fun h a => k h (x a)⟩
def g2 (k : Hp → Value → Value → Option Out) (x y : Get) : Do := match x, y with
  | ⟨x⟩, ⟨y⟩ => ⟨fun h a => k h (x a) (y a)⟩
def g3 (k : Hp → Value → Value → Value → Option Out) (x y z : Get) : Do := match x, y, z with
  | ⟨x⟩, ⟨y⟩, ⟨z⟩ => ⟨fun h a => k h (x a) (y a) (z a)⟩
def gBin (P : Program) (o : Oper) (op : BinOp) (t : TypeId) (x y : Get) : Do := match x, y with
  | ⟨x⟩, ⟨y⟩ => ⟨fun h a => evalBin P h (Ac.eval a) o op t (x a) (y a)⟩
theorem g1_eq (k : Hp → Value → Option Out) (x : Operand) (h : Hp) (a : Ac) : (g1 k (getOf x)).f h a = k h (Ac.eval a x) := by
  rw [← getOf_eq]; cases getOf x; rfl
theorem g2_eq (k : Hp → Value → Value → Option Out) (x y : Operand) (h : Hp) (a : Ac) : (g2 k (getOf x) (getOf y)).f h a = k h (Ac.eval a x) (Ac.eval a y) := by
  rw [← getOf_eq, ← getOf_eq]; cases getOf x; cases getOf y; rfl
theorem g3_eq (k : Hp → Value → Value → Value → Option Out) (x y z : Operand) (h : Hp) (a : Ac) : (g3 k (getOf x) (getOf y) (getOf z)).f h a = k h (Ac.eval a x) (Ac.eval a y) (Ac.eval a z) := by
  rw [← getOf_eq, ← getOf_eq, ← getOf_eq]; cases getOf x; cases getOf y; cases getOf z; rfl
theorem gBin_eq (P : Program) (o : Oper) (op : BinOp) (t : TypeId) (x y : Operand) (h : Hp) (a : Ac) : (gBin P o op t (getOf x) (getOf y)).f h a = evalBin P h (Ac.eval a) o op t (Ac.eval a x) (Ac.eval a y) := by
  rw [← getOf_eq, ← getOf_eq]; cases getOf x; cases getOf y; rfl

def den (P : Program) (o : Oper) : Do := match o.op with
  | .move x => g1 mk (getOf x)
  | .assign x => g1 mk (getOf x)
  | .load t x => g1 (fun h v => evalLoad P h t v) (getOf x)
  | .nilCheck x => g1 evalNil (getOf x)
  | .store t x y => g2 (fun h u v => evalStore h u v (sizeOfT P t)) (getOf x) (getOf y)
  | .fieldAddr s x f => g1 (fun h v => evalFieldAddr P h s v f) (getOf x)
  | .indexAddr t x ix => g2 (fun h u v => evalIndexAddr P h t u v) (getOf x) (getOf ix)
  | .binOp op t x y _ => gBin P o op t (getOf x) (getOf y)
  | .pick c x y => g3 evalPick (getOf c) (getOf x) (getOf y)
  | _ => ⟨fun h a => evalOp P h a o⟩
theorem den_eq (P : Program) (o : Oper) (h : Hp) (a : Ac) : (den P o).f h a = evalOp P h a o := by
  obtain ⟨dst, op, type, pos, after, guard⟩ := o
  cases op with
  | move x => exact g1_eq _ _ _ _
  | assign x => exact g1_eq _ _ _ _
  | load t x => exact g1_eq _ _ _ _
  | nilCheck x => exact g1_eq _ _ _ _
  | store t x y => exact g2_eq (fun h u v => evalStore h u v (sizeOfT P t)) x y h a
  | fieldAddr s x f => exact g1_eq (fun h v => evalFieldAddr P h s v f) x h a
  | indexAddr t x ix => exact g2_eq _ _ _ _ _
  | binOp op t x y yt => exact gBin_eq _ _ _ _ _ _ _ _
  | pick c x y => exact g3_eq _ _ _ _ _ _
  | _ => rfl

def callF1 (call : Caller) (h : Hp) (x : Option Out) : Option (Value × Hp) :=
  Option.rec none (fun o => Out.rec (fun v h' => some (v, h')) (fun f args => call f args h) o) x
theorem callF1_eq (call : Caller) (h : Hp) (x : Option Out) : callF1 call h x = callO call h x := by
  cases x with
  | none => rfl
  | some o => cases o <;> rfl
structure Put where
  f : Value → Ac → Option Ac
def putTmp (d : Tmp) : Bool → Put
  | true => ⟨fun v a => some (wset v (wayOf 64 d) a)⟩
  | false => ⟨fun v a => Tr.set (some v) 64 a d⟩
def putAt (d : Tmp) : Bool → Put
  | true => ⟨fun _ _ => none⟩
  | false => putTmp d (Nat.ble d 1048576)
def putOf (n : Nat) (d : Option Tmp) : Put := match d with
  | none => ⟨fun _ a => some a⟩
  | some d => putAt d (Nat.ble n d)
theorem putOf_eq (n : Nat) (d : Option Tmp) (v : Value) (a : Ac) : (putOf n d).f v a = Ac.put n a d v := by
  cases d with
  | none => rfl
  | some d =>
    simp only [putOf, Ac.put]
    cases Nat.ble n d with
    | true => rfl
    | false =>
      simp only [putAt]
      cases h : Nat.ble d 1048576 with
      | true => exact (wset_eq v 63 d a (by have := Nat.le_of_ble_eq_true h; omega)).symm
      | false => rfl
def put1 (p : Value → Ac → Option Ac) (a : Ac) (x : Option (Value × Hp)) : Option (Ac × Hp) :=
  Option.rec none (fun q => Prod.rec (fun v h => Option.rec none (fun a' => some (a', h)) (p v a)) q) x
theorem put1_eq (n : Nat) (d : Option Tmp) (a : Ac) (x : Option (Value × Hp)) : put1 (putOf n d).f a x = putO n a d x := by
  cases x with
  | none => rfl
  | some q =>
    obtain ⟨v, h⟩ := q
    show Option.rec none (fun a' => some (a', h)) ((putOf n d).f v a) = withH h (Ac.put n a d v)
    rw [putOf_eq]
    cases Ac.put n a d v <;> rfl
structure Go1 where
  f : Caller → Hp → Ac → Option (Ac × Hp)
def want1 (want : Bool) (t : Tmp) : Bool → Ac → Option Bool
  | true => fun a => wantV want (some (wget (wayOf 64 t) a))
  | false => fun a => none
/-- is the operation wanted? -/
structure Want where
  f : Ac → Option Bool
def wantOf (want : Bool) (d : Option (Option Tmp)) : Want := ⟨fun a => wantD a want d⟩
def goIf (k : Option (Ac × Hp)) (p : Option Ac) (h : Hp) (b : Option Bool) : Option (Ac × Hp) :=
  Option.rec none (fun b => Bool.rec (withH h p) k b) b
def goWith (f : Hp → Ac → Option Out) (p : Value → Ac → Option Ac) (ops : Array Oper) : Option (Nat × Bool) → Go1
  | none => ⟨fun call h a => put1 p a (callF1 call h (f h a))⟩
  | some (j, want) => ⟨fun call h a => goIf (put1 p a (callF1 call h (f h a))) (p undef a) h (wantD a want (dstOf ops[j]?))⟩
def goOf (P : Program) (n : Nat) (ops : Array Oper) (o : Oper) : Go1 := match den P o, putOf n o.dst with
  | ⟨f⟩, ⟨p⟩ => goWith f p ops o.guard
theorem goOf_eq (P : Program) (n : Nat) (ops : Array Oper) (o : Oper) (call : Caller) (h : Hp) (a : Ac) : (goOf P n ops o).f call h a = goOp P call n h a o (wantedA ops a o) := by
  have e1 : (goOf P n ops o) = goWith (den P o).f (putOf n o.dst).f ops o.guard := by
    unfold goOf
    cases den P o; cases putOf n o.dst; rfl
  have e2 : put1 (putOf n o.dst).f a (callF1 call h ((den P o).f h a)) = putO n a o.dst (stepOp P call h a o) := by
    rw [put1_eq, callF1_eq, den_eq]; rfl
  rw [e1]
  unfold wantedA
  cases hg : o.guard with
  | none => simp only [goWith, e2]; rfl
  | some jw =>
    obtain ⟨j, want⟩ := jw
    simp only [goWith, e2, putOf_eq]
    cases wantD a want (dstOf ops[j]?) with
    | none => rfl
    | some b => cases b <;> rfl
def then1 (k : Caller → Hp → Ac → Option (Ac × Hp)) (call : Caller) (x : Option (Ac × Hp)) : Option (Ac × Hp) :=
  Option.rec none (fun p => Prod.rec (fun a h => k call h a) p) x
def opsOf (P : Program) (n : Nat) (ops : Array Oper) : List Oper → Go1
  | [] => ⟨fun _ h a => some (a, h)⟩
  | o :: l => match goOf P n ops o, opsOf P n ops l with
    | ⟨f⟩, ⟨g⟩ => ⟨fun call h a => then1 g call (f call h a)⟩
theorem opsOf_eq (P : Program) (n : Nat) (ops : Array Oper) (call : Caller) : ∀ (l : List Oper) (h : Hp) (a : Ac), (opsOf P n ops l).f call h a = evOps P call n ops l a h := by
  intro l
  induction l with
  | nil => intro h a; rfl
  | cons o l ih =>
    intro h a
    have e1 : (opsOf P n ops (o :: l)).f call h a = then1 (opsOf P n ops l).f call ((goOf P n ops o).f call h a) := by
      simp only [opsOf]
    rw [e1, goOf_eq]
    simp only [evOps]
    cases goOp P call n h a o (wantedA ops a o) with
    | none => rfl
    | some p => obtain ⟨a1, h1⟩ := p; exact ih h1 a1

/-- what code does -/
structure Cd where
  f : Caller → Runner → Hp → Ac → Res
def seq1 (call : Caller) (k : Runner) (g : Caller → Runner → Hp → Ac → Res) (x : Res) : Res :=
  Option.rec none (fun p => Prod.rec (fun ex q => Prod.rec (fun a h => Ex.rec (g call k h a) (fun i => some (.exit i, a, h)) (some (.ret, a, h)) ex) q) p) x
def reg1 (x : Option (Ac × Hp)) : Res := Option.rec none (fun p => Prod.rec (fun a h => some (.normal, a, h)) p) x
def cond1 (x y : Res) : Value → Res
  | .bool true => x
  | .bool false => y
  | _ => none
def codeReg (P : Program) (n : Nat) (ops : Array Oper) : Bool → Cd
  | false => match opsOf P n ops ops.toList with
    | ⟨f⟩ => ⟨fun call _ h a => reg1 (f call h a)⟩
  | true => ⟨fun call _ h a => reg1 (evDraw P call n ops a h)⟩
def codeOf (P : Program) (n : Nat) : Code → Cd
  | .skip => ⟨fun _ _ h a => some (.normal, a, h)⟩
  | .region _ ops b => codeReg P n ops b
  | .seq x y => match codeOf P n x, codeOf P n y with
    | ⟨f⟩, ⟨g⟩ => ⟨fun call k h a => seq1 call k g (f call k h a)⟩
  | .cond c x y => match getOf c, codeOf P n x, codeOf P n y with
    | ⟨c⟩, ⟨f⟩, ⟨g⟩ => ⟨fun call k h a => cond1 (f call k h a) (g call k h a) (c a)⟩
  | .block id b => match codeOf P n b with
    | ⟨f⟩ => ⟨fun call k h a => blockO id (f call k h a)⟩
  | .loop b => match codeOf P n b with
    | ⟨f⟩ => ⟨fun call k h a => seqO k (.loop b) (f call k h a)⟩
  | .exit i => ⟨fun _ _ h a => some (.exit i, a, h)⟩
  | .ret => ⟨fun _ _ h a => some (.ret, a, h)⟩
  | _ => ⟨fun _ _ _ _ => none⟩
def runC (c : Cd) (call : Caller) (k : Runner) (h : Hp) (a : Ac) : Res := Cd.rec (fun f => f call k h a) c
theorem runC_eq (c : Cd) (call : Caller) (k : Runner) (h : Hp) (a : Ac) : runC c call k h a = c.f call k h a := by cases c; rfl
def fCode (P : Program) (call : Caller) (n : Nat) (k : Nat) : Runner :=
  Nat.rec (fun _ _ _ => none) (fun _ ih c a h => runC (codeOf P n c) call ih h a) k

section
variable {P : Program} {call : Caller} {n : Nat}
theorem seqO_mono {k k' : Runner} {y : Code} {x x' : Res} {r : Ex × Ac × Hp} (hx : ∀ r, x = some r → x' = some r) (hk : ∀ a h r, k y a h = some r → k' y a h = some r) (he : seqO k y x = some r) : seqO k' y x' = some r := by
  rcases seqO_some he with ⟨a, h, e1, e2⟩ | ⟨e1, hne⟩
  · rw [hx _ e1]; exact hk a h r e2
  · rw [hx _ e1]
    obtain ⟨ex, a, h⟩ := r
    cases ex with
    | normal => exact absurd rfl hne
    | exit i => rfl
    | ret => rfl
theorem evCode_mono : ∀ (m m' : Nat) (c : Code) (a : Ac) (h : Hp) (r : Ex × Ac × Hp), m ≤ m' → evCode P call n m c a h = some r → evCode P call n m' c a h = some r := by
  intro m
  induction m with
  | zero => intro m' c a h r _ he; simp [evCode] at he
  | succ m ih =>
    intro m' c a h r hle he
    obtain ⟨m', rfl⟩ : ∃ k, m' = k + 1 := ⟨m' - 1, by omega⟩
    have ih' : ∀ c a h r, evCode P call n m c a h = some r → evCode P call n m' c a h = some r := fun c a h r he => ih m' c a h r (by omega) he
    simp only [evCode] at he ⊢
    cases c with
    | seq x y => simp only [codeStep] at he ⊢; exact seqO_mono (fun r hr => ih' x a h r hr) (fun a h r hr => ih' y a h r hr) he
    | loop b => simp only [codeStep] at he ⊢; exact seqO_mono (fun r hr => ih' b a h r hr) (fun a h r hr => ih' (.loop b) a h r hr) he
    | cond c x y =>
      simp only [codeStep] at he ⊢
      generalize Ac.eval a c = v at he ⊢
      cases v with
      | bool b => cases b <;> simp only [condO] at he ⊢ <;> exact ih' _ a h r he
      | _ => simp [condO] at he
    | block id b =>
      simp only [codeStep] at he ⊢
      cases hb : evCode P call n m b a h with
      | none => rw [hb] at he; simp [blockO] at he
      | some r1 => rw [hb] at he; rw [ih' b a h r1 hb]; exact he
    | region id ops d => cases d <;> exact he
    | _ => exact he

theorem codeOf_some (k : Runner) (hk : ∀ c a h r, k c a h = some r → ∃ m, evCode P call n m c a h = some r) : ∀ (c : Code) (a : Ac) (h : Hp) (r : Ex × Ac × Hp), (codeOf P n c).f call k h a = some r → ∃ m, evCode P call n m c a h = some r := by
  intro c
  induction c with
  | skip => intro a h r he; exact ⟨1, he⟩
  | exit i => intro a h r he; exact ⟨1, he⟩
  | ret => intro a h r he; exact ⟨1, he⟩
  | region id ops d =>
    intro a h r he
    have key : ∀ x : Option (Ac × Hp), reg1 x = regO x := fun x => by cases x <;> rfl
    cases d with
    | false =>
      have e1 : (codeOf P n (.region id ops false)).f call k h a = regO (evOps P call n ops ops.toList a h) := by
        rw [← opsOf_eq, ← key]
        simp only [codeOf, codeReg]
      rw [e1] at he
      exact ⟨1, he⟩
    | true => exact ⟨1, by rw [show (codeOf P n (.region id ops true)).f call k h a = regO (evDraw P call n ops a h) from key _] at he; exact he⟩
  | seq x y ihx ihy =>
    intro a h r he
    have e1 : (codeOf P n (.seq x y)).f call k h a = seq1 call k (codeOf P n y).f ((codeOf P n x).f call k h a) := by
      simp only [codeOf]
    rw [e1] at he
    cases hx : (codeOf P n x).f call k h a with
    | none => rw [hx] at he; cases he
    | some r1 =>
      rw [hx] at he
      obtain ⟨ex, a1, h1⟩ := r1
      obtain ⟨m1, hm1⟩ := ihx a h _ hx
      cases ex with
      | normal =>
        have he' : (codeOf P n y).f call k h1 a1 = some r := he
        obtain ⟨m2, hm2⟩ := ihy a1 h1 r he'
        refine ⟨max m1 m2 + 1, ?_⟩
        simp only [evCode, codeStep]
        rw [evCode_mono m1 _ x a h _ (Nat.le_max_left _ _) hm1]
        exact evCode_mono m2 _ y a1 h1 r (Nat.le_max_right _ _) hm2
      | exit i => exact ⟨m1 + 1, by simp only [evCode, codeStep]; rw [hm1]; exact he⟩
      | ret => exact ⟨m1 + 1, by simp only [evCode, codeStep]; rw [hm1]; exact he⟩
  | cond c x y ihx ihy =>
    intro a h r he
    have e1 : (codeOf P n (.cond c x y)).f call k h a = cond1 ((codeOf P n x).f call k h a) ((codeOf P n y).f call k h a) (Ac.eval a c) := by
      rw [← getOf_eq]
      simp only [codeOf]
    rw [e1] at he
    cases hv : Ac.eval a c with
    | bool b =>
      rw [hv] at he
      cases b with
      | true => obtain ⟨m, hm⟩ := ihx a h r he; exact ⟨m + 1, by simp only [evCode, codeStep, hv, condO]; exact hm⟩
      | false => obtain ⟨m, hm⟩ := ihy a h r he; exact ⟨m + 1, by simp only [evCode, codeStep, hv, condO]; exact hm⟩
    | _ => rw [hv] at he; cases he
  | block id b ih =>
    intro a h r he
    have e1 : (codeOf P n (.block id b)).f call k h a = blockO id ((codeOf P n b).f call k h a) := by
      simp only [codeOf]
    rw [e1] at he
    cases hb : (codeOf P n b).f call k h a with
    | none => rw [hb] at he; cases he
    | some r1 =>
      rw [hb] at he
      obtain ⟨m, hm⟩ := ih a h _ hb
      exact ⟨m + 1, by simp only [evCode, codeStep]; rw [hm]; exact he⟩
  | loop b ih =>
    intro a h r he
    have e1 : (codeOf P n (.loop b)).f call k h a = seqO k (.loop b) ((codeOf P n b).f call k h a) := by
      simp only [codeOf]
    rw [e1] at he
    rcases seqO_some he with ⟨a1, h1, x1, x2⟩ | ⟨x1, hne⟩
    · obtain ⟨m1, hm1⟩ := ih a h _ x1
      obtain ⟨m2, hm2⟩ := hk _ _ _ _ x2
      refine ⟨max m1 m2 + 1, ?_⟩
      simp only [evCode, codeStep]
      rw [evCode_mono m1 _ b a h _ (Nat.le_max_left _ _) hm1]
      exact evCode_mono m2 _ (.loop b) a1 h1 r (Nat.le_max_right _ _) hm2
    · obtain ⟨m1, hm1⟩ := ih a h _ x1
      refine ⟨m1 + 1, ?_⟩
      simp only [evCode, codeStep]
      rw [hm1]
      obtain ⟨ex, a1, h1⟩ := r
      cases ex with
      | normal => exact absurd rfl hne
      | exit i => rfl
      | ret => rfl
  | _ => intro a h r he; cases he

theorem fCode_some : ∀ (k : Nat) (c : Code) (a : Ac) (h : Hp) (r : Ex × Ac × Hp), fCode P call n k c a h = some r → ∃ m, evCode P call n m c a h = some r := by
  intro k
  induction k with
  | zero => intro c a h r he; cases he
  | succ k ih =>
    intro c a h r he
    have he' : runC (codeOf P n c) call (fCode P call n k) h a = some r := he
    rw [runC_eq] at he'
    exact codeOf_some _ (fun c a h r hr => ih c a h r hr) c a h r he'
end

def fBody (P : Program) (call : Caller) (fn : Func) (c : Code) (h : Hp) (n : Nat) : Option (Tr Value) → Option (Value × Hp)
  | some t => match Nat.ble n fn.ntmps with
    | true => retO P fn (fCode P call fn.ntmps 100000 c t h)
    | false => none
  | none => none
def fCallF (P : Program) (call : Caller) (args : List Value) (h : Hp) : Option Func → Option (Value × Hp)
  | some fn => match fn.body with
    | some c => fBody P call fn c h args.length (fromList args 0 .nil)
    | none => none
  | none => none
def fCall (P : Program) (k : Nat) : Caller :=
  Nat.rec (fun _ _ _ => none) (fun _ ih f args h => fCallF P ih args h P.funcs[f]?) k

theorem fCall_ok {P : Program} {n0 : Nat} (hm : P.follows .mixedOrders = true) : ∀ d, CallOk P n0 (fCall P d) := by
  intro d
  induction d with
  | zero => intro f args h v h' ι w us he; cases he
  | succ d ih =>
    intro f args h v h' ι w us he H hus
    have he : fCallF P (fCall P d) args h P.funcs[f]? = some (v, h') := he
    cases hf : P.funcs[f]? with
    | none => rw [hf] at he; simp [fCallF] at he
    | some fn =>
      rw [hf] at he
      simp only [fCallF] at he
      cases hb : fn.body with
      | none => rw [hb] at he; simp at he
      | some c =>
        rw [hb] at he
        simp only at he
        cases ht : fromList args 0 .nil with
        | none => rw [ht] at he; simp [fBody] at he
        | some t =>
          rw [ht] at he
          simp only [fBody] at he
          cases hle : Nat.ble args.length fn.ntmps with
          | false => rw [hle] at he; simp at he
          | true =>
            rw [hle] at he
            have hle := Nat.le_of_ble_eq_true hle
            simp only at he
            cases hev : fCode P (fCall P d) fn.ntmps 100000 c t h with
            | none => rw [hev] at he; simp [retO] at he
            | some r =>
              rw [hev] at he
              obtain ⟨m, hev⟩ := fCode_some _ _ _ _ _ hev
              obtain ⟨ex, a1, h1⟩ := r
              refine calls_of_wp hf hb ?_
              refine evCode_wp ih hm m c t h ι _ w ex a1 h1 hev H (ARel.start hle hus ht) _ ?_
              rintro act' w' ⟨κ, K1, K2, K3⟩
              have key : ∀ {v : Value} {h' : Hp}, packR h1 (evResults P a1 h1 fn.results.toList) = some (v, h') → act'.defers = [] ∧ ∃ u, (results fn act'.tmps).run P w' = .ok u w' ∧ ∃ u' ι', Ending.returned u = .returned u' ∧ VRel ι' v u' ∧ HRel n0 ι' h' w' ∧ Ext ι h w ι' h' w' := by
                intro v h' hp
                obtain ⟨rfl, u, hu, hv⟩ := packR_run K1 K2 fn hp
                exact ⟨K2.defers, u, hu, u, κ, rfl, hv, K1, K3⟩
              cases ex with
              | normal => simp only [retO] at he; exact key he
              | ret => simp only [retO] at he; exact key he
              | exit i => simp [retO] at he
end
end Go.Ev
