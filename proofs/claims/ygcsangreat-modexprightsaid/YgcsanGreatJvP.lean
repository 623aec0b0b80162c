/-
  The evaluator in a form that the kernel runs with less toil: each operation, each region is laid once as a function.
-/
import Derived.Test.YgcsanGreatJvO
namespace Go.Jv
open Go
set_option linter.unusedVariables false
set_option linter.unusedSimpArgs false
variable {σ : Va}

/-- the road to a number in a row -/
def wayOf : Nat → Nat → List Bool
  | 0, _ => []
  | d + 1, n => match Nat.beq n 0 with
    | true => []
    | false => match Nat.beq (Nat.mod n 2) 1 with
      | true => true :: wayOf d (Nat.div n 2)
      | false => false :: wayOf d (Nat.pred (Nat.div n 2))
def wget : List Bool → Tr Value → Value
  | [], .node _ _ v _ _ => orUndef v
  | true :: w, .node _ _ _ l _ => wget w l
  | false :: w, .node _ _ _ _ r => wget w r
  | _, .nil => undef
def wset (v : Value) : List Bool → Tr Value → Tr Value
  | [], .nil => .node 0 0 (some v) .nil .nil
  | [], .node _ _ _ l r => .node 0 0 (some v) l r
  | true :: w, .nil => .node 0 0 none (wset v w .nil) .nil
  | true :: w, .node _ _ u l r => .node 0 0 u (wset v w l) r
  | false :: w, .nil => .node 0 0 none .nil (wset v w .nil)
  | false :: w, .node _ _ u l r => .node 0 0 u l (wset v w r)

theorem wget_eq : ∀ (d n : Nat) (t : Tr Value), n < 2 ^ d → wget (wayOf d n) t = orUndef (Tr.get t n) := by
  intro d
  induction d with
  | zero =>
    intro n t h
    have : n = 0 := by simpa using h
    subst this
    cases t with
    | nil => rfl
    | node b o v l r => rfl
  | succ d ih =>
    intro n t h
    simp only [wayOf]
    by_cases h0 : n = 0
    · subst h0
      cases t with
      | nil => rfl
      | node b o v l r => rfl
    · rw [beqF h0]
      have hp : 2 ^ (d + 1) = 2 * 2 ^ d := by rw [Nat.pow_succ]; omega
      by_cases h2 : n % 2 = 1
      · have h3 : Nat.beq (Nat.mod n 2) 1 = true := beqT h2
        rw [h3]
        cases t with
        | nil => rfl
        | node b o v l r =>
          rw [Tr.get_node, if_neg h0, if_pos h2]
          exact ih (n / 2) l (by omega)
      · have h3 : Nat.beq (Nat.mod n 2) 1 = false := beqF h2
        rw [h3]
        cases t with
        | nil => rfl
        | node b o v l r =>
          rw [Tr.get_node, if_neg h0, if_neg h2]
          exact ih (n / 2 - 1) r (by omega)
theorem wset_eq (v : Value) : ∀ (d n : Nat) (t : Tr Value), n < 2 ^ d → Tr.set (some v) (d + 1) t n = some (wset v (wayOf (d + 1) n) t) := by
  intro d
  induction d with
  | zero =>
    intro n t h
    have : n = 0 := by simpa using h
    subst this
    cases t <;> rfl
  | succ d ih =>
    intro n t h
    have hw : wayOf (d + 1 + 1) n = match Nat.beq n 0 with | true => [] | false => match Nat.beq (Nat.mod n 2) 1 with | true => true :: wayOf (d + 1) (Nat.div n 2) | false => false :: wayOf (d + 1) (Nat.pred (Nat.div n 2)) := rfl
    rw [hw]
    by_cases h0 : n = 0
    · subst h0
      cases t <;> rfl
    · have hp : 2 ^ (d + 1) = 2 * 2 ^ d := by rw [Nat.pow_succ]; omega
      by_cases h2 : n % 2 = 1
      · have h3 : Nat.beq (Nat.mod n 2) 1 = true := beqT h2
        cases t with
        | nil =>
          rw [Tr.set, beqF h0, h3]
          simp only
          rw [show Nat.div n 2 = n / 2 from rfl, ih (n / 2) .nil (by omega)]; rfl
        | node b o u l r =>
          rw [Tr.set, beqF h0, h3]
          simp only
          rw [show Nat.div n 2 = n / 2 from rfl, ih (n / 2) l (by omega)]; rfl
      · have h3 : Nat.beq (Nat.mod n 2) 1 = false := beqF h2
        cases t with
        | nil =>
          rw [Tr.set, beqF h0, h3]
          simp only
          rw [show Nat.pred (Nat.div n 2) = n / 2 - 1 from rfl, ih (n / 2 - 1) .nil (by omega)]; rfl
        | node b o u l r =>
          rw [Tr.set, beqF h0, h3]
          simp only
          rw [show Nat.pred (Nat.div n 2) = n / 2 - 1 from rfl, ih (n / 2 - 1) r (by omega)]; rfl

structure Get where
  f : Ac → Value
def stepL (f : Ac → Value) (t : Ac) : Value := match t with
  | .node _ _ _ l _ => f l
  | .nil => undef
def stepR (f : Ac → Value) (t : Ac) : Value := match t with
  | .node _ _ _ _ r => f r
  | .nil => undef
def rootV (t : Ac) : Value := match t with
  | .node _ _ (some v) _ _ => v
  | _ => undef
def getStep : Bool → Get → Get
  | true, ⟨f⟩ => ⟨fun t => stepL f t⟩
  | false, ⟨f⟩ => ⟨fun t => stepR f t⟩
def getWay : List Bool → Get
  | [] => ⟨fun t => rootV t⟩
  | b :: w => getStep b (getWay w)
theorem getWay_eq : ∀ (w : List Bool) (t : Ac), (getWay w).f t = wget w t := by
  intro w
  induction w with
  | nil =>
    intro t
    cases t with
    | nil => rfl
    | node b o v l r => cases v <;> rfl
  | cons c w ih =>
    intro t
    cases c with
    | true =>
      have : (getWay (true :: w)).f t = stepL (getWay w).f t := by simp only [getWay, getStep]
      rw [this]
      cases t with
      | nil => rfl
      | node b o v l r => exact ih l
    | false =>
      have : (getWay (false :: w)).f t = stepR (getWay w).f t := by simp only [getWay, getStep]
      rw [this]
      cases t with
      | nil => rfl
      | node b o v l r => exact ih r
def getTmp (t : Tmp) : Bool → Get
  | true => getWay (wayOf 64 t)
  | false => ⟨fun a => orUndef (Tr.get a t)⟩
def getConst (v : Value) : Bool → Get
  | true => ⟨fun _ => v⟩
  | false => ⟨fun _ => .chan none⟩
def getOf : Operand → Get
  | .tmp t => getTmp t (Nat.ble t 1048576)
  | .const v => getConst v (constOk v)
  | .global _ => ⟨fun _ => .chan none⟩
  | .func _ => ⟨fun _ => .chan none⟩
theorem getOf_eq (x : Operand) (a : Ac) : (getOf x).f a = Ac.eval a x := by
  cases x with
  | tmp t =>
    simp only [getOf, Ac.eval]
    cases h : Nat.ble t 1048576 with
    | true => exact (getWay_eq _ _).trans (wget_eq 64 t a (by have := Nat.le_of_ble_eq_true h; omega))
    | false => rfl
  | const v => simp only [getOf, Ac.eval]; cases constOk v <;> rfl
  | global g => rfl
  | func f => rfl

/-- what an operation does -/
structure Do where
  f : Hp → Ac → Option Out
def g1 (k : Hp → Value → Option Out) (x : Get) : Do := match x with
  | ⟨x⟩ => ⟨fun h a => k h (x a)⟩
def g2 (k : Hp → Value → Value → Option Out) (x y : Get) : Do := match x, y with
  | ⟨x⟩, ⟨y⟩ => ⟨fun h a => k h (x a) (y a)⟩
def g3 (k : Hp → Value → Value → Value → Option Out) (x y z : Get) : Do := match x, y, z with
  | ⟨x⟩, ⟨y⟩, ⟨z⟩ => ⟨fun h a => k h (x a) (y a) (z a)⟩
def gBin (P : Program) (o : Oper) (op : BinOp) (t : TypeId) (x y : Get) : Do := match x, y with
  | ⟨x⟩, ⟨y⟩ => ⟨fun h a => evalBin P h (Ac.eval a) o op t (x a) (y a)⟩
theorem g1_eq (k : Hp → Value → Option Out) (x : Operand) (h : Hp) (a : Ac) : (g1 k (getOf x)).f h a = k h (Ac.eval a x) := by
  rw [← getOf_eq]; cases getOf x; rfl
theorem g2_eq (k : Hp → Value → Value → Option Out) (x y : Operand) (h : Hp) (a : Ac) : (g2 k (getOf x) (getOf y)).f h a = k h (Ac.eval a x) (Ac.eval a y) := by
  rw [← getOf_eq, ← getOf_eq]; cases getOf x; cases getOf y; rfl
theorem g3_eq (k : Hp → Value → Value → Value → Option Out) (x y z : Operand) (h : Hp) (a : Ac) : (g3 k (getOf x) (getOf y) (getOf z)).f h a = k h (Ac.eval a x) (Ac.eval a y) (Ac.eval a z) := by
  rw [← getOf_eq, ← getOf_eq, ← getOf_eq]; cases getOf x; cases getOf y; cases getOf z; rfl
theorem gBin_eq (P : Program) (o : Oper) (op : BinOp) (t : TypeId) (x y : Operand) (h : Hp) (a : Ac) : (gBin P o op t (getOf x) (getOf y)).f h a = evalBin P h (Ac.eval a) o op t (Ac.eval a x) (Ac.eval a y) := by
  rw [← getOf_eq, ← getOf_eq]; cases getOf x; cases getOf y; rfl

/-- rows of values to be had from the frame -/
structure GetL where
  f : Ac → List Value
def consGet : Get → GetL → GetL
  | ⟨x⟩, ⟨l⟩ => ⟨fun a => x a :: l a⟩
def listOf : List Operand → GetL
  | [] => ⟨fun _ => []⟩
  | x :: l => consGet (getOf x) (listOf l)
theorem listOf_eq : ∀ (l : List Operand) (a : Ac), (listOf l).f a = argsOf a l := by
  intro l
  induction l with
  | nil => intro a; rfl
  | cons x l ih =>
    intro a
    have : (listOf (x :: l)).f a = (getOf x).f a :: (listOf l).f a := by simp only [listOf, consGet]
    rw [this, getOf_eq, ih]; rfl
structure GetO where
  f : Ac → Option Value
def someGet : Get → GetO
  | ⟨x⟩ => ⟨fun a => some (x a)⟩
def maybeOf : Option Operand → GetO
  | none => ⟨fun _ => none⟩
  | some x => someGet (getOf x)
theorem maybeOf_eq (x : Option Operand) (a : Ac) : (maybeOf x).f a = evalO a x := by
  cases x with
  | none => rfl
  | some x =>
    have : (maybeOf (some x)).f a = some ((getOf x).f a) := by simp only [maybeOf, someGet]
    rw [this, getOf_eq]; rfl
def gUn (P : Program) (o : Oper) : Get → Do
  | ⟨x⟩ => ⟨fun h a => evalUn P h (Ac.eval a) o (x a)⟩
def gConv (P : Program) (o : Oper) (s d : TypeId) : Get → Do
  | ⟨x⟩ => ⟨fun h a => evalConv P h (Ac.eval a) o s d (x a)⟩
def gSlice (P : Program) (t : TypeId) : Get → GetO → GetO → GetO → Do
  | ⟨x⟩, ⟨lo⟩, ⟨hi⟩, ⟨mx⟩ => ⟨fun h a => mkO h (evalSlice P t (x a) (lo a) (hi a) (mx a))⟩
def gCall (P : Program) (f : FuncId) : GetL → Do
  | ⟨l⟩ => ⟨fun _ a => evalCallF P f (l a)⟩
def gBuiltin (P : Program) (o : Oper) (b : Builtin) (types : List TypeId) : GetL → Do
  | ⟨l⟩ => ⟨fun h a => evalBuiltin P h a o b types (l a)⟩
def gCallee (P : Program) (o : Oper) (c : Call) : Do := match c.callee with
  | .value (.func f) => gCall P f (listOf c.args.toList)
  | .builtin b => gBuiltin P o b c.argTypes.toList (listOf c.args.toList)
  | _ => ⟨fun _ _ => none⟩
theorem gCallee_eq (P : Program) (o : Oper) (c : Call) (h : Hp) (a : Ac) : (gCallee P o c).f h a = evalCall P h a o c := by
  obtain ⟨callee, args, types⟩ := c
  cases callee with
  | value f =>
    cases f with
    | func f =>
      have : (gCallee P o ⟨.value (.func f), args, types⟩).f h a = evalCallF P f ((listOf args.toList).f a) := by simp only [gCallee, gCall]
      rw [this, listOf_eq]; rfl
    | _ => rfl
  | builtin b =>
    have : (gCallee P o ⟨.builtin b, args, types⟩).f h a = evalBuiltin P h a o b types.toList ((listOf args.toList).f a) := by simp only [gCallee, gBuiltin]
    rw [this, listOf_eq]; rfl
  | _ => rfl

def den (P : Program) (o : Oper) : Do := match o.op with
  | .move x => g1 mk (getOf x)
  | .assign x => g1 mk (getOf x)
  | .load t x => g1 (fun h v => evalLoad P h t v) (getOf x)
  | .nilCheck x => g1 evalNil (getOf x)
  | .store t x y => g2 (fun h u v => evalStore h u v (sizeOfT P t)) (getOf x) (getOf y)
  | .fieldAddr s x f => g1 (fun h v => evalFieldAddr P h s v f) (getOf x)
  | .indexAddr t x ix => g2 (fun h u v => evalIndexAddr P h t u v) (getOf x) (getOf ix)
  | .binOp op t x y _ => gBin P o op t (getOf x) (getOf y)
  | .pick c x y => g3 evalPick (getOf c) (getOf x) (getOf y)
  | .unOp _ _ x => gUn P o (getOf x)
  | .convert s d x => gConv P o s d (getOf x)
  | .makeSlice t l c => g2 (fun h u v => evalMake P h t u v) (getOf l) (getOf c)
  | .slice t x lo hi mx => gSlice P t (getOf x) (maybeOf lo) (maybeOf hi) (maybeOf mx)
  | .extract x ix => g1 (fun h v => evalExtract h v ix) (getOf x)
  | .call c => gCallee P o c
  | _ => ⟨fun h a => evalOp P h a o⟩
theorem den_eq (P : Program) (o : Oper) (h : Hp) (a : Ac) : (den P o).f h a = evalOp P h a o := by
  obtain ⟨dst, op, type, pos, after, guard⟩ := o
  cases op with
  | move x => exact g1_eq _ _ _ _
  | assign x => exact g1_eq _ _ _ _
  | load t x => exact g1_eq _ _ _ _
  | nilCheck x => exact g1_eq _ _ _ _
  | store t x y => exact g2_eq (fun h u v => evalStore h u v (sizeOfT P t)) x y h a
  | fieldAddr s x f => exact g1_eq (fun h v => evalFieldAddr P h s v f) x h a
  | indexAddr t x ix => exact g2_eq _ _ _ _ _
  | binOp op t x y yt => exact gBin_eq _ _ _ _ _ _ _ _
  | pick c x y => exact g3_eq _ _ _ _ _ _
  | unOp op t x =>
    have : (den P ⟨dst, .unOp op t x, type, pos, after, guard⟩).f h a = evalUn P h (Ac.eval a) ⟨dst, .unOp op t x, type, pos, after, guard⟩ ((getOf x).f a) := by simp only [den, gUn]
    rw [this, getOf_eq]; rfl
  | convert s d x =>
    have : (den P ⟨dst, .convert s d x, type, pos, after, guard⟩).f h a = evalConv P h (Ac.eval a) ⟨dst, .convert s d x, type, pos, after, guard⟩ s d ((getOf x).f a) := by simp only [den, gConv]
    rw [this, getOf_eq]; rfl
  | makeSlice t l c => exact g2_eq (fun h u v => evalMake P h t u v) l c h a
  | slice t x lo hi mx =>
    have : (den P ⟨dst, .slice t x lo hi mx, type, pos, after, guard⟩).f h a = mkO h (evalSlice P t ((getOf x).f a) ((maybeOf lo).f a) ((maybeOf hi).f a) ((maybeOf mx).f a)) := by simp only [den, gSlice]
    rw [this, getOf_eq, maybeOf_eq, maybeOf_eq, maybeOf_eq]; rfl
  | extract x ix => exact g1_eq (fun h v => evalExtract h v ix) x h a
  | call c => exact gCallee_eq P _ c h a
  | _ => rfl

/-! the operations of a region, one behind the other -/
structure Go1 where
  f : Caller → Hp → Ac → Option (Ac × Hp)
/-- where a value is laid -/
structure Lay where
  f : Value → Ac → Ac
def layL (f : Value → Ac → Ac) (v : Value) (t : Ac) : Ac := match t with
  | .node _ _ u l r => .node 0 0 u (f v l) r
  | .nil => .node 0 0 none (f v .nil) .nil
def layR (f : Value → Ac → Ac) (v : Value) (t : Ac) : Ac := match t with
  | .node _ _ u l r => .node 0 0 u l (f v r)
  | .nil => .node 0 0 none .nil (f v .nil)
def layV (v : Value) (t : Ac) : Ac := match t with
  | .node _ _ _ l r => .node 0 0 (some v) l r
  | .nil => .node 0 0 (some v) .nil .nil
def layStep : Bool → Lay → Lay
  | true, ⟨f⟩ => ⟨fun v t => layL f v t⟩
  | false, ⟨f⟩ => ⟨fun v t => layR f v t⟩
def layWay : List Bool → Lay
  | [] => ⟨fun v t => layV v t⟩
  | b :: w => layStep b (layWay w)
theorem layWay_eq (v : Value) : ∀ (w : List Bool) (t : Ac), (layWay w).f v t = wset v w t := by
  intro w
  induction w with
  | nil => intro t; cases t <;> rfl
  | cons c w ih =>
    intro t
    cases c with
    | true =>
      have : (layWay (true :: w)).f v t = layL (layWay w).f v t := by simp only [layWay, layStep]
      rw [this]
      cases t with
      | nil => simp only [layL, wset, ih]
      | node b o u l r => simp only [layL, wset, ih]
    | false =>
      have : (layWay (false :: w)).f v t = layR (layWay w).f v t := by simp only [layWay, layStep]
      rw [this]
      cases t with
      | nil => simp only [layR, wset, ih]
      | node b o u l r => simp only [layR, wset, ih]
def layAt (d : Tmp) : Bool → Bool → Option Lay
  | false, true => some (layWay (wayOf 64 d))
  | _, _ => none
def layOf (n : Nat) : Option Tmp → Option Lay
  | none => some ⟨fun _ a => a⟩
  | some d => layAt d (Nat.ble n d) (Nat.ble d 1048576)
theorem layOf_some {n : Nat} {d : Option Tmp} {p : Lay} (h : layOf n d = some p) (v : Value) (a : Ac) : Ac.put n a d v = some (p.f v a) := by
  cases d with
  | none => simp only [layOf, Option.some.injEq] at h; subst h; rfl
  | some d =>
    simp only [layOf] at h
    cases h1 : Nat.ble n d with
    | true => rw [h1] at h; cases Nat.ble d 1048576 <;> simp [layAt] at h
    | false =>
      rw [h1] at h
      cases h2 : Nat.ble d 1048576 with
      | false => rw [h2] at h; simp [layAt] at h
      | true =>
        rw [h2] at h
        simp only [layAt, Option.some.injEq] at h
        subst h
        simp only [Ac.put, h1]
        rw [layWay_eq]
        exact wset_eq v 63 d a (by have := Nat.le_of_ble_eq_true h2; omega)
def ret1 (p : Value → Ac → Ac) (g : Caller → Hp → Ac → Option (Ac × Hp)) (call : Caller) (a : Ac) : Option (Value × Hp) → Option (Ac × Hp)
  | some (v, h) => g call h (p v a)
  | none => none
def out1 (p : Value → Ac → Ac) (g : Caller → Hp → Ac → Option (Ac × Hp)) (call : Caller) (h : Hp) (a : Ac) : Option Out → Option (Ac × Hp)
  | some ⟨v, h', none⟩ => g call h' (p v a)
  | some ⟨_, _, some (f, args)⟩ => ret1 p g call a (call f args h)
  | none => none
def runOp (d : Do) (p : Value → Ac → Ac) (g : Caller → Hp → Ac → Option (Ac × Hp)) : Go1 := match d with
  | ⟨f⟩ => ⟨fun call h a => out1 p g call h a (f h a)⟩
def moveOp (x : Get) (p : Value → Ac → Ac) (g : Caller → Hp → Ac → Option (Ac × Hp)) : Go1 := match x with
  | ⟨x⟩ => ⟨fun call h a => g call h (p (x a) a)⟩
def plainOp (P : Program) (o : Oper) (p : Value → Ac → Ac) (g : Caller → Hp → Ac → Option (Ac × Hp)) : Go1 := match o.op with
  | .move x => moveOp (getOf x) p g
  | .assign x => moveOp (getOf x) p g
  | _ => runOp (den P o) p g
/-- is it there, and what is it? -/
def seekL (f : Ac → Option Value) (t : Ac) : Option Value := match t with
  | .node _ _ _ l _ => f l
  | .nil => none
def seekR (f : Ac → Option Value) (t : Ac) : Option Value := match t with
  | .node _ _ _ _ r => f r
  | .nil => none
def seekV (t : Ac) : Option Value := match t with
  | .node _ _ v _ _ => v
  | .nil => none
def seekStep : Bool → GetO → GetO
  | true, ⟨f⟩ => ⟨fun t => seekL f t⟩
  | false, ⟨f⟩ => ⟨fun t => seekR f t⟩
def seekWay : List Bool → GetO
  | [] => ⟨fun t => seekV t⟩
  | b :: w => seekStep b (seekWay w)
theorem seekWay_eq : ∀ (d n : Nat) (t : Ac), n < 2 ^ d → (seekWay (wayOf d n)).f t = Tr.get t n := by
  intro d
  induction d with
  | zero =>
    intro n t h
    have : n = 0 := by simpa using h
    subst this
    cases t <;> rfl
  | succ d ih =>
    intro n t h
    simp only [wayOf]
    by_cases h0 : n = 0
    · subst h0
      cases t <;> rfl
    · rw [beqF h0]
      have hp : 2 ^ (d + 1) = 2 * 2 ^ d := by rw [Nat.pow_succ]; omega
      by_cases h2 : n % 2 = 1
      · have h3 : Nat.beq (Nat.mod n 2) 1 = true := beqT h2
        rw [h3]
        have e1 : (seekWay (true :: wayOf d (Nat.div n 2))).f t = seekL (seekWay (wayOf d (Nat.div n 2))).f t := by simp only [seekWay, seekStep]
        show (seekWay (true :: wayOf d (Nat.div n 2))).f t = _
        rw [e1]
        cases t with
        | nil => rfl
        | node b o v l r =>
          rw [Tr.get_node, if_neg h0, if_pos h2]
          exact ih (n / 2) l (by omega)
      · have h3 : Nat.beq (Nat.mod n 2) 1 = false := beqF h2
        rw [h3]
        have e1 : (seekWay (false :: wayOf d (Nat.pred (Nat.div n 2)))).f t = seekR (seekWay (wayOf d (Nat.pred (Nat.div n 2)))).f t := by simp only [seekWay, seekStep]
        show (seekWay (false :: wayOf d (Nat.pred (Nat.div n 2)))).f t = _
        rw [e1]
        cases t with
        | nil => rfl
        | node b o v l r =>
          rw [Tr.get_node, if_neg h0, if_neg h2]
          exact ih (n / 2 - 1) r (by omega)
/-- is the operation wanted? -/
structure Want1 where
  f : Ac → Option Bool
def wantGet (want : Bool) : GetO → Want1
  | ⟨f⟩ => ⟨fun a => wantV want (f a)⟩
def wantTmp (want : Bool) (d : Tmp) : Bool → Want1
  | true => wantGet want (seekWay (wayOf 64 d))
  | false => ⟨fun _ => none⟩
def wantOf (want : Bool) : Option (Option Tmp) → Want1
  | some (some d) => wantTmp want d (Nat.ble d 1048576)
  | _ => ⟨fun _ => none⟩
theorem wantOf_some {want : Bool} {d : Option (Option Tmp)} {a : Ac} {b : Bool} (h : (wantOf want d).f a = some b) : wantD a want d = some b := by
  cases d with
  | none => cases h
  | some d =>
    cases d with
    | none => cases h
    | some d =>
      simp only [wantOf] at h
      cases hd : Nat.ble d 1048576 with
      | false => rw [hd] at h; cases h
      | true =>
        rw [hd] at h
        have h : wantV want ((seekWay (wayOf 64 d)).f a) = some b := by
          rw [← h]; simp only [wantTmp, wantGet]
        rw [seekWay_eq 64 d a (by have := Nat.le_of_ble_eq_true hd; omega)] at h
        exact h
def if1 (x y : Option (Ac × Hp)) : Option Bool → Option (Ac × Hp)
  | some true => x
  | some false => y
  | none => none
def guardOp (q : Go1) (p : Value → Ac → Ac) (g : Caller → Hp → Ac → Option (Ac × Hp)) (w : Want1) : Go1 := match q, w with
  | ⟨f⟩, ⟨w⟩ => ⟨fun call h a => if1 (f call h a) (g call h (p undef a)) (w a)⟩
def goWith (P : Program) (ops : Array Oper) (o : Oper) (p : Value → Ac → Ac) (g : Caller → Hp → Ac → Option (Ac × Hp)) : Option (Nat × Bool) → Go1
  | none => plainOp P o p g
  | some (j, want) => guardOp (plainOp P o p g) p g (wantOf want (dstOf ops[j]?))
def goOf (P : Program) (ops : Array Oper) (o : Oper) (g : Caller → Hp → Ac → Option (Ac × Hp)) : Option Lay → Go1
  | some ⟨p⟩ => goWith P ops o p g o.guard
  | none => ⟨fun _ _ _ => none⟩
def opsOf (P : Program) (n : Nat) (ops : Array Oper) : List Oper → Go1
  | [] => ⟨fun _ h a => some (a, h)⟩
  | o :: l => match opsOf P n ops l with
    | ⟨g⟩ => goOf P ops o g (layOf n o.dst)

theorem plainOp_some {P : Program} {n : Nat} {o : Oper} {p : Lay} (hp : layOf n o.dst = some p) {g : Caller → Hp → Ac → Option (Ac × Hp)} {call : Caller} {h : Hp} {a : Ac} {r : Ac × Hp} (he : (plainOp P o p.f g).f call h a = some r) :
    ∃ v h', stepOp P call h a o = some (v, h') ∧ g call h' (p.f v a) = some r := by
  have move : ∀ x, (o.op = .move x ∨ o.op = .assign x) → g call h (p.f (Ac.eval a x) a) = some r → ∃ v h', stepOp P call h a o = some (v, h') ∧ g call h' (p.f v a) = some r := by
    intro x hx hg
    refine ⟨Ac.eval a x, h, ?_, hg⟩
    obtain ⟨dst, op, type, pos, after, guard⟩ := o
    rcases hx with hx | hx <;> simp only at hx <;> subst hx <;> rfl
  have run : out1 p.f g call h a ((den P o).f h a) = some r → ∃ v h', stepOp P call h a o = some (v, h') ∧ g call h' (p.f v a) = some r := by
    intro hg
    rw [den_eq] at hg
    unfold stepOp
    cases hev : evalOp P h a o with
    | none => rw [hev] at hg; simp [out1] at hg
    | some out =>
      rw [hev] at hg
      obtain ⟨v, h1, oc⟩ := out
      cases oc with
      | none => simp only [out1] at hg; exact ⟨v, h1, rfl, hg⟩
      | some fa =>
        obtain ⟨f, args⟩ := fa
        simp only [out1] at hg
        cases hc : call f args h with
        | none => rw [hc] at hg; simp [ret1] at hg
        | some q =>
          obtain ⟨v2, h2⟩ := q
          rw [hc] at hg
          simp only [ret1] at hg
          exact ⟨v2, h2, hc, hg⟩
  have e1 : ∀ x, (moveOp (getOf x) p.f g).f call h a = g call h (p.f (Ac.eval a x) a) := by
    intro x
    rw [← getOf_eq]; cases getOf x; rfl
  have e2 : (runOp (den P o) p.f g).f call h a = out1 p.f g call h a ((den P o).f h a) := by cases den P o; rfl
  unfold plainOp at he
  split at he
  · rename_i x hx; rw [e1] at he; exact move x (.inl hx) he
  · rename_i x hx; rw [e1] at he; exact move x (.inr hx) he
  · rw [e2] at he; exact run he

theorem opsOf_some {P : Program} {n : Nat} {ops : Array Oper} {call : Caller} : ∀ (l : List Oper) (h : Hp) (a : Ac) (r : Ac × Hp), (opsOf P n ops l).f call h a = some r → evOps P call n ops l a h = some r := by
  intro l
  induction l with
  | nil => intro h a r he; exact he
  | cons o l ih =>
    intro h a r he
    have e1 : opsOf P n ops (o :: l) = goOf P ops o (opsOf P n ops l).f (layOf n o.dst) := by
      simp only [opsOf]
    rw [e1] at he
    simp only [evOps]
    cases hl : layOf n o.dst with
    | none => rw [hl] at he; simp [goOf] at he
    | some p =>
      rw [hl] at he
      have he : (goWith P ops o p.f (opsOf P n ops l).f o.guard).f call h a = some r := he
      have plain : (plainOp P o p.f (opsOf P n ops l).f).f call h a = some r → thenOps (evOps P call n ops l) (goOp P call n h a o (some true)) = some r := by
        intro hp
        obtain ⟨v, h1, hs, hg⟩ := plainOp_some hl hp
        simp only [goOp, hs, putO, layOf_some hl, withH, thenOps]
        exact ih h1 _ r hg
      unfold wantedA
      cases hg : o.guard with
      | none =>
        rw [hg] at he
        exact plain he
      | some jw =>
        obtain ⟨j, want⟩ := jw
        rw [hg] at he
        have he : if1 ((plainOp P o p.f (opsOf P n ops l).f).f call h a) ((opsOf P n ops l).f call h (p.f undef a)) ((wantOf want (dstOf ops[j]?)).f a) = some r := by
          rw [← he]
          simp only [goWith, guardOp]
        simp only
        cases hw : (wantOf want (dstOf ops[j]?)).f a with
        | none => rw [hw] at he; simp [if1] at he
        | some b =>
          rw [hw] at he
          rw [wantOf_some hw]
          cases b with
          | true => simp only [if1] at he; exact plain he
          | false =>
            simp only [if1] at he
            simp only [goOp, putO, layOf_some hl, withH, thenOps]
            exact ih h _ r he

/-- what code does -/
structure Cd where
  f : Caller → Runner → Hp → Ac → Res
def seq1 (call : Caller) (k : Runner) (g : Caller → Runner → Hp → Ac → Res) : Res → Res
  | some (.normal, a, h) => g call k h a
  | r => r
def cond1 (x y : Res) : Value → Res
  | .bool true => x
  | .bool false => y
  | _ => none
def codeReg (P : Program) (n : Nat) (ops : Array Oper) : Bool → Cd
  | false => match opsOf P n ops ops.toList with
    | ⟨f⟩ => ⟨fun call _ h a => regO (f call h a)⟩
  | true => ⟨fun call _ h a => regO (evDraw P call n ops a h)⟩
def codeOf (P : Program) (n : Nat) : Code → Cd
  | .skip => ⟨fun _ _ h a => some (.normal, a, h)⟩
  | .region _ ops b => codeReg P n ops b
  | .seq x y => match codeOf P n x, codeOf P n y with
    | ⟨f⟩, ⟨g⟩ => ⟨fun call k h a => seq1 call k g (f call k h a)⟩
  | .cond c x y => match getOf c, codeOf P n x, codeOf P n y with
    | ⟨c⟩, ⟨f⟩, ⟨g⟩ => ⟨fun call k h a => cond1 (f call k h a) (g call k h a) (c a)⟩
  | .block id b => match codeOf P n b with
    | ⟨f⟩ => ⟨fun call k h a => blockO id (f call k h a)⟩
  | .loop b => match codeOf P n b with
    | ⟨f⟩ => ⟨fun call k h a => seqO k (.loop b) (f call k h a)⟩
  | .exit i => ⟨fun _ _ h a => some (.exit i, a, h)⟩
  | .ret => ⟨fun _ _ h a => some (.ret, a, h)⟩
  | _ => ⟨fun _ _ _ _ => none⟩
def runC (c : Cd) (call : Caller) (k : Runner) (h : Hp) (a : Ac) : Res := match c with
  | ⟨f⟩ => f call k h a
theorem runC_eq (c : Cd) (call : Caller) (k : Runner) (h : Hp) (a : Ac) : runC c call k h a = c.f call k h a := by cases c; rfl
def fCode (P : Program) (call : Caller) (n : Nat) : Nat → Runner
  | 0 => fun _ _ _ => none
  | k + 1 => fun c a h => runC (codeOf P n c) call (fCode P call n k) h a

section
variable {P : Program} {call : Caller} {n : Nat}
theorem seqO_mono {k k' : Runner} {y : Code} {x x' : Res} {r : Ex × Ac × Hp} (hx : ∀ r, x = some r → x' = some r) (hk : ∀ a h r, k y a h = some r → k' y a h = some r) (he : seqO k y x = some r) : seqO k' y x' = some r := by
  rcases seqO_some he with ⟨a, h, e1, e2⟩ | ⟨e1, hne⟩
  · rw [hx _ e1]; exact hk a h r e2
  · rw [hx _ e1]
    obtain ⟨ex, a, h⟩ := r
    cases ex with
    | normal => exact absurd rfl hne
    | _ => rfl
theorem evCode_mono : ∀ (m m' : Nat) (c : Code) (a : Ac) (h : Hp) (r : Ex × Ac × Hp), m ≤ m' → evCode P call n m c a h = some r → evCode P call n m' c a h = some r := by
  intro m
  induction m with
  | zero => intro m' c a h r _ he; simp [evCode] at he
  | succ m ih =>
    intro m' c a h r hle he
    obtain ⟨m', rfl⟩ : ∃ k, m' = k + 1 := ⟨m' - 1, by omega⟩
    have ih' : ∀ c a h r, evCode P call n m c a h = some r → evCode P call n m' c a h = some r := fun c a h r he => ih m' c a h r (by omega) he
    simp only [evCode] at he ⊢
    cases c with
    | seq x y => simp only [codeStep] at he ⊢; exact seqO_mono (fun r hr => ih' x a h r hr) (fun a h r hr => ih' y a h r hr) he
    | loop b => simp only [codeStep] at he ⊢; exact seqO_mono (fun r hr => ih' b a h r hr) (fun a h r hr => ih' (.loop b) a h r hr) he
    | cond c x y =>
      simp only [codeStep] at he ⊢
      generalize Ac.eval a c = v at he ⊢
      cases v with
      | bool b => cases b <;> simp only [condO] at he ⊢ <;> exact ih' _ a h r he
      | _ => simp [condO] at he
    | block id b =>
      simp only [codeStep] at he ⊢
      cases hb : evCode P call n m b a h with
      | none => rw [hb] at he; simp [blockO] at he
      | some r1 => rw [hb] at he; rw [ih' b a h r1 hb]; exact he
    | region id ops d => cases d <;> exact he
    | _ => exact he

theorem codeOf_some (k : Runner) (hk : ∀ c a h r, k c a h = some r → ∃ m, evCode P call n m c a h = some r) : ∀ (c : Code) (a : Ac) (h : Hp) (r : Ex × Ac × Hp), (codeOf P n c).f call k h a = some r → ∃ m, evCode P call n m c a h = some r := by
  intro c
  induction c with
  | skip => intro a h r he; exact ⟨1, he⟩
  | exit i => intro a h r he; exact ⟨1, he⟩
  | ret => intro a h r he; exact ⟨1, he⟩
  | region id ops d =>
    intro a h r he
    cases d with
    | false =>
      have he : regO ((opsOf P n ops ops.toList).f call h a) = some r := he
      cases ho : (opsOf P n ops ops.toList).f call h a with
      | none => rw [ho] at he; simp [regO] at he
      | some q =>
        rw [ho] at he
        refine ⟨1, ?_⟩
        show regO (evOps P call n ops ops.toList a h) = some r
        rw [opsOf_some _ _ _ _ ho]; exact he
    | true => exact ⟨1, he⟩
  | seq x y ihx ihy =>
    intro a h r he
    have e1 : (codeOf P n (.seq x y)).f call k h a = seq1 call k (codeOf P n y).f ((codeOf P n x).f call k h a) := by
      simp only [codeOf]
    rw [e1] at he
    cases hx : (codeOf P n x).f call k h a with
    | none => rw [hx] at he; cases he
    | some r1 =>
      rw [hx] at he
      obtain ⟨ex, a1, h1⟩ := r1
      obtain ⟨m1, hm1⟩ := ihx a h _ hx
      cases ex with
      | normal =>
        have he' : (codeOf P n y).f call k h1 a1 = some r := he
        obtain ⟨m2, hm2⟩ := ihy a1 h1 r he'
        refine ⟨max m1 m2 + 1, ?_⟩
        simp only [evCode, codeStep]
        rw [evCode_mono m1 _ x a h _ (Nat.le_max_left _ _) hm1]
        exact evCode_mono m2 _ y a1 h1 r (Nat.le_max_right _ _) hm2
      | _ => exact ⟨m1 + 1, by simp only [evCode, codeStep]; rw [hm1]; exact he⟩
  | cond c x y ihx ihy =>
    intro a h r he
    have e1 : (codeOf P n (.cond c x y)).f call k h a = cond1 ((codeOf P n x).f call k h a) ((codeOf P n y).f call k h a) (Ac.eval a c) := by
      rw [← getOf_eq]
      simp only [codeOf]
    rw [e1] at he
    cases hv : Ac.eval a c with
    | bool b =>
      rw [hv] at he
      cases b with
      | true => obtain ⟨m, hm⟩ := ihx a h r he; exact ⟨m + 1, by simp only [evCode, codeStep, hv, condO]; exact hm⟩
      | false => obtain ⟨m, hm⟩ := ihy a h r he; exact ⟨m + 1, by simp only [evCode, codeStep, hv, condO]; exact hm⟩
    | _ => rw [hv] at he; cases he
  | block id b ih =>
    intro a h r he
    have e1 : (codeOf P n (.block id b)).f call k h a = blockO id ((codeOf P n b).f call k h a) := by
      simp only [codeOf]
    rw [e1] at he
    cases hb : (codeOf P n b).f call k h a with
    | none => rw [hb] at he; cases he
    | some r1 =>
      rw [hb] at he
      obtain ⟨m, hm⟩ := ih a h _ hb
      exact ⟨m + 1, by simp only [evCode, codeStep]; rw [hm]; exact he⟩
  | loop b ih =>
    intro a h r he
    have e1 : (codeOf P n (.loop b)).f call k h a = seqO k (.loop b) ((codeOf P n b).f call k h a) := by
      simp only [codeOf]
    rw [e1] at he
    rcases seqO_some he with ⟨a1, h1, x1, x2⟩ | ⟨x1, hne⟩
    · obtain ⟨m1, hm1⟩ := ih a h _ x1
      obtain ⟨m2, hm2⟩ := hk _ _ _ _ x2
      refine ⟨max m1 m2 + 1, ?_⟩
      simp only [evCode, codeStep]
      rw [evCode_mono m1 _ b a h _ (Nat.le_max_left _ _) hm1]
      exact evCode_mono m2 _ (.loop b) a1 h1 r (Nat.le_max_right _ _) hm2
    · obtain ⟨m1, hm1⟩ := ih a h _ x1
      refine ⟨m1 + 1, ?_⟩
      simp only [evCode, codeStep]
      rw [hm1]
      obtain ⟨ex, a1, h1⟩ := r
      cases ex with
      | normal => exact absurd rfl hne
      | _ => rfl
  | _ => intro a h r he; cases he

theorem fCode_some : ∀ (k : Nat) (c : Code) (a : Ac) (h : Hp) (r : Ex × Ac × Hp), fCode P call n k c a h = some r → ∃ m, evCode P call n m c a h = some r := by
  intro k
  induction k with
  | zero => intro c a h r he; cases he
  | succ k ih =>
    intro c a h r he
    have he' : runC (codeOf P n c) call (fCode P call n k) h a = some r := he
    rw [runC_eq] at he'
    exact codeOf_some _ (fun c a h r hr => ih c a h r hr) c a h r he'
end

def fBody (P : Program) (call : Caller) (fn : Func) (c : Code) (h : Hp) (n : Nat) : Option (Tr Value) → Option (Value × Hp)
  | some t => match Nat.ble n fn.ntmps with
    | true => retO P fn (fCode P call fn.ntmps 100000 c t h)
    | false => none
  | none => none
def fCallF (P : Program) (call : Caller) (args : List Value) (h : Hp) : Option Func → Option (Value × Hp)
  | some fn => match fn.body with
    | some c => fBody P call fn c h args.length (fromList args 0 .nil)
    | none => none
  | none => none
def bCall (P : Program) (md : Nat) : Nat → Caller
  | 0 => fun _ _ _ => none
  | k + 1 => fun f args h => orO (fCallF P (bCall P md k) args h P.funcs[f]?) (orc md f args h)

theorem bCall_ok {P : Program} {n0 : Nat} (ho : OrcOk σ P n0) (hm : P.follows .mixedOrders = true) : ∀ d, CallOk σ P n0 (bCall P σ.md d) := by
  intro d
  induction d with
  | zero => intro f args h v h' ι w us he; cases he
  | succ d ih =>
    intro f args h v h' ι w us he H hus
    have he : orO (fCallF P (bCall P σ.md d) args h P.funcs[f]?) (orc σ.md f args h) = some (v, h') := he
    cases hor : orc σ.md f args h with
    | some r =>
      rw [hor] at he
      have he : r = some (v, h') := he
      subst he
      exact ho f args h v h' ι w us hor H hus
    | none =>
    rw [hor] at he
    have he : fCallF P (bCall P σ.md d) args h P.funcs[f]? = some (v, h') := he
    cases hf : P.funcs[f]? with
    | none => rw [hf] at he; simp [fCallF] at he
    | some fn =>
      rw [hf] at he
      simp only [fCallF] at he
      cases hb : fn.body with
      | none => rw [hb] at he; simp at he
      | some c =>
        rw [hb] at he
        simp only at he
        cases ht : fromList args 0 .nil with
        | none => rw [ht] at he; simp [fBody] at he
        | some t =>
          rw [ht] at he
          simp only [fBody] at he
          cases hle : Nat.ble args.length fn.ntmps with
          | false => rw [hle] at he; simp at he
          | true =>
            rw [hle] at he
            have hle := Nat.le_of_ble_eq_true hle
            simp only at he
            cases hev : fCode P (bCall P σ.md d) fn.ntmps 100000 c t h with
            | none => rw [hev] at he; simp [retO] at he
            | some r =>
              rw [hev] at he
              obtain ⟨m, hev⟩ := fCode_some _ _ _ _ _ hev
              obtain ⟨ex, a1, h1⟩ := r
              refine calls_of_wp hf hb ?_
              refine evCode_wp ih hm m c t h ι _ w ex a1 h1 hev H (ARel.start hle hus ht) _ ?_
              rintro act' w' ⟨κ, K1, K2, K3⟩
              have key : ∀ {v : Value} {h' : Hp}, packR h1 (evResults P a1 h1 fn.results.toList) = some (v, h') → act'.defers = [] ∧ ∃ u, (results fn act'.tmps).run P w' = .ok u w' ∧ ∃ u' ι', Ending.returned u = .returned u' ∧ VRel σ ι' v u' ∧ HRel σ n0 ι' h' w' ∧ Ext ι h w ι' h' w' := by
                intro v h' hp
                obtain ⟨rfl, u, hu, hv⟩ := packR_run K1 K2 fn hp
                exact ⟨K2.defers, u, hu, u, κ, rfl, hv, K1, K3⟩
              cases ex with
              | normal => simp only [retO] at he; exact key he
              | ret => simp only [retO] at he; exact key he
              | _ => simp [retO] at he

/-! ### functions of one byte that look at no memory: run once -/
/-- no place in it -/
def flatT : Value → Bool
  | .tuple ⟨v :: l⟩ => flatL (v :: l)
  | v => flat v
def pureV : Option (Value × Hp) → Option Value
  | some (v, _) => match flatT v with
    | true => some v
    | false => none
  | none => none
def memoN (P : Program) (md : Nat) (f : FuncId) (n : Nat) : Option Value := pureV (bCall P md 8 f [.int .u8 (Int.ofNat n)] ⟨0, .nil⟩)
def memoF (f : FuncId) : Bool := match f with
  | 101 | 145 | 159 => true
  | _ => false
/-- the number is laid out ahead: so that the same call is the same term -/
def memoA (P : Program) (md : Nat) (f : FuncId) : List Value → Option Value
  | [.int .u8 (.ofNat n)] => match n with
    | 0 => memoN P md f 0
    | m + 1 => memoN P md f (m + 1)
  | _ => none
def withV (h : Hp) : Option Value → Option (Value × Hp)
  | some v => some (v, h)
  | none => none
def fCall (P : Program) (md : Nat) : Nat → Caller
  | 0 => fun _ _ _ => none
  | k + 1 => fun f args h => match memoF f with
    | true => withV h (memoA P md f args)
    | false => orO (fCallF P (fCall P md k) args h P.funcs[f]?) (orc md f args h)

theorem flatT_eq {ι : Im} {v u : Value} (hf : flatT v = true) (h : VRel σ ι v u) : u = v := by
  unfold flatT at hf
  split at hf
  · rename_i x l
    obtain ⟨m, hm, rfl⟩ := h.tupleOf (by simp)
    have key : ∀ (l m : List Value), flatL l = true → All2 (WRel σ ι) l m → m = l := by
      intro l
      induction l with
      | nil => intro m _ h; exact h.nilL
      | cons a l ih =>
        intro m hf h
        obtain ⟨b, m', rfl, h1, h2⟩ := h.consL
        simp only [flatL] at hf
        cases ha : flat a with
        | false => rw [ha] at hf; simp at hf
        | true =>
          rw [ha] at hf
          have e1 := (VRel.one h1).flat_eq (flat_flatV ha)
          rw [e1, ih m' hf h2]
    rw [key _ _ hf hm]
  · exact h.flat_eq (flat_flatV hf)

/-- the world grows, and all that was stays -/
theorem HRel.grow {n0 : Nat} {ι : Im} {h : Hp} {w w' : World} (H : HRel σ n0 ι h w) (hs : w.heap.size ≤ w'.heap.size) (hb : ∀ b, b < w.heap.size → w'.heap[b]? = w.heap[b]?) : HRel σ n0 ι h w' := by
  refine ⟨Nat.le_trans H.base hs, H.low, H.dom, fun k b p z e => Nat.lt_of_lt_of_le (H.img k b p z e) hs, ?_, H.inj, fun x o e => ⟨(H.old x o e).1, ?_⟩⟩
  · intro k l e
    obtain ⟨b, p, C, T, hi, hb', hc⟩ := H.live k l e
    exact ⟨b, p, C, T, hi, by rw [hb b (H.img k b p _ hi)]; exact hb', hc⟩
  · have := H.old x o e
    have := H.base
    rw [hb x (by omega)]; exact (H.old x o e).2
theorem Ext.grow {ι : Im} {h : Hp} {w w' : World} (hs : w.heap.size ≤ w'.heap.size) (hb : ∀ b, b < w.heap.size → w'.heap[b]? = w.heap[b]?) (h1 : w'.os = w.os) (h2 : w'.tape = w.tape) (h3 : w'.output = w.output) : Ext ι h w ι h w' :=
  ⟨.refl ι, Nat.le_refl _, hs, fun b hb' _ => hb b hb', fun k b p z e _ => ⟨k, p, z, e⟩, h1, h2, h3⟩
theorem HRel.first {n0 : Nat} {w : World} (ho : ∀ b o, σ.old b = some o → b < w.heap.size ∧ w.heap[b]? = some o) : HRel σ w.heap.size (fun _ => none) ⟨0, .nil⟩ w :=
  ⟨Nat.le_refl _, (fun k b p z e => by cases e), (fun k x e => by cases e), (fun k b p z e => by cases e), (fun k l e => by cases e), (fun k k' b p p' z z' a1 => by cases a1), ho⟩

theorem memoA_some {P : Program} {f : FuncId} {args : List Value} {v : Value} (h : memoA P σ.md f args = some v) : ∃ n, args = [.int .u8 (Int.ofNat n)] ∧ memoN P σ.md f n = some v := by
  unfold memoA at h
  split at h
  · rename_i n
    cases n with
    | zero => exact ⟨0, rfl, h⟩
    | succ m => exact ⟨m + 1, rfl, h⟩
  · cases h
theorem memo_ok {P : Program} {n0 : Nat} (ho : ∀ n0, OrcOk σ P n0) (hm : P.follows .mixedOrders = true) {f : FuncId} {args us : List Value} {h h' : Hp} {v : Value} {ι : Im} {w : World}
    (he : withV h (memoA P σ.md f args) = some (v, h')) (H : HRel σ n0 ι h w) (hus : All2 (VRel σ ι) args us) :
    Calls P f us.toArray w fun e w' => ∃ u ι', e = .returned u ∧ VRel σ ι' v u ∧ HRel σ n0 ι' h' w' ∧ Ext ι h w ι' h' w' := by
  cases hma : memoA P σ.md f args with
  | none => rw [hma] at he; simp [withV] at he
  | some v0 =>
    rw [hma] at he
    simp only [withV, Option.some.injEq, Prod.mk.injEq] at he
    obtain ⟨rfl, rfl⟩ := he
    obtain ⟨n, rfl, hn⟩ := memoA_some hma
    obtain ⟨u, m, rfl, hu, hr⟩ := hus.consL
    have e0 := hr.nilL
    subst e0
    have e1 := hu.int
    subst e1
    unfold memoN at hn
    cases hb : bCall P σ.md 8 f [.int .u8 (Int.ofNat n)] ⟨0, .nil⟩ with
    | none => rw [hb] at hn; simp [pureV] at hn
    | some r =>
      obtain ⟨v1, h1⟩ := r
      rw [hb] at hn
      simp only [pureV] at hn
      cases hf : flatT v1 with
      | false => rw [hf] at hn; simp at hn
      | true =>
        rw [hf] at hn
        simp only [Option.some.injEq] at hn
        subst hn
        have hok := bCall_ok (ho w.heap.size) hm 8 f _ _ _ _ _ w [.int .u8 (Int.ofNat n)] hb (HRel.first (n0 := n0) (fun b o e => ⟨by have := H.old b o e; have := H.base; omega, (H.old b o e).2⟩)) (.cons (.cell (.int _ _)) .nil)
        refine hok.mono ?_
        rintro e w' ⟨u, ι', rfl, hv, _, E⟩
        have hbl : ∀ b, b < w.heap.size → w'.heap[b]? = w.heap[b]? := fun b hb => E.frame b hb (fun k p z e => by cases e)
        refine ⟨u, ι, rfl, ?_, H.grow E.size hbl, Ext.grow E.size hbl E.os E.tape E.output⟩
        rw [flatT_eq hf hv]
        unfold flatT at hf
        split at hf
        · rename_i x l
          refine .tuple ?_
          have key : ∀ l : List Value, flatL l = true → All2 (WRel σ ι) l l := by
            intro l
            induction l with
            | nil => intro _; exact .nil
            | cons a l ih =>
              intro hf
              simp only [flatL] at hf
              cases ha : flat a with
              | false => rw [ha] at hf; simp at hf
              | true => rw [ha] at hf; exact .cons (.cell (constC_rel (flat_const ha))) (ih hf)
          exact key _ hf
        · exact flat_rel hf

theorem fCall_ok {P : Program} {n0 : Nat} (ho : ∀ n0, OrcOk σ P n0) (hm : P.follows .mixedOrders = true) : ∀ d, CallOk σ P n0 (fCall P σ.md d) := by
  intro d
  induction d with
  | zero => intro f args h v h' ι w us he; cases he
  | succ d ih =>
    intro f args h v h' ι w us he H hus
    have he : (match memoF f with | true => withV h (memoA P σ.md f args) | false => orO (fCallF P (fCall P σ.md d) args h P.funcs[f]?) (orc σ.md f args h)) = some (v, h') := he
    cases hmf : memoF f with
    | true => rw [hmf] at he; exact memo_ok ho hm he H hus
    | false =>
    rw [hmf] at he
    have he : orO (fCallF P (fCall P σ.md d) args h P.funcs[f]?) (orc σ.md f args h) = some (v, h') := he
    cases hor : orc σ.md f args h with
    | some r =>
      rw [hor] at he
      have he : r = some (v, h') := he
      subst he
      exact ho n0 f args h v h' ι w us hor H hus
    | none =>
    rw [hor] at he
    have he : fCallF P (fCall P σ.md d) args h P.funcs[f]? = some (v, h') := he
    cases hf : P.funcs[f]? with
    | none => rw [hf] at he; simp [fCallF] at he
    | some fn =>
      rw [hf] at he
      simp only [fCallF] at he
      cases hb : fn.body with
      | none => rw [hb] at he; simp at he
      | some c =>
        rw [hb] at he
        simp only at he
        cases ht : fromList args 0 .nil with
        | none => rw [ht] at he; simp [fBody] at he
        | some t =>
          rw [ht] at he
          simp only [fBody] at he
          cases hle : Nat.ble args.length fn.ntmps with
          | false => rw [hle] at he; simp at he
          | true =>
            rw [hle] at he
            have hle := Nat.le_of_ble_eq_true hle
            simp only at he
            cases hev : fCode P (fCall P σ.md d) fn.ntmps 100000 c t h with
            | none => rw [hev] at he; simp [retO] at he
            | some r =>
              rw [hev] at he
              obtain ⟨m, hev⟩ := fCode_some _ _ _ _ _ hev
              obtain ⟨ex, a1, h1⟩ := r
              refine calls_of_wp hf hb ?_
              refine evCode_wp ih hm m c t h ι _ w ex a1 h1 hev H (ARel.start hle hus ht) _ ?_
              rintro act' w' ⟨κ, K1, K2, K3⟩
              have key : ∀ {v : Value} {h' : Hp}, packR h1 (evResults P a1 h1 fn.results.toList) = some (v, h') → act'.defers = [] ∧ ∃ u, (results fn act'.tmps).run P w' = .ok u w' ∧ ∃ u' ι', Ending.returned u = .returned u' ∧ VRel σ ι' v u' ∧ HRel σ n0 ι' h' w' ∧ Ext ι h w ι' h' w' := by
                intro v h' hp
                obtain ⟨rfl, u, hu, hv⟩ := packR_run K1 K2 fn hp
                exact ⟨K2.defers, u, hu, u, κ, rfl, hv, K1, K3⟩
              cases ex with
              | normal => simp only [retO] at he; exact key he
              | ret => simp only [retO] at he; exact key he
              | _ => simp [retO] at he
end Go.Jv
