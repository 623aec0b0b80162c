/-
  An evaluator of the model's programs on data that are closed but for some numbers and some rows of bytes: one run in the text's order, which serves every order that can be drawn.
-/
import Derived.Orders
import Derived.Test.YgcsanGreatPlain
import Derived.Deep.Trees
namespace Go.Jv
open Go
set_option linter.unusedVariables false

/-! A row of values by number. -/
abbrev Tr (α : Type) := Go.Deep.BT (Option α)

def Tr.get {α : Type} : Tr α → Nat → Option α
  | .nil, _ => none
  | .node _ _ v l r, n => match Nat.beq n 0 with
    | true => v
    | false => match Nat.beq (Nat.mod n 2) 1 with
      | true => Tr.get l (Nat.div n 2)
      | false => Tr.get r (Nat.pred (Nat.div n 2))

def Tr.mkL {α : Type} (u : Option α) (r : Tr α) : Option (Tr α) → Option (Tr α)
  | some l => some (.node 0 0 u l r)
  | none => none
def Tr.mkR {α : Type} (u : Option α) (l : Tr α) : Option (Tr α) → Option (Tr α)
  | some r => some (.node 0 0 u l r)
  | none => none

def Tr.set {α : Type} (v : Option α) : Nat → Tr α → Nat → Option (Tr α)
  | 0, _, _ => none
  | d + 1, .nil, n => match Nat.beq n 0 with
    | true => some (.node 0 0 v .nil .nil)
    | false => match Nat.beq (Nat.mod n 2) 1 with
      | true => Tr.mkL none .nil (Tr.set v d .nil (Nat.div n 2))
      | false => Tr.mkR none .nil (Tr.set v d .nil (Nat.pred (Nat.div n 2)))
  | d + 1, .node _ _ u l r, n => match Nat.beq n 0 with
    | true => some (.node 0 0 v l r)
    | false => match Nat.beq (Nat.mod n 2) 1 with
      | true => Tr.mkL u r (Tr.set v d l (Nat.div n 2))
      | false => Tr.mkR u l (Tr.set v d r (Nat.pred (Nat.div n 2)))

/-! Numbers that are not known: sums of numbers times the unknowns; the first unknown is 1. -/
def encE : List Int → List Value
  | [] => []
  | c :: l => .int .i64 c :: encE l
def decE : List Value → List Int
  | [] => []
  | .int _ c :: l => c :: decE l
  | _ :: l => 0 :: decE l
def addE : List Int → List Int → List Int
  | [], m => m
  | a :: l, [] => a :: l
  | a :: l, b :: m => Int.add a b :: addE l m
def mulE (k : Int) : List Int → List Int
  | [] => []
  | a :: l => Int.mul k a :: mulE k l
def subE (x y : List Int) : List Int := addE x (mulE (-1) y)
def isZ : Int → Bool
  | .ofNat n => Nat.beq n 0
  | .negSucc _ => false
def zeroE : List Int → Bool
  | [] => true
  | a :: l => match isZ a with
    | true => zeroE l
    | false => false
/-- a number that is known -/
def isC : List Int → Option Int
  | [] => some 0
  | a :: l => match zeroE l with
    | true => some a
    | false => none
/-- between what bounds each unknown lies -/
def bnds : List (Nat × Nat) := [(1, 1), (96, 303), (0, 303), (200, 6000), (1, 64), (0, 69), (0, 69), (0, 69), (0, 255), (0, 255), (0, 255), (4316, 6369)]
def loT (a : Int) (lo hi : Nat) : Int := match a with
  | .ofNat n => Int.ofNat (Nat.mul n lo)
  | .negSucc n => Int.negOfNat (Nat.mul (Nat.succ n) hi)
def loE : List Int → List (Nat × Nat) → Int
  | [], _ => 0
  | _ :: _, [] => 0
  | a :: l, (lo, hi) :: b => Int.add (loT a lo hi) (loE l b)
/-- is it nought or more, whatever the unknowns are? -/
def nnE (e : List Int) : Bool := match loE e bnds with
  | .ofNat _ => true
  | .negSucc _ => false
/-- is x at least y? -/
def geE (x y : List Int) : Bool := nnE (subE x y)
def gtE (x y : List Int) : Bool := nnE (subE (subE x y) [1])
def eqE (x y : List Int) : Bool := zeroE (subE x y)
/-- -1, 0, 1 -/
def cmpE (x y : List Int) : Option Int := match eqE x y with
  | true => some 0
  | false => match gtE x y with
    | true => some 1
    | false => match gtE y x with
      | true => some (-1)
      | false => none
/-- what has no part in c, and the rest over c -/
def restE (c : Nat) : List Int → List Int
  | [] => []
  | a :: l => (match isZ (Int.emod a (Int.ofNat c)) with | true => 0 | false => a) :: restE c l
def partE (c : Nat) : List Int → List Int
  | [] => []
  | a :: l => (match isZ (Int.emod a (Int.ofNat c)) with | true => Int.ediv a (Int.ofNat c) | false => 0) :: partE c l
/-- quotients that are unknowns of their own: the number, the divisor, the unknown -/
def quos : List (List Int × Nat × List Int) := [([21000, 4, 12, 1], 5, [0, 0, 0, 0, 0, 0, 0, 0, 0, 0, 0, 1])]
def findQ (e : List Int) (c : Nat) : List (List Int × Nat × List Int) → Option (List Int)
  | [] => none
  | (e', c', q) :: l => match Nat.beq c c' && eqE e e' with
    | true => some q
    | false => findQ e c l
def quoE2 (e : List Int) (c : Nat) (r q : List Int) : Option (List Int) :=
  match nnE r && geE [Int.ofNat (Nat.pred c)] r with
  | true => some q
  | false => findQ e c quos
def quoE3 (a : Int) (l : List Int) (c : Nat) (low : Int) : Option (List Int) :=
  quoE2 (a :: l) c (Int.sub a (Int.mul (Int.ofNat c) (Int.ediv low (Int.ofNat c))) :: restE c l) (Int.ediv low (Int.ofNat c) :: partE c l)
/-- e over c, rounded down -/
def quoE (e : List Int) (c : Nat) : Option (List Int) := match Nat.ble c 0 with
  | true => none
  | false => match e with
    | [] => some []
    | a :: l => quoE3 a l c (loE (a :: restE c l) bnds)
/-- x times y -/
def mulEE (x y : List Int) : Option (List Int) := match isC x with
  | some k => some (mulE k y)
  | none => match isC y with
    | some k => some (mulE k x)
    | none => none

/-- The memory: what each living block holds; the next number. -/
structure Hp where
  next : Nat
  m : Tr (List Value)

/-- A capacity c + big * (s + 1) says: at least c elements of s cells. -/
def big : Nat := 18446744073709551616

def mkHp (n : Nat) : Option (Tr (List Value)) → Option Hp
  | some m => some ⟨n, m⟩
  | none => none
def Hp.put (h : Hp) (k : Nat) (l : List Value) : Option Hp := match h with
  | ⟨n, m⟩ => mkHp n (Tr.set (some l) 64 m k)
def Hp.kill (h : Hp) (k : Nat) : Option Hp := match h with
  | ⟨n, m⟩ => mkHp n (Tr.set none 64 m k)
def Hp.raw (h : Hp) (k : Nat) : Option (List Value) := match h with
  | ⟨_, m⟩ => Tr.get m k
/-- What the unknowns are: the numbers; the bytes of the data; the argument; the memory that stood before. -/
def evL : List Int → List Nat → Int
  | [], _ => 0
  | _ :: _, [] => 0
  | a :: l, x :: m => a * (x : Int) + evL l m
def okB : List Nat → List (Nat × Nat) → Prop
  | [], [] => True
  | x :: l, (lo, hi) :: b => lo ≤ x ∧ x ≤ hi ∧ okB l b
  | _, _ => False
def okQ (xs : List Nat) : List (List Int × Nat × List Int) → Prop
  | [] => True
  | (e, c, q) :: l => (evL e xs / (c : Int) = evL q xs ∧ 0 < c) ∧ okQ xs l
def dataLen : List Int := [0, 1]
structure Va where
  xs : List Nat
  data : List Nat
  out : List Nat
  md : Nat
  arg : Value
  old : Nat → Option Obj
  okb : okB xs bnds
  okq : okQ xs quos
  okl : evL dataLen xs = (data.length : Int)
  oky : evL [0, 0, 1] xs = ((data.countP (fun x => x != 0) : Nat) : Int)
  okd : ∀ x, x ∈ data → x < 256
/-- a number's worth -/
def evE (σ : Va) (e : List Value) : Nat := (evL (decE e) σ.xs).toNat
def byteV (n : Nat) : Value := .int .u8 (n : Int)
/-- the data's bytes, then noughts -/
def rowD (σ : Va) (n : Nat) : List Nat := (σ.data ++ List.replicate n 0).take n
/-- the output's bytes, then noughts -/
def rowU (σ : Va) (n : Nat) : List Nat := (σ.out ++ List.replicate n 0).take n
def symD (σ : Va) (j : Nat) (e : List Value) : Option (List Value) := match j with
  | 0 => match evE σ e with
    | 0 => none
    | n + 1 => some ((Go.Proofs.YgcsanGreat.digs (n + 1)).map byteV)
  | 1 => some (List.replicate (evE σ e) (byteV 0))
  | 3 => some ((rowU σ (evE σ e)).map byteV)
  | _ => some ((rowD σ (evE σ e)).map byteV)
/-- A block is written out; or it is n times one value: [.chan (some n), v]; or it holds what is not known:
    a number's digits, noughts, the data. -/
def dec (σ : Va) : List Value → Option (List Value)
  | [.chan (some n), v] => some (List.replicate n v)
  | [.map (some j), .tuple e] => symD σ j e.toList
  | l => some l
def decO (σ : Va) : Option (List Value) → Option (List Value)
  | some l => dec σ l
  | none => none
/-- what a block holds -/
def Hp.get (σ : Va) (h : Hp) (k : Nat) : Option (List Value) := decO σ (h.raw k)
def isSym : List Value → Option (Nat × List Value)
  | [.map (some j), .tuple e] => some (j, e.toList)
  | _ => none
def isRep : List Value → Option (Nat × Value)
  | [.chan (some n), v] => some (n, v)
  | _ => none

def consO (v : Value) : Option (List Value) → Option (List Value)
  | some r => some (v :: r)
  | none => none
/-- n values from the beginning on -/
def cut0 : List Value → Nat → Option (List Value)
  | _, 0 => some []
  | [], _ + 1 => none
  | v :: l, n + 1 => consO v (cut0 l n)
/-- what is left behind the first o values -/
def skip : List Value → Nat → List Value
  | l, 0 => l
  | [], _ + 1 => []
  | _ :: l, n + 1 => skip l n
/-- the row, M laid over it from its beginning on -/
def lay0 : List Value → List Value → Option (List Value)
  | l, [] => some l
  | [], _ :: _ => none
  | _ :: l, m :: M => consO m (lay0 l M)
def lay : List Value → Nat → List Value → Option (List Value)
  | l, 0, M => lay0 l M
  | [], _ + 1, _ => none
  | v :: l, o + 1, M => consO v (lay l o M)

def readRow (o n : Nat) (l : List Value) : Option (Nat × Value) → Option (List Value)
  | none => cut0 (skip l o) n
  | some (N, v) => match Nat.ble (Nat.add o n) N && Nat.ble n 4096 with
    | true => some (List.replicate n v)
    | false => none
def readL (o n : Nat) : Option (List Value) → Option (List Value)
  | some l => match isSym l with
    | none => readRow o n l (isRep l)
    | some _ => none
  | none => none
def Hp.read (h : Hp) (a : Addr) (n : Nat) : Option (List Value) :=
  match a with
  | ⟨k, o, none⟩ => readL o n (h.raw k)
  | _ => none
def Hp.putO (h : Hp) (k : Nat) : Option (List Value) → Option Hp
  | some l => match isRep l, isSym l with
    | none, none => h.put k l
    | _, _ => none
  | none => none
def Hp.writeRow (h : Hp) (k o : Nat) (M l : List Value) : Option (Nat × Value) → Option Hp
  | none => h.putO k (lay l o M)
  | some _ => match M with
    | [] => some h
    | _ => none
def Hp.writeL (h : Hp) (k o : Nat) (M : List Value) : Option (List Value) → Option Hp
  | some l => match isSym l with
    | none => h.writeRow k o M l (isRep l)
    | some _ => none
  | none => none
def Hp.write (h : Hp) (a : Addr) (M : List Value) : Option Hp :=
  match a with
  | ⟨k, o, none⟩ => h.writeL k o M (h.raw k)
  | _ => none

abbrev Ac := Tr Value

/-- a constant that leads nowhere -/
def constC : Value → Bool
  | .bool _ | .int _ _ | .string _ | .pointer none | .slice none _ _ | .nilFunc | .nilIface => true
  | _ => false
def constL : List Value → Bool
  | [] => true
  | v :: l => match constC v with | true => constL l | false => false
def constOk : Value → Bool
  | .agg cs => constL cs.toList
  | v => constC v

def orUndef : Option Value → Value
  | some v => v
  | none => undef
def Ac.eval (a : Ac) : Operand → Value
  | .tmp t => orUndef (Tr.get a t)
  | .const v => match constOk v with
    | true => v
    | false => .chan none
  | .global _ => .chan none
  | .func _ => .chan none
def Ac.put (n : Nat) (a : Ac) (d : Option Tmp) (v : Value) : Option Ac :=
  match d with
  | none => some a
  | some d => match Nat.ble n d with
    | true => none
    | false => Tr.set (some v) 64 a d

/-- One value of a cell that holds no place. -/
def flat : Value → Bool
  | .bool _ | .int _ _ | .string _ => true
  | _ => false
def flatL : List Value → Bool
  | [] => true
  | v :: l => match flat v with | true => flatL l | false => false
def flatV : Value → Bool
  | .agg cs => flatL cs.toList
  | v => flat v
/-- the value of one cell -/
def oneV : Value → Bool
  | .agg _ | .tuple _ | .chan _ => false
  | _ => true

/-- A computation that asks nothing but the program. -/
def bare (P : Program) {α : Type} : Sem α → Option α
  | .pure a => some a
  | .program k => bare P (k P)
  | _ => none

/-- a value and the memory; or a call -/
structure Out where
  v : Value
  h : Hp
  c : Option (FuncId × List Value)
abbrev Out.val (v : Value) (h : Hp) : Out := ⟨v, h, none⟩
abbrev Out.call (f : FuncId) (args : List Value) : Out := ⟨undef, ⟨0, .nil⟩, some (f, args)⟩

def constO : Option Value → Option Value
  | some z => match constOk z with
    | true => some z
    | false => none
  | none => none
def zeroOf (P : Program) (t : TypeId) : Option Value := match P.info? t with
  | some i => constO i.zero
  | none => none
def sizeOfT (P : Program) (t : TypeId) : Option Nat := match P.info? t with
  | some i => some i.size
  | none => none
def isAggT (P : Program) (t : TypeId) : Option Bool := match P.underlying t with
  | some (.struct _) | some (.array _ _) => some true
  | some _ => some false
  | none => none

def aggO : Option (List Value) → Option Value
  | some l => some (.agg l.toArray)
  | none => none
def oneO : Option (List Value) → Option Value
  | some [v] => some v
  | _ => none
def loadAggT (h : Hp) (a : Addr) : Option Nat → Option Value
  | some n => aggO (h.read a n)
  | none => none
def loadT (P : Program) (t : TypeId) (h : Hp) (a : Addr) : Option Value :=
  match isAggT P t with
  | some true => loadAggT h a (sizeOfT P t)
  | some false => oneO (h.read a 1)
  | none => none

def okCells : List Value → Bool
  | [] => true
  | v :: l => match oneV v with | true => okCells l | false => false

def newO (n : Nat) (v : Value) : Option (Tr (List Value)) → Option Out
  | some m => some (.val v ⟨Nat.succ n, m⟩)
  | none => none
def newBlock (h : Hp) (l : List Value) (f : Addr → Value) : Option Out :=
  match okCells l with
  | true => match h with
    | ⟨n, m⟩ => newO n (f ⟨n, 0, none⟩) (Tr.set (some l) 64 m n)
  | false => none

/-- n times the row z -/
def times (z : List Value) : Nat → List Value
  | 0 => []
  | n + 1 => z ++ times z n

/-- the exact part of a capacity -/
def capLow (c : Nat) : Nat := Nat.mod c big
/-- a capacity that is known to be c at least -/
def capAt (c size : Nat) : Nat := Nat.add c (Nat.mul big (Nat.succ size))
/-- does the capacity speak of elements of this size? -/
def capFits (c size : Nat) : Bool := match Nat.ble big c with
  | true => Nat.beq (Nat.div c big) (Nat.succ size)
  | false => true

def mk (h : Hp) (v : Value) : Option Out := some (.val v h)
def mkO (h : Hp) : Option Value → Option Out
  | some v => some (.val v h)
  | none => none
def mkN (h : Hp) : Option Next → Option Out
  | some (.value v) => match flat v with
    | true => some (.val v h)
    | false => none
  | _ => none
def mkH (v : Value) : Option Hp → Option Out
  | some h => some (.val v h)
  | none => none

def evalBound (x : Value) (y : Nat) : Option Nat := match x with
  | .int _ (.ofNat i) => match Nat.ble i y with
    | true => some i
    | false => none
  | _ => none
def boundO (d : Option Nat) (y : Nat) : Option Value → Option Nat
  | some v => evalBound v y
  | none => d

def hiOf (len : Nat) : Option Value → Option Nat
  | none => some len
  | some _ => none
/-- the place behind l elements: where nothing is left the address stays -/
def placeL (a : Option Addr) (l m size : Nat) : Option Addr := match Nat.beq m l with
  | true => a
  | false => match a with
    | some a => some (a.add (Nat.mul l size))
    | none => none

def evalSlice2 (a : Option Addr) (len cap : Nat) (exact : Bool) (size : Nat) (lo hi mx : Option Value) : Option Value :=
  match Nat.ble big cap with
  | true => none
  | false => match boundO (some cap) cap mx with
  | none => none
  | some m => match boundO (hiOf len mx) m hi with
    | none => none
    | some h => match boundO (some 0) h lo with
      | none => none
      | some l => match Nat.ble l m with
        | false => none
        | true => match exact || mx.isSome with
          | true => some (.slice (placeL a l m size) (Nat.sub h l) (Nat.sub m l))
          | false => match a with
            | none => none
            | some a => match Nat.beq m l && !Nat.beq l 0 with
              | true => none
              | false => some (.slice (placeL (some a) l m size) (Nat.sub h l) (capAt (Nat.sub m l) size))

/-- a row of bytes that is not known: its number, its length -/
def rowT : Value → Option (Nat × List Value)
  | .iface t (.tuple e) => match Nat.ble 6 t && Nat.beq (Nat.mod t 2) 1 with
    | true => some (Nat.div (Nat.sub t 7) 2, e.toList)
    | false => none
  | _ => none
/-- from nought on -/
def isNought : Option Value → Bool
  | none => true
  | some (.int _ (.ofNat 0)) => true
  | _ => false
def tokSlice (P : Program) (t : TypeId) (x : Value) (lo hi mx : Option Value) : Option Value := match P.underlying t with
  | some (.slice elem) => match rowT x, sizeOfT P elem with
    | some _, some _ => match hi, mx, isNought lo with
      | none, none, true => some x
      | _, _, _ => none
    | _, _ => none
  | _ => none
def evalSlice (P : Program) (t : TypeId) (x : Value) (lo hi mx : Option Value) : Option Value :=
  match P.underlying t with
  | some (.array n elem) => match x with
    | .pointer (some a) => match sizeOfT P elem with
      | some size => evalSlice2 (some a) n n true size lo hi mx
      | none => none
    | _ => none
  | some (.slice elem) => match x with
    | .slice a len cap => match sizeOfT P elem with
      | some size => match capFits cap size with
        | true => evalSlice2 a len (capLow cap) (!Nat.ble big cap) size lo hi mx
        | false => none
      | none => none
    | .iface u p => tokSlice P t (.iface u p) lo hi mx
    | _ => none
  | _ => none

def rowO (i : TypeInfo) (n : Nat) : Option Value → Option (List Value)
  | some z => match Nat.beq z.cells.toList.length i.size && (Nat.ble 1 i.size && Nat.ble i.bytes 1048576) with
    | true => some (times z.cells.toList n)
    | false => none
  | none => none
def rowOf (P : Program) (elem : TypeId) (n : Nat) : Option (List Value) := match P.info? elem with
  | some i => rowO i n (constO i.zero)
  | none => none

def toBytes : List Value → Option (List UInt8)
  | [] => some []
  | .int .u8 n :: l => match toBytes l with
    | some r => some (UInt8.ofNat n.toNat :: r)
    | none => none
  | _ => none
def bytesO (h : Hp) : Option (List Value) → Option Out
  | some l => match toBytes l with
    | some bs => some (.val (.string ⟨bs.toArray⟩) h)
    | none => none
  | none => none

def readO (h : Hp) (a : Option Addr) (n : Nat) : Option (List Value) := match a with
  | some a => h.read a n
  | none => match Nat.beq n 0 with | true => some [] | false => none
def writeO (h : Hp) (a : Option Addr) (M : List Value) : Option Hp := match a with
  | some a => h.write a M
  | none => match M with | [] => some h | _ => none
def addO (a : Option Addr) (n : Nat) : Option Addr := match a with
  | some a => some (a.add n)
  | none => none
def killO (h : Hp) (sCap : Nat) (a : Option Addr) : Option Hp := match Nat.ble big sCap with
  | false => some h
  | true => match a with
    | some a => h.kill a.block
    | none => none
def growO (need size : Nat) (cells : List Value) : Option Hp → Option Out
  | some h => newBlock h cells (fun a => .slice (some a) need (capAt need size))
  | none => none

/-- is an element's zero as long as the element? -/
def zeroFits (i : TypeInfo) : Bool := match constO i.zero with
  | some z => Nat.beq z.cells.toList.length i.size
  | none => false
def append2 (h : Hp) (i : TypeInfo) (base : Option Addr) (sLen sCap n : Nat) : Option (List Value) → Option (List Value) → Option Out
  | some news, some old => match Nat.ble 1 i.size && (Nat.ble i.bytes 1048576 && (zeroFits i && (capFits sCap i.size && Nat.ble (capLow sCap) 1048576))) with
    | true => match Nat.ble (Nat.add sLen n) (capLow sCap) with
      | true => mkH (.slice base (Nat.add sLen n) sCap) (writeO h (addO base (Nat.mul sLen i.size)) news)
      | false => match Nat.ble (Nat.add sLen n) 1048576 with
        | true => growO (Nat.add sLen n) i.size (old ++ news) (killO h sCap base)
        | false => none
    | false => none
  | _, _ => none
def evalAppend (P : Program) (h : Hp) (sType xType : TypeId) (s x : Value) : Option Out :=
  match P.underlying sType, P.underlying xType with
  | some (.slice elem), some (.slice _) => match P.info? elem with
    | some i => match s, x with
      | .slice base sLen sCap, .slice b n _ => append2 h i base sLen sCap n (readO h b (Nat.mul n i.size)) (readO h base (Nat.mul sLen i.size))
      | _, _ => none
    | none => none
  | _, _ => none

def beqZ (x y : Value) : Bool := match x, y with
  | .int .u8 (.ofNat a), .int .u8 (.ofNat b) => Nat.beq a b
  | _, _ => false
def minN (a b : Nat) : Nat := match Nat.ble a b with | true => a | false => b
def copy2 (h : Hp) (base : Option Addr) (n : Nat) : Option (List Value) → Option Out
  | some cells => mkH (.int .i64 (Int.ofNat n)) (writeO h base cells)
  | none => none
/-- a long row of one value onto another of the same value: nothing changes -/
def sameRep (n o o' : Nat) : Option (Nat × Value) → Option (Nat × Value) → Bool
  | some (N, v), some (N', v') => constC v && (beqZ v v' && (Nat.ble (Nat.add o n) N && Nat.ble (Nat.add o' n) N'))
  | _, _ => false
def repAt (h : Hp) (k : Nat) : Option (Nat × Value) := match h.raw k with
  | some l => isRep l
  | none => none
def copyLong (h : Hp) (n : Nat) (d s : Option Addr) : Option Out := match d, s with
  | some ⟨k, o, none⟩, some ⟨k', o', none⟩ => match sameRep n o o' (repAt h k) (repAt h k') with
    | true => mk h (.int .i64 (Int.ofNat n))
    | false => none
  | _, _ => none
def evalCopy (P : Program) (h : Hp) (dType : TypeId) (d s : Value) : Option Out :=
  match P.underlying dType with
  | some (.slice elem) => match sizeOfT P elem with
    | some size => match d, s with
      | .slice base dLen _, .slice sb sLen _ => match Nat.beq size 1 && Nat.ble 4097 (minN sLen dLen) with
        | true => copyLong h (minN sLen dLen) base sb
        | false => copy2 h base (minN sLen dLen) (readO h sb (Nat.mul (minN sLen dLen) size))
      | _, _ => none
    | none => none
  | _ => none

def maxOf : IntKind → Nat
  | .i8 => 127 | .i16 => 32767 | .i32 => 2147483647 | .i64 => 9223372036854775807
  | .u8 => 255 | .u16 => 65535 | .u32 => 4294967295 | .u64 => 18446744073709551615
def inK (k : IntKind) (n : Nat) : Option Value := match Nat.ble n (maxOf k) with
  | true => some (.int k (Int.ofNat n))
  | false => none
def boolO (b : Bool) : Option Value := some (.bool b)
/-- The operators on two numbers of one kind, none below nought. -/
def quick (op : BinOp) (k : IntKind) (x y : Nat) : Option Value := match op with
  | .eql => boolO (Nat.beq x y)
  | .neq => boolO (Nat.beq x y).not
  | .lss => boolO (Nat.ble (Nat.succ x) y)
  | .leq => boolO (Nat.ble x y)
  | .gtr => boolO (Nat.ble (Nat.succ y) x)
  | .geq => boolO (Nat.ble y x)
  | .add => inK k (Nat.add x y)
  | .sub => match Nat.ble y x with | true => inK k (Nat.sub x y) | false => none
  | .mul => inK k (Nat.mul x y)
  | _ => none
def sameKind (a b : IntKind) : Bool := match a, b with
  | .i8, .i8 | .i16, .i16 | .i32, .i32 | .i64, .i64 | .u8, .u8 | .u16, .u16 | .u32, .u32 | .u64, .u64 => true
  | _, _ => false
def quickV (op : BinOp) (x y : Value) : Option Value := match x with
  | .int k (.ofNat a) => match y with
    | .int k' (.ofNat b) => match sameKind k k' with
      | true => quick op k a b
      | false => none
    | _ => none
  | _ => none

/-! Values that are not known. A token is an interface value: its number says what it stands for. -/
def kOf : Nat → Option IntKind
  | 0 => some .u8
  | 1 => some .i64
  | 2 => some .u64
  | _ => none
def tOf : IntKind → Option Nat
  | .u8 => some 0
  | .i64 => some 1
  | .u64 => some 2
  | _ => none
def tokV (t : Nat) (e : List Int) : Value := .iface t (.tuple (encE e).toArray)
def tokO (e : List Int) : Option Nat → Option Value
  | some t => some (tokV t e)
  | none => none
/-- the number as a value of the kind -/
def mkI (k : IntKind) (e : List Int) : Option Value := match isC e with
  | some c => some (.int k c)
  | none => tokO e (tOf k)
def rangeI (k : IntKind) (e : List Int) : Option Value := match nnE e && geE [Int.ofNat (maxOf k)] e with
  | true => mkI k e
  | false => none
def exT (p : Value) : Option IntKind → Option (IntKind × List Int)
  | some k => match p with
    | .tuple e => some (k, decE e.toList)
    | _ => none
  | none => none
def exOf : Value → Option (IntKind × List Int)
  | .int k n => some (k, [n])
  | .iface t p => exT p (kOf t)
  | _ => none
def yesNo (b c : Bool) : Option Value := match b with
  | true => some (.bool true)
  | false => match c with
    | true => some (.bool false)
    | false => none
def quoI (k : IntKind) (a : List Int) : Option Int → Option Value
  | some (.ofNat c) => match quoE a c with
    | some q => rangeI k q
    | none => none
  | _ => none
def mulI (k : IntKind) : Option (List Int) → Option Value
  | some e => rangeI k e
  | none => none
def tokBin2 (op : BinOp) (k : IntKind) (a b : List Int) : Option Value := match op with
  | .eql => yesNo (eqE a b) (gtE a b || gtE b a)
  | .neq => yesNo (gtE a b || gtE b a) (eqE a b)
  | .lss => yesNo (gtE b a) (geE a b)
  | .leq => yesNo (geE b a) (gtE a b)
  | .gtr => yesNo (gtE a b) (geE b a)
  | .geq => yesNo (geE a b) (gtE b a)
  | .add => rangeI k (addE a b)
  | .mul => mulI k (mulEE a b)
  | .quo => match nnE a with
    | true => quoI k a (isC b)
    | false => none
  | _ => none
def tokBin1 (op : BinOp) : Option (IntKind × List Int) → Option (IntKind × List Int) → Option Value
  | some (k, a), some (k', b) => match sameKind k k' with
    | true => tokBin2 op k a b
    | false => none
  | _, _ => none
/-- a value of one cell that is a number, known or not -/
def numC : Value → Bool
  | .int _ _ => true
  | .iface t (.tuple _) => (kOf t).isSome
  | _ => false
def numL : List Value → Bool
  | [] => true
  | v :: l => match numC v with | true => numL l | false => false
def beqP : List Value → List Value → Bool
  | [], [] => true
  | .int .i64 (.ofNat a) :: l, .int .i64 (.ofNat b) :: m => match Nat.beq a b with | true => beqP l m | false => false
  | .int .i64 (.negSucc a) :: l, .int .i64 (.negSucc b) :: m => match Nat.beq a b with | true => beqP l m | false => false
  | _, _ => false
/-- the same numbers -/
def sameN : List Value → List Value → Bool
  | [], [] => true
  | .int .u8 (.ofNat a) :: l, .int .u8 (.ofNat b) :: m => match Nat.beq a b with | true => sameN l m | false => false
  | .iface t (.tuple ⟨p⟩) :: l, .iface t' (.tuple ⟨p'⟩) :: m => match Nat.beq t 0 && (Nat.beq t' 0 && beqP p p') with | true => sameN l m | false => false
  | _, _ => false
/-- an array of bytes -/
def byteArr (P : Program) (t : TypeId) (n : Nat) : Bool := match P.underlying t with
  | some (.array m e) => match P.underlying e, sizeOfT P e with
    | some (.int .u8), some s => Nat.beq s 1 && (Nat.beq m n && (P.eqGuardType P.depth t).not)
    | _, _ => false
  | _ => false
def tokAgg (P : Program) (t : TypeId) (op : BinOp) (a b : List Value) : Option Value := match op with
  | .eql => match byteArr P t a.length && sameN a b with | true => some (.bool true) | false => none
  | _ => none
def tokBin (P : Program) (t : TypeId) (op : BinOp) (x y : Value) : Option Value := match x, y with
  | .agg a, .agg b => tokAgg P t op a.toList b.toList
  | _, _ => tokBin1 op (exOf x) (exOf y)
def tokConv (P : Program) (h : Hp) (src : Option TypeDesc) (p : Value) (k0 : Option IntKind) (d : Option TypeDesc) : Option Out := match src, d with
  | some (.int _), some (.int k) => match exT p k0 with
    | some (_, e) => mkO h (rangeI k e)
    | none => none
  | _, _ => none
def symAt (h : Hp) (k : Nat) : Option (Nat × List Value) := match h.raw k with
  | some l => isSym l
  | none => none
/-- the row as it lies: its number, what it holds, its length -/
def rowAt2 (k : Nat) (e : List Value) : Option (Nat × List Value) → Option (Nat × Nat × List Int)
  | some (j, e') => match Nat.ble 1 j && (Nat.ble j 2 && beqP e e') with
    | true => some (k, j, decE e)
    | false => none
  | none => none
def rowAt1 (h : Hp) : Option (Nat × List Value) → Option (Nat × Nat × List Int)
  | some (k, e) => rowAt2 k e (symAt h k)
  | none => none
def rowAt (h : Hp) (v : Value) : Option (Nat × Nat × List Int) := rowAt1 h (rowT v)
def newSym (h : Hp) (j t : Nat) (e : List Int) : Option Out := match h with
  | ⟨n, m⟩ => newO n (tokV (Nat.add (Nat.mul 2 n) t) e) (Tr.set (some [.map (some j), .tuple (encE e).toArray]) 64 m n)
def lenT (h : Hp) : Option (Nat × List Value) → Option Out
  | some (_, e) => mkO h (rangeI .i64 (decE e))
  | none => none
/-- a new row of noughts -/
def isNull : Option (List Value) → Bool
  | some [.int .u8 (.ofNat 0)] => true
  | _ => false
def tokMake (P : Program) (h : Hp) (t : TypeId) (e : List Int) : Option Out := match P.underlying t with
  | some (.slice elem) => match isNull (rowOf P elem 1) && (geE e [1] && geE [1048576] e) with
    | true => newSym h 1 7 e
    | false => none
  | _ => none
def putSym (h : Hp) (k : Nat) (e r : List Int) : Option Out :=
  match rangeI .i64 r with
  | some v => mkH v (h.put k [.map (some 2), .tuple (encE e).toArray])
  | none => none
/-- the row (j, M) laid over the row k of length L -/
def copyT (h : Hp) (k j : Nat) (L : List Int) (j' : Nat) (M : List Int) : Option Out := match Nat.beq j' 2 with
  | false => none
  | true => match geE M L with
    | true => putSym h k L L
    | false => match geE L M && (Nat.beq j 2 || geE M dataLen) with
      | true => putSym h k L M
      | false => none
def copy1 (h : Hp) (s : Value) : Option (Nat × Nat × List Int) → Option (Nat × Nat × List Int) → Option Out
  | some (k, j, L), some (k', j', M) => copyT h k j L j' M
  | some (k, j, L), none => match s with
    | .slice _ 0 _ => mk h (.int .i64 0)
    | _ => none
  | _, _ => none
def tokCopy (P : Program) (h : Hp) (dType : TypeId) (d s : Value) : Option Out := match P.underlying dType with
  | some (.slice elem) => match sizeOfT P elem with
    | some n => match Nat.beq n 1 with
      | true => copy1 h s (rowAt h d) (rowAt h s)
      | false => none
    | none => none
  | _ => none
def tokMin (a b : List Int) (x y : Value) : Option Value := match geE b a with
  | true => some x
  | false => match geE a b with
    | true => some y
    | false => none
def tokMin1 (x y : Value) : Option (IntKind × List Int) → Option (IntKind × List Int) → Option Value
  | some (k, a), some (k', b) => match sameKind k k' with
    | true => tokMin a b x y
    | false => none
  | _, _ => none
def lenT2 (P : Program) (h : Hp) (r : Nat × List Value) : Option TypeId → Option Out
  | some t => match P.underlying t with
    | some (.slice _) => lenT h (some r)
    | _ => none
  | none => none
/-- a new row: length and capacity the same -/
def makeT (P : Program) (h : Hp) (t : TypeId) (t1 : Nat) (p : Value) (t2 : Nat) (p2 : Value) : Option Out := match exOf (.iface t1 p), exOf (.iface t2 p2) with
  | some (_, e), some (_, e2) => match eqE e e2 with
    | true => tokMake P h t e
    | false => none
  | _, _ => none

def slowBin (P : Program) (h : Hp) (ρ : Operand → Value) (o : Oper) (op : BinOp) (t : TypeId) (x y : Value) : Option Out :=
  match flatV x && flatV y with
  | true => mkN h (bare P (execOp ρ o))
  | false => match tokBin P t op x y with
   | some v => mk h v
   | none => match op, x, y, P.underlying t with
    | .eql, .slice a _ _, .slice none _ _, some (.slice _) => mk h (.bool a.isNone)
    | .neq, .slice a _ _, .slice none _ _, some (.slice _) => mk h (.bool !a.isNone)
    | _, _, _, _ => none
def evalBin (P : Program) (h : Hp) (ρ : Operand → Value) (o : Oper) (op : BinOp) (t : TypeId) (x y : Value) : Option Out :=
  match quickV op x y with
  | some v => mk h v
  | none => slowBin P h ρ o op t x y
def evalUn (P : Program) (h : Hp) (ρ : Operand → Value) (o : Oper) (x : Value) : Option Out :=
  match flatV x with
  | true => mkN h (bare P (execOp ρ o))
  | false => none
def convO (P : Program) (h : Hp) (ρ : Operand → Value) (o : Oper) : Option Value → Option Out
  | some v => mk h v
  | none => mkN h (bare P (execOp ρ o))
def quickConv (x : Int) (d : Option TypeDesc) : Option Value := match d with
  | some (.int k) => match x with
    | .ofNat n => inK k n
    | _ => none
  | _ => none
def evalConv (P : Program) (h : Hp) (ρ : Operand → Value) (o : Oper) (src dst : TypeId) (x : Value) : Option Out := match x with
  | .int _ n => match P.underlying src with
    | some (.int _) => convO P h ρ o (quickConv n (P.underlying dst))
    | _ => none
  | .slice (some a) len _ => match P.underlying src, P.underlying dst with
    | some (.slice e), some .string => match P.underlying e with
      | some (.int .u8) => bytesO h (h.read a len)
      | _ => none
    | _, _ => none
  | .slice none 0 _ => match P.underlying src, P.underlying dst with
    | some (.slice e), some .string => match P.underlying e with
      | some (.int .u8) => bytesO h (some [])
      | _ => none
    | _, _ => none
  | .iface t p => tokConv P h (P.underlying src) p (kOf t) (P.underlying dst)
  | _ => none

def evalPick (h : Hp) (c x y : Value) : Option Out := match c with
  | .bool true => mk h x
  | .bool false => mk h y
  | _ => none
def evalAlloc (h : Hp) : Option Value → Option Out
  | some z => newBlock h z.cells.toList (fun a => .pointer (some a))
  | none => none
def fillO (h : Hp) : Option (List Value) → Option Out
  | some cells => some (.val (.agg cells.toArray) h)
  | none => none
def placesOf (P : Program) : List Field → Option (List (Nat × Nat))
  | [] => some []
  | f :: l => match sizeOfT P f.type, placesOf P l with
    | some n, some r => some ((f.offset, n) :: r)
    | _, _ => none
def partsOf (ρ : Operand → Value) : List (Nat × Operand) → List (Nat × Value)
  | [] => []
  | (i, x) :: l => (i, ρ x) :: partsOf ρ l
def fitV (n : Nat) (v : Value) : Option (List Value) := match v with
  | .agg cs => match Nat.beq cs.toList.length n with
    | true => some cs.toList
    | false => none
  | .tuple _ => none
  | .chan _ => none
  | v => match Nat.beq n 1 with
    | true => some [v]
    | false => none
def fillPart (cells : List Value) (o : Nat) : Option (List Value) → Option (List Value)
  | some l => lay cells o l
  | none => none
def fillAt (cells : List Value) (v : Value) : Option (Nat × Nat) → Option (List Value)
  | some (o, n) => fillPart cells o (fitV n v)
  | none => none
def fillL (place : Nat → Option (Nat × Nat)) : Option (List Value) → List (Nat × Value) → Option (List Value)
  | c, [] => c
  | none, _ :: _ => none
  | some cells, (i, v) :: rest => fillL place (fillAt cells v (place i)) rest
def evalBuild (P : Program) (h : Hp) (t : TypeId) (ps : List (Nat × Value)) : Option Out :=
  match zeroOf P t with
  | none => none
  | some z => match P.underlying t with
    | some (.struct fields) => match placesOf P fields.toList with
      | some places => fillO h (fillL (places[·]?) (some z.cells.toList) ps)
      | none => none
    | some (.array _ elem) => match sizeOfT P elem with
      | some size => fillO h (fillL (fun i => some (Nat.mul i size, size)) (some z.cells.toList) ps)
      | none => none
    | _ => none
def sliceO (h : Hp) (len : Nat) : Option (List Value) → Option Out
  | some cells => newBlock h cells (fun a => .slice (some a) len len)
  | none => none
def evalBuildSlice (P : Program) (h : Hp) (t : TypeId) (len : Nat) (ps : List (Nat × Value)) : Option Out :=
  match P.underlying t with
  | some (.slice elem) => match sizeOfT P elem, rowOf P elem len with
    | some size, some row => match Nat.ble len 4096 && Nat.ble (Nat.mul len size) 1048576 with
      | false => none
      | true => sliceO h len (fillL (fun i => some (Nat.mul i size, size)) (some row) ps)
    | _, _ => none
  | _ => none
def evalStore (h : Hp) (a x : Value) : Option Nat → Option Out
  | some n => match a with
    | .pointer (some ad) => match Nat.beq x.cells.toList.length n && okCells x.cells.toList with
      | true => mkH undef (h.write ad x.cells.toList)
      | false => none
    | _ => none
  | none => none
def evalLoad (P : Program) (h : Hp) (t : TypeId) (a : Value) : Option Out := match a with
  | .pointer (some ad) => mkO h (loadT P t h ad)
  | _ => none
def evalNil (h : Hp) (x : Value) : Option Out := match x with
  | .pointer (some a) => mk h (.pointer (some a))
  | _ => none
def makeO (h : Hp) (l c : Nat) : Option (List Value) → Option Out
  | some row => newBlock h row (fun a => .slice (some a) l c)
  | none => none
/-- a long row, not written out -/
def newRep (h : Hp) (l c : Nat) (v : Value) : Option Out := match h with
  | ⟨n, m⟩ => newO n (.slice (some ⟨n, 0, none⟩) l c) (Tr.set (some [.chan (some c), v]) 64 m n)
def makeLong (h : Hp) (l c : Nat) : Option (List Value) → Option Out
  | some [v] => newRep h l c v
  | _ => none
def evalMake (P : Program) (h : Hp) (t : TypeId) (l c : Value) : Option Out := match l with
  | .int _ (.ofNat l) => match c with
    | .int _ (.ofNat c) => match P.underlying t with
      | some (.slice elem) => match Nat.ble l c && Nat.ble c 1048576 with
        | true => match Nat.ble c 4096 with
          | true => makeO h l c (rowOf P elem c)
          | false => makeLong h l c (rowOf P elem 1)
        | false => none
      | _ => none
    | _ => none
  | .iface t1 p => match c with
    | .iface t2 p2 => makeT P h t t1 p t2 p2
    | _ => none
  | _ => none
def fieldOf (P : Program) (s : TypeId) (f : Nat) : Option (Nat × TypeId × Nat) := match P.underlying s with
  | some (.struct fields) => match fields[f]? with
    | some fd => match sizeOfT P fd.type with
      | some n => some (fd.offset, fd.type, n)
      | none => none
    | none => none
  | _ => none
def addrO (h : Hp) (a : Addr) : Option (Nat × TypeId × Nat) → Option Out
  | some (o, _, n) => match Nat.beq n 0 with
    | true => none
    | false => mk h (.pointer (some (a.add o)))
  | none => none
def evalFieldAddr (P : Program) (h : Hp) (s : TypeId) (x : Value) (f : Nat) : Option Out := match x with
  | .pointer (some a) => addrO h a (fieldOf P s f)
  | _ => none
def partO (P : Program) (h : Hp) (cs : List Value) : Option (Nat × TypeId × Nat) → Option Out
  | some (o, t, n) => match isAggT P t with
    | some true => mkO h (aggO (cut0 (skip cs o) n))
    | some false => mkO h (oneO (cut0 (skip cs o) 1))
    | none => none
  | none => none
def evalField (P : Program) (h : Hp) (s : TypeId) (x : Value) (f : Nat) : Option Out := match x with
  | .agg cs => partO P h cs.toList (fieldOf P s f)
  | _ => none
def indexO (h : Hp) (a : Addr) (i len : Nat) : Option Nat → Option Out
  | some size => match Nat.ble (Nat.succ i) len with
    | true => mk h (.pointer (some (a.add (Nat.mul i size))))
    | false => none
  | none => none
def evalIndexAddr (P : Program) (h : Hp) (t : TypeId) (x ix : Value) : Option Out := match ix with
  | .int _ (.ofNat i) => match P.underlying t with
    | some (.array len elem) => match x with
      | .pointer (some a) => indexO h a i len (sizeOfT P elem)
      | _ => none
    | some (.slice elem) => match x with
      | .slice (some a) len _ => indexO h a i len (sizeOfT P elem)
      | _ => none
    | _ => none
  | _ => none
def evalExtract (h : Hp) (x : Value) (ix : Nat) : Option Out := match x with
  | .tuple vs => mkO h vs.toList[ix]?
  | _ => none
def argsOf (a : Ac) : List Operand → List Value
  | [] => []
  | x :: l => a.eval x :: argsOf a l
def evalLen (P : Program) (h : Hp) (x : Value) : Option TypeId → Option Out
  | some t => match P.underlying t with
    | some (.slice _) => match x with
      | .slice _ n _ => mk h (.int .i64 (Int.ofNat n))
      | _ => none
    | some (.array n _) => mk h (.int .i64 (Int.ofNat n))
    | _ => none
  | none => none
def bodyOk (fn : Func) : Bool := match fn.body with
  | some _ => !(fn.name == "runtime.NumGoroutine")
  | none => false
def evalCallF (P : Program) (f : FuncId) (args : List Value) : Option Out := match P.funcs[f]? with
  | some fn => match bodyOk fn with
    | true => some (.call f args)
    | false => none
  | none => none
def evalBuiltin (P : Program) (h : Hp) (a : Ac) (o : Oper) (b : Builtin) (types : List TypeId) (args : List Value) : Option Out :=
  match b with
  | .len => match args with
    | [x] => match rowT x with
      | some r => lenT2 P h r types[0]?
      | none => evalLen P h x types[0]?
    | _ => none
  | .append => match args, types with
    | [s, x], [t, u] => evalAppend P h t u s x
    | _, _ => none
  | .copy => match args, types with
    | [d, s], [t, _] => match rowT d with
      | some _ => tokCopy P h t d s
      | none => evalCopy P h t d s
    | _, _ => none
  | .min => match flatL args with
    | true => mkN h (bare P (execOp a.eval o))
    | false => match args with
      | [x, y] => mkO h (tokMin1 x y (exOf x) (exOf y))
      | _ => none
  | _ => none
def evalCall (P : Program) (h : Hp) (a : Ac) (o : Oper) (c : Call) : Option Out := match c.callee with
  | .value (.func f) => evalCallF P f (argsOf a c.args.toList)
  | .builtin b => evalBuiltin P h a o b c.argTypes.toList (argsOf a c.args.toList)
  | _ => none

def evalO (a : Ac) : Option Operand → Option Value
  | some x => some (a.eval x)
  | none => none

/-- an element of an array that is a value -/
def evalIndex (P : Program) (h : Hp) (t : TypeId) (x ix : Value) : Option Out := match ix with
  | .int _ (.ofNat i) => match x with
    | .agg cs => match P.underlying t with
      | some (.array len elem) => match isAggT P elem, sizeOfT P elem, Nat.ble (Nat.succ i) len with
        | some false, some 1, true => mkO h (oneO (cut0 (skip cs.toList i) 1))
        | _, _, _ => none
      | _ => none
    | _ => none
  | _ => none

/-- One operation. -/
def evalOp (P : Program) (h : Hp) (a : Ac) (o : Oper) : Option Out :=
  match o.op with
  | .move x => mk h (a.eval x)
  | .assign x => mk h (a.eval x)
  | .pick c x y => evalPick h (a.eval c) (a.eval x) (a.eval y)
  | .alloc elem => evalAlloc h (zeroOf P elem)
  | .box _ x => newBlock h (a.eval x).cells.toList (fun a => .pointer (some a))
  | .build t parts => evalBuild P h t (partsOf a.eval parts.toList)
  | .buildSlice t len parts => evalBuildSlice P h t len (partsOf a.eval parts.toList)
  | .load t x => evalLoad P h t (a.eval x)
  | .store t x y => evalStore h (a.eval x) (a.eval y) (sizeOfT P t)
  | .nilCheck x => evalNil h (a.eval x)
  | .binOp op t x y _ => evalBin P h a.eval o op t (a.eval x) (a.eval y)
  | .unOp _ _ x => evalUn P h a.eval o (a.eval x)
  | .convert s d x => evalConv P h a.eval o s d (a.eval x)
  | .makeSlice t l c => evalMake P h t (a.eval l) (a.eval c)
  | .slice t x lo hi mx => mkO h (evalSlice P t (a.eval x) (evalO a lo) (evalO a hi) (evalO a mx))
  | .index t x ix => evalIndex P h t (a.eval x) (a.eval ix)
  | .fieldAddr s x f => evalFieldAddr P h s (a.eval x) f
  | .field s x f => evalField P h s (a.eval x) f
  | .indexAddr t x ix => evalIndexAddr P h t (a.eval x) (a.eval ix)
  | .extract x ix => evalExtract h (a.eval x) ix
  | .call c => evalCall P h a o c
  | _ => none

abbrev Caller := FuncId → List Value → Hp → Option (Value × Hp)

def callO (call : Caller) (h : Hp) : Option Out → Option (Value × Hp)
  | some ⟨v, h', none⟩ => some (v, h')
  | some ⟨_, _, some (f, args)⟩ => call f args h
  | none => none
/-- one operation, calls carried out -/
def stepOp (P : Program) (call : Caller) (h : Hp) (a : Ac) (o : Oper) : Option (Value × Hp) := callO call h (evalOp P h a o)

def wantV (want : Bool) : Option Value → Option Bool
  | some (.bool b) => some (b == want)
  | some (.tuple ⟨[]⟩) => some false
  | _ => none
def wantD (a : Ac) (want : Bool) : Option (Option Tmp) → Option Bool
  | some (some d) => wantV want (Tr.get a d)
  | _ => none
def dstOf : Option Oper → Option (Option Tmp)
  | some o => some o.dst
  | none => none
/-- is the operation wanted? -/
def wantedA (ops : Array Oper) (a : Ac) (o : Oper) : Option Bool :=
  match o.guard with
  | none => some true
  | some (j, want) => wantD a want (dstOf ops[j]?)

def withH (h : Hp) : Option Ac → Option (Ac × Hp)
  | some a => some (a, h)
  | none => none
def putO (n : Nat) (a : Ac) (d : Option Tmp) : Option (Value × Hp) → Option (Ac × Hp)
  | some (v, h) => withH h (Ac.put n a d v)
  | none => none
def goOp (P : Program) (call : Caller) (n : Nat) (h : Hp) (a : Ac) (o : Oper) : Option Bool → Option (Ac × Hp)
  | some true => putO n a o.dst (stepOp P call h a o)
  | some false => putO n a o.dst (some (undef, h))
  | none => none
def thenOps (k : Ac → Hp → Option (Ac × Hp)) : Option (Ac × Hp) → Option (Ac × Hp)
  | some (a, h) => k a h
  | none => none
def evOps (P : Program) (call : Caller) (n : Nat) (ops : Array Oper) : List Oper → Ac → Hp → Option (Ac × Hp)
  | [], a, h => some (a, h)
  | o :: l, a, h => thenOps (evOps P call n ops l) (goOp P call n h a o (wantedA ops a o))

/-! A region whose order is drawn. -/
structure Ent where
  o : Oper
  v : Value
  a : Ac
  h : Hp
  h' : Hp
  w : Bool

def entO (e : Value → Hp → Ent) (n : Nat) (a : Ac) (d : Option Tmp) : Option (Value × Hp) → Option (Ent × Ac)
  | some (v, h) => match Ac.put n a d v with
    | some a' => some (e v h, a')
    | none => none
  | none => none
def goEnt (P : Program) (call : Caller) (n : Nat) (h : Hp) (a : Ac) (o : Oper) : Option Bool → Option (Ent × Ac)
  | some true => entO (fun v h' => ⟨o, v, a, h, h', true⟩) n a o.dst (stepOp P call h a o)
  | some false => entO (fun v h' => ⟨o, v, a, h, h', false⟩) n a o.dst (some (undef, h))
  | none => none
def thenEnt (k : Ac → Hp → List Ent → Option (List Ent × Ac × Hp)) (t : List Ent) : Option (Ent × Ac) → Option (List Ent × Ac × Hp)
  | some (e, a) => k a e.h' (e :: t)
  | none => none
/-- the run in the text's order, and its record (the last one first) -/
def evTrace (P : Program) (call : Caller) (n : Nat) (ops : Array Oper) : List Oper → Ac → Hp → List Ent → Option (List Ent × Ac × Hp)
  | [], a, h, t => some (t, a, h)
  | o :: l, a, h, t => thenEnt (evTrace P call n ops l) t (goEnt P call n h a o (wantedA ops a o))

/-- kinds of operations: ready: it looks at no memory; busy: it reads; done: it has an effect; exhausted: it makes a new block and no more -/
abbrev Kd := LoopState
def kindOf (op : Op) : Kd := match op with
  | .move _ | .assign _ | .pick .. | .build .. | .nilCheck _ | .binOp .. | .unOp .. | .slice .. | .index .. | .fieldAddr .. | .field .. | .indexAddr .. | .extract .. => .ready
  | .load .. | .convert .. => .busy
  | .alloc _ | .makeSlice .. => .exhausted
  | .call c => match c.callee with
    | .builtin .len => .ready
    | .builtin .min => .ready
    | _ => .done
  | _ => .done
def beqA (a b : Addr) : Bool := match a, b with
  | ⟨k, o, none⟩, ⟨k', o', none⟩ => Nat.beq k k' && Nat.beq o o'
  | _, _ => false
def beqI (a b : Int) : Bool := match a, b with
  | .ofNat m, .ofNat n => Nat.beq m n
  | .negSucc m, .negSucc n => Nat.beq m n
  | _, _ => false
def beqB : List UInt8 → List UInt8 → Bool
  | [], [] => true
  | x :: l, y :: m => Nat.beq x.toNat y.toNat && beqB l m
  | _, _ => false
def beqC (x y : Value) : Bool := match x, y with
  | .bool a, .bool b => a == b
  | .int k a, .int k' b => sameKind k k' && beqI a b
  | .string a, .string b => beqB a.data.toList b.data.toList
  | .pointer none, .pointer none => true
  | .pointer (some a), .pointer (some b) => beqA a b
  | .slice none l c, .slice none l' c' => Nat.beq l l' && Nat.beq c c'
  | .slice (some a) l c, .slice (some b) l' c' => beqA a b && (Nat.beq l l' && Nat.beq c c')
  | .iface t (.tuple ⟨p⟩), .iface t' (.tuple ⟨p'⟩) => Nat.beq t t' && beqP p p'
  | _, _ => false
def beqL : List Value → List Value → Bool
  | [], [] => true
  | x :: l, y :: m => beqC x y && beqL l m
  | _, _ => false
def beqV (x y : Value) : Bool := match x, y with
  | .agg a, .agg b => beqL a.toList b.toList
  | x, y => beqC x y
def beqOut (v : Value) : Option Out → Bool
  | some ⟨u, _, none⟩ => beqV u v
  | _ => false
/-- the reading of entry e, in the memory h, yields what it yielded -/
def again (P : Program) (e : Ent) (h : Hp) : Bool := beqOut e.v (evalOp P h e.a e.o)
/-- what must come ahead of an operation, as bits -/
def maskOf (acc : List Nat) : List Edge → Nat
  | [] => 0
  | e :: es => match Region.binds .any e with
    | true => (2 ^ e.on ||| acc.getD e.on 0) ||| maskOf acc es
    | false => maskOf acc es
def befs : List Oper → List Nat → List Nat
  | [], acc => acc
  | o :: l, acc => befs l (acc ++ [maskOf acc o.after.toList])
def bit (b : List Nat) (i j : Nat) : Bool := Nat.testBit (b.getD j 0) i

def allBelow (p : Nat → Bool) : Nat → Bool
  | 0 => true
  | n + 1 => match p n with
    | true => allBelow p n
    | false => false
def kdO : Option Oper → Kd
  | some o => kindOf o.op
  | none => .ready
def effK : Kd → Bool
  | .done | .exhausted => true
  | _ => false
def loadK : Kd → Bool
  | .busy => true
  | _ => false
def freshK : Kd → Bool
  | .exhausted => true
  | _ => false
/-- two kinds whose order may be open -/
def kindsOk : Kd → Kd → Bool
  | .ready, _ => true
  | _, .ready => true
  | .busy, _ => true
  | _, .busy => true
  | .done, .exhausted => true
  | _, _ => false
def apartO (ops : Array Oper) : Option Oper → Option Oper → Bool
  | some x, some y => x.apart ops y
  | _, _ => true
def pairOk (ops : Array Oper) (b : List Nat) (i j : Nat) : Bool := bit b i j || (apartO ops ops[i]? ops[j]? && kindsOk (kdO ops[i]?) (kdO ops[j]?))
def edgesOk : List Oper → Nat → Bool
  | [], _ => true
  | o :: l, i => (o.after.toList.all fun e => !(Region.binds .any e) || Nat.ble (Nat.succ e.on) i) && edgesOk l (i + 1)
/-- the fresh operation q stands behind an effect, in an order that is open -/
def lateAt (ops : Array Oper) (b : List Nat) (q : Nat) : Bool := freshK (kdO ops[q]?) && !(allBelow (fun i => !(effK (kdO ops[i]?)) || bit b i q) q)
def lateGood (ops : Array Oper) (b : List Nat) (q : Nat) : Bool := allBelow (fun j => !(bit b q j) || allBelow (fun i => !(effK (kdO ops[i]?)) || bit b i j) q) ops.size
def lateOk (ops : Array Oper) (b : List Nat) (q : Nat) : Bool := !(lateAt ops b q) || (lateGood ops b q && allBelow (fun q' => !(lateAt ops b q')) q)
/-- what the text alone must say -/
def textOk (ops : Array Oper) (b : List Nat) : Bool :=
  edgesOk ops.toList 0 && (Region.noSelect ops && (allBelow (fun j => allBelow (fun i => pairOk ops b i j) j) ops.size && allBelow (fun q => lateOk ops b q) ops.size))
/-- readings and effects whose order is open -/
def readPair (ops : Array Oper) (b : List Nat) (l e : Nat) : Bool :=
  loadK (kdO ops[l]?) && (effK (kdO ops[e]?) && !(bit b l e || bit b e l))
def reads (ops : Array Oper) (b : List Nat) : List (Nat × Nat) :=
  (List.range ops.size).flatMap fun l => ((List.range ops.size).filter fun e => readPair ops b l e).map fun e => (l, e)
def readOk (P : Program) (t : List Ent) (p : Nat × Nat) : Bool := match t[p.1]?, t[p.2]? with
  | some x, some y => match x.w, y.w with
    | true, true => match Nat.ble p.1 p.2 with
      | true => again P x y.h'
      | false => again P x y.h
    | _, _ => true
  | _, _ => true
def readsOk (P : Program) (t : List Ent) : List (Nat × Nat) → Bool
  | [] => true
  | p :: l => match readOk P t p with
    | true => readsOk P t l
    | false => false
def drawOk (P : Program) (ops : Array Oper) (t : List Ent) : Bool := match textOk ops (befs ops.toList []) with
  | true => readsOk P t (reads ops (befs ops.toList []))
  | false => false
def drawO (P : Program) (ops : Array Oper) : Option (List Ent × Ac × Hp) → Option (Ac × Hp)
  | some (t, a, h) => match drawOk P ops t.reverse with
    | true => some (a, h)
    | false => none
  | none => none
def evDraw (P : Program) (call : Caller) (n : Nat) (ops : Array Oper) (a : Ac) (h : Hp) : Option (Ac × Hp) :=
  drawO P ops (evTrace P call n ops ops.toList a h [])

abbrev Ex := Exit

abbrev Res := Option (Ex × Ac × Hp)
abbrev Runner := Code → Ac → Hp → Res

def regO : Option (Ac × Hp) → Res
  | some (a, h) => some (.normal, a, h)
  | none => none
def seqO (k : Runner) (y : Code) : Res → Res
  | some (.normal, a, h) => k y a h
  | r => r
def condO (k : Runner) (x y : Code) (a : Ac) (h : Hp) : Value → Res
  | .bool true => k x a h
  | .bool false => k y a h
  | _ => none
def blockO (id : Nat) : Res → Res
  | some (.exit i, a, h) => match Nat.beq i id with
    | true => some (.normal, a, h)
    | false => some (.exit i, a, h)
  | r => r

def codeStep (P : Program) (call : Caller) (n : Nat) (k : Runner) (c : Code) (a : Ac) (h : Hp) : Res := match c with
  | .skip => some (.normal, a, h)
  | .region _ ops false => regO (evOps P call n ops ops.toList a h)
  | .region _ ops true => regO (evDraw P call n ops a h)
  | .seq x y => seqO k y (k x a h)
  | .cond c x y => condO k x y a h (a.eval c)
  | .block id b => blockO id (k b a h)
  | .loop b => seqO k (.loop b) (k b a h)
  | .exit i => some (.exit i, a, h)
  | .ret => some (.ret, a, h)
  | _ => none

def evCode (P : Program) (call : Caller) (n : Nat) : Nat → Runner
  | 0 => fun _ _ _ => none
  | k + 1 => fun c a h => codeStep P call n (evCode P call n k) c a h

def consV (v : Value) : Option (List Value) → Option (List Value)
  | some r => some (v :: r)
  | none => none
def consVO (r : Option (List Value)) : Option Value → Option (List Value)
  | some v => consV v r
  | none => none
def loadV (P : Program) (ty : TypeId) (h : Hp) : Value → Option Value
  | .pointer (some ad) => loadT P ty h ad
  | _ => none
def evResults (P : Program) (a : Ac) (h : Hp) : List ResultVar → Option (List Value)
  | [] => some []
  | .tmp t :: l => consV (a.eval (.tmp t)) (evResults P a h l)
  | .cell t ty :: l => consVO (evResults P a h l) (loadV P ty h (a.eval (.tmp t)))

def fromList : List Value → Nat → Tr Value → Option (Tr Value)
  | [], _, t => some t
  | v :: l, i, t => match Tr.set (some v) 64 t i with
    | some t' => fromList l (Nat.succ i) t'
    | none => none

/-- no tuple in a tuple -/
def wOk : Value → Bool
  | .tuple ⟨_ :: _⟩ => false
  | _ => true
def wOkL : List Value → Bool
  | [] => true
  | v :: l => match wOk v with | true => wOkL l | false => false
def packR (h : Hp) : Option (List Value) → Option (Value × Hp)
  | some [v] => some (v, h)
  | some vs => match wOkL vs with
    | true => some (.tuple vs.toArray, h)
    | false => none
  | none => none
def retO (P : Program) (fn : Func) : Res → Option (Value × Hp)
  | some (.normal, a, h) => packR h (evResults P a h fn.results.toList)
  | some (.ret, a, h) => packR h (evResults P a h fn.results.toList)
  | _ => none
def bodyO (P : Program) (call : Caller) (fn : Func) (c : Code) (h : Hp) (n : Nat) : Option (Tr Value) → Option (Value × Hp)
  | some t => match Nat.ble n fn.ntmps with
    | true => retO P fn (evCode P call fn.ntmps 100000 c t h)
    | false => none
  | none => none
def callF (P : Program) (call : Caller) (args : List Value) (h : Hp) : Option Func → Option (Value × Hp)
  | some fn => match fn.body with
    | some c => bodyO P call fn c h args.length (fromList args 0 .nil)
    | none => none
  | none => none
/-! Calls that are answered without a run. -/
def hugeN : Nat := 256 ^ 40
/-- a number of the specification, known or not -/
def natT : Value → Option (Nat × List Value)
  | .iface t (.tuple e) => match Nat.ble 6 t && Nat.beq (Nat.mod t 2) 0 with
    | true => some (Nat.div (Nat.sub t 6) 2, e.toList)
    | false => none
  | _ => none
def natAt2 (e : List Value) : Option (Nat × List Value) → Option (List Int)
  | some (j, e') => match Nat.beq j 0 && beqP e e' with
    | true => some (decE e)
    | false => none
  | none => none
def natAt1 (h : Hp) : Option (Nat × List Value) → Option (List Int)
  | some (k, e) => natAt2 e (symAt h k)
  | none => none
def natE (h : Hp) (v : Value) : Option (List Int) := match v with
  | .slice none 0 0 => some []
  | v => natAt1 h (natT v)
def outR : Option Out → Option (Value × Hp)
  | some ⟨v, h, none⟩ => some (v, h)
  | _ => none
/-- a new number -/
def newN (h : Hp) (e : List Int) : Option (Value × Hp) := match nnE e && geE [Int.ofNat hugeN] e with
  | true => outR (newSym h 0 6 e)
  | false => none
def withB (b : Bool) : Option (Value × Hp) → Option (Value × Hp)
  | some (v, h) => some (.tuple #[v, .bool b], h)
  | none => none
def orCmp (h : Hp) : Option Int → Option (Value × Hp)
  | some c => some (.int .i8 c, h)
  | none => none
def newNO (h : Hp) : Option (List Int) → Option (Value × Hp)
  | some e => newN h e
  | none => none
def orSub (h : Hp) (a b : List Int) : Option (Value × Hp) := match geE a b with
  | true => withB true (newN h (subE a b))
  | false => match gtE b a with
    | true => withB false (newN h [])
    | false => none
/-- quotient; the remainder is left open -/
def withQ : Option (Value × Hp) → Option (Value × Hp)
  | some (v, h) => some (.tuple #[v, .chan none, .bool true], h)
  | none => none
def orDiv (h : Hp) (a : List Int) : Option Int → Option (Value × Hp)
  | some (.ofNat c) => withQ (newNO h (quoE a c))
  | _ => none
def orU64 (h : Hp) (a : List Int) : Option Value → Option (Value × Hp)
  | some v => some (.tuple #[v, .bool true], h)
  | none => none
def orFrom (h : Hp) : Option (IntKind × List Int) → Option (Value × Hp)
  | some (.u64, e) => match nnE e && geE [Int.ofNat (maxOf .u64)] e with
    | true => newN h e
    | false => none
  | _ => none
/-- the bytes of a row as one number, the most significant first -/
def beL (acc : List Int) : List Value → Option (List Int)
  | [] => some acc
  | v :: l => match exOf v with
    | some (.u8, e) => match nnE e && geE [255] e with
      | true => beL (addE (mulE 256 acc) e) l
      | false => none
    | _ => none
def beO (h : Hp) : Option (List Value) → Option (Value × Hp)
  | some l => newNO h (beL [] l)
  | none => none
def orBE (h : Hp) (v : Value) : Option (Value × Hp) := match v with
  | .slice (some a) len cap => match Nat.ble cap 1048576 && Nat.ble len cap with
    | true => beO h (h.read a len)
    | false => none
  | .slice none 0 0 => newN h []
  | _ => none
/-- n bytes of a number, the most significant first -/
def beN (n : Nat) : Nat → List Value
  | 0 => []
  | k + 1 => .int .u8 (Int.ofNat (Nat.mod (Nat.div n (Nat.pow 256 k)) 256)) :: beN n k
def anyB : Value := .iface 3 (.bool true)
def be32 (e : List Int) : Option Int → List Value
  | some (.ofNat c) => beN c 32
  | _ => match geE e [1] && geE [255] e with
    | true => List.replicate 31 (.int .u8 0) ++ [tokV 0 e]
    | false => List.replicate 32 anyB
def orBE32 (h : Hp) (e : List Int) : Option (Value × Hp) := match geE [Int.ofNat (Nat.pred (2 ^ 256))] e with
  | true => some (.tuple #[.agg (be32 e (isC e)).toArray, .bool true], h)
  | false => none
def orAddr (h : Hp) : Option Int → Option (Value × Hp)
  | some (.ofNat c) => match Nat.beq c 4 with
    | true => some (.agg (beN c 20).toArray, h)
    | false => none
  | _ => none
def orRow (h : Hp) : Option (Nat × Nat × List Int) → Option (Value × Hp)
  | some (_, j, e) => match geE e [1] && geE [1048576] e with
    | true => outR (newSym h j 7 e)
    | false => none
  | none => none
def isArg : Value → Bool
  | .iface 4 _ => true
  | _ => false
def isArg0 : Value → Bool
  | .iface 5 _ => true
  | _ => false
def intrE : List Int := [21000, 4, 12]
/-- the data of a transaction: is it a row that holds the data? -/
def dataT (h : Hp) : Option (Nat × Nat × List Int) → Bool
  | some (_, j, e) => Nat.beq j 2 && eqE e dataLen
  | none => false
/-- a byte, known or not -/
def u8C : Value → Bool
  | .int .u8 (.ofNat n) => Nat.ble n 255
  | .iface t (.tuple _) => Nat.beq t 0
  | _ => false
def u8L : List Value → Bool
  | [] => true
  | v :: l => match u8C v with
    | true => u8L l
    | false => false
def u8O : Option (List Value) → Bool
  | some l => u8L l
  | none => false
def beqO (m : List Value) : Option (List Value) → Bool
  | some l => beqL l m
  | none => false
def emptyL : List Value → Bool
  | [] => true
  | _ => false
def zerL (n : Nat) : List Value := List.replicate n (.int .u8 0)
def sndL : List Value := zerL 19 ++ [.int .u8 240]
def midL : List Value := [.bool false, .int .u64 0, .int .u64 200000]
def endL : List Value := .bool false :: (zerL 64 ++ [.slice none 0 0])
/-- a transaction of the sender with nothing in it but To, Gas, Value and Data -/
def txOk (cs : List Value) : Bool :=
  beqO sndL (cut0 cs 20) && (u8O (cut0 (skip cs 20) 20) && (beqO midL (cut0 (skip cs 40) 3) && (beqO (zerL 32) (cut0 (skip cs 43) 32) && (u8O (cut0 (skip cs 75) 32) && (beqO endL (cut0 (skip cs 108) 66) && emptyL (skip cs 174))))))
def dataO (h : Hp) : Option (List Value) → Bool
  | some [d] => dataT h (rowAt h d)
  | _ => false
def orTx (h : Hp) (v : Value) : Bool := match v with
  | .agg cs => dataO h (cut0 (skip cs.toList 107) 1) && txOk cs.toList
  | _ => false
/-- all bytes are known -/
def bytesL : List Value → Bool
  | [] => true
  | .int .u8 (.ofNat n) :: l => match Nat.ble n 255 with
    | true => bytesL l
    | false => false
  | _ => false
def addH : Option Hp → Option (Value × Hp)
  | some h => some (.bool true, h)
  | none => none
def orAdd2 (h : Hp) (a : Addr) : Option (List Value) → Option (List Value) → Option (Value × Hp)
  | some z, some l => match beqL z (zerL 32) && bytesL l with
    | true => addH (h.write a l)
    | false => none
  | _, _ => none
/-- a number of 32 bytes is added onto nought -/
def orAdd (h : Hp) (u v : Value) : Option (Value × Hp) := match u, v with
  | .pointer (some a), .pointer (some b) => match Nat.beq a.block b.block with
    | true => none
    | false => orAdd2 h a (h.read a 32) (h.read b 32)
  | _, _ => none
def someO : Option (Value × Hp) → Option (Option (Value × Hp))
  | some r => some (some r)
  | none => none
def orSame (h : Hp) : Option (Nat × Nat × List Int) → Option (Nat × Nat × List Int) → Option (Value × Hp)
  | some (_, j, e), some (_, j', e') => match Nat.beq j j' && eqE e e' with
    | true => some (.bool true, h)
    | false => none
  | _, _ => none
/-- a row that may be the output, too -/
def rowB2 (k : Nat) (e : List Value) : Option (Nat × List Value) → Option (Nat × Nat × List Int)
  | some (j, e') => match Nat.ble 1 j && (Nat.ble j 3 && beqP e e') with
    | true => some (k, j, decE e)
    | false => none
  | none => none
def rowB1 (h : Hp) : Option (Nat × List Value) → Option (Nat × Nat × List Int)
  | some (k, e) => rowB2 k e (symAt h k)
  | none => none
def rowB (h : Hp) (v : Value) : Option (Nat × Nat × List Int) := rowB1 h (rowT v)
def zeroO : Option (List Int) → Bool
  | some e => eqE e []
  | none => false
def costE : List Int := [0, 0, 0, 1]
def outE : List Int := [0, 0, 0, 0, 1]
/-- contract 5 at the data: what it costs; what it hands back -/
def isFive : Value → Bool
  | .int .u8 (.ofNat n) => Nat.beq n 5
  | _ => false
def orCost (md : Nat) (h : Hp) (k : Value) (r : Option (Nat × Nat × List Int)) : Option (Value × Hp) := match isFive k && dataT h r with
  | true => match md with
    | 0 => some (.tuple #[.slice none 0 0, .bool false], h)
    | _ => withB true (newN h costE)
  | false => none
def orRun (md : Nat) (h : Hp) (k : Value) (r : Option (Nat × Nat × List Int)) : Option (Value × Hp) := match isFive k && dataT h r with
  | true => match md with
    | 0 => none
    | 1 => newN h []
    | _ => outR (newSym h 3 7 outE)
  | false => none
/-- the six parameters -/
def pars : List (List Int) := [[0, 0, 0, 0, 0, 1], [0, 0, 0, 0, 0, 0, 1], [0, 0, 0, 0, 0, 0, 0, 1], [0, 0, 0, 0, 0, 0, 0, 0, 1], [0, 0, 0, 0, 0, 0, 0, 0, 0, 1], [0, 0, 0, 0, 0, 0, 0, 0, 0, 0, 1]]
def parOk (e : List Int) : Option (IntKind × List Int) → Bool
  | some (.u8, e') => eqE e' e
  | _ => false
def parsOk : List Value → List (List Int) → Bool
  | [], [] => true
  | v :: l, e :: m => match parOk e (exOf v) with
    | true => parsOk l m
    | false => false
  | _, _ => false
def with3 (c : Option Value) : Option (Value × Hp) → Option (Value × Hp)
  | some (v, h) => match c with
    | some c => some (.tuple #[v, c, .bool true], h)
    | none => none
  | none => none
def orWant (md : Nat) (h : Hp) : Option (Value × Hp) := match md with
  | 0 => some (.tuple #[.slice none 0 0, .int .u64 0, .bool false], h)
  | 1 => with3 (rangeI .u64 costE) (newN h [])
  | _ => with3 (rangeI .u64 costE) (outR (newSym h 3 7 outE))
def orc1 (f : FuncId) (h : Hp) (v : Value) : Option (Option (Value × Hp)) := match f with
  | 109 | 65 => some (orFrom h (exOf v))
  | 116 => some (match natE h v with | some a => orU64 h a (rangeI .u64 a) | none => none)
  | 127 => some (newNO h (natE h v))
  | 83 => some (orBE h v)
  | 117 => some (match natE h v with | some a => orBE32 h a | none => none)
  | 155 => some (match natE h v with | some a => orAddr h (isC a) | none => none)
  | 51 => match natT v with
    | some _ => some (newNO h (natE h v))
    | none => none
  | 49 => match rowT v with
    | some _ => some (orRow h (rowB h v))
    | none => match natT v with
      | some _ => some (match zeroO (natE h v) with | true => newN h [] | false => none)
      | none => none
  | 75 => match orTx h v with
    | true => some (newN h intrE)
    | false => none
  | 40 => match orTx h v with
    | true => some (match rangeI .u64 intrE with | some u => some (u, h) | none => none)
    | false => none
  | _ => none
def orc2b (f : FuncId) (h : Hp) (x y : List Int) : Option (Value × Hp) := match f with
  | 64 => orCmp h (cmpE x y)
  | 78 => newN h (addE x y)
  | 80 => newNO h (mulEE x y)
  | 111 => orSub h x y
  | 142 => orDiv h x (isC y)
  | _ => none
def orc2a (f : FuncId) (h : Hp) : Option (List Int) → Option (List Int) → Option (Value × Hp)
  | some x, some y => orc2b f h x y
  | _, _ => none
def isNat2 (f : FuncId) : Bool := match f with
  | 64 | 78 | 80 | 111 | 142 => true
  | _ => false
def orc2 (md : Nat) (f : FuncId) (h : Hp) (u v : Value) : Option (Option (Value × Hp)) := match isNat2 f with
  | true => some (orc2a f h (natE h u) (natE h v))
  | false => match f with
    | 41 => match rowT u with
      | some _ => some (orSame h (rowB h u) (rowB h v))
      | none => match zeroO (natE h u) && zeroO (natE h v) with
        | true => some (some (.bool true, h))
        | false => none
    | 143 => some (orCost md h u (rowB h v))
    | 144 => some (orRun md h u (rowB h v))
    | 173 => someO (orAdd h u v)
    | _ => none
/-- the answer, if the call is one of those -/
def orc (md : Nat) (f : FuncId) (args : List Value) (h : Hp) : Option (Option (Value × Hp)) := match args with
  | [v] => orc1 f h v
  | [u, v] => orc2 md f h u v
  | [a, b, c, d, e, g] => match parsOk [a, b, c, d, e, g] pars with
    | true => match f with
      | 12 => some (outR (newSym h 2 7 dataLen))
      | 39 => some (orWant md h)
      | _ => none
    | false => none
  | _ => none
def orO (x : Option (Value × Hp)) : Option (Option (Value × Hp)) → Option (Value × Hp)
  | some r => r
  | none => x
end Go.Jv
