/-
  The memory of this seat's walks: blocks of integers, slices of integers, the frame relation, and the laws on whole arrays.
-/
import Derived.WalkKit
import Derived.Below
namespace Go.Proofs.YgcsanGreat
open Go.RowKit
set_option linter.unusedSimpArgs false
set_option linter.unusedVariables false

/-- The cells of a row of natural numbers of one kind. -/
def ints (k : IntKind) (L : List Nat) : Array Value := (L.map fun (n : Nat) => Value.int k (n : Int)).toArray

theorem ints_size (k : IntKind) (L : List Nat) : (ints k L).size = L.length := by simp [ints]
theorem ints_get (k : IntKind) (L : List Nat) (i : Nat) (h : i < L.length) : (ints k L)[i]? = some (.int k ((L.getD i 0 : Nat) : Int)) := by
  simp [ints, List.getD, h]
theorem ints_set (k : IntKind) (L : List Nat) (i v : Nat) : (ints k L).setIfInBounds i (.int k (v : Int)) = ints k (L.set i v) := by
  simp [ints, List.map_set]

/-- Block b is a row of the numbers L. -/
def IB (w : World) (b : Nat) (k : IntKind) (t : TypeId) (L : List Nat) : Prop := w.heap[b]? = some (.cells (ints k L) t (0, 0))

theorem IB.lt {w : World} {b : Nat} {k : IntKind} {t : TypeId} {L : List Nat} (h : IB w b k t L) : b < w.heap.size := by
  unfold IB at h
  exact (Array.getElem?_eq_some_iff.1 h).1

theorem IB.cell {w : World} {b : Nat} {k : IntKind} {t : TypeId} {L : List Nat} (h : IB w b k t L) (i : Nat) (hi : i < L.length) :
    w.cell? ⟨b, i, none⟩ = some (.int k ((L.getD i 0 : Nat) : Int)) := by
  unfold IB at h
  simp only [World.cell?, h]
  exact ints_get k L i hi

theorem IB.unfrozen {w : World} {b : Nat} {k : IntKind} {t : TypeId} {L : List Nat} (h : IB w b k t L) (i : Nat) : w.frozen? ⟨b, i, none⟩ = false := by
  unfold IB at h
  simp [World.frozen?, h]

theorem IB.set {w : World} {b : Nat} {k : IntKind} {t : TypeId} {L : List Nat} (h : IB w b k t L) (i v : Nat) :
    IB (w.setCell ⟨b, i, none⟩ (.int k (v : Int))) b k t (L.set i v) := by
  unfold IB at h ⊢
  simp only [World.setCell, Array.getElem?_modify, if_true, h, Option.map_some]
  simp [ints_set]

theorem IB.set' {w : World} {b : Nat} {k : IntKind} {t : TypeId} {L : List Nat} (h : IB w b k t L) (i v : Nat) {x : Int} (hx : x = (v : Int)) {L' : List Nat} (hL : L' = L.set i v) :
    IB (w.setCell ⟨b, i, none⟩ (.int k x)) b k t L' := by
  subst hx; subst hL; exact h.set i v

theorem IB.other {w : World} {b : Nat} {k : IntKind} {t : TypeId} {L : List Nat} (h : IB w b k t L) {a : Addr} (ha : a.block ≠ b) (v : Value) :
    IB (w.setCell a v) b k t L := by
  unfold IB at h ⊢
  rw [← h]
  exact Below.heap_setCell _ _ _ _ (fun e => ha e.symm)

theorem IB.alloc {w : World} {b : Nat} {k : IntKind} {t : TypeId} {L : List Nat} (h : IB w b k t L) (o : Obj) : IB (w.alloc o) b k t L := by
  have hl := h.lt
  unfold IB at h ⊢
  rw [← h]
  exact Below.heap_alloc _ _ _ hl

theorem IB.new (w : World) (k : IntKind) (t : TypeId) (L : List Nat) : IB (w.alloc (.cells (ints k L) t)) w.heap.size k t L := by
  unfold IB
  show (w.heap.push _)[w.heap.size]? = _
  simp

theorem IB.newAt {w : World} {b : Nat} {cs : Array Value} {k : IntKind} {t : TypeId} {L : List Nat} (hb : w.heap.size = b) (hc : cs = ints k L) : IB (w.alloc (.cells cs t)) b k t L := by
  subst hb; subst hc; exact IB.new w k t L

theorem IB.drew {w : World} {b : Nat} {k : IntKind} {t : TypeId} {L : List Nat} (h : IB w b k t L) : IB w.drew b k t L := h

/-- Below block number B, but for the blocks of X, the world w' is as w was. -/
structure Fr (B : Nat) (X : Nat → Prop) (w w' : World) : Prop where
  os : w'.os = w.os
  tape : w'.tape = w.tape
  output : w'.output = w.output
  size : w.heap.size ≤ w'.heap.size
  block : ∀ k, k < B → ¬ X k → w'.heap[k]? = w.heap[k]?

/-- no block -/
def no (_ : Nat) : Prop := False

theorem Fr.refl (B : Nat) (X : Nat → Prop) (w : World) : Fr B X w w := ⟨rfl, rfl, rfl, Nat.le_refl _, fun _ _ _ => rfl⟩

theorem Fr.trans {B : Nat} {X : Nat → Prop} {a b c : World} (h : Fr B X a b) (k : Fr B X b c) : Fr B X a c :=
  ⟨k.os.trans h.os, k.tape.trans h.tape, k.output.trans h.output, Nat.le_trans h.size k.size, fun i hi hx => (k.block i hi hx).trans (h.block i hi hx)⟩

/-- What the callee leaves below its own base, seen from the caller's. -/
theorem Fr.step {B B' : Nat} {X Y : Nat → Prop} {a b c : World} (h : Fr B X a b) (k : Fr B' Y b c) (hB : B ≤ B') (hY : ∀ i, i < B → Y i → X i) : Fr B X a c :=
  ⟨k.os.trans h.os, k.tape.trans h.tape, k.output.trans h.output, Nat.le_trans h.size k.size,
    fun i hi hx => (k.block i (Nat.lt_of_lt_of_le hi hB) (fun y => hx (hY i hi y))).trans (h.block i hi hx)⟩

theorem Fr.drew {B : Nat} {X : Nat → Prop} {a w : World} (h : Fr B X a w) : Fr B X a w.drew := ⟨h.os, h.tape, h.output, h.size, h.block⟩

theorem Fr.alloc {B : Nat} {X : Nat → Prop} {a w : World} (h : Fr B X a w) (hB : B ≤ w.heap.size) (o : Obj) : Fr B X a (w.alloc o) :=
  h.trans ⟨rfl, rfl, rfl, by simp, fun k hk _ => Below.heap_alloc _ _ _ (by omega)⟩

theorem Fr.setCell {B : Nat} {X : Nat → Prop} {a w : World} (h : Fr B X a w) {p : Addr} (hp : B ≤ p.block ∨ X p.block) (u : Value) : Fr B X a (w.setCell p u) :=
  h.trans ⟨rfl, rfl, rfl, by simp [World.setCell], fun k hk hx => Below.heap_setCell _ _ _ _ (fun e => by
    rcases hp with hp | hp
    · omega
    · exact hx (e ▸ hp))⟩

theorem Fr.below {B : Nat} {w w' : World} (h : Fr B no w w') : Below B w w' := ⟨h.os, h.tape, h.output, h.size, fun k hk => h.block k hk (fun x => x)⟩
theorem Fr.of_below {B : Nat} {w w' : World} (h : Below B w w') : Fr B no w w' := ⟨h.os, h.tape, h.output, h.size, fun k hk _ => h.block k hk⟩

theorem Fr.cell {B : Nat} {X : Nat → Prop} {w w' : World} (h : Fr B X w w') {p : Addr} (hp : p.block < B) (hx : ¬ X p.block) : w'.cell? p = w.cell? p :=
  World.cell?_of_block (w := w) (h.block p.block hp hx)

theorem IB.fr {w w' : World} {b : Nat} {k : IntKind} {t : TypeId} {L : List Nat} (h : IB w b k t L) {B : Nat} {X : Nat → Prop} (f : Fr B X w w') (hb : b < B) (hx : ¬ X b) : IB w' b k t L := by
  unfold IB at h ⊢
  rw [← h]
  exact f.block b hb hx

/-- The slice v holds the numbers l. -/
def Sl (w : World) (k : IntKind) (v : Value) (l : List Nat) : Prop :=
  ∃ (a : Option Addr) (cap : Nat), v = .slice a l.length cap ∧ l.length ≤ cap ∧ cap ≤ maxLen ∧
    (l = [] ∨ ∃ b off, a = some ⟨b, off, none⟩ ∧ ∀ i, i < l.length → w.cell? ⟨b, off + i, none⟩ = some (.int k ((l.getD i 0 : Nat) : Int)))

theorem cell_lt {w : World} {p : Addr} {v : Value} (h : w.cell? p = some v) : p.block < w.heap.size := by
  unfold World.cell? at h
  split at h
  · rename_i h'
    exact (Array.getElem?_eq_some_iff.1 h').1
  · cases h

theorem Sl.fr {w w' : World} {k : IntKind} {v : Value} {l : List Nat} (h : Sl w k v l) (f : Fr w.heap.size no w w') : Sl w' k v l := by
  obtain ⟨a, cap, hv, h1, h2, h3⟩ := h
  refine ⟨a, cap, hv, h1, h2, ?_⟩
  rcases h3 with h3 | ⟨b, off, ha, hc⟩
  · exact .inl h3
  · exact .inr ⟨b, off, ha, fun i hi => by
      have := hc i hi
      rw [f.cell (cell_lt (p := ⟨b, off + i, none⟩) this) (fun x => x)]
      exact this⟩

theorem Sl.of_ib {w : World} {b : Nat} {k : IntKind} {t : TypeId} {L : List Nat} (h : IB w b k t L) (n cap : Nat) (hn : n ≤ L.length) (hnc : n ≤ cap) (hc : cap ≤ maxLen) :
    Sl w k (.slice (some ⟨b, 0, none⟩) n cap) (L.take n) := by
  have e : (L.take n).length = n := by simp; omega
  refine ⟨some ⟨b, 0, none⟩, cap, by rw [e], by omega, hc, .inr ⟨b, 0, rfl, fun i hi => ?_⟩⟩
  rw [e] at hi
  rw [Nat.zero_add, h.cell i (by omega)]
  simp [List.getD, hi]

section
variable {P : Program}

theorem run_loadCellsFrom (w : World) (b : Nat) (cs : Array Value) (t : TypeId) (fz : Nat × Nat) (h : w.heap[b]? = some (.cells cs t fz)) (o : Nat) :
    ∀ (n i : Nat) (acc : Array Value), o + i + n ≤ cs.size → (loadCellsFrom ⟨b, o, none⟩ i n acc).run P w = .ok (acc ++ cs.extract (o + i) (o + i + n)) w
  | 0, i, acc, _ => by
    have e : cs.extract (o + i) (o + i + 0) = #[] := by apply Array.ext <;> simp <;> omega
    rw [e]; simp [loadCellsFrom, pure]
  | n + 1, i, acc, hn => by
    have hc : w.cell? ((⟨b, o, none⟩ : Addr).add i) = some cs[o + i] := by
      have e : (⟨b, o, none⟩ : Addr).add i = ⟨b, o + i, none⟩ := by unfold Addr.add; split <;> simp_all
      rw [e]
      simp only [World.cell?, h]
      simp [show o + i < cs.size by omega]
    have ih := run_loadCellsFrom w b cs t fz h o n (i + 1) (acc.push cs[o + i]) (by omega)
    simp only [loadCellsFrom, bind, load, Sem.bind, Sem.run, hc]
    rw [ih]
    congr 1
    rw [Array.push_eq_append, Array.append_assoc]
    congr 1
    apply Array.ext
    · simp; omega
    · intro j h1 h2
      simp [Array.getElem_append, Array.getElem_extract]
      split
      · have : j = 0 := by omega
        subst this; rfl
      · congr 1; omega


/-- is it an array or a struct? -/
def rowish : TypeDesc → Bool
  | .struct _ | .array _ _ => true
  | _ => false

theorem run_loadVar_ints (w : World) (b : Nat) (k : IntKind) (t ty : TypeId) (L : List Nat) (h : IB w b k t L) (d : TypeDesc) (hd : P.underlying ty = some d)
    (hagg : rowish d = true) (hi : (P.info? ty).map (·.size) = some L.length) :
    (loadVar ty ⟨b, 0, none⟩).run P w = .ok (.agg (ints k L)) w := by
  obtain ⟨i, hi1, hi2⟩ := Option.map_eq_some_iff.1 hi
  have hl := run_loadCellsFrom (P := P) w b (ints k L) t (0, 0) h 0 L.length 0 #[] (by simp [ints_size])
  have e : (ints k L).extract (0 + 0) (0 + 0 + L.length) = ints k L := by
    apply Array.ext <;> simp [ints_size]
  rw [e] at hl
  have hl' : (loadCells ⟨b, 0, none⟩ L.length).run P w = .ok (ints k L) w := by
    unfold loadCells; rw [hl]; simp
  cases d <;> simp_all [rowish, loadVar, isAgg, underlying, sizeOf, typeInfo, go_sem]

/-- The world in which block b is the row L. -/
def setRow (w : World) (b : Nat) (k : IntKind) (t : TypeId) (L : List Nat) : World := { w with heap := w.heap.setIfInBounds b (.cells (ints k L) t (0, 0)) }


theorem setRow_self {w : World} {b : Nat} {k : IntKind} {t : TypeId} {L : List Nat} (h : IB w b k t L) : setRow w b k t L = w := by
  have hl := h.lt
  unfold IB at h
  unfold setRow
  have e : w.heap.setIfInBounds b (.cells (ints k L) t (0, 0)) = w.heap := by
    apply Array.ext
    · simp
    · intro j h1 h2
      rw [Array.getElem_setIfInBounds (by simpa using h1)]
      split
      · rename_i e
        subst e
        have := (Array.getElem?_eq_some_iff.1 h).2
        exact this.symm
      · rfl
  rw [e]

theorem setCell_setRow {w : World} {b : Nat} {k : IntKind} {t : TypeId} {L : List Nat} (i v : Nat) :
    (setRow w b k t L).setCell ⟨b, i, none⟩ (.int k (v : Int)) = setRow w b k t (L.set i v) := by
  unfold setRow World.setCell
  congr 1
  apply Array.ext
  · simp
  · intro j h1 h2
    simp only [Array.size_modify, Array.size_setIfInBounds] at h1 h2
    rw [Array.getElem_modify, Array.getElem_setIfInBounds (by simpa using h1), Array.getElem_setIfInBounds (by simpa using h1)]
    split
    · simp [ints_set]
    · rfl

theorem IB.setRow {w : World} {b : Nat} (hl : b < w.heap.size) (k : IntKind) (t : TypeId) (L : List Nat) : IB (setRow w b k t L) b k t L := by
  unfold IB Go.Proofs.YgcsanGreat.setRow
  simp [hl]

theorem setRow_size (w : World) (b : Nat) (k : IntKind) (t : TypeId) (L : List Nat) : (setRow w b k t L).heap.size = w.heap.size := by simp [setRow]

theorem setRow_heap (w : World) (b : Nat) (k : IntKind) (t : TypeId) (L : List Nat) (j : Nat) (h : j ≠ b) : (setRow w b k t L).heap[j]? = w.heap[j]? := by
  unfold setRow
  rw [Array.getElem?_setIfInBounds_ne (fun e => h e.symm)]

theorem IB.otherRow {w : World} {b : Nat} {k : IntKind} {t : TypeId} {L : List Nat} (h : IB w b k t L) {b' : Nat} (hb : b ≠ b') (k' : IntKind) (t' : TypeId) (L' : List Nat) :
    IB (Go.Proofs.YgcsanGreat.setRow w b' k' t' L') b k t L := by
  unfold IB at h ⊢
  rw [← h]
  exact setRow_heap _ _ _ _ _ _ hb

theorem Fr.setRow {B : Nat} {X : Nat → Prop} {a w : World} (h : Fr B X a w) {b : Nat} (hb : B ≤ b ∨ X b) (k : IntKind) (t : TypeId) (L : List Nat) : Fr B X a (Go.Proofs.YgcsanGreat.setRow w b k t L) :=
  h.trans ⟨rfl, rfl, rfl, by rw [setRow_size]; omega, fun j hj hx => setRow_heap _ _ _ _ _ _ (fun e => by
    rcases hb with hb | hb
    · omega
    · exact hx (e ▸ hb))⟩

/-- the world in which a new variable is laid and then stored to -/
theorem setRow_alloc (w : World) (cs : Array Value) (t : TypeId) (k : IntKind) (L : List Nat) : Go.Proofs.YgcsanGreat.setRow (w.alloc (.cells cs t)) w.heap.size k t L = w.alloc (.cells (ints k L) t) := by
  unfold Go.Proofs.YgcsanGreat.setRow World.alloc
  congr 1
  apply Array.ext
  · simp
  · intro j h1 h2
    simp only [Array.size_setIfInBounds, Array.size_push] at h1
    rw [Array.getElem_setIfInBounds (by simpa using h1)]
    simp only [Array.getElem_push]
    split
    · rename_i e
      subst e
      simp
    · rename_i e
      rw [dif_pos (by omega), dif_pos (by omega)]

/-- the list with M laid over it from place o on -/
def lay (L : List Nat) (o : Nat) (M : List Nat) : List Nat := match M with
  | [] => L
  | m :: M => lay (L.set o m) (o + 1) M

theorem lay_length (M : List Nat) : ∀ (L : List Nat) (o : Nat), (lay L o M).length = L.length := by
  induction M with
  | nil => intro L o; rfl
  | cons m M ih => intro L o; simp [lay, ih]

theorem lay_get (M : List Nat) : ∀ (L : List Nat) (o i : Nat), o + M.length ≤ L.length → (lay L o M)[i]? = if o ≤ i ∧ i < o + M.length then M[i - o]? else L[i]? := by
  induction M with
  | nil => intro L o i _; simp [lay]; omega
  | cons m M ih =>
    intro L o i h
    simp only [List.length_cons] at h
    rw [lay, ih _ _ _ (by simp; omega)]
    by_cases h1 : o = i
    · subst h1
      rw [if_neg (by omega), if_pos (by simp)]
      simp [show o < L.length by omega]
    · by_cases h2 : o + 1 ≤ i ∧ i < o + 1 + M.length
      · rw [if_pos h2, if_pos (by simp; omega)]
        rw [show i - o = (i - (o + 1)) + 1 by omega]; simp
      · rw [if_neg h2, if_neg (by simp; omega)]
        simp [h1]

theorem lay_eq (L : List Nat) (o : Nat) (M : List Nat) (h : o + M.length ≤ L.length) : lay L o M = L.take o ++ (M ++ L.drop (o + M.length)) := by
  apply List.ext_getElem?
  intro i
  rw [lay_get M L o i h]
  by_cases h1 : i < o
  · rw [if_neg (by omega), List.getElem?_append_left (by simp; omega)]
    simp [h1]
  · by_cases h2 : i < o + M.length
    · rw [if_pos (by omega), List.getElem?_append_right (by simp; omega), List.getElem?_append_left (by simp; omega)]
      congr 1; simp; omega
    · rw [if_neg (by omega), List.getElem?_append_right (by simp; omega), List.getElem?_append_right (by simp; omega)]
      simp only [List.getElem?_drop]
      congr 1; simp; omega

theorem lay_all (L M : List Nat) (h : M.length = L.length) : lay L 0 M = M := by
  rw [lay_eq L 0 M (by omega)]
  simp [h]

theorem run_storeCells_ints (M : List Nat) : ∀ (w : World) (b : Nat) (k : IntKind) (t : TypeId) (L : List Nat) (o i : Nat), IB w b k t L → o + i + M.length ≤ L.length →
    (storeCells ⟨b, o, none⟩ (M.map fun (n : Nat) => Value.int k (n : Int)) i).run P w = .ok () (setRow w b k t (lay L (o + i) M)) := by
  induction M with
  | nil => intro w b k t L o i h _; simp [storeCells, lay, setRow_self h]
  | cons m M ih =>
    intro w b k t L o i h hn
    simp only [List.length_cons] at hn
    have e : (⟨b, o, none⟩ : Addr).add i = ⟨b, o + i, none⟩ := by unfold Addr.add; split <;> simp_all
    have hc := h.cell (o + i) (by omega)
    have hf := h.unfrozen (o + i)
    have h' := h.set (o + i) m
    have ih' := ih (w.setCell ⟨b, o + i, none⟩ (.int k (m : Int))) b k t (L.set (o + i) m) o (i + 1) h' (by simp; omega)
    simp only [List.map_cons, storeCells, bind, store, Sem.bind, Sem.run, e, hc, hf]
    rw [show o + (i + 1) = o + i + 1 by omega] at ih'
    have e2 : setRow (w.setCell ⟨b, o + i, none⟩ (.int k (m : Int))) b k t (lay (L.set (o + i) m) (o + i + 1) M) = setRow w b k t (lay L (o + i) (m :: M)) := by
      unfold setRow World.setCell
      congr 1
      apply Array.ext
      · simp
      · intro j h1 h2
        simp only [Array.size_modify, Array.size_setIfInBounds] at h1 h2
        rw [Array.getElem_setIfInBounds (by simpa using h1), Array.getElem_setIfInBounds (by simpa using h1)]
        split
        · simp [lay]
        · rename_i hne
          rw [Array.getElem_modify, if_neg hne]
    rw [e2] at ih'
    simpa using ih'

theorem run_storeVar_ints (w : World) (b : Nat) (k : IntKind) (t ty : TypeId) (L M : List Nat) (h : IB w b k t L) (hM : M.length = L.length)
    (hi : (P.info? ty).map (·.size) = some L.length) : (storeVar ty ⟨b, 0, none⟩ (.agg (ints k M))).run P w = .ok () (setRow w b k t M) := by
  obtain ⟨i, hi1, hi2⟩ := Option.map_eq_some_iff.1 hi
  have hs := run_storeCells_ints (P := P) M w b k t L 0 0 h (by omega)
  rw [lay_all L M hM] at hs
  have e : (ints k M).toList = M.map fun (n : Nat) => Value.int k (n : Int) := by simp [ints]
  have e2 : (ints k M).size = i.size := by rw [ints_size, hi2, hM]
  simp only [Value.cells, storeVar, sizeOf, typeInfo, program, bind, Sem.bind, Sem.run, hi1, pure, e2, e, ne_eq, not_true_eq_false, if_false]
  exact hs


theorem results_cell {fn : Func} {t : Tmp} {ty : TypeId} (hr : fn.results = #[.cell t ty]) {tmps : Array Value} {w : World} {b : Nat} {k : IntKind} {t' : TypeId} {L : List Nat} (hp : tmps.getD t undef = .pointer (some ⟨b, 0, none⟩)) (h : IB w b k t' L)
    (d : TypeDesc) (hd : P.underlying ty = some d) (hagg : rowish d = true) (hi : (P.info? ty).map (·.size) = some L.length) :
    (results fn tmps).run P w = .ok (.agg (ints k L)) w := by
  have hl := run_loadVar_ints (P := P) w b k t' ty L h d hd hagg hi
  have hp' : tmps[t]?.getD undef = .pointer (some ⟨b, 0, none⟩) := by simpa using hp
  simp [results, hr, hp', asAddr, hl]

/-! ### The walk's laws: an operation at the head of a list -/
variable {ops : Array Oper} {rest : List Oper} {Q : Exit → Act → World → Prop} {a : Act} {w : World} {dst : Option Tmp} {type : TypeId} {pos : String} {after : Array Edge}

theorem run_isAgg_not {ty : TypeId} {d : TypeDesc} (h : P.underlying ty = some d) (hagg : rowish d = false) (w : World) : (isAgg ty).run P w = .ok false w := by
  unfold isAgg
  simp only [Sem.run_bind, run_underlying h, Result.andThen_ok]
  cases d <;> simp_all [rowish]

/-- an element of an array that is a value -/
theorem wl_index (ty e : TypeId) (x y : Operand) (k ki : IntKind) (L : List Nat) (n N : Nat) (hx : a.eval x = .agg (ints k L)) (hy : a.eval y = .int ki (n : Int)) (hn : n < L.length) (hN : n < N)
    (d : TypeDesc) (i : TypeInfo) (h1 : P.underlying ty = some (.array N e)) (h2 : P.info? e = some i) (h4 : i.size = 1) (h3 : P.underlying e = some d) (hagg : rowish d = false)
    (hK : wpList P ops Q rest (a.put dst (.int k ((L.getD n 0 : Nat) : Int))) w) : wpList P ops Q (⟨dst, .index ty x y, type, pos, after, none⟩ :: rest) a w := by
  refine wpList_plain rfl fun K hK' => ?_
  have h5 : P.cellsOf e = 1 := by simp [Program.cellsOf, h2, h4]
  have hb : (0 : Int) ≤ (n : Int) ∧ (n : Int) < (N : Int) := by omega
  unfold Oper.wp execOp
  simp only [hx, hy, Instr.index, asIntOf, Sem.run_bind, Sem.run_pure, Result.andThen_ok, run_underlying h1, hb, and_self, if_true, run_sizeOf w h2, h5, part, run_isAgg_not h3 hagg, Int.toNat_natCast, Nat.mul_one,
    Bool.false_eq_true, if_false, ints_get k L n hn]
  exact hK' _ _ hK

/-- a whole array or struct of integers is loaded -/
theorem wl_load (ty : TypeId) (x : Operand) (b : Nat) (k : IntKind) (t : TypeId) (L : List Nat) (hx : a.eval x = .pointer (some ⟨b, 0, none⟩)) (h : IB w b k t L)
    (d : TypeDesc) (hd : P.underlying ty = some d) (hagg : rowish d = true) (hi : (P.info? ty).map (·.size) = some L.length)
    (hK : wpList P ops Q rest (a.put dst (.agg (ints k L))) w) : wpList P ops Q (⟨dst, .load ty x, type, pos, after, none⟩ :: rest) a w := by
  refine wpList_plain rfl fun K hK' => ?_
  have hr := run_loadVar_ints (P := P) w b k t ty L h d hd hagg hi
  unfold Oper.wp execOp
  simp only [hx, Instr.loadAt, Instr.sureAddr, Sem.run_bind, Sem.run_pure, Result.andThen_ok, hr]
  exact hK' _ _ hK

/-- a whole array or struct of integers is stored -/
theorem wl_store (ty : TypeId) (x y : Operand) (b : Nat) (k : IntKind) (t : TypeId) (L M : List Nat) (hx : a.eval x = .pointer (some ⟨b, 0, none⟩)) (hy : a.eval y = .agg (ints k M)) (h : IB w b k t L)
    (hM : M.length = L.length) (hi : (P.info? ty).map (·.size) = some L.length)
    (hK : wpList P ops Q rest (a.put dst undef) (setRow w b k t M)) : wpList P ops Q (⟨dst, .store ty x y, type, pos, after, none⟩ :: rest) a w := by
  refine wpList_plain rfl fun K hK' => ?_
  have hr := run_storeVar_ints (P := P) w b k t ty L M h hM hi
  unfold Oper.wp execOp
  simp only [hx, hy, Instr.storeAt, Instr.sureAddr, Sem.run_bind, Sem.run_pure, Result.andThen_ok, hr]
  exact hK' _ _ hK

/-- 'make([]T, n)', T an integer type: a new block of n zeros -/
theorem wl_make (ty e : TypeId) (x y : Operand) (k kl kc : IntKind) (n : Nat) (hx : a.eval x = .int kl (n : Int)) (hy : a.eval y = .int kc (n : Int)) (i : TypeInfo)
    (h1 : P.underlying ty = some (.slice e)) (h2 : P.info? e = some i) (h3 : i.zero = some (.int k 0)) (h4 : i.size = 1) (hb : i.bytes * n ≤ 281474976710656) (hn : n ≤ maxLen)
    (hK : wpList P ops Q rest (a.put dst (.slice (some ⟨w.heap.size, 0, none⟩) n n)) (w.alloc (.cells (ints k (List.replicate n 0)) e))) :
    wpList P ops Q (⟨dst, .makeSlice ty x y, type, pos, after, none⟩ :: rest) a w := by
  refine wpList_plain rfl fun K hK' => ?_
  have h63' : (n : Int) ≤ 9223372036854775807 := by
    have h := hn
    simp [maxLen] at h
    omega
  have hb' : (i.bytes : Int) * (n : Int) ≤ 281474976710656 := by
    have h : ((i.bytes * n : Nat) : Int) ≤ 281474976710656 := by omega
    rwa [Int.natCast_mul] at h
  have hr := run_make (P := P) w ty e i (.int k 0) h1 h2 h3 kl kc n n (by omega) (Int.le_refl _) hb' h63'
  simp only [Int.toNat_natCast] at hr
  have e1 : madeCells (Value.int k 0).cells (n * i.size) = ints k (List.replicate n 0) := by
    apply Array.ext
    · simp [madeCells, ints, h4]
    · intro j g1 g2
      simp [madeCells, ints, Value.cells, Nat.mod_one]
  rw [e1] at hr
  unfold Oper.wp execOp
  simp only [hx, hy, Sem.run_bind, Sem.run_pure, Result.andThen_ok, hr]
  exact hK' _ _ hK

theorem run_loadCells_cells (w : World) (b o : Nat) (k : IntKind) (l : List Nat) : ∀ (n i : Nat) (acc : Array Value), i + n ≤ l.length →
    (∀ i, i < l.length → w.cell? ⟨b, o + i, none⟩ = some (.int k ((l.getD i 0 : Nat) : Int))) →
    (loadCellsFrom ⟨b, o, none⟩ i n acc).run P w = .ok (acc ++ ints k ((l.drop i).take n)) w
  | 0, i, acc, _, _ => by simp [loadCellsFrom, ints]
  | n + 1, i, acc, hn, hc => by
    have e : (⟨b, o, none⟩ : Addr).add i = ⟨b, o + i, none⟩ := by unfold Addr.add; split <;> simp_all
    have ih := run_loadCells_cells w b o k l n (i + 1) (acc.push (.int k ((l.getD i 0 : Nat) : Int))) (by omega) hc
    simp only [loadCellsFrom, bind, load, Sem.bind, Sem.run, e, hc i (by omega)]
    rw [ih, Array.push_eq_append, Array.append_assoc]
    congr 2
    rw [List.drop_eq_getElem_cons (by omega : i < l.length), List.take_succ_cons]
    simp [ints, List.getD, show i < l.length by omega]

/-- 'copy(dst, src)', both slices of one kind of integer: dst inside a block of integers, src anywhere -/
theorem wl_copy (tt tt' e : TypeId) (x y : Operand) (b o dl cap : Nat) (k : IntKind) (t : TypeId) (L M : List Nat) (v : Value) (hx : a.eval x = .slice (some ⟨b, o, none⟩) dl cap) (hy : a.eval y = v)
    (h : IB w b k t L) (hv : Sl w k v M) (hd : o + dl ≤ L.length) (i : TypeInfo) (h1 : P.underlying tt = some (.slice e)) (h2 : P.info? e = some i) (h4 : i.size = 1)
    (hK : wpList P ops Q rest (a.put dst (.int .i64 (min M.length dl : Nat))) (setRow w b k t (lay L o (M.take dl)))) :
    wpList P ops Q (⟨dst, .call { callee := .builtin .copy, args := #[x, y], argTypes := #[tt, tt'] }, type, pos, after, none⟩ :: rest) a w := by
  refine wpList_plain rfl fun K hK' => ?_
  obtain ⟨ad, c, rfl, hl1, hl2, hl3⟩ := hv
  have hm : Nat.min M.length dl = (M.take dl).length := by simp [Nat.min_comm, Nat.min_def]
  have hfc : (Builtin.firstCells 1 (Nat.min M.length dl) (.slice ad M.length c)).run P w = .ok (ints k (M.take dl)) w := by
    rcases hl3 with rfl | ⟨b', o', rfl, hc⟩
    · cases ad with
      | none => simp [Builtin.firstCells, ints]
      | some ad => simp [Builtin.firstCells, ints, loadCells, loadCellsFrom]
    · have := run_loadCells_cells (P := P) w b' o' k M (Nat.min M.length dl) 0 #[] (by simp [Nat.min_def]; split <;> omega) hc
      simp only [Builtin.firstCells, loadCells, Nat.mul_one, this]
      simp only [List.drop_zero, Array.empty_append]
      congr 2
      rw [hm]
      simp
  have h5 : P.cellsOf e = 1 := by simp [Program.cellsOf, h2, h4]
  have hst := run_storeCells_ints (P := P) (M.take dl) w b k t L o 0 h (by simp; omega)
  have e1 : (ints k (M.take dl)).toList = (M.take dl).map fun (n : Nat) => Value.int k (n : Int) := by simp [ints]
  unfold Oper.wp execOp
  simp only [resolve, invoke, builtin, Sem.run_bind, Sem.run_pure, Result.andThen_ok, List.map_toArray, List.map_cons, List.map_nil, hx, hy, Builtin.copy_, List.getElem?_toArray, List.getElem?_cons_zero,
    List.getElem?_cons_succ, run_underlying h1, Builtin.lenOf, run_sizeOf w h2, h5]
  simp only [hfc, e1, hst, Result.andThen_ok, Sem.run_bind, Sem.run_pure, Nat.add_zero, goInt]
  exact hK' _ _ hK

end
end Go.Proofs.YgcsanGreat
