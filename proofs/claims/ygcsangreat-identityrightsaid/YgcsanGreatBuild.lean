/-
  'T{..}' of a struct type whose parts are structs, arrays or single values.
-/
import Derived.Test.YgcsanGreatRow
namespace Go.Proofs.YgcsanGreat
open Go.RowKit
set_option linter.unusedSimpArgs false
set_option linter.unusedVariables false

theorem zipIdx_layV (M : List Value) : ∀ (L : List Value) (o k : Nat), (M.zipIdx k).foldl (fun (cs : Array Value) (x : Value × Nat) => cs.setIfInBounds (o + x.2) x.1) L.toArray = (layV L (o + k) M).toArray := by
  induction M with
  | nil => intro L o k; rfl
  | cons m M ih =>
    intro L o k
    rw [List.zipIdx_cons, List.foldl_cons, layV]
    have e : L.toArray.setIfInBounds (o + k) m = (L.set (o + k) m).toArray := by simp
    simp only [e]
    rw [ih]
    rfl

/-- the parts laid over the zero -/
def fillV (places : Array (Nat × Nat)) (L : List Value) : List (Nat × Value × List Value) → Option (List Value)
  | [] => some L
  | (i, _, M) :: rest =>
    match places[i]? with
    | none => none
    | some (off, size) => if M.length ≠ size || decide (off + M.length > L.length) then none else fillV places (layV L off M) rest

theorem fill_fillV (places : Array (Nat × Nat)) : ∀ (parts : List (Nat × Value × List Value)) (L : List Value), (∀ p ∈ parts, p.2.1.cells = p.2.2.toArray) →
    Instr.fill (places[·]?) L.toArray (parts.map fun p => (p.1, p.2.1)) = (fillV places L parts).map (·.toArray)
  | [], L, _ => rfl
  | (i, v, M) :: rest, L, h => by
    have hv : v.cells = M.toArray := h (i, v, M) (List.mem_cons_self ..)
    have ih := fill_fillV places rest
    simp only [List.map_cons, Instr.fill, fillV]
    cases hp : places[i]? with
    | none => rfl
    | some q =>
      obtain ⟨off, size⟩ := q
      simp only [hv, List.size_toArray]
      split
      · rfl
      · rw [← ih _ (fun p hp => h p (List.mem_cons_of_mem _ hp))]
        congr 1
        have := zipIdx_layV M L off 0
        rw [Nat.add_zero] at this
        rw [← this]
        simp

theorem run_mapM_list {P : Program} {α β : Type} (f : α → Sem β) (g : α → β) (w : World) : ∀ (l : List α), (∀ x ∈ l, (f x).run P w = .ok (g x) w) → (l.mapM f).run P w = .ok (l.map g) w
  | [], _ => by simp
  | x :: l, h => by
    have ih := run_mapM_list f g w l (fun y hy => h y (List.mem_cons_of_mem _ hy))
    simp only [List.mapM_cons, Sem.run_bind, h x (List.mem_cons_self ..), ih, Result.andThen_ok, Sem.run_pure, List.map_cons]

theorem run_places {P : Program} (w : World) (fs : Array Field) (g : Field → Nat × Nat) (h : ∀ f ∈ fs, (P.info? f.type).map (fun i => (f.offset, i.size)) = some (g f)) :
    (fs.mapM fun f => (do pure (f.offset, ← sizeOf f.type) : Sem (Nat × Nat))).run P w = .ok (fs.map g) w := by
  have hl := run_mapM_list (P := P) (fun f : Field => (do pure (f.offset, ← sizeOf f.type) : Sem (Nat × Nat))) g w fs.toList (fun f hf => by
    obtain ⟨i, h1, h2⟩ := Option.map_eq_some_iff.1 (h f (by simpa using hf))
    simp [sizeOf, typeInfo, h1, ← h2])
  rw [Array.mapM_eq_mapM_toList, map_eq_pure_bind]
  simp only [Sem.run_bind, hl, Result.andThen_ok, Sem.run_pure]
  congr 1
  apply Array.ext'
  simp

theorem run_buildV {P : Program} (t : TypeId) (fs : Array Field) (places : Array (Nat × Nat)) (zero : List Value) (parts : List (Nat × Value × List Value)) (res : List Value)
    (g : Field → Nat × Nat) (hd : P.underlying t = some (.struct fs)) (hg : ∀ f ∈ fs, (P.info? f.type).map (fun i => (f.offset, i.size)) = some (g f)) (hp : fs.map g = places) (hz : (P.info? t).map (·.zero) = some (some (.agg zero.toArray)))
    (hc : ∀ p ∈ parts, p.2.1.cells = p.2.2.toArray) (hf : fillV places zero parts = some res) (w : World) :
    (Instr.build t (parts.map fun p => (p.1, p.2.1)).toArray).run P w = .ok (.agg res.toArray) w := by
  obtain ⟨i, hi1, hi2⟩ := Option.map_eq_some_iff.1 hz
  have h1 := run_places w fs g hg
  rw [hp] at h1
  have h2 := fill_fillV places parts zero hc
  rw [hf] at h2
  have hzv : (zeroValue t).run P w = .ok (.agg zero.toArray) w := by
    simp [zeroValue, typeInfo, hi1, hi2]
  unfold Instr.build
  simp only [Sem.run_bind, hzv, Result.andThen_ok, run_underlying hd, h1, Value.cells]
  rw [h2]
  rfl

/-- where the field lies, and how many cells it has -/
def gOf (P : Program) (f : Field) : Nat × Nat := (f.offset, ((P.info? f.type).map (·.size)).getD 0)

theorem run_buildP {P : Program} (t : TypeId) (fs : Array Field) (places : Array (Nat × Nat)) (zero : List Value) (parts : List (Nat × Value × List Value)) (res : List Value)
    (hd : P.underlying t = some (.struct fs)) (hg : fs.all (fun f => (P.info? f.type).isSome) = true) (hp : fs.map (gOf P) = places) (hz : (P.info? t).map (·.zero) = some (some (.agg zero.toArray)))
    (hc : ∀ p ∈ parts, p.2.1.cells = p.2.2.toArray) (hf : fillV places zero parts = some res) (w : World) :
    (Instr.build t (parts.map fun p => (p.1, p.2.1)).toArray).run P w = .ok (.agg res.toArray) w := by
  refine run_buildV t fs places zero parts res (gOf P) hd ?_ hp hz hc hf w
  intro f hm
  have h1 : (P.info? f.type).isSome = true := by
    rw [Array.all_eq_true] at hg
    obtain ⟨i, hi, rfl⟩ := Array.mem_iff_getElem.1 hm
    exact hg i hi
  obtain ⟨i, hi⟩ := Option.isSome_iff_exists.1 h1
  simp [gOf, hi]

theorem wl_build {P : Program} {ops : Array Oper} {rest : List Oper} {Q : Exit → Act → World → Prop} {a : Act} {w : World} {dst : Option Tmp} {type : TypeId} {pos : String} {after : Array Edge}
    (t : TypeId) (ps : Array (Nat × Operand)) (vals : Array (Nat × Value)) (V : Value) (hv : (ps.map fun p => (p.1, a.eval p.2)) = vals) (hb : ∀ w, (Instr.build t vals).run P w = .ok V w)
    (hK : wpList P ops Q rest (a.put dst V) w) : wpList P ops Q (⟨dst, .build t ps, type, pos, after, none⟩ :: rest) a w := by
  subst hv
  refine wpList_plain rfl fun K hK' => ?_
  unfold Oper.wp execOp
  simp only [Sem.run_bind, Sem.run_pure, Result.andThen_ok, hb]
  exact hK' _ _ hK
end Go.Proofs.YgcsanGreat
