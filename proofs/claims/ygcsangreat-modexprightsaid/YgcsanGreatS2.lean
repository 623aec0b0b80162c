/-
  Package yp: before, Acct.empty, World.put on a list of one account.
-/
import Derived.Test.YgcsanGreatStV
namespace Go.Proofs.YgcsanGreat
open Go.RowKit
set_option linter.unusedSimpArgs false
set_option linter.unusedVariables false
attribute [-go_sem] loadVar storeVar Instr.build Instr.fill Instr.buildSlice Builtin.append_


theorem bytesLess_self : ∀ l : List UInt8, Op.bytesLess l l = false
  | [] => rfl
  | a :: l => by simp [Op.bytesLess, bytesLess_self l]

set_option maxRecDepth 10000 in
set_option maxHeartbeats 400000 in
theorem before_any (A B : List Nat) (w : World) (hA : A.length = 20) (hB : B.length = 20) :
    Calls Sang.prog 140 #[.agg (byV A).toArray, .agg (byV B).toArray] w fun e w' => e = .returned (.bool (Op.bytesLess (strOf A).toList (strOf B).toList)) ∧ Fr w.heap.size no w w' := by
  have hA1 : VB ((w.alloc (.cells (byV A).toArray 23)).alloc (.cells (byV B).toArray 23)) w.heap.size 23 (byV A) := (VB.new w 23 (byV A)).alloc _
  have hB1 : VB ((w.alloc (.cells (byV A).toArray 23)).alloc (.cells (byV B).toArray 23)) (w.heap.size + 1) 23 (byV B) := VB.newAt (by simp) rfl
  have hf : Fr w.heap.size no w ((w.alloc (.cells (byV A).toArray 23)).alloc (.cells (byV B).toArray 23)) := ((Fr.refl _ _ _).alloc (Nat.le_refl _) _).alloc (by simp) _
  go_enter Sang.func140, Sang.ntmps140
  go_wp2_with fail
  generalize (w.alloc (.cells (byV A).toArray 23)).alloc (.cells (byV B).toArray 23) = w1 at hA1 hB1 hf ⊢
  have cv : ∀ (b : Nat) (X : List Nat), X.length = 20 → VB w1 b 23 (byV X) → (convert 27 9 (.slice (some ⟨b, 0, none⟩) 20 20)).run Sang.prog w1.drew = .ok (.string (strOf X)) w1.drew := by
    intro b X hX h
    have := Sl.of_vb h.drew 0 X (fun i hi => by simp [byV, List.getD, List.getElem?_eq_getElem hi]) (by rw [hX]; decide)
    rw [hX] at this
    exact run_str w1.drew _ X this 27 9 5 und33 und5 und9
  have cA := cv _ A hA hA1
  have cB := cv _ B hB hB1
  clear cv hA1 hB1
  go_region_with fail
  all_goals (go_wp2_with fail; go_ret; exact ⟨rfl, hf.drew⟩)

theorem before_self (A : List Nat) (w : World) (hA : A.length = 20) :
    Calls Sang.prog 140 #[.agg (byV A).toArray, .agg (byV A).toArray] w fun e w' => e = .returned (.bool false) ∧ Fr w.heap.size no w w' := by
  have := before_any A A w hA hA
  rw [bytesLess_self] at this
  exact this

set_option maxRecDepth 10000 in
set_option maxHeartbeats 400000 in
theorem empty_any (b : Nat) (t : TypeId) (M : List Value) (vn vb : Value) (nn bb : Nat) (w : World) (h : VB w b t M) (m1 : M[20]? = some vn) (m2 : M[21]? = some vb) (m3 : M[22]? = some (.slice none 0 0))
    (hn : Sl w .u8 vn (digs nn)) (hb : Sl w .u8 vb (digs bb)) :
    Calls Sang.prog 46 #[.pointer (some ⟨b, 0, none⟩)] w fun e w' => e = .returned (.bool (decide (nn = 0) && decide (bb = 0))) ∧ Fr w.heap.size no w w' := by
  have k1 := h.cell 20 m1
  have hz1 := isZero_any vn nn w hn
  have HZ1 : Hid (Calls Sang.prog 115 #[vn] w fun e w' => e = .returned (.bool (decide (nn = 0))) ∧ Fr w.heap.size no w w') := hz1
  clear hz1
  have HB : Hid (∀ _ : Unit, Sl w .u8 vb (digs bb)) := fun _ => hb
  clear hn hb
  go_enter Sang.func46, Sang.ntmps46
  go_wp2_with fail
  refine HZ1.out.mono ?_
  rintro e w1 ⟨rfl, hf1⟩
  have h1 := h.fr hf1 h.lt (fun x => x)
  have k2 := h1.cell 21 m2
  by_cases hnn : nn = 0
  · have d1 : decide (nn = 0) = true := by simpa using hnn
    have D1 : Hid (∀ _ : Unit, decide (nn = 0) = true) := fun _ => d1
    rw [d1]
    clear d1 hnn HZ1
    go_wp2_with fail
    refine (isZero_any vb bb w1 ((HB.out ()).fr hf1)).mono ?_
    rintro e w2 ⟨rfl, hf2⟩
    have k3 := (h1.fr hf2 h1.lt (fun x => x)).cell 22 m3
    have hf := hf1.step hf2 hf1.size (fun _ _ x => x)
    by_cases hbb : bb = 0
    · have d2 : decide (bb = 0) = true := by simpa using hbb
      have D2 : Hid (∀ _ : Unit, decide (bb = 0) = true) := fun _ => d2
      rw [d2]
      clear d2 hbb HB
      go_wp2_with fail
      go_ret
      exact ⟨by rw [D1.out (), D2.out ()]; rfl, hf⟩
    · have d2 : decide (bb = 0) = false := by simpa using hbb
      have D2 : Hid (∀ _ : Unit, decide (bb = 0) = false) := fun _ => d2
      rw [d2]
      clear d2 hbb HB
      go_wp2_with fail
      go_ret
      exact ⟨by rw [D1.out (), D2.out ()]; rfl, hf⟩
  · have d1 : decide (nn = 0) = false := by simpa using hnn
    have D1 : Hid (∀ _ : Unit, decide (nn = 0) = false) := fun _ => d1
    rw [d1]
    clear d1 hnn HZ1 HB
    go_wp2_with fail
    go_ret
    exact ⟨by rw [D1.out ()]; rfl, hf1⟩

theorem run_buildSlice1 {P : Program} (t e : TypeId) (i : TypeInfo) (z : Value) (n : Nat) (h1 : P.underlying t = some (.slice e)) (h2 : P.info? e = some i) (h3 : i.size = n) (h4 : i.zero = some z) (hn : 0 < n) (hn2 : n ≤ 1000) (M : List Value) (hM : M.length = n) (w : World) :
    (Instr.buildSlice t 1 #[(0, .agg M.toArray)]).run P w = .ok (.slice (some ⟨w.heap.size, 0, none⟩) 1 1) (w.alloc (.cells M.toArray e)) := by
  subst h3
  have hn0 : ¬ (1 * i.size = 0) := by omega
  have hbig : ¬ (1 * i.size > 2 ^ 24) := by omega
  have hzv : (zeroValue e).run P w = .ok z w := by simp [zeroValue, typeInfo, h2, h4]
  have hsz : (sizeOf e).run P w = .ok i.size w := by simp [sizeOf, typeInfo, h2]
  have hz : (Array.map (fun x => z.cells[x % z.cells.size]!) (Array.range (1 * i.size))) = (List.map (fun x => z.cells[x % z.cells.size]!) (List.range i.size)).toArray := by apply Array.ext'; simp
  generalize hZ : List.map (fun x => z.cells[x % z.cells.size]!) (List.range i.size) = Z at hz
  have hZl : Z.length = i.size := by rw [← hZ]; simp
  have hfold := zipIdx_layV M Z 0 0
  have hall : layV Z 0 M = M := layV_all Z M (by omega)
  have hfill : Instr.fill (fun k => some (k * i.size, i.size)) Z.toArray [(0, .agg M.toArray)] = some M.toArray := by
    simp only [Instr.fill, Value.cells, List.size_toArray, hM, hZl, Nat.zero_mul]
    rw [if_neg (by simp)]
    congr 1
    have e : M.toArray = (layV Z (0 + 0) M).toArray := by rw [hall]
    conv => rhs; rw [e, ← hfold]
    simp
  unfold Instr.buildSlice
  simp only [Sem.run_bind, run_underlying h1, Result.andThen_ok, hsz, if_neg hbig, if_neg hn0, hzv, Sem.run_pure]
  rw [hz, hfill]
  simp [newRow]

theorem info106 : (Sang.prog.info? 106).map (fun i => (i.zero, i.size, i.bytes)) = some (some (.agg zaV.toArray), 24, 120) := by kernel_rfl
theorem bs53 (M : List Value) (hM : M.length = 24) (w : World) : (Instr.buildSlice 53 1 #[(0, .agg M.toArray)]).run Sang.prog w = .ok (.slice (some ⟨w.heap.size, 0, none⟩) 1 1) (w.alloc (.cells M.toArray 106)) := by
  obtain ⟨i, h1, h2, h3, h4⟩ := info_parts info106
  exact run_buildSlice1 53 106 i _ 24 Sang.underlying53 h1 h3 h2 (by decide) (by decide) M hM w
attribute [go_sem] bs53
end Go.Proofs.YgcsanGreat
