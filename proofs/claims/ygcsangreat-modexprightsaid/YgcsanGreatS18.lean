/-
  Package yp: Chain.Finish.
-/
import Derived.Test.YgcsanGreatS17a
namespace Go.Proofs.YgcsanGreat
open Go.RowKit
set_option linter.unusedSimpArgs false
set_option linter.unusedVariables false
attribute [-go_sem] loadVar storeVar Instr.build Instr.fill Instr.buildSlice Builtin.append_


/-- a receipt -/
def rcV (s U : Nat) (out : Value) : List Value := [.int .u8 0, .int .u8 (s : Int), .int .u64 (U : Int), out, .slice none 0 0] ++ byV (List.replicate 20 0)
theorem rcV_length (s U : Nat) (out : Value) : (rcV s U out).length = 25 := by
  have lz : (byV (List.replicate 20 0)).length = 20 := by rw [byV_length]; simp
  unfold rcV
  rw [List.length_append, lz]
  rfl
theorem rcV_flat (s U : Nat) (out : Value) (h : out.oneCell' = true) : Flat (rcV s U out) :=
  Flat.append (Flat.cons rfl (Flat.cons rfl (Flat.cons rfl (Flat.cons h (Flat.cons rfl Flat.nil))))) (byV_flat _)
theorem rcV_all (s U : Nat) (out : Value) : subV (rcV s U out) 0 25 = rcV s U out := by
  have := rcV_length s U out
  simp [subV, ← this]
theorem rcV_lay5 (s U : Nat) (out : Value) : layV (rcV s U out) 5 (byV (List.replicate 20 0)) = rcV s U out := by
  have lz : (byV (List.replicate 20 0)).length = 20 := by rw [byV_length]; simp
  rw [layV_eq _ _ _ (by rw [rcV_length, lz]; decide), lz]
  unfold rcV
  generalize byV (List.replicate 20 0) = Zv at lz ⊢
  simp [lz]
theorem siz37 : (Sang.prog.info? 37).map (·.size) = some 25 := by kernel_rfl
theorem stV_flat (ac wa fr rt : Value) (ph st ap : Nat) (li tg le pr tt : Value) (og : List Nat) (h1 : ac.oneCell' = true) (h2 : wa.oneCell' = true) (h3 : fr.oneCell' = true) (h4 : rt.oneCell' = true) (h5 : li.oneCell' = true) (h6 : tg.oneCell' = true) (h7 : le.oneCell' = true) (h8 : pr.oneCell' = true) (h9 : tt.oneCell' = true) : Flat (stV ac wa fr rt ph st ap li tg le pr tt og) := by
  refine Flat.append ?_ ((byV_flat _).append ((byV_flat _).append envV_flat))
  intro m hm
  simp at hm
  rcases hm with rfl | rfl | rfl | rfl | rfl | rfl | rfl | rfl | rfl | rfl | rfl | rfl | rfl | rfl <;> first | assumption | rfl
theorem st_origin (ac wa fr rt : Value) (ph st ap : Nat) (li tg le pr tt : Value) (og : List Nat) (h : og.length = 20) : subV (stV ac wa fr rt ph st ap li tg le pr tt og) 19 20 = byV og := by
  have lo : (byV og).length = 20 := by rw [byV_length, h]
  unfold stV subV
  simp [← lo]
theorem st_made (ac wa fr rt : Value) (ph st ap : Nat) (li tg le pr tt : Value) (og : List Nat) (h : og.length = 20) : subV (stV ac wa fr rt ph st ap li tg le pr tt og) 39 20 = byV (List.replicate 20 0) := by
  have lo : (byV og).length = 20 := by rw [byV_length, h]
  have lz : (byV (List.replicate 20 0)).length = 20 := by rw [byV_length]; simp
  unfold stV subV
  generalize byV (List.replicate 20 0) = Zv at lz ⊢
  generalize byV og = Ov at lo ⊢
  simp [List.drop_append, lo, List.drop_eq_nil_of_le (show Ov.length ≤ 20 by omega), ← lz]
theorem st_envs (ac wa fr rt : Value) (ph st ap : Nat) (li tg le pr tt : Value) (og : List Nat) (h : og.length = 20) : subV (stV ac wa fr rt ph st ap li tg le pr tt og) 59 120 = envV := by
  have lo : (byV og).length = 20 := by rw [byV_length, h]
  have lz : (byV (List.replicate 20 0)).length = 20 := by rw [byV_length]; simp
  have le := envV_length
  unfold stV subV
  generalize byV (List.replicate 20 0) = Zv at lz ⊢
  generalize byV og = Ov at lo ⊢
  generalize envV = E at le ⊢
  simp [List.drop_append, lo, lz, List.drop_eq_nil_of_le (show Ov.length ≤ 40 by omega), List.drop_eq_nil_of_le (show Zv.length ≤ 20 by omega), ← le]
theorem und37f : ∃ fs, Sang.prog.underlying 37 = some (.struct fs) ∧ fs.all (fun f => (Sang.prog.info? f.type).isSome) = true ∧ fs.map (gOf Sang.prog) = #[(0, 1), (1, 1), (2, 1), (3, 1), (4, 1), (5, 20)] := ⟨_, Sang.underlying37, by kernel_rfl, by kernel_rfl⟩
theorem zer37 : (Sang.prog.info? 37).map (·.zero) = some (some (.agg (rcV 0 0 (.slice none 0 0)).toArray)) := by kernel_rfl
theorem cells_one {v : Value} (h : v.oneCell' = true) : v.cells = #[v] := by cases v <;> first | rfl | simp [Value.oneCell'] at h
theorem bld37 (w : World) (s : Nat) (out : Value) (ho : out.oneCell' = true) : (Instr.build 37 #[(1, .int .u8 (s : Int)), (3, out), (4, .slice none 0 0)]).run Sang.prog w = .ok (.agg (rcV s 0 out).toArray) w := by
  obtain ⟨fs, h1, h2, h3⟩ := und37f
  refine run_buildP 37 fs _ _ [(1, .int .u8 (s : Int), [.int .u8 (s : Int)]), (3, out, [out]), (4, .slice none 0 0, [.slice none 0 0])] _ h1 h2 h3 zer37 (by intro p hp; simp at hp; rcases hp with rfl | rfl | rfl <;> first | rfl | exact cells_one ho) ?_ w
  have hl := rcV_length 0 0 (.slice none 0 0)
  simp only [fillV, List.getElem?_toArray, List.getElem?_cons_zero, List.getElem?_cons_succ, List.length_cons, List.length_nil, layV_length, hl]
  rfl
theorem und66f : ∃ fs, Sang.prog.underlying 66 = some (.struct fs) ∧ fs.all (fun f => (Sang.prog.info? f.type).isSome) = true ∧ fs.map (gOf Sang.prog) = #[(0, 8), (8, 1), (9, 1), (10, 1), (11, 1), (12, 1), (13, 1), (14, 1), (15, 1), (16, 1), (17, 1), (18, 1), (19, 20), (39, 20), (59, 120)] := ⟨_, Sang.underlying66, by kernel_rfl, by kernel_rfl⟩
theorem bld59_0 (w : World) (ac : Value) (h : ac.oneCell' = true) : (Instr.build 59 #[(0, ac)]).run Sang.prog w = .ok (.agg (wdV ac (.slice none 0 0)).toArray) w := by
  obtain ⟨fs, h1, h2, h3⟩ := und59f
  exact run_buildP 59 fs _ _ [(0, ac, [ac])] _ h1 h2 h3 zer59 (by intro p hp; simp at hp; rw [hp]; exact cells_one h) (by rfl) w
theorem bld66 (w : World) (ac tt : Value) (ho : tt.oneCell' = true) : (Instr.build 66 #[(0, .agg (wdV ac (.slice none 0 0)).toArray), (6, .int .u8 1), (11, tt), (14, .agg envV.toArray)]).run Sang.prog w = .ok (.agg (stV ac (.slice none 0 0) (.slice none 0 0) (.slice none 0 0) 0 0 1 (.slice none 0 0) (.slice none 0 0) (.slice none 0 0) (.slice none 0 0) tt (List.replicate 20 0)).toArray) w := by
  obtain ⟨fs, h1, h2, h3⟩ := und66f
  have hz : (Sang.prog.info? 66).map (·.zero) = some (some (.agg Sang.zeroCells75.toList.toArray)) := by kernel_rfl
  exact run_buildP 66 fs _ _ [(0, .agg (wdV ac (.slice none 0 0)).toArray, wdV ac (.slice none 0 0)), (6, .int .u8 1, [.int .u8 1]), (11, tt, [tt]), (14, .agg envV.toArray, envV)] _ h1 h2 h3 hz (by intro p hp; simp at hp; rcases hp with rfl | rfl | rfl | rfl <;> first | rfl | exact cells_one ho) (by kernel_rfl) w
theorem Sl.fr2b {w w' : World} {c j : Nat} {v : Value} {l : List Nat} (h : Sl w .u8 v l) (hF : ∀ a n d, v = .slice (some a) n d → n = 0 ∨ (a.block ≠ c ∧ a.block ≠ j)) (k : Fr w.heap.size (fun x => x = c ∨ x = j) w w') : Sl w' .u8 v l := by
  obtain ⟨a, cap, rfl, h1, h2, h3⟩ := h
  refine ⟨a, cap, rfl, h1, h2, ?_⟩
  rcases h3 with h3 | ⟨b, off, rfl, h3⟩
  · exact .inl h3
  · rcases hF _ _ _ rfl with h0 | ⟨h0, h0'⟩
    · exact .inl (List.eq_nil_of_length_eq_zero h0)
    · refine .inr ⟨b, off, rfl, fun i hi => ?_⟩
      rw [← h3 i hi]
      exact k.cell (cell_lt (h3 i hi)) (fun e => by rcases e with e | e; exact h0 e; exact h0' e)

set_option maxRecDepth 10000 in
set_option maxHeartbeats 8000000 in
theorem finish_any (c g cap : Nat) (LA : List Value) (n1 b1 wa rt li tg le pr vt : Value) (s X U d : Nat) (O : List Nat) (w : World) (h : VB w c 75 (stV (.slice (some ⟨g, 0, none⟩) 1 cap) wa (.slice none 0 0) rt 2 s 1 li tg le pr vt (adNo 240))) (hA : VB w g 106 LA) (hs : subV LA 0 24 = acV (adNo 240) n1 b1 (.slice none 0 0) (.slice none 0 0)) (hl : 24 ≤ LA.length) (ncg : c ≠ g)
    (hn : Sl w .u8 n1 (digs 1)) (fn : Far c n1) (hb : Sl w .u8 b1 (digs (2 ^ 128))) (fb : FarS c b1) (hli : Sl w .u8 li (digs 200000)) (fli : FarS c li) (hle : Sl w .u8 le (digs X)) (hpr : Sl w .u8 pr (digs 0)) (ht : Sl w .u8 vt (digs (2 ^ 128))) (ft : FarS c vt) (hrt : Sl w .u8 rt O) (frt : FarS c rt) (lO : O.length ≤ 16777216)
    (owa : wa.oneCell' = true) (nwa : noU8 wa) (otg : tg.oneCell' = true) (ntg : noU8 tg) (hs02 : s = 0 ∨ s = 2) (hU : 200000 - X = U) (hU2 : U ≤ 200000) (htop : (digs U).getD ((digs U).length - 1) 0 = d) (hd : d ≠ 0 ∧ d ≠ 192 ∧ d ≠ 2 ∧ d ≠ s ∧ (∀ x ∈ adNo 240, d ≠ x) ∧ d ≠ 1) :
    Calls Sang.prog 29 #[.pointer (some ⟨c, 0, none⟩)] w fun e w' => ∃ R out, e = .returned (.agg R.toArray) ∧ R.length = 25 ∧ Flat R ∧ R[0]? = some (.int .u8 0) ∧ R[1]? = some (.int .u8 (s : Int)) ∧ R[2]? = some (.int .u64 (U : Int)) ∧ R[3]? = some out ∧ Sl w' .u8 out O ∧ Nw w.heap.size out ∧ Fr w.heap.size (· = c) w w' := by
  have ncR : c ≠ w.heap.size := by have := h.lt; omega
  have fpr : FarS c pr := FarS.empty hpr
  have lA : (adNo 240).length = 20 := rfl
  have lC : (adNo 192).length = 20 := rfl
  have HAC : Hid ((adNo 240 == adNo 192) = false) := by unfold Hid; rfl
  have HA1 : Hid (∀ x ∈ adNo 240, 1 ≠ x) := by unfold Hid; decide
  have HD : Hid (d ≠ 0 ∧ d ≠ 192 ∧ d ≠ 2 ∧ d ≠ s ∧ (∀ x ∈ adNo 240, d ≠ x) ∧ d ≠ 1) := hd
  have HS1 : Hid (1 ≠ s) := by unfold Hid; omega
  have HT : Hid (∀ _ : Unit, (digs U).getD ((digs U).length - 1) 0 = d) := fun _ => htop
  have HU : Hid (∀ _ : Unit, 200000 - X = U) := fun _ => hU
  have HUW : Hid (U < W64) := by unfold Hid; rw [W64_eq]; omega
  have HRU : Hid (U < W64 ^ 8) := by unfold Hid; exact Nat.lt_of_le_of_lt hU2 (by decide)
  have HLU : Hid ((digs U).length ≤ 8388608) := by unfold Hid; exact Nat.le_trans (digs_room' U 8 HRU.out) (by decide)
  have HL2 : Hid ((digs 200000).length ≤ 8388608) := by unfold Hid; exact Nat.le_trans (digs_room' 200000 1 (by decide)) (by decide)
  have HL8 : Hid ((digs (2 ^ 128)).length ≤ 8388608) := by unfold Hid; rw [digs128]; decide
  have HL0 : Hid ((digs 0).length ≤ 8388608) := by unfold Hid; rw [digs_zero]; decide
  have HR1 : Hid (0 < W64 ^ 8 ∧ 2 ^ 128 < W64 ^ 8 ∧ 200000 - U < W64 ^ 8) := by unfold Hid; exact ⟨by decide, by decide, Nat.lt_of_le_of_lt (Nat.sub_le _ _) (by decide)⟩
  have HDi : Hid (∀ w' v, Sl w' .u8 v (digs U) → Calls Sang.prog 88 #[v, .int .u64 5] w' fun e w'' => ∃ v', e = .returned v' ∧ Sl w'' .u8 v' (digs (U / 5)) ∧ Fr w'.heap.size no w' w'') := fun w' v hv => divided_any v U 5 w' hv (Nat.lt_trans HRU.out (by decide)) (by decide) (by decide)
  have HBF : Hid (∀ w' L, VB w' c 75 L → (∀ i, i < 32 → L[146 + i]? = some (.int .u8 0)) → Calls Sang.prog 89 #[.pointer (some ⟨c, 0, none⟩)] w' fun e w'' => ∃ v', e = .returned v' ∧ Sl w'' .u8 v' (digs 0) ∧ Fr w'.heap.size no w' w'') := fun w' L hw hz => baseFee_any c 75 L w' hw hz
  have t128 : (digs (2 ^ 128)).getD ((digs (2 ^ 128)).length - 1) 0 = 1 := by rw [digs128]; rfl
  obtain ⟨Zv, HZv⟩ : ∃ Zv, Hid (∀ _ : Unit, byV (List.replicate 20 0) = Zv) := ⟨_, fun _ => rfl⟩
  have lZv : Zv.length = 20 := by rw [← HZv.out ()]; rfl
  have fZv : Flat Zv := by rw [← HZv.out ()]; exact byV_flat _
  obtain ⟨E, HE⟩ : ∃ E, Hid (∀ _ : Unit, envV = E) := ⟨_, fun _ => rfl⟩
  have lE : E.length = 120 := by rw [← HE.out ()]; exact envV_length
  obtain ⟨C, HC⟩ : ∃ C, Hid (∀ _ : Unit, adNo 192 = C) := ⟨_, fun _ => rfl⟩
  rw [HC.out ()] at lC HAC
  have Z66 : Hid (Sang.zeroCells66.size = 179) := by unfold Hid; kernel_rfl
  have nli := noU8.sl hli
  have nle := noU8.sl hle
  have npr := noU8.sl hpr
  have ntt := noU8.sl ht
  have nrt := noU8.sl hrt
  have oli := hli.one
  have ole := hle.one
  have opr := hpr.one
  have ort := hrt.one
  clear hU hU2 htop hd
  generalize adNo 240 = A at *
  replace h := h.alloc (.cells #[Value.int IntKind.u8 0, Value.int IntKind.u8 0, Value.int IntKind.u64 0, Value.slice none 0 0, Value.slice none 0 0, Value.int IntKind.u8 0, Value.int IntKind.u8 0, Value.int IntKind.u8 0, Value.int IntKind.u8 0, Value.int IntKind.u8 0, Value.int IntKind.u8 0, Value.int IntKind.u8 0, Value.int IntKind.u8 0, Value.int IntKind.u8 0, Value.int IntKind.u8 0, Value.int IntKind.u8 0, Value.int IntKind.u8 0, Value.int IntKind.u8 0, Value.int IntKind.u8 0, Value.int IntKind.u8 0, Value.int IntKind.u8 0, Value.int IntKind.u8 0, Value.int IntKind.u8 0, Value.int IntKind.u8 0, Value.int IntKind.u8 0] 37)
  replace hA := hA.alloc (.cells #[Value.int IntKind.u8 0, Value.int IntKind.u8 0, Value.int IntKind.u64 0, Value.slice none 0 0, Value.slice none 0 0, Value.int IntKind.u8 0, Value.int IntKind.u8 0, Value.int IntKind.u8 0, Value.int IntKind.u8 0, Value.int IntKind.u8 0, Value.int IntKind.u8 0, Value.int IntKind.u8 0, Value.int IntKind.u8 0, Value.int IntKind.u8 0, Value.int IntKind.u8 0, Value.int IntKind.u8 0, Value.int IntKind.u8 0, Value.int IntKind.u8 0, Value.int IntKind.u8 0, Value.int IntKind.u8 0, Value.int IntKind.u8 0, Value.int IntKind.u8 0, Value.int IntKind.u8 0, Value.int IntKind.u8 0, Value.int IntKind.u8 0] 37)
  have hR : VB (w.alloc (.cells #[Value.int IntKind.u8 0, Value.int IntKind.u8 0, Value.int IntKind.u64 0, Value.slice none 0 0, Value.slice none 0 0, Value.int IntKind.u8 0, Value.int IntKind.u8 0, Value.int IntKind.u8 0, Value.int IntKind.u8 0, Value.int IntKind.u8 0, Value.int IntKind.u8 0, Value.int IntKind.u8 0, Value.int IntKind.u8 0, Value.int IntKind.u8 0, Value.int IntKind.u8 0, Value.int IntKind.u8 0, Value.int IntKind.u8 0, Value.int IntKind.u8 0, Value.int IntKind.u8 0, Value.int IntKind.u8 0, Value.int IntKind.u8 0, Value.int IntKind.u8 0, Value.int IntKind.u8 0, Value.int IntKind.u8 0, Value.int IntKind.u8 0] 37)) w.heap.size 37 (rcV 0 0 (.slice none 0 0)) := VB.newAt rfl (by rfl)
  have hf0 : Fr w.heap.size no w (w.alloc (.cells #[Value.int IntKind.u8 0, Value.int IntKind.u8 0, Value.int IntKind.u64 0, Value.slice none 0 0, Value.slice none 0 0, Value.int IntKind.u8 0, Value.int IntKind.u8 0, Value.int IntKind.u8 0, Value.int IntKind.u8 0, Value.int IntKind.u8 0, Value.int IntKind.u8 0, Value.int IntKind.u8 0, Value.int IntKind.u8 0, Value.int IntKind.u8 0, Value.int IntKind.u8 0, Value.int IntKind.u8 0, Value.int IntKind.u8 0, Value.int IntKind.u8 0, Value.int IntKind.u8 0, Value.int IntKind.u8 0, Value.int IntKind.u8 0, Value.int IntKind.u8 0, Value.int IntKind.u8 0, Value.int IntKind.u8 0, Value.int IntKind.u8 0] 37)) := (Fr.refl _ _ _).alloc (Nat.le_refl _) _
  replace hn := hn.fr hf0
  replace hb := hb.fr hf0
  replace hli := hli.fr hf0
  replace hle := hle.fr hf0
  replace hpr := hpr.fr hf0
  replace ht := ht.fr hf0
  replace hrt := hrt.fr hf0
  have hf : Fr w.heap.size (· = c) w (w.alloc (.cells #[Value.int IntKind.u8 0, Value.int IntKind.u8 0, Value.int IntKind.u64 0, Value.slice none 0 0, Value.slice none 0 0, Value.int IntKind.u8 0, Value.int IntKind.u8 0, Value.int IntKind.u8 0, Value.int IntKind.u8 0, Value.int IntKind.u8 0, Value.int IntKind.u8 0, Value.int IntKind.u8 0, Value.int IntKind.u8 0, Value.int IntKind.u8 0, Value.int IntKind.u8 0, Value.int IntKind.u8 0, Value.int IntKind.u8 0, Value.int IntKind.u8 0, Value.int IntKind.u8 0, Value.int IntKind.u8 0, Value.int IntKind.u8 0, Value.int IntKind.u8 0, Value.int IntKind.u8 0, Value.int IntKind.u8 0, Value.int IntKind.u8 0] 37)) := hf0.weak
  have hcw := ncR
  clear hf0
  go_enter Sang.func29, Sang.ntmps29
  have k11 := h.cell 11 rfl
  go_wp2_with fail
  clear k11
  generalize w.alloc (.cells #[Value.int IntKind.u8 0, Value.int IntKind.u8 0, Value.int IntKind.u64 0, Value.slice none 0 0, Value.slice none 0 0, Value.int IntKind.u8 0, Value.int IntKind.u8 0, Value.int IntKind.u8 0, Value.int IntKind.u8 0, Value.int IntKind.u8 0, Value.int IntKind.u8 0, Value.int IntKind.u8 0, Value.int IntKind.u8 0, Value.int IntKind.u8 0, Value.int IntKind.u8 0, Value.int IntKind.u8 0, Value.int IntKind.u8 0, Value.int IntKind.u8 0, Value.int IntKind.u8 0, Value.int IntKind.u8 0, Value.int IntKind.u8 0, Value.int IntKind.u8 0, Value.int IntKind.u8 0, Value.int IntKind.u8 0, Value.int IntKind.u8 0] 37) = w1 at h hA hR hb hli hpr ht hrt hle hn hf ⊢
  have hlid : Sl w1.drew .u8 li (digs 200000) := hli
  have hled : Sl w1.drew .u8 le (digs X) := hle
  have hSall : ∀ w', Fr w1.heap.size no w1 w' → (Fr w1.heap.size no w1 w' ∧ w'.cell? ⟨c, 14, none⟩ = some li ∧ w'.cell? ⟨c, 16, none⟩ = some le) := fun w' f => ⟨f, (h.fr f h.lt (fun x => x)).cell 14 rfl, (h.fr f h.lt (fun x => x)).cell 16 rfl⟩
  have hx0 := hSall w1.drew (Fr.refl _ _ _).drew
  go_region_held3 (fun w' => Fr w1.heap.size no w1 w' ∧ w'.cell? ⟨c, 14, none⟩ = some li ∧ w'.cell? ⟨c, 16, none⟩ = some le)
    (first | exact hx0 | exact hSall _ hfx)
    (first
      | (go_at_call 74; (with_reducible refine (less_any li le 200000 X w1.drew hlid hled HL2.out).mono ?_); rintro e w2 ⟨vB, rfl, hvB, hf2⟩; have hfx : Fr w1.heap.size no w1 w2 := (Fr.refl _ _ _).drew.step hf2 (Nat.le_refl _) (fun _ _ x => x)))
  clear hSall hx0
  clear hlid hled hf2
  replace h := h.fr hfx h.lt (fun x => x)
  replace hA := hA.fr hfx hA.lt (fun x => x)
  replace hR := hR.fr hfx hR.lt (fun x => x)
  replace hb := hb.fr hfx
  replace hli := hli.fr hfx
  replace hpr := hpr.fr hfx
  replace ht := ht.fr hfx
  replace hrt := hrt.fr hfx
  replace hle := hle.fr hfx
  replace hn := hn.fr hfx
  replace hf := hf.step hfx hf.size (fun _ _ x => absurd x (fun x => x))
  clear hfx
  rw [HU.out ()] at hvB
  go_wp2_with fail
  have hvBd : Sl w2.drew .u8 vB (digs U) := hvB
  have hSall : ∀ w', Fr w2.heap.size no w2 w' → (Fr w2.heap.size no w2 w' ∧ w'.cell? ⟨c, 3, none⟩ = some (.slice none 0 0)) := fun w' f => ⟨f, (h.fr f h.lt (fun x => x)).cell 3 rfl⟩
  have hx0 := hSall w2.drew (Fr.refl _ _ _).drew
  go_region_held3 (fun w' => Fr w2.heap.size no w2 w' ∧ w'.cell? ⟨c, 3, none⟩ = some (.slice none 0 0))
    (first | exact hx0 | exact hSall _ hfz | exact hSall _ hfy | exact hSall _ hfx)
    (first
      | (go_at_call 88; (with_reducible refine (HDi.out w2.drew vB hvBd).mono ?_); rintro e w3 ⟨v3, rfl, hv3, hf3⟩; have hfx : Fr w2.heap.size no w2 w3 := (Fr.refl _ _ _).drew.step hf3 (Nat.le_refl _) (fun _ _ x => x); have hvB3 := hvBd.fr hf3)
      | (go_at_call 87; (with_reducible refine (minNat_any (.slice none 0 0) v3 0 (U / 5) w3 (Sl.nil _ _) hv3).mono ?_); rintro e w4 ⟨v4, rfl, hv4, hf4⟩; have hfy := hfx.step hf4 hfx.size (fun _ _ x => x); have hvB4 := hvB3.fr hf4; have hv4z : Sl w4 .u8 v4 (digs 0) := (by rw [Nat.zero_min] at hv4; exact hv4))
      | (go_at_call 74; (with_reducible refine (less_any vB v4 U 0 w4 hvB4 hv4z HLU.out).mono ?_); rintro e w5 ⟨vu, rfl, hvu, hf5⟩; have hfz := hfy.step hf5 hfy.size (fun _ _ x => x)))
  clear hSall hx0
  rw [Nat.sub_zero] at hvu
  clear hvBd hf3 hf4 hf5 hv3 hv4 hv4z hvB3 hvB4 hvB hfx hfy
  replace h := h.fr hfz h.lt (fun x => x)
  replace hA := hA.fr hfz hA.lt (fun x => x)
  replace hR := hR.fr hfz hR.lt (fun x => x)
  replace hb := hb.fr hfz
  replace hli := hli.fr hfz
  replace hpr := hpr.fr hfz
  replace ht := ht.fr hfz
  replace hrt := hrt.fr hfz
  replace hle := hle.fr hfz
  replace hn := hn.fr hfz
  replace hf := hf.step hfz hf.size (fun _ _ x => absurd x (fun x => x))
  clear hfz
  have fu : FarS c vu := far_top h lA (noU8.slice _ _ _) nwa (noU8.slice _ _ _) nrt nli ntg nle npr ntt hvu d (HT.out ()) HD.out.1 HD.out.2.1 HD.out.2.2.1 HD.out.2.2.2.1 HD.out.2.2.2.2.1 (.inl HD.out.2.2.2.2.2)
  clear hle
  go_wp2_with fail
  have hlid : Sl w5.drew .u8 li (digs 200000) := hli
  have hprd : Sl w5.drew .u8 pr (digs 0) := hpr
  have hvud : Sl w5.drew .u8 vu (digs U) := hvu
  have hSall : ∀ w', Fr w5.heap.size no w5 w' → (Fr w5.heap.size no w5 w' ∧ w'.cell? ⟨c, 14, none⟩ = some li ∧ w'.cell? ⟨c, 17, none⟩ = some pr) := fun w' f => ⟨f, (h.fr f h.lt (fun x => x)).cell 14 rfl, (h.fr f h.lt (fun x => x)).cell 17 rfl⟩
  have hx0 := hSall w5.drew (Fr.refl _ _ _).drew
  go_region_held3 (fun w' => Fr w5.heap.size no w5 w' ∧ w'.cell? ⟨c, 14, none⟩ = some li ∧ w'.cell? ⟨c, 17, none⟩ = some pr)
    (first | exact hx0 | exact hSall _ hfy | exact hSall _ hfx)
    (first
      | (go_at_call 74; (with_reducible refine (less_any li vu 200000 U w5.drew hlid hvud HL2.out).mono ?_); rintro e w6 ⟨v6, rfl, hv6, hf6⟩; have hfx : Fr w5.heap.size no w5 w6 := (Fr.refl _ _ _).drew.step hf6 (Nat.le_refl _) (fun _ _ x => x); have hpr6 := hprd.fr hf6)
      | (go_at_call 80; (with_reducible refine (mulN_any v6 pr (200000 - U) 0 w6 hv6 hpr6 HR1.out.2.2 HR1.out.1).mono ?_); rintro e w7 ⟨vk, rfl, hvk, hf7⟩; have hfy := hfx.step hf7 hfx.size (fun _ _ x => x)))
  clear hSall hx0
  have hvk0 : Sl w7 .u8 vk (digs 0) := hvk
  clear hlid hprd hvud hf6 hf7 hv6 hpr6 hvk hfx
  replace h := h.fr hfy h.lt (fun x => x)
  replace hA := hA.fr hfy hA.lt (fun x => x)
  replace hR := hR.fr hfy hR.lt (fun x => x)
  replace hb := hb.fr hfy
  replace hli := hli.fr hfy
  replace hpr := hpr.fr hfy
  replace ht := ht.fr hfy
  replace hrt := hrt.fr hfy
  replace hvu := hvu.fr hfy
  replace hn := hn.fr hfy
  replace hf := hf.step hfy hf.size (fun _ _ x => absurd x (fun x => x))
  clear hfy
  have fk : FarS c vk := FarS.empty hvk0
  go_wp2_with fail
  have HSB : Hid (∀ w' v, VB w' c 75 (stV (.slice (some ⟨g, 0, none⟩) 1 cap) wa (.slice none 0 0) rt 2 s 1 li tg le pr vt A) → VB w' g 106 LA → Sl w' .u8 v (digs (2 ^ 128)) → Sl w' .u8 n1 (digs 1) → Calls Sang.prog 79 #[.pointer (some ⟨c, 0, none⟩), .agg (byV A).toArray, v] w' fun e w'' => e = .returned (.tuple #[]) ∧ ∃ g2 cap2 LA', VB w'' c 75 (stV (.slice (some ⟨g2, 0, none⟩) 1 cap2) wa (.slice none 0 0) rt 2 s 1 li tg le pr vt A) ∧ VB w'' g2 106 LA' ∧ subV LA' 0 24 = acV A n1 v (.slice none 0 0) (.slice none 0 0) ∧ 24 ≤ LA'.length ∧ w'.heap.size ≤ g2 ∧ Fr w'.heap.size (· = c) w' w'') := fun w' v q1 q2 q3 q4 => setBalance_hit c 75 _ LA g cap A n1 b1 w' q1 rfl q2 lA hs hl q4.one hb.one v 1 (2 ^ 128) q3 q4 (by decide)
  have HAc : Hid (∀ w', VB w' c 75 (stV (.slice (some ⟨g, 0, none⟩) 1 cap) wa (.slice none 0 0) rt 2 s 1 li tg le pr vt A) → VB w' g 106 LA → Calls Sang.prog 72 #[.pointer (some ⟨c, 0, none⟩), .agg (byV A).toArray] w' fun e w'' => e = .returned (.agg (acV A n1 b1 (.slice none 0 0) (.slice none 0 0)).toArray) ∧ Fr w'.heap.size no w' w'') := fun w' g1 g2 => account_hit c 75 _ LA g cap A n1 b1 (.slice none 0 0) (.slice none 0 0) w' g1 rfl g2 lA hs hl hn.one hb.one rfl rfl
  go_cut [63] (fun s63 wx => ∃ g2 cap2 LA2 b2, VB wx c 75 (stV (.slice (some ⟨g2, 0, none⟩) 1 cap2) wa (.slice none 0 0) rt 2 s 1 li tg le pr vt A) ∧ VB wx g2 106 LA2 ∧ subV LA2 0 24 = acV A n1 b2 (.slice none 0 0) (.slice none 0 0) ∧ 24 ≤ LA2.length ∧ Sl wx .u8 b2 (digs (2 ^ 128)) ∧ FarS c b2 ∧ c ≠ g2 ∧ Fr w7.heap.size (· = c) w7 wx)
  case first =>
    have hd := h.drew
    have hAd := hA.drew
    have lst : (stV (.slice (some ⟨g, 0, none⟩) 1 cap) wa (.slice none 0 0) rt 2 s 1 li tg le pr vt A).length = 179 := stV_length _ _ _ _ _ _ _ _ _ _ _ _ _ lA
    have e19 : subV (stV (.slice (some ⟨g, 0, none⟩) 1 cap) wa (.slice none 0 0) rt 2 s 1 li tg le pr vt A) 19 20 = byV A := st_origin _ _ _ _ _ _ _ _ _ _ _ _ _ lA
    have q := hd.q
    have m2 := acV_bal A n1 b1 (.slice none 0 0) (.slice none 0 0) lA
    have hbd : Sl w7.drew .u8 b1 (digs (2 ^ 128)) := hb
    have hkd : Sl w7.drew .u8 vk (digs 0) := hvk0
    have hnd : Sl w7.drew .u8 n1 (digs 1) := hn
    have HAcD : Hid (Calls Sang.prog 72 #[.pointer (some ⟨c, 0, none⟩), .agg (byV A).toArray] w7.drew fun e w'' => e = .returned (.agg (acV A n1 b1 (.slice none 0 0) (.slice none 0 0)).toArray) ∧ Fr w7.drew.heap.size no w7.drew w'') := HAc.out w7.drew hd hAd
    generalize hMe : acV A n1 b1 (.slice none 0 0) (.slice none 0 0) = M at m2 HAcD
    have hfd := fun w => fld106_2 M b1 w m2
    have Hd : Hid (VB w7.drew c 75 (stV (.slice (some ⟨g, 0, none⟩) 1 cap) wa (.slice none 0 0) rt 2 s 1 li tg le pr vt A)) := hd
    have HVS : Hid (∀ w', VB w' c 75 (stV (.slice (some ⟨g, 0, none⟩) 1 cap) wa (.slice none 0 0) rt 2 s 1 li tg le pr vt A) → blk w' c = stV (.slice (some ⟨g, 0, none⟩) 1 cap) wa (.slice none 0 0) rt 2 s 1 li tg le pr vt A ∧ typ w' c = 75 ∧ okb w' c = true) := fun w' h => h.q
    clear hd
    generalize hSS : stV (.slice (some ⟨g, 0, none⟩) 1 cap) wa (.slice none 0 0) rt 2 s 1 li tg le pr vt A = SS at q lst e19 Hd HVS HSB
    go_region_with (first
      | (go_at_call 72; (with_reducible refine (HAcD.out).mono ?_); rintro e w8 ⟨rfl, hf8⟩; have h8 := Hd.out.fr hf8 Hd.out.lt (fun x => x); have q8 := HVS.out _ h8; have hA8 := hAd.fr hf8 hAd.lt (fun x => x); have hb8 := hbd.fr hf8; have hk8 := hkd.fr hf8; have hn8 := hnd.fr hf8)
      | (go_at_call 78; (with_reducible refine (addN_any b1 vk (2 ^ 128) 0 w8 hb8 hk8 HR1.out.2.1 HR1.out.1).mono ?_); rintro e w9 ⟨b2, rfl, hb2, hf9⟩; have h9 := h8.fr hf9 h8.lt (fun x => x); have q9 := HVS.out _ h9; have hA9 := hA8.fr hf9 hA8.lt (fun x => x); have hn9 := hn8.fr hf9; have hb9 : Sl w9 .u8 b2 (digs (2 ^ 128)) := hb2)
      | (go_at_call 79; (with_reducible refine (HSB.out w9 b2 h9 hA9 hb9 hn9).mono ?_); rintro e w10 ⟨rfl, g2, cap2, LA2, h10, hA10, hs10, hl10, hg10, hf10⟩))
    all_goals (
      go_wp2_with fail
      go_meet
      have h9' := h9
      rw [← hSS] at h9'
      have fb2 : FarS c b2 := far_top h9' lA (noU8.slice _ _ _) nwa (noU8.slice _ _ _) nrt nli ntg nle npr (noU8.sl ht) hb9 1 t128 (by decide) (by decide) (by decide) HS1.out HA1.out (.inr (by rw [digs128]; decide))
      exact ⟨g2, cap2, LA2, b2, h10, hA10, hs10, hl10, hb9.frS fb2 hf10, fb2, (by have := h9.lt; omega), (Fr.weak (X := (· = c)) (((Fr.refl _ _ _).drew.step hf8 (Nat.le_refl _) (fun _ _ x => x)).step hf9 (Nat.le_trans (Nat.le_refl _) hf8.size) (fun _ _ x => x))).step hf10 (Nat.le_trans hf8.size hf9.size) (fun _ _ x => x)⟩)
  case rest =>
  obtain ⟨g2, cap2, LA2, b2, h10, hA10, hs10, hl10, hb10, fb2, nc2, hfz⟩ := hcut
  clear HSB HAc hA hb fb hs hl
  have h13 := h.cell 13 rfl
  replace h : VB _ c 75 (stV (.slice (some ⟨g2, 0, none⟩) 1 cap2) wa (.slice none 0 0) rt 2 s 1 li tg le pr vt A) := h10
  replace hR := hR.fr hfz hR.lt (fun e => ncR e.symm)
  replace hli := hli.frS fli hfz
  replace hpr := hpr.frS fpr hfz
  replace ht := ht.frS ft hfz
  replace hrt := hrt.frS frt hfz
  replace hvu := hvu.frS fu hfz
  replace hvk0 := hvk0.frS fk hfz
  replace hn := hn.frX fn hfz ((h.cell 13 rfl).trans h13.symm)
  clear h13
  replace hf := hf.step hfz hf.size (fun _ _ x => x)
  clear h10 hfz
  go_wp2_with fail
  have hprd : Sl wc.drew .u8 pr (digs 0) := hpr
  have hvud : Sl wc.drew .u8 vu (digs U) := hvu
  have hcd := h.drew
  have hSall : ∀ w', Fr wc.heap.size no wc w' → (Fr wc.heap.size no wc w' ∧ w'.cell? ⟨c, 17, none⟩ = some pr) := fun w' f => ⟨f, (h.fr f h.lt (fun x => x)).cell 17 rfl⟩
  have hx0 := hSall wc.drew (Fr.refl _ _ _).drew
  go_region_held3 (fun w' => Fr wc.heap.size no wc w' ∧ w'.cell? ⟨c, 17, none⟩ = some pr)
    (first | exact hx0 | exact hSall _ hfz | exact hSall _ hfy | exact hSall _ hfx)
    (first
      | (go_at_call 89; (with_reducible refine (HBF.out wc.drew _ hcd (st_fee _ _ _ _ _ _ _ _ _ _ _ _ _ lA)).mono ?_); rintro e w11 ⟨v11, rfl, hv11, hf11⟩; have hfx : Fr wc.heap.size no wc w11 := (Fr.refl _ _ _).drew.step hf11 (Nat.le_refl _) (fun _ _ x => x); have hpr11 := hprd.fr hf11; have hvu11 := hvud.fr hf11)
      | (go_at_call 74; (with_reducible refine (less_any pr v11 0 0 w11 hpr11 hv11 HL0.out).mono ?_); rintro e w12 ⟨v12, rfl, hv12, hf12⟩; have hfy := hfx.step hf12 hfx.size (fun _ _ x => x); have hvu12 := hvu11.fr hf12; have hv12z : Sl w12 .u8 v12 (digs 0) := hv12)
      | (go_at_call 80; (with_reducible refine (mulN_any vu v12 U 0 w12 hvu12 hv12z HRU.out HR1.out.1).mono ?_); rintro e w13 ⟨vf, rfl, hvf, hf13⟩; have hfz := hfy.step hf13 hfy.size (fun _ _ x => x)))
  clear hSall hx0
  have hvf0 : Sl w13 .u8 vf (digs 0) := hvf
  clear hprd hvud hcd hf11 hf12 hf13 hv11 hv12 hv12z hpr11 hvu11 hvu12 hvf hfx hfy
  replace h := h.fr hfz h.lt (fun x => x)
  replace hR := hR.fr hfz hR.lt (fun x => x)
  replace hA10 := hA10.fr hfz hA10.lt (fun x => x)
  replace hli := hli.fr hfz
  replace hpr := hpr.fr hfz
  replace ht := ht.fr hfz
  replace hrt := hrt.fr hfz
  replace hvu := hvu.fr hfz
  replace hvk0 := hvk0.fr hfz
  replace hb10 := hb10.fr hfz
  replace hn := hn.fr hfz
  replace hf := hf.step hfz hf.size (fun _ _ x => absurd x (fun x => x))
  clear hfz
  have ff : FarS c vf := FarS.empty hvf0
  go_wp2_with fail
  go_cut [90] (fun s90 wx => ∃ vt2 wy, wx = wy.setCell ⟨c, 18, none⟩ vt2 ∧ vt2.oneCell' = true ∧ noU8 vt2 ∧ Fr w13.heap.size no w13 wy)
  case first =>
    have hd := h.drew
    have k18 := hd.cell 18 rfl
    have k17 := hd.cell 17 rfl
    have hprd : Sl w13.drew .u8 pr (digs 0) := hpr
    have hvud : Sl w13.drew .u8 vu (digs U) := hvu
    have hvfd : Sl w13.drew .u8 vf (digs 0) := hvf0
    have htd : Sl w13.drew .u8 vt (digs (2 ^ 128)) := ht
    have HK18 : Hid (∀ w', VB w' c 75 (stV (.slice (some ⟨g2, 0, none⟩) 1 cap2) wa (.slice none 0 0) rt 2 s 1 li tg le pr vt A) → w'.cell? ⟨c, 18, none⟩ = some vt ∧ w'.frozen? ⟨c, 18, none⟩ = false) := fun w' q => ⟨q.cell 18 rfl, q.unfrozen 18⟩
    have Hd : Hid (VB w13.drew c 75 (stV (.slice (some ⟨g2, 0, none⟩) 1 cap2) wa (.slice none 0 0) rt 2 s 1 li tg le pr vt A)) := hd
    clear hd
    go_region_with (first
      | (go_at_call 80; (with_reducible refine (mulN_any vu pr U 0 w13.drew hvud hprd HRU.out HR1.out.1).mono ?_); rintro e w14 ⟨v14, rfl, hv14, hf14⟩; have h14 := Hd.out.fr hf14 Hd.out.lt (fun x => x); have k14 := HK18.out _ h14; have H14 : Hid (VB w14 c 75 _) := h14; clear h14; have hvf14 := hvfd.fr hf14; have ht14 := htd.fr hf14; have hv14z : Sl w14 .u8 v14 (digs 0) := hv14)
      | (go_at_call 74; (with_reducible refine (less_any v14 vf 0 0 w14 hv14z hvf14 HL0.out).mono ?_); rintro e w15 ⟨v15, rfl, hv15, hf15⟩; have h15 := H14.out.fr hf15 H14.out.lt (fun x => x); have k15 := HK18.out _ h15; have H15 : Hid (VB w15 c 75 _) := h15; clear h15; have ht15 := ht14.fr hf15; have hv15z : Sl w15 .u8 v15 (digs 0) := hv15)
      | (go_at_call 74; (with_reducible refine (less_any vt v15 (2 ^ 128) 0 w15 ht15 hv15z HL8.out).mono ?_); rintro e w16 ⟨vt2, rfl, hvt2, hf16⟩; have h16 := H15.out.fr hf16 H15.out.lt (fun x => x); have k16 := HK18.out _ h16; have ovt := hvt2.one; clear h16))
    all_goals (
      go_wp2_with fail
      go_meet
      exact ⟨vt2, w16, rfl, hvt2.one, noU8.sl hvt2, (((Fr.refl _ _ _).drew.step hf14 (Nat.le_refl _) (fun _ _ x => x)).step hf15 hf14.size (fun _ _ x => x)).step hf16 (Nat.le_trans hf14.size hf15.size) (fun _ _ x => x)⟩)
  case rest =>
  obtain ⟨vt2, wy, rfl, ovt, nvt, hfx⟩ := hcut
  clear ht ft
  replace h := h.fr hfx h.lt (fun x => x)
  replace hR := hR.fr hfx hR.lt (fun x => x)
  replace hA10 := hA10.fr hfx hA10.lt (fun x => x)
  replace hli := hli.fr hfx
  replace hpr := hpr.fr hfx
  replace hrt := hrt.fr hfx
  replace hvu := hvu.fr hfx
  replace hvk0 := hvk0.fr hfx
  replace hb10 := hb10.fr hfx
  replace hvf0 := hvf0.fr hfx
  replace hn := hn.fr hfx
  replace hf := hf.step hfx hf.size (fun _ _ x => absurd x (fun x => x))
  clear hfx
  have h13 := h.cell 13 rfl
  have hfs : Fr wy.heap.size (· = c) wy (wy.setCell ⟨c, 18, none⟩ vt2) := (Fr.refl _ (· = c) _).setCell (.inr rfl) _
  replace h : VB (wy.setCell ⟨c, 18, none⟩ vt2) c 75 (stV (.slice (some ⟨g2, 0, none⟩) 1 cap2) wa (.slice none 0 0) rt 2 s 1 li tg le pr vt2 A) := h.set (i := 18) (by rw [stV_length _ _ _ _ _ _ _ _ _ _ _ _ _ lA]; decide) vt2
  replace hR := hR.other (a := ⟨c, 18, none⟩) (by simpa using ncR) vt2
  replace hA10 := hA10.other (a := ⟨c, 18, none⟩) (by simpa using nc2) vt2
  replace hli := hli.frS fli hfs
  replace hpr := hpr.frS fpr hfs
  replace hrt := hrt.frS frt hfs
  replace hvu := hvu.frS fu hfs
  replace hvk0 := hvk0.frS fk hfs
  replace hb10 := hb10.frS fb2 hfs
  replace hvf0 := hvf0.frS ff hfs
  replace hn := hn.frX fn hfs ((h.cell 13 rfl).trans h13.symm)
  replace hf := hf.setCell (p := ⟨c, 18, none⟩) (.inr rfl) vt2
  clear hfs
  clear h13
  generalize wy.setCell ⟨c, 18, none⟩ vt2 = w17 at h hR hA10 hli hpr hrt hvu hvk0 hb10 hvf0 hn hf ⊢
  go_wp2_with fail
  have HSB : Hid (∀ w' v, VB w' c 75 (stV (.slice (some ⟨g2, 0, none⟩) 1 cap2) wa (.slice none 0 0) rt 2 s 1 li tg le pr vt2 A) → VB w' g2 106 LA2 → Sl w' .u8 v (digs 0) → Calls Sang.prog 79 #[.pointer (some ⟨c, 0, none⟩), .agg (byV C).toArray, v] w' fun e w'' => e = .returned (.tuple #[]) ∧ ∃ g3 cap3 LA', VB w'' c 75 (stV (.slice (some ⟨g3, 0, none⟩) 1 cap3) wa (.slice none 0 0) rt 2 s 1 li tg le pr vt2 A) ∧ VB w'' g3 106 LA' ∧ subV LA' 0 24 = acV A n1 b2 (.slice none 0 0) (.slice none 0 0) ∧ 24 ≤ LA'.length ∧ w'.heap.size ≤ g3 ∧ Fr w'.heap.size (· = c) w' w'') := fun w' v q1 q2 q3 => setBalance_miss c 75 _ LA2 g2 cap2 A n1 b2 w' q1 rfl q2 lA hs10 hl10 hn.one hb10.one C lC HAC.out v q3
  go_cut [109] (fun s109 wx => ∃ g3 cap3, VB wx c 75 (stV (.slice (some ⟨g3, 0, none⟩) 1 cap3) wa (.slice none 0 0) rt 2 s 1 li tg le pr vt2 A) ∧ Fr w17.heap.size (· = c) w17 wx)
  case first =>
    have hd := h.drew
    have hAd := hA10.drew
    have lst : (stV (.slice (some ⟨g2, 0, none⟩) 1 cap2) wa (.slice none 0 0) rt 2 s 1 li tg le pr vt2 A).length = 179 := stV_length _ _ _ _ _ _ _ _ _ _ _ _ _ lA
    have e59 : subV (stV (.slice (some ⟨g2, 0, none⟩) 1 cap2) wa (.slice none 0 0) rt 2 s 1 li tg le pr vt2 A) 59 20 = byV C := by rw [← HC.out ()]; exact st_coin _ _ _ _ _ _ _ _ _ _ _ _ _ lA
    have q := hd.q
    have m2 := acV_bal C (.slice none 0 0) (.slice none 0 0) (.slice none 0 0) (.slice none 0 0) lC
    have hkd : Sl w17.drew .u8 vf (digs 0) := hvf0
    have HAcD : Hid (Calls Sang.prog 72 #[.pointer (some ⟨c, 0, none⟩), .agg (byV C).toArray] w17.drew fun e w'' => e = .returned (.agg (acV C (.slice none 0 0) (.slice none 0 0) (.slice none 0 0) (.slice none 0 0)).toArray) ∧ Fr w17.drew.heap.size no w17.drew w'') := account_miss c 75 _ LA2 g2 cap2 A C n1 b2 (.slice none 0 0) (.slice none 0 0) w17.drew hd rfl hAd lA lC HAC.out hs10 hl10 hn.one hb10.one rfl rfl
    generalize hMe : acV C (.slice none 0 0) (.slice none 0 0) (.slice none 0 0) (.slice none 0 0) = M at m2 HAcD
    have hfd := fun w => fld106_2 M (.slice none 0 0) w m2
    have Hd : Hid (VB w17.drew c 75 (stV (.slice (some ⟨g2, 0, none⟩) 1 cap2) wa (.slice none 0 0) rt 2 s 1 li tg le pr vt2 A)) := hd
    have HVS : Hid (∀ w', VB w' c 75 (stV (.slice (some ⟨g2, 0, none⟩) 1 cap2) wa (.slice none 0 0) rt 2 s 1 li tg le pr vt2 A) → blk w' c = stV (.slice (some ⟨g2, 0, none⟩) 1 cap2) wa (.slice none 0 0) rt 2 s 1 li tg le pr vt2 A ∧ typ w' c = 75 ∧ okb w' c = true) := fun w' h => h.q
    clear hd
    generalize hSS : stV (.slice (some ⟨g2, 0, none⟩) 1 cap2) wa (.slice none 0 0) rt 2 s 1 li tg le pr vt2 A = SS at q lst e59 Hd HVS HSB
    go_region_with (first
      | (go_at_call 72; (with_reducible refine (HAcD.out).mono ?_); rintro e w18 ⟨rfl, hf18⟩; have h18 := Hd.out.fr hf18 Hd.out.lt (fun x => x); have q18 := HVS.out _ h18; have hA18 := hAd.fr hf18 hAd.lt (fun x => x); have hk18 := hkd.fr hf18)
      | (go_at_call 78; (with_reducible refine (addN_any (.slice none 0 0) vf 0 0 w18 (Sl.nil _ _) hk18 HR1.out.1 HR1.out.1).mono ?_); rintro e w19 ⟨b3, rfl, hb3, hf19⟩; have h19 := h18.fr hf19 h18.lt (fun x => x); have q19 := HVS.out _ h19; have hA19 := hA18.fr hf19 hA18.lt (fun x => x); have hb3z : Sl w19 .u8 b3 (digs 0) := hb3)
      | (go_at_call 79; (with_reducible refine (HSB.out w19 b3 h19 hA19 hb3z).mono ?_); rintro e w20 ⟨rfl, g3, cap3, LA3, h20, hA20, hs20, hl20, hg20, hf20⟩))
    all_goals (
      go_wp2_with fail
      go_meet
      exact ⟨g3, cap3, h20, (Fr.weak (X := (· = c)) (((Fr.refl _ _ _).drew.step hf18 (Nat.le_refl _) (fun _ _ x => x)).step hf19 hf18.size (fun _ _ x => x))).step hf20 (Nat.le_trans hf18.size hf19.size) (fun _ _ x => x)⟩)
  case rest =>
  obtain ⟨g3, cap3, h20, hfz⟩ := hcut
  clear HSB hA10 hb10 hn hs10 hl10
  clear hli hpr hvk0 hvf0
  replace h : VB _ c 75 (stV (.slice (some ⟨g3, 0, none⟩) 1 cap3) wa (.slice none 0 0) rt 2 s 1 li tg le pr vt2 A) := h20
  replace hR := hR.fr hfz hR.lt (fun e => ncR e.symm)
  replace hrt := hrt.frS frt hfz
  replace hvu := hvu.frS fu hfz
  replace hf := hf.step hfz hf.size (fun _ _ x => x)
  clear h20 hfz
  go_wp2_with fail
  go_cut [8] (fun s8 wx => ∃ j8 out, s8 = .pointer (some ⟨j8, 0, none⟩) ∧ VB wx j8 37 (rcV s 0 out) ∧ Sl wx .u8 out O ∧ Nw wc.heap.size out ∧ wc.heap.size ≤ j8 ∧ FarS j8 out ∧ Fr wc.heap.size no wc wx)
  case first =>
    have HBo : Hid (∀ w', Fr wc.heap.size no wc w' → Calls Sang.prog 49 #[rt] w' (fun e w'' => ∃ v', e = .returned v' ∧ Sl w'' .u8 v' O ∧ Nw w'.heap.size v' ∧ Fr w'.heap.size no w' w'')) := fun w' f => bytesOf_new rt O w' (hrt.fr f) lO
    have HLg : Hid (∀ w, Calls Sang.prog 90 #[.slice none 0 0] w fun e w' => e = .returned (.slice none 0 0) ∧ w' = w) := logsOf_nil
    have hSall : ∀ w', Fr wc.heap.size no wc w' → (Fr wc.heap.size no wc w' ∧ w'.cell? ⟨c, 12, none⟩ = some (.int .u8 (s : Int)) ∧ w'.cell? ⟨c, 10, none⟩ = some rt ∧ w'.cell? ⟨c, 4, none⟩ = some (.slice none 0 0)) := fun w' f => ⟨f, (h.fr f h.lt (fun x => x)).cell 12 rfl, (h.fr f h.lt (fun x => x)).cell 10 rfl, (h.fr f h.lt (fun x => x)).cell 4 rfl⟩
    have hz : VB (wc.alloc (.cells #[Value.int IntKind.u8 0, Value.int IntKind.u8 0, Value.int IntKind.u64 0, Value.slice none 0 0, Value.slice none 0 0, Value.int IntKind.u8 0, Value.int IntKind.u8 0, Value.int IntKind.u8 0, Value.int IntKind.u8 0, Value.int IntKind.u8 0, Value.int IntKind.u8 0, Value.int IntKind.u8 0, Value.int IntKind.u8 0, Value.int IntKind.u8 0, Value.int IntKind.u8 0, Value.int IntKind.u8 0, Value.int IntKind.u8 0, Value.int IntKind.u8 0, Value.int IntKind.u8 0, Value.int IntKind.u8 0, Value.int IntKind.u8 0, Value.int IntKind.u8 0, Value.int IntKind.u8 0, Value.int IntKind.u8 0, Value.int IntKind.u8 0] 37)).drew wc.heap.size 37 (rcV 0 0 (.slice none 0 0)) := (VB.newAt rfl (by rfl) : VB (wc.alloc (.cells #[Value.int IntKind.u8 0, Value.int IntKind.u8 0, Value.int IntKind.u64 0, Value.slice none 0 0, Value.slice none 0 0, Value.int IntKind.u8 0, Value.int IntKind.u8 0, Value.int IntKind.u8 0, Value.int IntKind.u8 0, Value.int IntKind.u8 0, Value.int IntKind.u8 0, Value.int IntKind.u8 0, Value.int IntKind.u8 0, Value.int IntKind.u8 0, Value.int IntKind.u8 0, Value.int IntKind.u8 0, Value.int IntKind.u8 0, Value.int IntKind.u8 0, Value.int IntKind.u8 0, Value.int IntKind.u8 0, Value.int IntKind.u8 0, Value.int IntKind.u8 0, Value.int IntKind.u8 0, Value.int IntKind.u8 0, Value.int IntKind.u8 0] 37)) wc.heap.size 37 (rcV 0 0 (.slice none 0 0))).drew
    have hzl : wc.heap.size ≤ wc.heap.size := Nat.le_refl _
    have hzL : (rcV 0 0 (.slice none 0 0)).length = 25 := by kernel_rfl
    have q := hz.q
    have hx0 := hSall wc.drew (Fr.refl _ _ _).drew
    have hx1 := hSall (wc.alloc (.cells #[Value.int IntKind.u8 0, Value.int IntKind.u8 0, Value.int IntKind.u64 0, Value.slice none 0 0, Value.slice none 0 0, Value.int IntKind.u8 0, Value.int IntKind.u8 0, Value.int IntKind.u8 0, Value.int IntKind.u8 0, Value.int IntKind.u8 0, Value.int IntKind.u8 0, Value.int IntKind.u8 0, Value.int IntKind.u8 0, Value.int IntKind.u8 0, Value.int IntKind.u8 0, Value.int IntKind.u8 0, Value.int IntKind.u8 0, Value.int IntKind.u8 0, Value.int IntKind.u8 0, Value.int IntKind.u8 0, Value.int IntKind.u8 0, Value.int IntKind.u8 0, Value.int IntKind.u8 0, Value.int IntKind.u8 0, Value.int IntKind.u8 0] 37)).drew (((Fr.refl _ _ _).alloc (Nat.le_refl _) _).drew)
    go_region_held3 (fun w' => Fr wc.heap.size no wc w' ∧ w'.cell? ⟨c, 12, none⟩ = some (.int .u8 (s : Int)) ∧ w'.cell? ⟨c, 10, none⟩ = some rt ∧ w'.cell? ⟨c, 4, none⟩ = some (.slice none 0 0))
      (first
        | exact hx0
        | exact hx1
        | exact hSall _ ((‹Fr wc.heap.size no wc _ ∧ _›).1.step hfx (‹Fr wc.heap.size no wc _ ∧ _›).1.size (fun _ _ x => x))
        | exact hSall _ ((‹Fr wc.heap.size no wc _ ∧ _›).1.alloc (‹Fr wc.heap.size no wc _ ∧ _›).1.size _)
        | exact hSall _ (‹Fr wc.heap.size no wc _ ∧ _›).1
        | exact hSall _ ((‹Fr wc.heap.size no wc _ ∧ _›).1.setV (.inl hzl) _ _))
      (first
        | (go_at_call 49; (with_reducible refine (HBo.out _ (‹Fr wc.heap.size no wc _ ∧ _›).1).mono ?_); rintro e w7 ⟨out, rfl, hs7, hN7, hfx⟩; have hN7' := hN7.mono (‹Fr wc.heap.size no wc _ ∧ _›).1.size; (first | (have hoj : FarS wc.heap.size out := FarS.fresh hN7 hz.lt; have hz := hz.fr hfx hz.lt (fun x => x)) | (have hzl : wc.heap.size ≤ w7.heap.size := Nat.le_trans (‹Fr wc.heap.size no wc _ ∧ _›).1.size hfx.size; have hoj : FarS w7.heap.size out := FarS.old hs7 (Nat.le_refl _); have hz : VB (w7.alloc (.cells #[Value.int IntKind.u8 0, Value.int IntKind.u8 0, Value.int IntKind.u64 0, Value.slice none 0 0, Value.slice none 0 0, Value.int IntKind.u8 0, Value.int IntKind.u8 0, Value.int IntKind.u8 0, Value.int IntKind.u8 0, Value.int IntKind.u8 0, Value.int IntKind.u8 0, Value.int IntKind.u8 0, Value.int IntKind.u8 0, Value.int IntKind.u8 0, Value.int IntKind.u8 0, Value.int IntKind.u8 0, Value.int IntKind.u8 0, Value.int IntKind.u8 0, Value.int IntKind.u8 0, Value.int IntKind.u8 0, Value.int IntKind.u8 0, Value.int IntKind.u8 0, Value.int IntKind.u8 0, Value.int IntKind.u8 0, Value.int IntKind.u8 0] 37)) w7.heap.size 37 (rcV 0 0 (.slice none 0 0)) := VB.newAt rfl (by rfl))); have q := hz.q; have hbd := fun w => bld37 w s out hs7.one; have hFl' := rcV_flat s 0 out hs7.one; have hLn' : (rcV s 0 out).length = 25 := rcV_length _ _ _; have la : layV (rcV 0 0 (.slice none 0 0)) 0 (rcV s 0 out) = rcV s 0 out := layV_all _ _ (by rw [hzL, hLn']))
        | (go_at_call 90; (with_reducible refine (HLg.out _).mono ?_); rintro e w' ⟨rfl, rfl⟩))
    all_goals (
      go_wp2_with fail
      go_meet
      refine ⟨_, out, rfl, VB.setV hz.lt _ _, ?_, hN7', hzl, hoj, (‹Fr wc.heap.size no wc _ ∧ _›).1⟩
      first
        | exact hs7.frS hoj ((Fr.refl _ (· = _) _).setV (.inr rfl) _ _)
        | exact (hs7.alloc _).frS hoj ((Fr.refl _ (· = _) _).setV (.inr rfl) _ _))
  case rest =>
  obtain ⟨j8, out, rfl, h8, hout, hNo, hj8, foj, hfx⟩ := hcut
  have nc8 : c ≠ j8 := by have := h.lt; omega
  have n8R : w.heap.size ≠ j8 := by have := hR.lt; omega
  have foc : FarS c out := FarS.fresh hNo h.lt
  have foR : FarS w.heap.size out := FarS.fresh hNo hR.lt
  have hNw := hNo.mono hf.size
  have hj8w := Nat.le_trans hf.size hj8
  replace h := h.fr hfx h.lt (fun x => x)
  replace hR := hR.fr hfx hR.lt (fun x => x)
  replace hrt := hrt.fr hfx
  replace hvu := hvu.fr hfx
  replace hf := hf.step hfx hf.size (fun _ _ x => absurd x (fun x => x))
  clear hfx
  go_wp2_with fail
  refine (small_any vu U wc hvu HUW.out).mono ?_
  rintro e w21 ⟨rfl, rfl⟩
  clear hvu fu hrt frt
  rcases hs02 with rfl | rfl
  · have h8c : VB (w21.setCell ⟨j8, 2, none⟩ (.int .u64 (U : Int))) j8 37 (rcV 0 U out) := h8.set (i := 2) (by rw [rcV_length]; decide) (.int .u64 (U : Int))
    have k2 := h8.cell 2 rfl
    have z2 := h8.unfrozen 2
    have hf8 : Fr w21.heap.size (· = j8) w21 (w21.setCell ⟨j8, 2, none⟩ (.int .u64 (U : Int))) := (Fr.refl _ (· = j8) _).setCell (.inr rfl) _
    have hc8 := h.fr hf8 h.lt (fun e => nc8 e)
    have hR8 := hR.fr hf8 hR.lt (fun e => n8R e)
    have ho8 := hout.frS foj hf8
    have k12 := hc8.cell 12 rfl
    have qc := hc8.q
    have lst : (stV (.slice (some ⟨g3, 0, none⟩) 1 cap3) wa (.slice none 0 0) rt 2 0 1 li tg le pr vt2 A).length = 179 := stV_length _ _ _ _ _ _ _ _ _ _ _ _ _ lA
    have e39 : subV (stV (.slice (some ⟨g3, 0, none⟩) 1 cap3) wa (.slice none 0 0) rt 2 0 1 li tg le pr vt2 A) 39 20 = Zv := by rw [← HZv.out ()]; exact st_made _ _ _ _ _ _ _ _ _ _ _ _ _ lA
    have q8 := h8c.q
    have l8 : (rcV 0 U out).length = 25 := rcV_length _ _ _
    have la5 : layV (rcV 0 U out) 5 Zv = rcV 0 U out := by rw [← HZv.out ()]; exact rcV_lay5 _ _ _
    have s8 := setV_self h8c
    generalize hSS : stV (.slice (some ⟨g3, 0, none⟩) 1 cap3) wa (.slice none 0 0) rt 2 0 1 li tg le pr vt2 A = SS at qc lst e39
    generalize hR8e : rcV 0 U out = RR at q8 l8 la5 s8
    go_wp2_with fail
    clear qc lst e39 q8 l8 la5 s8
    subst hSS
    clear k2 z2 k12
    generalize w21.setCell ⟨j8, 2, none⟩ (.int .u64 (U : Int)) = w22 at h8c hc8 hR8 ho8 hf8 ⊢
    refine (goes_nil c 75 _ w22 hc8 rfl).mono ?_
    rintro e w23 ⟨rfl, rfl⟩
    have lst : (stV (.slice (some ⟨g3, 0, none⟩) 1 cap3) wa (.slice none 0 0) rt 2 0 1 li tg le pr vt2 A).length = 179 := stV_length _ _ _ _ _ _ _ _ _ _ _ _ _ lA
    have fst : Flat (stV (.slice (some ⟨g3, 0, none⟩) 1 cap3) wa (.slice none 0 0) rt 2 0 1 li tg le pr vt2 A) := stV_flat _ _ _ _ _ _ _ _ _ _ _ _ _ rfl owa rfl ort oli otg ole opr ovt
    have all : subV (stV (.slice (some ⟨g3, 0, none⟩) 1 cap3) wa (.slice none 0 0) rt 2 0 1 li tg le pr vt2 A) 0 179 = stV (.slice (some ⟨g3, 0, none⟩) 1 cap3) wa (.slice none 0 0) rt 2 0 1 li tg le pr vt2 A := by rw [← lst]; simp [subV]
    have qc := hc8.q
    have hN := VB.new w23 66 (stV (.slice (some ⟨g3, 0, none⟩) 1 cap3) wa (.slice none 0 0) rt 2 0 1 li tg le pr vt2 A)
    have qN := hN.q
    have n0 := hN.cell 0 rfl
    have n13 := hN.cell 13 rfl
    have n18 := hN.cell 18 rfl
    have e59 : subV (stV (.slice (some ⟨g3, 0, none⟩) 1 cap3) wa (.slice none 0 0) rt 2 0 1 li tg le pr vt2 A) 59 120 = E := by rw [← HE.out ()]; exact st_envs _ _ _ _ _ _ _ _ _ _ _ _ _ lA
    have hb66 : ∀ w, (Instr.build 66 #[(0, .agg (wdV (.slice (some ⟨g3, 0, none⟩) 1 cap3) (.slice none 0 0)).toArray), (6, .int .u8 1), (11, vt2), (14, .agg E.toArray)]).run Sang.prog w = .ok (.agg (stV (.slice (some ⟨g3, 0, none⟩) 1 cap3) (.slice none 0 0) (.slice none 0 0) (.slice none 0 0) 0 0 1 (.slice none 0 0) (.slice none 0 0) (.slice none 0 0) (.slice none 0 0) vt2 (List.replicate 20 0)).toArray) w := by rw [← HE.out ()]; exact fun w => bld66 w _ vt2 ovt
    have hb59 : ∀ w, (Instr.build 59 #[(0, .slice (some ⟨g3, 0, none⟩) 1 cap3)]).run Sang.prog w = .ok (.agg (wdV (.slice (some ⟨g3, 0, none⟩) 1 cap3) (.slice none 0 0)).toArray) w := fun w => bld59_0 w _ rfl
    have lnew : (stV (.slice (some ⟨g3, 0, none⟩) 1 cap3) (.slice none 0 0) (.slice none 0 0) (.slice none 0 0) 0 0 1 (.slice none 0 0) (.slice none 0 0) (.slice none 0 0) (.slice none 0 0) vt2 (List.replicate 20 0)).length = 179 := stV_length _ _ _ _ _ _ _ _ _ _ _ _ _ rfl
    have fnew : Flat (stV (.slice (some ⟨g3, 0, none⟩) 1 cap3) (.slice none 0 0) (.slice none 0 0) (.slice none 0 0) 0 0 1 (.slice none 0 0) (.slice none 0 0) (.slice none 0 0) (.slice none 0 0) vt2 (List.replicate 20 0)) := stV_flat _ _ _ _ _ _ _ _ _ _ _ _ _ rfl rfl rfl rfl rfl rfl rfl rfl ovt
    generalize stV (.slice (some ⟨g3, 0, none⟩) 1 cap3) (.slice none 0 0) (.slice none 0 0) (.slice none 0 0) 0 0 1 (.slice none 0 0) (.slice none 0 0) (.slice none 0 0) (.slice none 0 0) vt2 (List.replicate 20 0) = NS at hb66 lnew fnew
    generalize wdV (.slice (some ⟨g3, 0, none⟩) 1 cap3) (.slice none 0 0) = WD at hb66 hb59
    generalize hSS : stV (.slice (some ⟨g3, 0, none⟩) 1 cap3) wa (.slice none 0 0) rt 2 0 1 li tg le pr vt2 A = SS at lst fst all qc hN qN n0 n13 n18 e59
    have hCa := hc8.alloc (.cells SS.toArray 66)
    have qCa := hCa.q
    rw [hSS] at qCa
    have laN : layV SS 0 NS = NS := layV_all _ _ (by omega)
    have h8a := (h8c.alloc (.cells SS.toArray 66)).otherV (b' := c) (fun e => nc8 e.symm) 75 NS
    have hRa := (hR8.alloc (.cells SS.toArray 66)).otherV (b' := c) (fun e => ncR e.symm) 75 NS
    have q8a := h8a.q
    have qRa := hRa.q
    have l8 : (rcV 0 U out).length = 25 := rcV_length _ _ _
    have f8 := rcV_flat 0 U out hout.one
    have a8 : subV (rcV 0 U out) 0 25 = rcV 0 U out := rcV_all _ _ _
    have hzL : (rcV 0 0 (.slice none 0 0)).length = 25 := rcV_length _ _ _
    have la8 : layV (rcV 0 0 (.slice none 0 0)) 0 (rcV 0 U out) = rcV 0 U out := layV_all _ _ (by omega)
    have r0 : (rcV 0 U out)[0]? = some (.int .u8 0) := rfl
    have r1 : (rcV 0 U out)[1]? = some (.int .u8 0) := rfl
    have r2 : (rcV 0 U out)[2]? = some (.int .u64 (U : Int)) := rfl
    have r3 : (rcV 0 U out)[3]? = some out := rfl
    generalize rcV 0 U out = RR at q8a l8 f8 a8 la8 r0 r1 r2 r3 h8a h8c
    generalize rcV 0 0 (.slice none 0 0) = RZ at hzL la8 qRa hRa hR8
    have zsz := Z66.out
    go_wp2_with fail
    have hfin : Fr w23.heap.size (fun x => x = c ∨ x = w.heap.size) w23 (setV (setV (w23.alloc (.cells SS.toArray 66)) c 75 NS) w.heap.size 37 RR) := (((Fr.refl _ (fun x => x = c ∨ x = w.heap.size) _).alloc (Nat.le_refl _) _).setV (b := c) (.inr (.inl rfl)) _ _).setV (b := w.heap.size) (.inr (.inr rfl)) _ _
    have hi37 : (Sang.prog.info? 37).map (·.size) = some RR.length := by rw [l8]; exact siz37
    refine bodyPost_ret (results_cellV Sang.results29 rfl (VB.setV hRa.lt _ _) _ Sang.underlying37 rfl hi37) rfl ⟨RR, out, rfl, l8, f8, r0, r1, r2, r3, ?_, hNw, ?_⟩
    · refine Sl.fr2b ho8 ?_ hfin
      intro a n d e
      rcases foc a n d e with q | q
      · exact .inl q
      · rcases foR a n d e with q' | q'
        · exact .inl q'
        · exact .inr ⟨q, q'⟩
    · exact (hf.step hf8 hf.size (fun i hi e => absurd e (by omega))).step hfin (Nat.le_trans hf.size hf8.size) (fun i hi e => by
        rcases e with e | e
        · exact e
        · omega)
  · have h8c : VB (w21.setCell ⟨j8, 2, none⟩ (.int .u64 (U : Int))) j8 37 (rcV 2 U out) := h8.set (i := 2) (by rw [rcV_length]; decide) (.int .u64 (U : Int))
    have k2 := h8.cell 2 rfl
    have z2 := h8.unfrozen 2
    have hf8 : Fr w21.heap.size (· = j8) w21 (w21.setCell ⟨j8, 2, none⟩ (.int .u64 (U : Int))) := (Fr.refl _ (· = j8) _).setCell (.inr rfl) _
    have hc8 := h.fr hf8 h.lt (fun e => nc8 e)
    have hR8 := hR.fr hf8 hR.lt (fun e => n8R e)
    have ho8 := hout.frS foj hf8
    have k12 := hc8.cell 12 rfl
    go_wp2_with fail
    clear k2 z2 k12
    generalize w21.setCell ⟨j8, 2, none⟩ (.int .u64 (U : Int)) = w22 at h8c hc8 hR8 ho8 hf8 ⊢
    refine (goes_nil c 75 _ w22 hc8 rfl).mono ?_
    rintro e w23 ⟨rfl, rfl⟩
    have lst : (stV (.slice (some ⟨g3, 0, none⟩) 1 cap3) wa (.slice none 0 0) rt 2 2 1 li tg le pr vt2 A).length = 179 := stV_length _ _ _ _ _ _ _ _ _ _ _ _ _ lA
    have fst : Flat (stV (.slice (some ⟨g3, 0, none⟩) 1 cap3) wa (.slice none 0 0) rt 2 2 1 li tg le pr vt2 A) := stV_flat _ _ _ _ _ _ _ _ _ _ _ _ _ rfl owa rfl ort oli otg ole opr ovt
    have all : subV (stV (.slice (some ⟨g3, 0, none⟩) 1 cap3) wa (.slice none 0 0) rt 2 2 1 li tg le pr vt2 A) 0 179 = stV (.slice (some ⟨g3, 0, none⟩) 1 cap3) wa (.slice none 0 0) rt 2 2 1 li tg le pr vt2 A := by rw [← lst]; simp [subV]
    have qc := hc8.q
    have hN := VB.new w23 66 (stV (.slice (some ⟨g3, 0, none⟩) 1 cap3) wa (.slice none 0 0) rt 2 2 1 li tg le pr vt2 A)
    have qN := hN.q
    have n0 := hN.cell 0 rfl
    have n13 := hN.cell 13 rfl
    have n18 := hN.cell 18 rfl
    have e59 : subV (stV (.slice (some ⟨g3, 0, none⟩) 1 cap3) wa (.slice none 0 0) rt 2 2 1 li tg le pr vt2 A) 59 120 = E := by rw [← HE.out ()]; exact st_envs _ _ _ _ _ _ _ _ _ _ _ _ _ lA
    have hb66 : ∀ w, (Instr.build 66 #[(0, .agg (wdV (.slice (some ⟨g3, 0, none⟩) 1 cap3) (.slice none 0 0)).toArray), (6, .int .u8 1), (11, vt2), (14, .agg E.toArray)]).run Sang.prog w = .ok (.agg (stV (.slice (some ⟨g3, 0, none⟩) 1 cap3) (.slice none 0 0) (.slice none 0 0) (.slice none 0 0) 0 0 1 (.slice none 0 0) (.slice none 0 0) (.slice none 0 0) (.slice none 0 0) vt2 (List.replicate 20 0)).toArray) w := by rw [← HE.out ()]; exact fun w => bld66 w _ vt2 ovt
    have hb59 : ∀ w, (Instr.build 59 #[(0, .slice (some ⟨g3, 0, none⟩) 1 cap3)]).run Sang.prog w = .ok (.agg (wdV (.slice (some ⟨g3, 0, none⟩) 1 cap3) (.slice none 0 0)).toArray) w := fun w => bld59_0 w _ rfl
    have lnew : (stV (.slice (some ⟨g3, 0, none⟩) 1 cap3) (.slice none 0 0) (.slice none 0 0) (.slice none 0 0) 0 0 1 (.slice none 0 0) (.slice none 0 0) (.slice none 0 0) (.slice none 0 0) vt2 (List.replicate 20 0)).length = 179 := stV_length _ _ _ _ _ _ _ _ _ _ _ _ _ rfl
    have fnew : Flat (stV (.slice (some ⟨g3, 0, none⟩) 1 cap3) (.slice none 0 0) (.slice none 0 0) (.slice none 0 0) 0 0 1 (.slice none 0 0) (.slice none 0 0) (.slice none 0 0) (.slice none 0 0) vt2 (List.replicate 20 0)) := stV_flat _ _ _ _ _ _ _ _ _ _ _ _ _ rfl rfl rfl rfl rfl rfl rfl rfl ovt
    generalize stV (.slice (some ⟨g3, 0, none⟩) 1 cap3) (.slice none 0 0) (.slice none 0 0) (.slice none 0 0) 0 0 1 (.slice none 0 0) (.slice none 0 0) (.slice none 0 0) (.slice none 0 0) vt2 (List.replicate 20 0) = NS at hb66 lnew fnew
    generalize wdV (.slice (some ⟨g3, 0, none⟩) 1 cap3) (.slice none 0 0) = WD at hb66 hb59
    generalize hSS : stV (.slice (some ⟨g3, 0, none⟩) 1 cap3) wa (.slice none 0 0) rt 2 2 1 li tg le pr vt2 A = SS at lst fst all qc hN qN n0 n13 n18 e59
    have hCa := hc8.alloc (.cells SS.toArray 66)
    have qCa := hCa.q
    rw [hSS] at qCa
    have laN : layV SS 0 NS = NS := layV_all _ _ (by omega)
    have h8a := (h8c.alloc (.cells SS.toArray 66)).otherV (b' := c) (fun e => nc8 e.symm) 75 NS
    have hRa := (hR8.alloc (.cells SS.toArray 66)).otherV (b' := c) (fun e => ncR e.symm) 75 NS
    have q8a := h8a.q
    have qRa := hRa.q
    have l8 : (rcV 2 U out).length = 25 := rcV_length _ _ _
    have f8 := rcV_flat 2 U out hout.one
    have a8 : subV (rcV 2 U out) 0 25 = rcV 2 U out := rcV_all _ _ _
    have hzL : (rcV 0 0 (.slice none 0 0)).length = 25 := rcV_length _ _ _
    have la8 : layV (rcV 0 0 (.slice none 0 0)) 0 (rcV 2 U out) = rcV 2 U out := layV_all _ _ (by omega)
    have r0 : (rcV 2 U out)[0]? = some (.int .u8 0) := rfl
    have r1 : (rcV 2 U out)[1]? = some (.int .u8 2) := rfl
    have r2 : (rcV 2 U out)[2]? = some (.int .u64 (U : Int)) := rfl
    have r3 : (rcV 2 U out)[3]? = some out := rfl
    generalize rcV 2 U out = RR at q8a l8 f8 a8 la8 r0 r1 r2 r3 h8a h8c
    generalize rcV 0 0 (.slice none 0 0) = RZ at hzL la8 qRa hRa hR8
    have zsz := Z66.out
    go_wp2_with fail
    have hfin : Fr w23.heap.size (fun x => x = c ∨ x = w.heap.size) w23 (setV (setV (w23.alloc (.cells SS.toArray 66)) c 75 NS) w.heap.size 37 RR) := (((Fr.refl _ (fun x => x = c ∨ x = w.heap.size) _).alloc (Nat.le_refl _) _).setV (b := c) (.inr (.inl rfl)) _ _).setV (b := w.heap.size) (.inr (.inr rfl)) _ _
    have hi37 : (Sang.prog.info? 37).map (·.size) = some RR.length := by rw [l8]; exact siz37
    refine bodyPost_ret (results_cellV Sang.results29 rfl (VB.setV hRa.lt _ _) _ Sang.underlying37 rfl hi37) rfl ⟨RR, out, rfl, l8, f8, r0, r1, r2, r3, ?_, hNw, ?_⟩
    · refine Sl.fr2b ho8 ?_ hfin
      intro a n d e
      rcases foc a n d e with q | q
      · exact .inl q
      · rcases foR a n d e with q' | q'
        · exact .inl q'
        · exact .inr ⟨q, q'⟩
    · exact (hf.step hf8 hf.size (fun i hi e => absurd e (by omega))).step hfin (Nat.le_trans hf.size hf8.size) (fun i hi e => by
        rcases e with e | e
        · exact e
        · omega)
end Go.Proofs.YgcsanGreat
