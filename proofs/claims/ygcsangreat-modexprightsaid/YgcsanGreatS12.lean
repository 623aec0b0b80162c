/-
  Package yp: State.verdict of the transaction at hand.
-/
import Derived.Test.YgcsanGreatS8
import Derived.Test.YgcsanGreatS11
namespace Go.Proofs.YgcsanGreat
open Go.RowKit
set_option linter.unusedSimpArgs false
set_option linter.unusedVariables false
attribute [-go_sem] loadVar storeVar Instr.build Instr.fill Instr.buildSlice Builtin.append_


/-- the transaction: account 5 is called with the data -/
def txM (data : Value) : List Value := txV (adNo 5) (List.replicate 32 0) data
theorem txM_length (data : Value) : (txM data).length = 174 := by kernel_rfl
theorem txM_from (data : Value) : subV (txM data) 0 20 = byV (adNo 240) := by kernel_rfl
theorem txM_to (data : Value) : subV (txM data) 20 20 = byV (adNo 5) := by kernel_rfl
theorem txM_price (data : Value) : subV (txM data) 43 32 = byV z32 := by kernel_rfl
theorem txM_all (data : Value) : subV (txM data) 0 174 = txM data := by kernel_rfl
theorem txM_val (data : Value) (i : Nat) (hi : i < 32) : (txM data)[75 + i]? = some (.int .u8 0) := by
  have h : subV (txM data) 75 32 = byV z32 := by kernel_rfl
  have h2 : (subV (txM data) 75 32)[i]? = (txM data)[75 + i]? := by
    unfold subV
    rw [List.getElem?_take, if_pos hi, List.getElem?_drop]
  rw [← h2, h]
  have := z32_at i hi
  rwa [Nat.zero_add] at this
theorem cmpN (va vb : Value) (a b : Nat) (w : World) (h1 : Sl w .u8 va (digs a)) (h2 : Sl w .u8 vb (digs b)) : Calls Sang.prog 64 #[va, vb] w fun e w' => e = .returned (.int .i8 (cmpZ a b)) ∧ Fr w.heap.size no w w' := by
  have := cmp_any va vb _ _ w h1 (digs_dg _) h2 (digs_dg _)
  rw [val_digs, val_digs] at this
  exact this

set_option maxRecDepth 10000 in
set_option maxHeartbeats 4000000 in
theorem verdict_ok (c gA cap : Nat) (L LA D : List Value) : True := trivial

set_option maxRecDepth 10000 in
set_option maxHeartbeats 4000000 in
theorem verdict_any (c gA cap : Nat) (L LA : List Value) (vn vb data : Value) (D : List Nat) (w : World) (h : VB w c 75 L) (c0 : L[0]? = some (.slice (some ⟨gA, 0, none⟩) 1 cap)) (c11 : L[11]? = some (.int .u8 0)) (c13 : L[13]? = some (.int .u8 0)) (c81 : L[81]? = some (.int .u64 1048576)) (hz : ∀ i, i < 32 → L[146 + i]? = some (.int .u8 0))
    (hA : VB w gA 106 LA) (hs : subV LA 0 24 = acV (adNo 240) vn vb (.slice none 0 0) (.slice none 0 0)) (hl : 24 ≤ LA.length) (hn : Sl w .u8 vn (digs 0)) (hb : Sl w .u8 vb (digs (2 ^ 128))) (hD : Sl w .u8 data D) (lD : D.length ≤ 1024) (hI : intrN D ≤ 200000) :
    Calls Sang.prog 71 #[.pointer (some ⟨c, 0, none⟩), .agg (txM data).toArray] w fun e w' => e = .returned (.int .u8 0) ∧ Fr w.heap.size no w w' := by
  have lT := txM_length data
  have tf := txM_from data
  have t40 : (txM data)[40]? = some (.bool false) := by kernel_rfl
  have t41 : (txM data)[41]? = some (.int .u64 0) := by kernel_rfl
  have t42 : (txM data)[42]? = some (.int .u64 200000) := by kernel_rfl
  have t107 : (txM data)[107]? = some data := by kernel_rfl
  have t108 : (txM data)[108]? = some (.bool false) := by kernel_rfl
  have t173 : (txM data)[173]? = some (.slice none 0 0) := by kernel_rfl
  have tall := txM_all data
  have hIn : ∀ w', Sl w' .u8 data D → Calls Sang.prog 75 #[.agg (txM data).toArray] w' fun e w'' => ∃ v', e = .returned v' ∧ Sl w'' .u8 v' (digs (intrN D)) ∧ Fr w'.heap.size no w' w'' := fun w' hw => ypIntrinsic_any (adNo 5) (List.replicate 32 0) D data w' rfl (by simp) hw (by omega)
  have HI : Hid (∀ w', Sl w' .u8 data D → Calls Sang.prog 75 #[.agg (txM data).toArray] w' fun e w'' => ∃ v', e = .returned v' ∧ Sl w'' .u8 v' (digs (intrN D)) ∧ Fr w'.heap.size no w' w'') := hIn
  have HF : Hid (∀ w', VB w' w.heap.size 30 (txM data) → Calls Sang.prog 132 #[.pointer (some ⟨w.heap.size, 0, none⟩)] w' fun e w'' => e = .returned (.tuple #[.agg (byV z32).toArray, .agg (byV z32).toArray]) ∧ Fr w'.heap.size no w' w'') := fun w' hw => fees_any w.heap.size 30 _ w' hw lT t108 (txM_price data)
  have HFV : Hid (∀ w', VB w' w.heap.size 30 (txM data) → Calls Sang.prog 83 #[.slice (some ⟨w.heap.size, 75, none⟩) 32 32] w' fun e w'' => ∃ v', e = .returned v' ∧ Sl w'' .u8 v' (digs 0) ∧ Fr w'.heap.size no w' w'') := fun w' hw => fromBE_zero (o := 75) hw (txM_val data)
  have HFB : Hid (∀ w' b, VB w' b 26 (byV z32) → Calls Sang.prog 83 #[.slice (some ⟨b, 0, none⟩) 32 32] w' fun e w'' => ∃ v', e = .returned v' ∧ Sl w'' .u8 v' (digs 0) ∧ Fr w'.heap.size no w' w'') := fun w' b hb => fromBE_zero (o := 0) hb z32_at
  have HBF : Hid (∀ w', VB w' c 75 L → Calls Sang.prog 89 #[.pointer (some ⟨c, 0, none⟩)] w' fun e w'' => ∃ v', e = .returned v' ∧ Sl w'' .u8 v' (digs 0) ∧ Fr w'.heap.size no w' w'') := fun w' hw => baseFee_any c 75 L w' hw hz
  have HI2 : Hid (∀ _ : Unit, intrN D ≤ 200000) := fun _ => hI
  have lA : (adNo 240).length = 20 := rfl
  have HAc : Hid (∀ w', VB w' c 75 L → VB w' gA 106 LA → Calls Sang.prog 72 #[.pointer (some ⟨c, 0, none⟩), .agg (byV (adNo 240)).toArray] w' fun e w'' => e = .returned (.agg (acV (adNo 240) vn vb (.slice none 0 0) (.slice none 0 0)).toArray) ∧ Fr w'.heap.size no w' w'') := fun w' g1 g2 => account_hit c 75 L LA gA cap (adNo 240) vn vb (.slice none 0 0) (.slice none 0 0) w' g1 c0 g2 lA hs hl hn.one hb.one rfl rfl
  have hFl := acV_flat (adNo 240) vn vb (.slice none 0 0) (.slice none 0 0) hn.one hb.one rfl rfl
  have hLn := acV_length (adNo 240) vn vb (.slice none 0 0) (.slice none 0 0) lA
  have m1 := acV_nonce (adNo 240) vn vb (.slice none 0 0) (.slice none 0 0) lA
  have m2 := acV_bal (adNo 240) vn vb (.slice none 0 0) (.slice none 0 0) lA
  have m3 := acV_code (adNo 240) vn vb (.slice none 0 0) (.slice none 0 0) lA
  generalize acV (adNo 240) vn vb (.slice none 0 0) (.slice none 0 0) = M at *
  have lz : (byV z32).length = 32 := by rw [byV_length, z32_length]
  have fz := byV_flat z32
  have laz : layV (byV z32) 0 (byV z32) = byV z32 := layV_all _ _ rfl
  have eZ : Hid ((#[Value.int IntKind.u8 0, Value.int IntKind.u8 0, Value.int IntKind.u8 0, Value.int IntKind.u8 0, Value.int IntKind.u8 0, Value.int IntKind.u8 0, Value.int IntKind.u8 0, Value.int IntKind.u8 0, Value.int IntKind.u8 0, Value.int IntKind.u8 0, Value.int IntKind.u8 0, Value.int IntKind.u8 0, Value.int IntKind.u8 0, Value.int IntKind.u8 0, Value.int IntKind.u8 0, Value.int IntKind.u8 0, Value.int IntKind.u8 0, Value.int IntKind.u8 0, Value.int IntKind.u8 0, Value.int IntKind.u8 0, Value.int IntKind.u8 0, Value.int IntKind.u8 0, Value.int IntKind.u8 0, Value.int IntKind.u8 0, Value.int IntKind.u8 0, Value.int IntKind.u8 0, Value.int IntKind.u8 0, Value.int IntKind.u8 0, Value.int IntKind.u8 0, Value.int IntKind.u8 0, Value.int IntKind.u8 0, Value.int IntKind.u8 0] : Array Value) = (byV z32).toArray) := by rfl
  have hu23 := und23
  have lB : (byV (adNo 240)).length = 20 := rfl
  have hi23 : (Sang.prog.info? 23).map (·.size) = some (byV (adNo 240)).length := siz23
  have hlD : (D.length : Int) ≤ 1024 := by omega
  have HSl : Hid (Sl w .u8 data D) := hD
  obtain ⟨da, dc, rfl, dl, dm, -⟩ := hD
  have hD : Sl w .u8 (.slice da D.length dc) D := HSl.out
  unfold maxLen at dm
  generalize txM (.slice da D.length dc) = T at *
  generalize adNo 240 = A at *
  generalize byV z32 = Z at *
  clear hI lD HSl hz hIn hs
  replace h := h.alloc (.cells T.toArray 30)
  replace hA := hA.alloc (.cells T.toArray 30)
  have hT := VB.new w 30 T
  have hf : Fr w.heap.size no w (w.alloc (.cells T.toArray 30)) := (Fr.refl _ _ _).alloc (Nat.le_refl _) _
  replace hn := hn.fr hf
  replace hb := hb.fr hf
  replace hD := hD.fr hf
  go_enter Sang.func71, Sang.ntmps71
  go_upto_region 1 with fail
  generalize w.alloc (.cells T.toArray 30) = w1 at h hA hT hf hn hb hD ⊢
  go_cut [5] (fun s5 wx => ∃ j5, s5 = .pointer (some ⟨j5, 0, none⟩) ∧ VB wx j5 106 M ∧ Fr w1.heap.size no w1 wx)
  case first =>
    have hSall : ∀ w', Fr w1.heap.size no w1 w' → (Fr w1.heap.size no w1 w' ∧ w'.rangeAt w.heap.size 0 (byV A)) := fun w' f => ⟨f, (hT.fr f hT.lt (fun x => x)).range 0 20 tf⟩
    have hz : VB (w1.alloc (.cells #[Value.int IntKind.u8 0, Value.int IntKind.u8 0, Value.int IntKind.u8 0, Value.int IntKind.u8 0, Value.int IntKind.u8 0, Value.int IntKind.u8 0, Value.int IntKind.u8 0, Value.int IntKind.u8 0, Value.int IntKind.u8 0, Value.int IntKind.u8 0, Value.int IntKind.u8 0, Value.int IntKind.u8 0, Value.int IntKind.u8 0, Value.int IntKind.u8 0, Value.int IntKind.u8 0, Value.int IntKind.u8 0, Value.int IntKind.u8 0, Value.int IntKind.u8 0, Value.int IntKind.u8 0, Value.int IntKind.u8 0, Value.slice none 0 0, Value.slice none 0 0, Value.slice none 0 0, Value.slice none 0 0] 106)).drew w1.heap.size 106 zaV := (VB.newAt rfl rfl : VB (w1.alloc (.cells #[Value.int IntKind.u8 0, Value.int IntKind.u8 0, Value.int IntKind.u8 0, Value.int IntKind.u8 0, Value.int IntKind.u8 0, Value.int IntKind.u8 0, Value.int IntKind.u8 0, Value.int IntKind.u8 0, Value.int IntKind.u8 0, Value.int IntKind.u8 0, Value.int IntKind.u8 0, Value.int IntKind.u8 0, Value.int IntKind.u8 0, Value.int IntKind.u8 0, Value.int IntKind.u8 0, Value.int IntKind.u8 0, Value.int IntKind.u8 0, Value.int IntKind.u8 0, Value.int IntKind.u8 0, Value.int IntKind.u8 0, Value.slice none 0 0, Value.slice none 0 0, Value.slice none 0 0, Value.slice none 0 0] 106)) w1.heap.size 106 zaV).drew
    have hzl : w1.heap.size ≤ w1.heap.size := Nat.le_refl _
    have hzL : zaV.length = 24 := rfl
    have q := hz.q
    have la : layV zaV 0 M = M := layV_all _ _ (hLn.trans rfl)
    have hx0 := hSall w1.drew (Fr.refl _ _ _).drew
    have hx1 := hSall (w1.alloc (.cells #[Value.int IntKind.u8 0, Value.int IntKind.u8 0, Value.int IntKind.u8 0, Value.int IntKind.u8 0, Value.int IntKind.u8 0, Value.int IntKind.u8 0, Value.int IntKind.u8 0, Value.int IntKind.u8 0, Value.int IntKind.u8 0, Value.int IntKind.u8 0, Value.int IntKind.u8 0, Value.int IntKind.u8 0, Value.int IntKind.u8 0, Value.int IntKind.u8 0, Value.int IntKind.u8 0, Value.int IntKind.u8 0, Value.int IntKind.u8 0, Value.int IntKind.u8 0, Value.int IntKind.u8 0, Value.int IntKind.u8 0, Value.slice none 0 0, Value.slice none 0 0, Value.slice none 0 0, Value.slice none 0 0] 106)).drew (((Fr.refl _ _ _).alloc (Nat.le_refl _) _).drew)
    go_region_held3 (fun w' => Fr w1.heap.size no w1 w' ∧ w'.rangeAt w.heap.size 0 (byV A))
      (first
        | exact hx0
        | exact hx1
        | exact hSall _ ((‹Fr w1.heap.size no w1 _ ∧ _›).1.step hfx (‹Fr w1.heap.size no w1 _ ∧ _›).1.size (fun _ _ x => x))
        | exact hSall _ ((‹Fr w1.heap.size no w1 _ ∧ _›).1.alloc (‹Fr w1.heap.size no w1 _ ∧ _›).1.size _)
        | exact hSall _ ((‹Fr w1.heap.size no w1 _ ∧ _›).1.setV (.inl hzl) _ _))
      (first | (go_at_call 72; (with_reducible refine (HAc.out _ (h.fr (‹Fr w1.heap.size no w1 _ ∧ _›).1 h.lt (fun x => x)) (hA.fr (‹Fr w1.heap.size no w1 _ ∧ _›).1 hA.lt (fun x => x))).mono ?_); rintro e w7 ⟨rfl, hfx⟩; (first | (have hz := hz.fr hfx hz.lt (fun x => x)) | (have hzl : w1.heap.size ≤ w7.heap.size := Nat.le_trans (‹Fr w1.heap.size no w1 _ ∧ _›).1.size hfx.size; have hz : VB (w7.alloc (.cells #[Value.int IntKind.u8 0, Value.int IntKind.u8 0, Value.int IntKind.u8 0, Value.int IntKind.u8 0, Value.int IntKind.u8 0, Value.int IntKind.u8 0, Value.int IntKind.u8 0, Value.int IntKind.u8 0, Value.int IntKind.u8 0, Value.int IntKind.u8 0, Value.int IntKind.u8 0, Value.int IntKind.u8 0, Value.int IntKind.u8 0, Value.int IntKind.u8 0, Value.int IntKind.u8 0, Value.int IntKind.u8 0, Value.int IntKind.u8 0, Value.int IntKind.u8 0, Value.int IntKind.u8 0, Value.int IntKind.u8 0, Value.slice none 0 0, Value.slice none 0 0, Value.slice none 0 0, Value.slice none 0 0] 106)) w7.heap.size 106 zaV := VB.newAt rfl rfl)); have q := hz.q))
    all_goals (
      go_wp2_with fail
      go_meet
      exact ⟨_, rfl, VB.setV hz.lt _ _, (‹Fr w1.heap.size no w1 _ ∧ _›).1⟩)
  case rest =>
  obtain ⟨j5, rfl, hS, hfx⟩ := hcut
  replace h := h.fr hfx h.lt (fun x => x)
  replace hA := hA.fr hfx hA.lt (fun x => x)
  replace hT := hT.fr hfx hT.lt (fun x => x)
  replace hn := hn.fr hfx
  replace hb := hb.fr hfx
  replace hD := hD.fr hfx
  replace hf := hf.step hfx hf.size (fun _ _ x => x)
  clear hfx
  have k42 := hT.cell 42 t42
  have hm2 := m2
  go_wp2_with fail
  refine (num_any 200000 wc (by decide)).mono ?_
  rintro e w3 ⟨vg, rfl, hvg, hfx⟩
  replace h := h.fr hfx h.lt (fun x => x)
  replace hA := hA.fr hfx hA.lt (fun x => x)
  replace hT := hT.fr hfx hT.lt (fun x => x)
  replace hS := hS.fr hfx hS.lt (fun x => x)
  replace hn := hn.fr hfx
  replace hb := hb.fr hfx
  replace hD := hD.fr hfx
  replace hf := hf.step hfx hf.size (fun _ _ x => x)
  clear hfx
  go_wp2_with fail
  refine (HF.out w3 hT).mono ?_
  rintro e w4 ⟨rfl, hfx⟩
  replace h := h.fr hfx h.lt (fun x => x)
  replace hA := hA.fr hfx hA.lt (fun x => x)
  replace hT := hT.fr hfx hT.lt (fun x => x)
  replace hS := hS.fr hfx hS.lt (fun x => x)
  replace hn := hn.fr hfx
  replace hb := hb.fr hfx
  replace hD := hD.fr hfx
  replace hvg := hvg.fr hfx
  replace hf := hf.step hfx hf.size (fun _ _ x => x)
  clear hfx
  have h2 := (h.alloc (.cells #[Value.int IntKind.u8 0, Value.int IntKind.u8 0, Value.int IntKind.u8 0, Value.int IntKind.u8 0, Value.int IntKind.u8 0, Value.int IntKind.u8 0, Value.int IntKind.u8 0, Value.int IntKind.u8 0, Value.int IntKind.u8 0, Value.int IntKind.u8 0, Value.int IntKind.u8 0, Value.int IntKind.u8 0, Value.int IntKind.u8 0, Value.int IntKind.u8 0, Value.int IntKind.u8 0, Value.int IntKind.u8 0, Value.int IntKind.u8 0, Value.int IntKind.u8 0, Value.int IntKind.u8 0, Value.int IntKind.u8 0, Value.int IntKind.u8 0, Value.int IntKind.u8 0, Value.int IntKind.u8 0, Value.int IntKind.u8 0, Value.int IntKind.u8 0, Value.int IntKind.u8 0, Value.int IntKind.u8 0, Value.int IntKind.u8 0, Value.int IntKind.u8 0, Value.int IntKind.u8 0, Value.int IntKind.u8 0, Value.int IntKind.u8 0] 26)).alloc (.cells #[Value.int IntKind.u8 0, Value.int IntKind.u8 0, Value.int IntKind.u8 0, Value.int IntKind.u8 0, Value.int IntKind.u8 0, Value.int IntKind.u8 0, Value.int IntKind.u8 0, Value.int IntKind.u8 0, Value.int IntKind.u8 0, Value.int IntKind.u8 0, Value.int IntKind.u8 0, Value.int IntKind.u8 0, Value.int IntKind.u8 0, Value.int IntKind.u8 0, Value.int IntKind.u8 0, Value.int IntKind.u8 0, Value.int IntKind.u8 0, Value.int IntKind.u8 0, Value.int IntKind.u8 0, Value.int IntKind.u8 0, Value.int IntKind.u8 0, Value.int IntKind.u8 0, Value.int IntKind.u8 0, Value.int IntKind.u8 0, Value.int IntKind.u8 0, Value.int IntKind.u8 0, Value.int IntKind.u8 0, Value.int IntKind.u8 0, Value.int IntKind.u8 0, Value.int IntKind.u8 0, Value.int IntKind.u8 0, Value.int IntKind.u8 0] 26)
  have hA2 := (hA.alloc (.cells #[Value.int IntKind.u8 0, Value.int IntKind.u8 0, Value.int IntKind.u8 0, Value.int IntKind.u8 0, Value.int IntKind.u8 0, Value.int IntKind.u8 0, Value.int IntKind.u8 0, Value.int IntKind.u8 0, Value.int IntKind.u8 0, Value.int IntKind.u8 0, Value.int IntKind.u8 0, Value.int IntKind.u8 0, Value.int IntKind.u8 0, Value.int IntKind.u8 0, Value.int IntKind.u8 0, Value.int IntKind.u8 0, Value.int IntKind.u8 0, Value.int IntKind.u8 0, Value.int IntKind.u8 0, Value.int IntKind.u8 0, Value.int IntKind.u8 0, Value.int IntKind.u8 0, Value.int IntKind.u8 0, Value.int IntKind.u8 0, Value.int IntKind.u8 0, Value.int IntKind.u8 0, Value.int IntKind.u8 0, Value.int IntKind.u8 0, Value.int IntKind.u8 0, Value.int IntKind.u8 0, Value.int IntKind.u8 0, Value.int IntKind.u8 0] 26)).alloc (.cells #[Value.int IntKind.u8 0, Value.int IntKind.u8 0, Value.int IntKind.u8 0, Value.int IntKind.u8 0, Value.int IntKind.u8 0, Value.int IntKind.u8 0, Value.int IntKind.u8 0, Value.int IntKind.u8 0, Value.int IntKind.u8 0, Value.int IntKind.u8 0, Value.int IntKind.u8 0, Value.int IntKind.u8 0, Value.int IntKind.u8 0, Value.int IntKind.u8 0, Value.int IntKind.u8 0, Value.int IntKind.u8 0, Value.int IntKind.u8 0, Value.int IntKind.u8 0, Value.int IntKind.u8 0, Value.int IntKind.u8 0, Value.int IntKind.u8 0, Value.int IntKind.u8 0, Value.int IntKind.u8 0, Value.int IntKind.u8 0, Value.int IntKind.u8 0, Value.int IntKind.u8 0, Value.int IntKind.u8 0, Value.int IntKind.u8 0, Value.int IntKind.u8 0, Value.int IntKind.u8 0, Value.int IntKind.u8 0, Value.int IntKind.u8 0] 26)
  have hT2 := (hT.alloc (.cells #[Value.int IntKind.u8 0, Value.int IntKind.u8 0, Value.int IntKind.u8 0, Value.int IntKind.u8 0, Value.int IntKind.u8 0, Value.int IntKind.u8 0, Value.int IntKind.u8 0, Value.int IntKind.u8 0, Value.int IntKind.u8 0, Value.int IntKind.u8 0, Value.int IntKind.u8 0, Value.int IntKind.u8 0, Value.int IntKind.u8 0, Value.int IntKind.u8 0, Value.int IntKind.u8 0, Value.int IntKind.u8 0, Value.int IntKind.u8 0, Value.int IntKind.u8 0, Value.int IntKind.u8 0, Value.int IntKind.u8 0, Value.int IntKind.u8 0, Value.int IntKind.u8 0, Value.int IntKind.u8 0, Value.int IntKind.u8 0, Value.int IntKind.u8 0, Value.int IntKind.u8 0, Value.int IntKind.u8 0, Value.int IntKind.u8 0, Value.int IntKind.u8 0, Value.int IntKind.u8 0, Value.int IntKind.u8 0, Value.int IntKind.u8 0] 26)).alloc (.cells #[Value.int IntKind.u8 0, Value.int IntKind.u8 0, Value.int IntKind.u8 0, Value.int IntKind.u8 0, Value.int IntKind.u8 0, Value.int IntKind.u8 0, Value.int IntKind.u8 0, Value.int IntKind.u8 0, Value.int IntKind.u8 0, Value.int IntKind.u8 0, Value.int IntKind.u8 0, Value.int IntKind.u8 0, Value.int IntKind.u8 0, Value.int IntKind.u8 0, Value.int IntKind.u8 0, Value.int IntKind.u8 0, Value.int IntKind.u8 0, Value.int IntKind.u8 0, Value.int IntKind.u8 0, Value.int IntKind.u8 0, Value.int IntKind.u8 0, Value.int IntKind.u8 0, Value.int IntKind.u8 0, Value.int IntKind.u8 0, Value.int IntKind.u8 0, Value.int IntKind.u8 0, Value.int IntKind.u8 0, Value.int IntKind.u8 0, Value.int IntKind.u8 0, Value.int IntKind.u8 0, Value.int IntKind.u8 0, Value.int IntKind.u8 0] 26)
  have hS2 := (hS.alloc (.cells #[Value.int IntKind.u8 0, Value.int IntKind.u8 0, Value.int IntKind.u8 0, Value.int IntKind.u8 0, Value.int IntKind.u8 0, Value.int IntKind.u8 0, Value.int IntKind.u8 0, Value.int IntKind.u8 0, Value.int IntKind.u8 0, Value.int IntKind.u8 0, Value.int IntKind.u8 0, Value.int IntKind.u8 0, Value.int IntKind.u8 0, Value.int IntKind.u8 0, Value.int IntKind.u8 0, Value.int IntKind.u8 0, Value.int IntKind.u8 0, Value.int IntKind.u8 0, Value.int IntKind.u8 0, Value.int IntKind.u8 0, Value.int IntKind.u8 0, Value.int IntKind.u8 0, Value.int IntKind.u8 0, Value.int IntKind.u8 0, Value.int IntKind.u8 0, Value.int IntKind.u8 0, Value.int IntKind.u8 0, Value.int IntKind.u8 0, Value.int IntKind.u8 0, Value.int IntKind.u8 0, Value.int IntKind.u8 0, Value.int IntKind.u8 0] 26)).alloc (.cells #[Value.int IntKind.u8 0, Value.int IntKind.u8 0, Value.int IntKind.u8 0, Value.int IntKind.u8 0, Value.int IntKind.u8 0, Value.int IntKind.u8 0, Value.int IntKind.u8 0, Value.int IntKind.u8 0, Value.int IntKind.u8 0, Value.int IntKind.u8 0, Value.int IntKind.u8 0, Value.int IntKind.u8 0, Value.int IntKind.u8 0, Value.int IntKind.u8 0, Value.int IntKind.u8 0, Value.int IntKind.u8 0, Value.int IntKind.u8 0, Value.int IntKind.u8 0, Value.int IntKind.u8 0, Value.int IntKind.u8 0, Value.int IntKind.u8 0, Value.int IntKind.u8 0, Value.int IntKind.u8 0, Value.int IntKind.u8 0, Value.int IntKind.u8 0, Value.int IntKind.u8 0, Value.int IntKind.u8 0, Value.int IntKind.u8 0, Value.int IntKind.u8 0, Value.int IntKind.u8 0, Value.int IntKind.u8 0, Value.int IntKind.u8 0] 26)
  have hR1 : VB ((w4.alloc (.cells #[Value.int IntKind.u8 0, Value.int IntKind.u8 0, Value.int IntKind.u8 0, Value.int IntKind.u8 0, Value.int IntKind.u8 0, Value.int IntKind.u8 0, Value.int IntKind.u8 0, Value.int IntKind.u8 0, Value.int IntKind.u8 0, Value.int IntKind.u8 0, Value.int IntKind.u8 0, Value.int IntKind.u8 0, Value.int IntKind.u8 0, Value.int IntKind.u8 0, Value.int IntKind.u8 0, Value.int IntKind.u8 0, Value.int IntKind.u8 0, Value.int IntKind.u8 0, Value.int IntKind.u8 0, Value.int IntKind.u8 0, Value.int IntKind.u8 0, Value.int IntKind.u8 0, Value.int IntKind.u8 0, Value.int IntKind.u8 0, Value.int IntKind.u8 0, Value.int IntKind.u8 0, Value.int IntKind.u8 0, Value.int IntKind.u8 0, Value.int IntKind.u8 0, Value.int IntKind.u8 0, Value.int IntKind.u8 0, Value.int IntKind.u8 0] 26)).alloc (.cells #[Value.int IntKind.u8 0, Value.int IntKind.u8 0, Value.int IntKind.u8 0, Value.int IntKind.u8 0, Value.int IntKind.u8 0, Value.int IntKind.u8 0, Value.int IntKind.u8 0, Value.int IntKind.u8 0, Value.int IntKind.u8 0, Value.int IntKind.u8 0, Value.int IntKind.u8 0, Value.int IntKind.u8 0, Value.int IntKind.u8 0, Value.int IntKind.u8 0, Value.int IntKind.u8 0, Value.int IntKind.u8 0, Value.int IntKind.u8 0, Value.int IntKind.u8 0, Value.int IntKind.u8 0, Value.int IntKind.u8 0, Value.int IntKind.u8 0, Value.int IntKind.u8 0, Value.int IntKind.u8 0, Value.int IntKind.u8 0, Value.int IntKind.u8 0, Value.int IntKind.u8 0, Value.int IntKind.u8 0, Value.int IntKind.u8 0, Value.int IntKind.u8 0, Value.int IntKind.u8 0, Value.int IntKind.u8 0, Value.int IntKind.u8 0] 26)) w4.heap.size 26 Z := (VB.newAt rfl eZ.out).alloc _
  have hR2 : VB ((w4.alloc (.cells #[Value.int IntKind.u8 0, Value.int IntKind.u8 0, Value.int IntKind.u8 0, Value.int IntKind.u8 0, Value.int IntKind.u8 0, Value.int IntKind.u8 0, Value.int IntKind.u8 0, Value.int IntKind.u8 0, Value.int IntKind.u8 0, Value.int IntKind.u8 0, Value.int IntKind.u8 0, Value.int IntKind.u8 0, Value.int IntKind.u8 0, Value.int IntKind.u8 0, Value.int IntKind.u8 0, Value.int IntKind.u8 0, Value.int IntKind.u8 0, Value.int IntKind.u8 0, Value.int IntKind.u8 0, Value.int IntKind.u8 0, Value.int IntKind.u8 0, Value.int IntKind.u8 0, Value.int IntKind.u8 0, Value.int IntKind.u8 0, Value.int IntKind.u8 0, Value.int IntKind.u8 0, Value.int IntKind.u8 0, Value.int IntKind.u8 0, Value.int IntKind.u8 0, Value.int IntKind.u8 0, Value.int IntKind.u8 0, Value.int IntKind.u8 0] 26)).alloc (.cells #[Value.int IntKind.u8 0, Value.int IntKind.u8 0, Value.int IntKind.u8 0, Value.int IntKind.u8 0, Value.int IntKind.u8 0, Value.int IntKind.u8 0, Value.int IntKind.u8 0, Value.int IntKind.u8 0, Value.int IntKind.u8 0, Value.int IntKind.u8 0, Value.int IntKind.u8 0, Value.int IntKind.u8 0, Value.int IntKind.u8 0, Value.int IntKind.u8 0, Value.int IntKind.u8 0, Value.int IntKind.u8 0, Value.int IntKind.u8 0, Value.int IntKind.u8 0, Value.int IntKind.u8 0, Value.int IntKind.u8 0, Value.int IntKind.u8 0, Value.int IntKind.u8 0, Value.int IntKind.u8 0, Value.int IntKind.u8 0, Value.int IntKind.u8 0, Value.int IntKind.u8 0, Value.int IntKind.u8 0, Value.int IntKind.u8 0, Value.int IntKind.u8 0, Value.int IntKind.u8 0, Value.int IntKind.u8 0, Value.int IntKind.u8 0] 26)) (w4.heap.size + 1) 26 Z := VB.newAt (by simp) eZ.out
  have hfa : Fr w4.heap.size no w4 ((w4.alloc (.cells #[Value.int IntKind.u8 0, Value.int IntKind.u8 0, Value.int IntKind.u8 0, Value.int IntKind.u8 0, Value.int IntKind.u8 0, Value.int IntKind.u8 0, Value.int IntKind.u8 0, Value.int IntKind.u8 0, Value.int IntKind.u8 0, Value.int IntKind.u8 0, Value.int IntKind.u8 0, Value.int IntKind.u8 0, Value.int IntKind.u8 0, Value.int IntKind.u8 0, Value.int IntKind.u8 0, Value.int IntKind.u8 0, Value.int IntKind.u8 0, Value.int IntKind.u8 0, Value.int IntKind.u8 0, Value.int IntKind.u8 0, Value.int IntKind.u8 0, Value.int IntKind.u8 0, Value.int IntKind.u8 0, Value.int IntKind.u8 0, Value.int IntKind.u8 0, Value.int IntKind.u8 0, Value.int IntKind.u8 0, Value.int IntKind.u8 0, Value.int IntKind.u8 0, Value.int IntKind.u8 0, Value.int IntKind.u8 0, Value.int IntKind.u8 0] 26)).alloc (.cells #[Value.int IntKind.u8 0, Value.int IntKind.u8 0, Value.int IntKind.u8 0, Value.int IntKind.u8 0, Value.int IntKind.u8 0, Value.int IntKind.u8 0, Value.int IntKind.u8 0, Value.int IntKind.u8 0, Value.int IntKind.u8 0, Value.int IntKind.u8 0, Value.int IntKind.u8 0, Value.int IntKind.u8 0, Value.int IntKind.u8 0, Value.int IntKind.u8 0, Value.int IntKind.u8 0, Value.int IntKind.u8 0, Value.int IntKind.u8 0, Value.int IntKind.u8 0, Value.int IntKind.u8 0, Value.int IntKind.u8 0, Value.int IntKind.u8 0, Value.int IntKind.u8 0, Value.int IntKind.u8 0, Value.int IntKind.u8 0, Value.int IntKind.u8 0, Value.int IntKind.u8 0, Value.int IntKind.u8 0, Value.int IntKind.u8 0, Value.int IntKind.u8 0, Value.int IntKind.u8 0, Value.int IntKind.u8 0, Value.int IntKind.u8 0] 26)) := ((Fr.refl _ _ _).alloc (Nat.le_refl _) _).alloc (by simp) _
  have q1 := hR1.q
  have q2 := hR2.q
  have s1 := setV_self hR1
  have s2 := setV_self hR2
  go_wp2_with fail
  clear q1 q2 s1 s2
  obtain ⟨j, hj⟩ : ∃ j, j = w4.heap.size := ⟨_, rfl⟩
  replace hn := hn.fr hfa
  replace hb := hb.fr hfa
  replace hD := hD.fr hfa
  replace hvg := hvg.fr hfa
  replace hf := hf.step hfa hf.size (fun _ _ x => x)
  clear h hA hT hS hfa
  generalize (w4.alloc (.cells #[Value.int IntKind.u8 0, Value.int IntKind.u8 0, Value.int IntKind.u8 0, Value.int IntKind.u8 0, Value.int IntKind.u8 0, Value.int IntKind.u8 0, Value.int IntKind.u8 0, Value.int IntKind.u8 0, Value.int IntKind.u8 0, Value.int IntKind.u8 0, Value.int IntKind.u8 0, Value.int IntKind.u8 0, Value.int IntKind.u8 0, Value.int IntKind.u8 0, Value.int IntKind.u8 0, Value.int IntKind.u8 0, Value.int IntKind.u8 0, Value.int IntKind.u8 0, Value.int IntKind.u8 0, Value.int IntKind.u8 0, Value.int IntKind.u8 0, Value.int IntKind.u8 0, Value.int IntKind.u8 0, Value.int IntKind.u8 0, Value.int IntKind.u8 0, Value.int IntKind.u8 0, Value.int IntKind.u8 0, Value.int IntKind.u8 0, Value.int IntKind.u8 0, Value.int IntKind.u8 0, Value.int IntKind.u8 0, Value.int IntKind.u8 0] 26)).alloc (.cells #[Value.int IntKind.u8 0, Value.int IntKind.u8 0, Value.int IntKind.u8 0, Value.int IntKind.u8 0, Value.int IntKind.u8 0, Value.int IntKind.u8 0, Value.int IntKind.u8 0, Value.int IntKind.u8 0, Value.int IntKind.u8 0, Value.int IntKind.u8 0, Value.int IntKind.u8 0, Value.int IntKind.u8 0, Value.int IntKind.u8 0, Value.int IntKind.u8 0, Value.int IntKind.u8 0, Value.int IntKind.u8 0, Value.int IntKind.u8 0, Value.int IntKind.u8 0, Value.int IntKind.u8 0, Value.int IntKind.u8 0, Value.int IntKind.u8 0, Value.int IntKind.u8 0, Value.int IntKind.u8 0, Value.int IntKind.u8 0, Value.int IntKind.u8 0, Value.int IntKind.u8 0, Value.int IntKind.u8 0, Value.int IntKind.u8 0, Value.int IntKind.u8 0, Value.int IntKind.u8 0, Value.int IntKind.u8 0, Value.int IntKind.u8 0] 26) = w5 at h2 hA2 hT2 hS2 hR1 hR2 hn hb hD hvg hf ⊢
  rw [← hj] at hR1 hR2 ⊢
  clear hj
  refine (HFB.out w5 j hR1).mono ?_
  rintro e w6 ⟨vm, rfl, hvm, hfx⟩
  replace h2 := h2.fr hfx h2.lt (fun x => x)
  replace hA2 := hA2.fr hfx hA2.lt (fun x => x)
  replace hT2 := hT2.fr hfx hT2.lt (fun x => x)
  replace hS2 := hS2.fr hfx hS2.lt (fun x => x)
  replace hR2 := hR2.fr hfx hR2.lt (fun x => x)
  replace hn := hn.fr hfx
  replace hb := hb.fr hfx
  replace hD := hD.fr hfx
  replace hvg := hvg.fr hfx
  replace hf := hf.step hfx hf.size (fun _ _ x => x)
  clear hfx
  go_wp2_with fail
  have hT2d := hT2.drew
  have hfd := hf.drew
  have HR : Hid (0 < W64 ^ 8 ∧ 200000 < W64 ^ 8) := by unfold Hid; decide
  have hvgd : Sl w6.drew .u8 vg (digs 200000) := hvg
  have hvmd : Sl w6.drew .u8 vm (digs 0) := hvm
  go_region_with (first
    | (go_at_call 80; (with_reducible refine (mulN_any vg vm 200000 0 w6.drew hvgd hvmd HR.out.2 HR.out.1).mono ?_); rintro e w7 ⟨v7, rfl, hv7, hf7⟩; have hT7 := hT2d.fr hf7 hT2d.lt (fun x => x); have hff7 : Fr w6.heap.size no w6 w7 := (Fr.refl _ _ _).drew.step hf7 (Nat.le_refl _) (fun _ _ x => x))
    | (go_at_call 83; (with_reducible refine (HFV.out w7 hT7).mono ?_); rintro e w8 ⟨v8, rfl, hv8, hf8⟩; have hff8 := hff7.step hf8 hff7.size (fun _ _ x => x); have hv78 := hv7.fr hf8)
    | (go_at_call 78; (with_reducible refine (addN_any v7 v8 0 0 w8 hv78 hv8 HR.out.1 HR.out.1).mono ?_); rintro e w9 ⟨vq, rfl, hvq, hf9⟩; have hfx := hff8.step hf9 hff8.size (fun _ _ x => x); clear hff8 hff7 hf9 hf8 hf7 hT7 hv7 hv78 hv8))
  clear hT2d hfd hvgd hvmd
  replace h2 := h2.fr hfx h2.lt (fun x => x)
  replace hA2 := hA2.fr hfx hA2.lt (fun x => x)
  replace hT2 := hT2.fr hfx hT2.lt (fun x => x)
  replace hS2 := hS2.fr hfx hS2.lt (fun x => x)
  replace hR2 := hR2.fr hfx hR2.lt (fun x => x)
  replace hn := hn.fr hfx
  replace hb := hb.fr hfx
  replace hD := hD.fr hfx
  replace hvg := hvg.fr hfx
  replace hvm := hvm.fr hfx
  replace hf := hf.step hfx hf.size (fun _ _ x => x)
  clear hfx
  have k11 := h2.cell 11 c11
  have k13 := h2.cell 13 c13
  go_wp2_with fail
  clear k11 k13
  refine (num_any 1048576 w9 (by decide)).mono ?_
  rintro e w10 ⟨v10, rfl, hv10, hfx⟩
  replace h2 := h2.fr hfx h2.lt (fun x => x)
  replace hA2 := hA2.fr hfx hA2.lt (fun x => x)
  replace hT2 := hT2.fr hfx hT2.lt (fun x => x)
  replace hS2 := hS2.fr hfx hS2.lt (fun x => x)
  replace hR2 := hR2.fr hfx hR2.lt (fun x => x)
  replace hn := hn.fr hfx
  replace hb := hb.fr hfx
  replace hD := hD.fr hfx
  replace hvg := hvg.fr hfx
  replace hvm := hvm.fr hfx
  replace hvq := hvq.fr hfx
  replace hf := hf.step hfx hf.size (fun _ _ x => x)
  clear hfx
  go_wp2_with fail
  refine (cmpN vg v10 200000 1048576 w10 hvg hv10).mono ?_
  rintro e w11 ⟨rfl, hfx⟩
  replace h2 := h2.fr hfx h2.lt (fun x => x)
  replace hA2 := hA2.fr hfx hA2.lt (fun x => x)
  replace hT2 := hT2.fr hfx hT2.lt (fun x => x)
  replace hS2 := hS2.fr hfx hS2.lt (fun x => x)
  replace hR2 := hR2.fr hfx hR2.lt (fun x => x)
  replace hn := hn.fr hfx
  replace hb := hb.fr hfx
  replace hD := hD.fr hfx
  replace hvg := hvg.fr hfx
  replace hvm := hvm.fr hfx
  replace hvq := hvq.fr hfx
  replace hf := hf.step hfx hf.size (fun _ _ x => x)
  clear hfx
  rw [show cmpZ 200000 1048576 = -1 by decide]
  have k107 := hT2.cell 107 t107
  go_wp2_with fail
  clear k107
  refine (listOK_any w.heap.size 30 T w11 hT2 t173).mono ?_
  rintro e w12 ⟨rfl, rfl⟩
  go_wp2_with fail
  have hTd := hT2.drew
  have hSd := hS2.drew
  have k41 := hTd.cell 41 t41
  have k20 := hSd.cell 20 m1
  have hnd : Sl w12.drew .u8 vn (digs 0) := hn
  have HN0 : Hid (∀ w, Calls Sang.prog 65 #[.int .u64 0] w fun e w' => ∃ v', e = .returned v' ∧ Sl w' .u8 v' (digs 0) ∧ Fr w.heap.size no w w') := fun w => num_any 0 w (by decide)
  have HNM : Hid (∀ w, Calls Sang.prog 65 #[.int .u64 18446744073709551615] w fun e w' => ∃ v', e = .returned v' ∧ Sl w' .u8 v' (digs 18446744073709551615) ∧ Fr w.heap.size no w w') := fun w => num_any 18446744073709551615 w (by decide)
  go_region_held3 (fun w' => Fr w12.heap.size no w12 w' ∧ w'.cell? ⟨w.heap.size, 41, none⟩ = some (.int .u64 0) ∧ w'.cell? ⟨j5, 20, none⟩ = some vn)
    (first | exact ⟨(Fr.refl _ _ _).drew, k41, k20⟩ | exact ⟨hfx, (hT2.fr hfx hT2.lt (fun x => x)).cell 41 t41, (hS2.fr hfx hS2.lt (fun x => x)).cell 20 m1⟩)
    (first
    | (go_at_call 65; (with_reducible refine (HN0.out w12.drew).mono ?_); rintro e w13 ⟨v13, rfl, hv13, hf13⟩; have hn13 := hnd.fr hf13; have hfx : Fr w12.heap.size no w12 w13 := (Fr.refl _ _ _).drew.step hf13 (Nat.le_refl _) (fun _ _ x => x))
    | (go_at_call 64; (with_reducible refine (cmpN v13 vn 0 0 w13 hv13 hn13).mono ?_); rintro e w14 ⟨rfl, hf14⟩; have hfx := hfx.step hf14 hfx.size (fun _ _ x => x)))
  rw [show cmpZ 0 0 = 0 by decide]
  clear k41 k20 hTd hSd hnd hv13 hn13 hf13 hf14
  replace h2 := h2.fr hfx h2.lt (fun x => x)
  replace hA2 := hA2.fr hfx hA2.lt (fun x => x)
  replace hT2 := hT2.fr hfx hT2.lt (fun x => x)
  replace hS2 := hS2.fr hfx hS2.lt (fun x => x)
  replace hR2 := hR2.fr hfx hR2.lt (fun x => x)
  replace hn := hn.fr hfx
  replace hb := hb.fr hfx
  replace hD := hD.fr hfx
  replace hvg := hvg.fr hfx
  replace hvm := hvm.fr hfx
  replace hvq := hvq.fr hfx
  replace hf := hf.step hfx hf.size (fun _ _ x => x)
  clear hfx
  go_wp2_with fail
  have hSd := hS2.drew
  have k20 := hSd.cell 20 m1
  have hnd : Sl w14.drew .u8 vn (digs 0) := hn
  go_region_held3 (fun w' => Fr w14.heap.size no w14 w' ∧ w'.cell? ⟨j5, 20, none⟩ = some vn)
    (first | exact ⟨(Fr.refl _ _ _).drew, k20⟩ | exact ⟨hfx, (hS2.fr hfx hS2.lt (fun x => x)).cell 20 m1⟩)
    (first
    | (go_at_call 65; (with_reducible refine (HNM.out w14.drew).mono ?_); rintro e w15 ⟨v15, rfl, hv15, hf15⟩; have hn15 := hnd.fr hf15; have hfx : Fr w14.heap.size no w14 w15 := (Fr.refl _ _ _).drew.step hf15 (Nat.le_refl _) (fun _ _ x => x))
    | (go_at_call 64; (with_reducible refine (cmpN vn v15 0 18446744073709551615 w15 hn15 hv15).mono ?_); rintro e w16 ⟨rfl, hf16⟩; have hfx := hfx.step hf16 hfx.size (fun _ _ x => x)))
  rw [show cmpZ 0 18446744073709551615 = -1 by decide]
  clear k20 hSd hnd hv15 hn15 hf15 hf16 HN0 HNM
  replace h2 := h2.fr hfx h2.lt (fun x => x)
  replace hA2 := hA2.fr hfx hA2.lt (fun x => x)
  replace hT2 := hT2.fr hfx hT2.lt (fun x => x)
  replace hS2 := hS2.fr hfx hS2.lt (fun x => x)
  replace hR2 := hR2.fr hfx hR2.lt (fun x => x)
  replace hn := hn.fr hfx
  replace hb := hb.fr hfx
  replace hD := hD.fr hfx
  replace hvg := hvg.fr hfx
  replace hvm := hvm.fr hfx
  replace hvq := hvq.fr hfx
  replace hf := hf.step hfx hf.size (fun _ _ x => x)
  clear hfx
  have k22 := hS2.cell 22 m3
  have k40 := hT2.cell 40 t40
  have qT := hT2.q
  go_wp2_with fail
  clear k22 k40 qT
  refine (HI.out w16 hD).mono ?_
  rintro e w17 ⟨v17, rfl, hv17, hfx⟩
  replace h2 := h2.fr hfx h2.lt (fun x => x)
  replace hA2 := hA2.fr hfx hA2.lt (fun x => x)
  replace hT2 := hT2.fr hfx hT2.lt (fun x => x)
  replace hS2 := hS2.fr hfx hS2.lt (fun x => x)
  replace hR2 := hR2.fr hfx hR2.lt (fun x => x)
  replace hn := hn.fr hfx
  replace hb := hb.fr hfx
  replace hD := hD.fr hfx
  replace hvg := hvg.fr hfx
  replace hvm := hvm.fr hfx
  replace hvq := hvq.fr hfx
  replace hf := hf.step hfx hf.size (fun _ _ x => x)
  clear hfx
  go_wp2_with fail
  refine (cmpN vg v17 200000 (intrN D) w17 hvg hv17).mono ?_
  rintro e w18 ⟨rfl, hfx⟩
  replace h2 := h2.fr hfx h2.lt (fun x => x)
  replace hA2 := hA2.fr hfx hA2.lt (fun x => x)
  replace hT2 := hT2.fr hfx hT2.lt (fun x => x)
  replace hS2 := hS2.fr hfx hS2.lt (fun x => x)
  replace hR2 := hR2.fr hfx hR2.lt (fun x => x)
  replace hn := hn.fr hfx
  replace hb := hb.fr hfx
  replace hD := hD.fr hfx
  replace hvg := hvg.fr hfx
  replace hvm := hvm.fr hfx
  replace hvq := hvq.fr hfx
  replace hf := hf.step hfx hf.size (fun _ _ x => x)
  clear hfx
  obtain ⟨z18, HZ18⟩ : ∃ z : Int, Hid (∀ _ : Unit, cmpZ 200000 (intrN D) = z) := ⟨_, fun _ => rfl⟩
  have hz18 : (z18 < 0) = False := by rw [← HZ18.out ()]; simp [cmpZ]; have := HI2.out (); omega
  rw [HZ18.out ()]
  have k81 := h2.cell 81 c81
  go_wp2_with fail
  clear k81
  refine (num_any 1048576 w18 (by decide)).mono ?_
  rintro e w19 ⟨v19, rfl, hv19, hfx⟩
  replace h2 := h2.fr hfx h2.lt (fun x => x)
  replace hA2 := hA2.fr hfx hA2.lt (fun x => x)
  replace hT2 := hT2.fr hfx hT2.lt (fun x => x)
  replace hS2 := hS2.fr hfx hS2.lt (fun x => x)
  replace hR2 := hR2.fr hfx hR2.lt (fun x => x)
  replace hn := hn.fr hfx
  replace hb := hb.fr hfx
  replace hD := hD.fr hfx
  replace hvg := hvg.fr hfx
  replace hvm := hvm.fr hfx
  replace hvq := hvq.fr hfx
  replace hf := hf.step hfx hf.size (fun _ _ x => x)
  clear hfx
  go_wp2_with fail
  refine (cmpN vg v19 200000 1048576 w19 hvg hv19).mono ?_
  rintro e w20 ⟨rfl, hfx⟩
  replace h2 := h2.fr hfx h2.lt (fun x => x)
  replace hA2 := hA2.fr hfx hA2.lt (fun x => x)
  replace hT2 := hT2.fr hfx hT2.lt (fun x => x)
  replace hS2 := hS2.fr hfx hS2.lt (fun x => x)
  replace hR2 := hR2.fr hfx hR2.lt (fun x => x)
  replace hn := hn.fr hfx
  replace hb := hb.fr hfx
  replace hD := hD.fr hfx
  replace hvg := hvg.fr hfx
  replace hvm := hvm.fr hfx
  replace hvq := hvq.fr hfx
  replace hf := hf.step hfx hf.size (fun _ _ x => x)
  clear hfx
  rw [show cmpZ 200000 1048576 = -1 by decide]
  have k21 := hS2.cell 21 m2
  go_wp2_with fail
  clear k21
  refine (cmpN vb vq (2 ^ 128) 0 w20 hb hvq).mono ?_
  rintro e w21 ⟨rfl, hfx⟩
  replace h2 := h2.fr hfx h2.lt (fun x => x)
  replace hA2 := hA2.fr hfx hA2.lt (fun x => x)
  replace hT2 := hT2.fr hfx hT2.lt (fun x => x)
  replace hS2 := hS2.fr hfx hS2.lt (fun x => x)
  replace hR2 := hR2.fr hfx hR2.lt (fun x => x)
  replace hn := hn.fr hfx
  replace hb := hb.fr hfx
  replace hD := hD.fr hfx
  replace hvg := hvg.fr hfx
  replace hvm := hvm.fr hfx
  replace hvq := hvq.fr hfx
  replace hf := hf.step hfx hf.size (fun _ _ x => x)
  clear hfx
  rw [show cmpZ (2 ^ 128) 0 = 1 by decide]
  go_wp2_with fail
  refine (HFB.out w21 (j + 1) hR2).mono ?_
  rintro e w22 ⟨v22, rfl, hv22, hfx⟩
  replace h2 := h2.fr hfx h2.lt (fun x => x)
  replace hA2 := hA2.fr hfx hA2.lt (fun x => x)
  replace hT2 := hT2.fr hfx hT2.lt (fun x => x)
  replace hS2 := hS2.fr hfx hS2.lt (fun x => x)
  replace hR2 := hR2.fr hfx hR2.lt (fun x => x)
  replace hn := hn.fr hfx
  replace hb := hb.fr hfx
  replace hD := hD.fr hfx
  replace hvg := hvg.fr hfx
  replace hvm := hvm.fr hfx
  replace hvq := hvq.fr hfx
  replace hf := hf.step hfx hf.size (fun _ _ x => x)
  clear hfx
  go_wp2_with fail
  refine (cmpN v22 vm 0 0 w22 hv22 hvm).mono ?_
  rintro e w23 ⟨rfl, hfx⟩
  replace h2 := h2.fr hfx h2.lt (fun x => x)
  replace hA2 := hA2.fr hfx hA2.lt (fun x => x)
  replace hT2 := hT2.fr hfx hT2.lt (fun x => x)
  replace hS2 := hS2.fr hfx hS2.lt (fun x => x)
  replace hR2 := hR2.fr hfx hR2.lt (fun x => x)
  replace hn := hn.fr hfx
  replace hb := hb.fr hfx
  replace hD := hD.fr hfx
  replace hvg := hvg.fr hfx
  replace hvm := hvm.fr hfx
  replace hvq := hvq.fr hfx
  replace hf := hf.step hfx hf.size (fun _ _ x => x)
  clear hfx
  rw [show cmpZ 0 0 = 0 by decide]
  go_wp2_with fail
  refine (HBF.out w23 h2).mono ?_
  rintro e w24 ⟨v24, rfl, hv24, hfx⟩
  replace h2 := h2.fr hfx h2.lt (fun x => x)
  replace hA2 := hA2.fr hfx hA2.lt (fun x => x)
  replace hT2 := hT2.fr hfx hT2.lt (fun x => x)
  replace hS2 := hS2.fr hfx hS2.lt (fun x => x)
  replace hR2 := hR2.fr hfx hR2.lt (fun x => x)
  replace hn := hn.fr hfx
  replace hb := hb.fr hfx
  replace hD := hD.fr hfx
  replace hvg := hvg.fr hfx
  replace hvm := hvm.fr hfx
  replace hvq := hvq.fr hfx
  replace hf := hf.step hfx hf.size (fun _ _ x => x)
  clear hfx
  go_wp2_with fail
  refine (cmpN vm v24 0 0 w24 hvm hv24).mono ?_
  rintro e w25 ⟨rfl, hfx⟩
  replace h2 := h2.fr hfx h2.lt (fun x => x)
  replace hA2 := hA2.fr hfx hA2.lt (fun x => x)
  replace hT2 := hT2.fr hfx hT2.lt (fun x => x)
  replace hS2 := hS2.fr hfx hS2.lt (fun x => x)
  replace hR2 := hR2.fr hfx hR2.lt (fun x => x)
  replace hn := hn.fr hfx
  replace hb := hb.fr hfx
  replace hD := hD.fr hfx
  replace hvg := hvg.fr hfx
  replace hvm := hvm.fr hfx
  replace hvq := hvq.fr hfx
  replace hf := hf.step hfx hf.size (fun _ _ x => x)
  clear hfx
  rw [show cmpZ 0 0 = 0 by decide]
  go_wp2_with fail
  go_ret
  exact ⟨rfl, hf⟩
end Go.Proofs.YgcsanGreat
