/-
  Package yp: Chain.Begin of the transaction at hand.
-/
import Derived.Test.YgcsanGreatS17b
namespace Go.Proofs.YgcsanGreat
open Go.RowKit
set_option linter.unusedSimpArgs false
set_option linter.unusedVariables false
attribute [-go_sem] loadVar storeVar Instr.build Instr.fill Instr.buildSlice Builtin.append_

set_option maxRecDepth 10000 in
set_option maxHeartbeats 8000000 in
theorem begin_any (c gA cap : Nat) (LA : List Value) (vn vb vt data : Value) (D : List Nat) (w : World) (h : VB w c 75 (stV (.slice (some ⟨gA, 0, none⟩) 1 cap) (.slice none 0 0) (.slice none 0 0) (.slice none 0 0) 0 0 0 (.slice none 0 0) (.slice none 0 0) (.slice none 0 0) (.slice none 0 0) vt (List.replicate 20 0))) (hA : VB w gA 106 LA) (hs : subV LA 0 24 = acV (adNo 240) vn vb (.slice none 0 0) (.slice none 0 0)) (hl : 24 ≤ LA.length) (hgc : gA ≠ c)
    (hn : Sl w .u8 vn (digs 0)) (hb : Sl w .u8 vb (digs (2 ^ 128))) (fb : FarS c vb) (ht : Sl w .u8 vt (digs (2 ^ 128))) (ft : FarS c vt) (hD : Sl w .u8 data D) (fD : FarS c data) (lD : D.length ≤ 1024) (hI1 : 3393 ≤ intrN D) (hI2 : intrN D ≤ 68000) :
    Calls Sang.prog 28 #[.pointer (some ⟨c, 0, none⟩), .agg (txM data).toArray] w fun e w' => e = .returned (.int .u8 0) ∧ ∃ g2 cap2 LA2 n1 b1 wa gF capF LF g' va' LA' n' b' li tg pr val inp,
      VB w' c 75 (stV (.slice (some ⟨g2, 0, none⟩) 1 cap2) wa (.slice (some ⟨gF, 0, none⟩) 1 capF) (.slice none 0 0) 1 0 1 li tg (.slice none 0 0) pr vt (adNo 240)) ∧ VB w' g2 106 LA2 ∧ subV LA2 0 24 = acV (adNo 240) n1 b1 (.slice none 0 0) (.slice none 0 0) ∧ 24 ≤ LA2.length ∧ Sl w' .u8 n1 (digs 1) ∧ Far c n1 ∧ Sl w' .u8 b1 (digs (2 ^ 128)) ∧ FarS c b1 ∧
      VB w' gF 119 LF ∧ 60 ≤ LF.length ∧ 1 ≤ capF ∧ subV LF 0 60 = frV 5 tg val inp (adNo 5) (adNo 240) (wdV (.slice (some ⟨g', 0, none⟩) 1 1) va') ∧ VB w' g' 106 LA' ∧ subV LA' 0 24 = acV (adNo 240) n' b' (.slice none 0 0) (.slice none 0 0) ∧ 24 ≤ LA'.length ∧ Sl w' .u8 n' (digs 1) ∧ FarS c n' ∧ Sl w' .u8 b' (digs (2 ^ 128)) ∧ FarS c b' ∧ va'.oneCell' = true ∧ noU8 va' ∧
      (Sl w' .u8 li (digs 200000) ∧ FarS c li ∧ Sl w' .u8 tg (digs (200000 - intrN D)) ∧ FarS c tg ∧ Sl w' .u8 pr (digs 0) ∧ Sl w' .u8 val (digs 0) ∧ Sl w' .u8 inp D ∧ FarS c inp ∧ Sl w' .u8 vt (digs (2 ^ 128)) ∧ wa.oneCell' = true ∧ noU8 wa ∧ FarS gF n1 ∧ FarS gF b1 ∧ FarS gF vt ∧ FarS gF li ∧ FarS gF pr ∧ FarS gF inp ∧ FarS gF tg ∧ FarS gF n' ∧ FarS gF b' ∧ g' ≠ gF ∧ g2 ≠ gF ∧ g' ≠ c ∧ gF ≠ c ∧ c ≠ g2 ∧ w.heap.size ≤ gF ∧ Fr w.heap.size (· = c) w w') := by
  have ncA : c ≠ gA := fun e => hgc e.symm
  have ncT : c ≠ w.heap.size := by have := h.lt; omega
  have fn : FarS c vn := FarS.empty hn
  have lT := txM_length data
  have tf := txM_from data
  have tto := txM_to data
  have t40 : (txM data)[40]? = some (.bool false) := by kernel_rfl
  have t42 : (txM data)[42]? = some (.int .u64 200000) := by kernel_rfl
  have t107 : (txM data)[107]? = some data := by kernel_rfl
  have t173 : (txM data)[173]? = some (.slice none 0 0) := by kernel_rfl
  have t108 : (txM data)[108]? = some (.bool false) := by kernel_rfl
  have tall := txM_all data
  have lA : (adNo 240).length = 20 := rfl
  have lB : (adNo 5).length = 20 := rfl
  have HI : Hid (∀ w', Sl w' .u8 data D → Calls Sang.prog 75 #[.agg (txM data).toArray] w' fun e w'' => ∃ v', e = .returned v' ∧ Sl w'' .u8 v' (digs (intrN D)) ∧ Fr w'.heap.size no w' w'') := fun w' hw => ypIntrinsic_any (adNo 5) (List.replicate 32 0) D data w' rfl (by simp) hw (by omega)
  have HV : Hid (∀ w', VB w' c 75 (stV (.slice (some ⟨gA, 0, none⟩) 1 cap) (.slice none 0 0) (.slice none 0 0) (.slice none 0 0) 0 0 0 (.slice none 0 0) (.slice none 0 0) (.slice none 0 0) (.slice none 0 0) vt (List.replicate 20 0)) → VB w' gA 106 LA → Sl w' .u8 vn (digs 0) → Sl w' .u8 vb (digs (2 ^ 128)) → Sl w' .u8 data D → Calls Sang.prog 71 #[.pointer (some ⟨c, 0, none⟩), .agg (txM data).toArray] w' fun e w'' => e = .returned (.int .u8 0) ∧ Fr w'.heap.size no w' w'') := fun w' q1 q2 q3 q4 q5 => verdict_any c gA cap _ LA vn vb data D w' q1 rfl rfl rfl ((st_env _ _ _ _ _ _ _ _ _ _ _ _ _ rfl 22).trans (by kernel_rfl)) (st_fee _ _ _ _ _ _ _ _ _ _ _ _ _ rfl) q2 hs hl q3 q4 q5 lD (by omega)
  have HAc : Hid (∀ w', VB w' c 75 (stV (.slice (some ⟨gA, 0, none⟩) 1 cap) (.slice none 0 0) (.slice none 0 0) (.slice none 0 0) 0 0 0 (.slice none 0 0) (.slice none 0 0) (.slice none 0 0) (.slice none 0 0) vt (List.replicate 20 0)) → VB w' gA 106 LA → Calls Sang.prog 72 #[.pointer (some ⟨c, 0, none⟩), .agg (byV (adNo 240)).toArray] w' fun e w'' => e = .returned (.agg (acV (adNo 240) vn vb (.slice none 0 0) (.slice none 0 0)).toArray) ∧ Fr w'.heap.size no w' w'') := fun w' g1 g2 => account_hit c 75 _ LA gA cap (adNo 240) vn vb (.slice none 0 0) (.slice none 0 0) w' g1 rfl g2 lA hs hl hn.one hb.one rfl rfl
  have HP : Hid (∀ w' L', VB w' c 75 L' → (∀ i, i < 32 → L'[146 + i]? = some (.int .u8 0)) → Calls Sang.prog 76 #[.pointer (some ⟨c, 0, none⟩), .agg (txM data).toArray] w' fun e w'' => ∃ v', e = .returned v' ∧ Sl w'' .u8 v' (digs 0) ∧ Fr w'.heap.size no w' w'') := fun w' L' q1 q2 => price_zero c 75 L' (txM data) w' q1 q2 lT t108 (txM_price data)
  have HL2 : Hid ((digs 200000).length ≤ 8388608) := by unfold Hid; exact Nat.le_trans (digs_room' 200000 1 (by decide)) (by decide)
  have top3 := top_limit
  have Htop : Hid (∀ _ : Unit, (digs (200000 - intrN D)).getD ((digs (200000 - intrN D)).length - 1) 0 = 2) := fun _ => top_digit _ (by omega) (by omega)
  have hFl := acV_flat (adNo 240) vn vb (.slice none 0 0) (.slice none 0 0) hn.one hb.one rfl rfl
  have hLn := acV_length (adNo 240) vn vb (.slice none 0 0) (.slice none 0 0) lA
  have m1 := acV_nonce (adNo 240) vn vb (.slice none 0 0) (.slice none 0 0) lA
  have m2 := acV_bal (adNo 240) vn vb (.slice none 0 0) (.slice none 0 0) lA
  have m4 := acV_slots (adNo 240) vn vb (.slice none 0 0) (.slice none 0 0) lA
  have hMall := acV_all (adNo 240) vn vb (.slice none 0 0) (.slice none 0 0) lA
  have HMe : Hid (∀ _ : Unit, True) := fun _ => trivial
  generalize hMe : acV (adNo 240) vn vb (.slice none 0 0) (.slice none 0 0) = M at *
  have hu23 := und23
  have lBv : (byV (adNo 240)).length = 20 := rfl
  have lBw : (byV (adNo 5)).length = 20 := rfl
  have eB : subV (byV (adNo 5)) 0 20 = byV (adNo 5) := rfl
  have fBv := byV_flat (adNo 5)
  have fAv := byV_flat (adNo 240)
  have fZv := byV_flat (List.replicate 20 0)
  have lZv : (byV (List.replicate 20 0)).length = 20 := rfl
  have hi23 : (Sang.prog.info? 23).map (·.size) = some (byV (adNo 240)).length := siz23
  have hbz := bld23z
  obtain ⟨Zv, HZv⟩ : ∃ Zv, Hid (∀ _ : Unit, byV (List.replicate 20 0) = Zv) := ⟨_, fun _ => rfl⟩
  rw [HZv.out ()] at fZv lZv
  replace hbz : ∀ w, (Instr.build 23 #[]).run Sang.prog w = .ok (.agg Zv.toArray) w := by rw [← HZv.out ()]; exact hbz
  have HIb : Hid (∀ _ : Unit, 3393 ≤ intrN D ∧ intrN D ≤ 68000) := fun _ => ⟨hI1, hI2⟩
  have hlD : (D.length : Int) ≤ 1024 := by omega
  clear hI1 hI2 lD
  have HNat : Hid (∀ w', Calls Sang.prog 84 #[.agg (byV (adNo 5)).toArray] w' fun e w'' => e = .returned (.int .u8 5) ∧ Fr w'.heap.size no w' w'') := nativeAt_five
  have HFV : Hid (∀ w', VB w' w.heap.size 30 (txM data) → Calls Sang.prog 83 #[.slice (some ⟨w.heap.size, 75, none⟩) 32 32] w' fun e w'' => ∃ v', e = .returned v' ∧ Sl w'' .u8 v' (digs 0) ∧ Fr w'.heap.size no w' w'') := fun w' hw => fromBE_zero (o := 75) hw (txM_val data)
  have hiB : (Sang.prog.info? 23).map (·.size) = some (byV (adNo 5)).length := siz23
  have HA1 : Hid (∀ x ∈ adNo 240, 1 ≠ x) := by unfold Hid; decide
  have HWm : Hid (∀ (w' : World) (L' : List Value) (va : Value) (k : Nat) (X : List Nat), VB w' c 75 L' → L'[1]? = some va → k ≤ 900 → AS w' k va → (∀ a n d, va = .slice (some a) n d → a.block ≠ c) → X.length = 20 → Calls Sang.prog 81 #[.pointer (some ⟨c, 0, none⟩), .agg (byV X).toArray] w' fun e w'' => e = .returned (.tuple #[]) ∧ ∃ va', VB w'' c 75 (L'.set 1 va') ∧ AS w'' (k + 1) va' ∧ (∀ a n d, va' = .slice (some a) n d → a.block ≠ c) ∧ Fr w'.heap.size (· = c) w' w'') := fun w' L' va k X q1 q2 q3 q4 q5 q6 => warm_any c 75 L' va k X w' q1 q2 q3 q4 q5 q6
  have lC : (adNo 192).length = 20 := rfl
  have lB4 : (adNo 4).length = 20 := rfl
  have hb4 : ∀ w, (Instr.build 23 #[(19, .int .u8 4)]).run Sang.prog w = .ok (.agg (byV (adNo 4)).toArray) w := bld23 4
  have hb5 : ∀ w, (Instr.build 23 #[(19, .int .u8 5)]).run Sang.prog w = .ok (.agg (byV (adNo 5)).toArray) w := bld23 5
  obtain ⟨C, HC⟩ : ∃ C, Hid (∀ _ : Unit, adNo 192 = C) := ⟨_, fun _ => rfl⟩
  rw [HC.out ()] at lC
  generalize adNo 4 = B4 at lB4 hb4
  generalize txM data = T at *
  generalize adNo 240 = A at *
  generalize adNo 5 = B at *
  replace h := h.alloc (.cells T.toArray 30)
  replace hA := hA.alloc (.cells T.toArray 30)
  have hT := VB.new w 30 T
  have hf0 : Fr w.heap.size no w (w.alloc (.cells T.toArray 30)) := (Fr.refl _ _ _).alloc (Nat.le_refl _) _
  replace hn := hn.fr hf0
  replace hb := hb.fr hf0
  replace ht := ht.fr hf0
  replace hD := hD.fr hf0
  have hf : Fr w.heap.size (· = c) w (w.alloc (.cells T.toArray 30)) := hf0.weak
  clear hf0
  go_enter Sang.func28, Sang.ntmps28
  have q := hT.q
  go_wp2_with fail
  clear q
  generalize w.alloc (.cells T.toArray 30) = w1 at h hA hT hn hb ht hD hf ⊢
  refine (HV.out w1 h hA hn hb hD).mono ?_
  rintro e w2 ⟨rfl, hfx⟩
  replace h := h.fr hfx h.lt (fun x => x)
  replace hA := hA.fr hfx hA.lt (fun x => x)
  replace hT := hT.fr hfx hT.lt (fun x => x)
  replace hn := hn.fr hfx
  replace hb := hb.fr hfx
  replace ht := ht.fr hfx
  replace hD := hD.fr hfx
  replace hf := hf.step hfx hf.size (fun _ _ x => absurd x (fun x => x))
  clear hfx
  go_upto_region 5 with fail
  generalize hw3 : w2 = w3 at h hA hT hn hb ht hD hf ⊢
  clear hw3
  go_cut [7] (fun s7 wx => ∃ j7, s7 = .pointer (some ⟨j7, 0, none⟩) ∧ VB wx j7 106 M ∧ w3.heap.size ≤ j7 ∧ Fr w3.heap.size no w3 wx)
  case first =>
    have hSall : ∀ w', Fr w3.heap.size no w3 w' → (Fr w3.heap.size no w3 w' ∧ w'.rangeAt w.heap.size 0 (byV A)) := fun w' f => ⟨f, (hT.fr f hT.lt (fun x => x)).range 0 20 tf⟩
    have hz : VB (w3.alloc (.cells #[Value.int IntKind.u8 0, Value.int IntKind.u8 0, Value.int IntKind.u8 0, Value.int IntKind.u8 0, Value.int IntKind.u8 0, Value.int IntKind.u8 0, Value.int IntKind.u8 0, Value.int IntKind.u8 0, Value.int IntKind.u8 0, Value.int IntKind.u8 0, Value.int IntKind.u8 0, Value.int IntKind.u8 0, Value.int IntKind.u8 0, Value.int IntKind.u8 0, Value.int IntKind.u8 0, Value.int IntKind.u8 0, Value.int IntKind.u8 0, Value.int IntKind.u8 0, Value.int IntKind.u8 0, Value.int IntKind.u8 0, Value.slice none 0 0, Value.slice none 0 0, Value.slice none 0 0, Value.slice none 0 0] 106)).drew w3.heap.size 106 zaV := (VB.newAt rfl rfl : VB (w3.alloc (.cells #[Value.int IntKind.u8 0, Value.int IntKind.u8 0, Value.int IntKind.u8 0, Value.int IntKind.u8 0, Value.int IntKind.u8 0, Value.int IntKind.u8 0, Value.int IntKind.u8 0, Value.int IntKind.u8 0, Value.int IntKind.u8 0, Value.int IntKind.u8 0, Value.int IntKind.u8 0, Value.int IntKind.u8 0, Value.int IntKind.u8 0, Value.int IntKind.u8 0, Value.int IntKind.u8 0, Value.int IntKind.u8 0, Value.int IntKind.u8 0, Value.int IntKind.u8 0, Value.int IntKind.u8 0, Value.int IntKind.u8 0, Value.slice none 0 0, Value.slice none 0 0, Value.slice none 0 0, Value.slice none 0 0] 106)) w3.heap.size 106 zaV).drew
    have hzl : w3.heap.size ≤ w3.heap.size := Nat.le_refl _
    have hzL : zaV.length = 24 := rfl
    have q := hz.q
    have la : layV zaV 0 M = M := layV_all _ _ (hLn.trans rfl)
    have hx0 := hSall w3.drew (Fr.refl _ _ _).drew
    have hx1 := hSall (w3.alloc (.cells #[Value.int IntKind.u8 0, Value.int IntKind.u8 0, Value.int IntKind.u8 0, Value.int IntKind.u8 0, Value.int IntKind.u8 0, Value.int IntKind.u8 0, Value.int IntKind.u8 0, Value.int IntKind.u8 0, Value.int IntKind.u8 0, Value.int IntKind.u8 0, Value.int IntKind.u8 0, Value.int IntKind.u8 0, Value.int IntKind.u8 0, Value.int IntKind.u8 0, Value.int IntKind.u8 0, Value.int IntKind.u8 0, Value.int IntKind.u8 0, Value.int IntKind.u8 0, Value.int IntKind.u8 0, Value.int IntKind.u8 0, Value.slice none 0 0, Value.slice none 0 0, Value.slice none 0 0, Value.slice none 0 0] 106)).drew (((Fr.refl _ _ _).alloc (Nat.le_refl _) _).drew)
    go_region_held3 (fun w' => Fr w3.heap.size no w3 w' ∧ w'.rangeAt w.heap.size 0 (byV A))
      (first
        | exact hx0
        | exact hx1
        | exact hSall _ ((‹Fr w3.heap.size no w3 _ ∧ _›).1.step hfx (‹Fr w3.heap.size no w3 _ ∧ _›).1.size (fun _ _ x => x))
        | exact hSall _ ((‹Fr w3.heap.size no w3 _ ∧ _›).1.alloc (‹Fr w3.heap.size no w3 _ ∧ _›).1.size _)
        | exact hSall _ ((‹Fr w3.heap.size no w3 _ ∧ _›).1.setV (.inl hzl) _ _))
      (first | (go_at_call 72; (with_reducible refine (HAc.out _ (h.fr (‹Fr w3.heap.size no w3 _ ∧ _›).1 h.lt (fun x => x)) (hA.fr (‹Fr w3.heap.size no w3 _ ∧ _›).1 hA.lt (fun x => x))).mono ?_); rintro e w7 ⟨rfl, hfx⟩; (first | (have hz := hz.fr hfx hz.lt (fun x => x)) | (have hzl : w3.heap.size ≤ w7.heap.size := Nat.le_trans (‹Fr w3.heap.size no w3 _ ∧ _›).1.size hfx.size; have hz : VB (w7.alloc (.cells #[Value.int IntKind.u8 0, Value.int IntKind.u8 0, Value.int IntKind.u8 0, Value.int IntKind.u8 0, Value.int IntKind.u8 0, Value.int IntKind.u8 0, Value.int IntKind.u8 0, Value.int IntKind.u8 0, Value.int IntKind.u8 0, Value.int IntKind.u8 0, Value.int IntKind.u8 0, Value.int IntKind.u8 0, Value.int IntKind.u8 0, Value.int IntKind.u8 0, Value.int IntKind.u8 0, Value.int IntKind.u8 0, Value.int IntKind.u8 0, Value.int IntKind.u8 0, Value.int IntKind.u8 0, Value.int IntKind.u8 0, Value.slice none 0 0, Value.slice none 0 0, Value.slice none 0 0, Value.slice none 0 0] 106)) w7.heap.size 106 zaV := VB.newAt rfl rfl)); have q := hz.q))
    all_goals (
      go_wp2_with fail
      go_meet
      exact ⟨_, rfl, VB.setV hz.lt _ _, hzl, (‹Fr w3.heap.size no w3 _ ∧ _›).1⟩)
  case rest =>
  obtain ⟨j7, rfl, h7, hj7, hfx⟩ := hcut
  have nc7 : c ≠ j7 := by have := h.lt; omega
  have nT7 : w.heap.size ≠ j7 := by have := hT.lt; omega
  replace h := h.fr hfx h.lt (fun x => x)
  replace hA := hA.fr hfx hA.lt (fun x => x)
  replace hT := hT.fr hfx hT.lt (fun x => x)
  replace hn := hn.fr hfx
  replace hb := hb.fr hfx
  replace ht := ht.fr hfx
  replace hD := hD.fr hfx
  replace hf := hf.step hfx hf.size (fun _ _ x => absurd x (fun x => x))
  clear hfx
  have q := hT.q
  have h8 := VB.new wc 23 (byV B)
  have nc8 : c ≠ wc.heap.size := by have := h.lt; omega
  have n8T : w.heap.size ≠ wc.heap.size := by have := hT.lt; omega
  have n87 : j7 ≠ wc.heap.size := by have := h7.lt; omega
  replace h := h.alloc (.cells (byV B).toArray 23)
  replace hA := hA.alloc (.cells (byV B).toArray 23)
  replace hT := hT.alloc (.cells (byV B).toArray 23)
  replace h7 := h7.alloc (.cells (byV B).toArray 23)
  have hfa : Fr wc.heap.size no wc (wc.alloc (.cells (byV B).toArray 23)) := (Fr.refl _ _ _).alloc (Nat.le_refl _) _
  replace hn := hn.fr hfa
  replace hb := hb.fr hfa
  replace ht := ht.fr hfa
  replace hD := hD.fr hfa
  replace hf := hf.step hfa hf.size (fun _ _ x => absurd x (fun x => x))
  have qh := h.q
  have lst : (stV (.slice (some ⟨gA, 0, none⟩) 1 cap) (.slice none 0 0) (.slice none 0 0) (.slice none 0 0) 0 0 0 (.slice none 0 0) (.slice none 0 0) (.slice none 0 0) (.slice none 0 0) vt (List.replicate 20 0)).length = 179 := stV_length _ _ _ _ _ _ _ _ _ _ _ _ _ rfl
  have la39 : layV (stV (.slice (some ⟨gA, 0, none⟩) 1 cap) (.slice none 0 0) (.slice none 0 0) (.slice none 0 0) 0 0 0 (.slice none 0 0) (.slice none 0 0) (.slice none 0 0) (.slice none 0 0) vt (List.replicate 20 0)) 39 Zv = stV (.slice (some ⟨gA, 0, none⟩) 1 cap) (.slice none 0 0) (.slice none 0 0) (.slice none 0 0) 0 0 0 (.slice none 0 0) (.slice none 0 0) (.slice none 0 0) (.slice none 0 0) vt (List.replicate 20 0) := by rw [← HZv.out ()]; exact st_lay39 _ _ _ _ _ _ _ _ _ _ _ _ _ rfl
  have self39 := setV_self h
  have k9 := h.cell 9 rfl
  have z9 := h.unfrozen 9
  have s9 : (wc.alloc (.cells (byV B).toArray 23)).setCell ⟨c, 9, none⟩ (.slice none 0 0) = wc.alloc (.cells (byV B).toArray 23) := self_cell h 9 rfl
  have k40 := hT.cell 40 t40
  have k13 := h.cell 13 rfl
  have z13 := h.unfrozen 13
  have hT1 := hT.other (a := ⟨c, 13, none⟩) (by simpa using ncT) (.int .u8 1)
  have k42 := hT1.cell 42 t42
  generalize hS0 : stV (.slice (some ⟨gA, 0, none⟩) 1 cap) (.slice none 0 0) (.slice none 0 0) (.slice none 0 0) 0 0 0 (.slice none 0 0) (.slice none 0 0) (.slice none 0 0) (.slice none 0 0) vt (List.replicate 20 0) = S0 at h qh lst la39 self39
  go_wp2_with fail
  clear q qh la39 self39 k9 z9 s9 k40 k13 z13 hT1 k42 lst hfa
  subst hS0
  generalize wc.alloc (.cells (byV B).toArray 23) = w4 at h hA hT h7 h8 hn hb ht hD hf ⊢
  generalize wc.heap.size = j8 at nc8 n8T n87 h8 ⊢
  have hfs : Fr w4.heap.size (· = c) w4 (w4.setCell ⟨c, 13, none⟩ (.int .u8 1)) := (Fr.refl _ (· = c) _).setCell (.inr rfl) _
  replace h : VB (w4.setCell ⟨c, 13, none⟩ (.int .u8 1)) c 75 (stV (.slice (some ⟨gA, 0, none⟩) 1 cap) (.slice none 0 0) (.slice none 0 0) (.slice none 0 0) 0 0 1 (.slice none 0 0) (.slice none 0 0) (.slice none 0 0) (.slice none 0 0) vt (List.replicate 20 0)) := h.set (i := 13) (by rw [stV_length _ _ _ _ _ _ _ _ _ _ _ _ _ rfl]; decide) (.int .u8 1)
  replace hA := hA.other (a := ⟨c, 13, none⟩) (by simpa using ncA) (.int .u8 1)
  replace hT := hT.other (a := ⟨c, 13, none⟩) (by simpa using ncT) (.int .u8 1)
  replace h7 := h7.other (a := ⟨c, 13, none⟩) (by simpa using nc7) (.int .u8 1)
  replace h8 := h8.other (a := ⟨c, 13, none⟩) (by simpa using nc8) (.int .u8 1)
  replace hn := hn.frS fn hfs
  replace hb := hb.frS fb hfs
  replace ht := ht.frS ft hfs
  replace hD := hD.frS fD hfs
  replace hf := hf.setCell (p := ⟨c, 13, none⟩) (.inr rfl) (.int .u8 1)
  clear hfs
  generalize w4.setCell ⟨c, 13, none⟩ (.int .u8 1) = w5 at h hA hT h7 h8 hn hb ht hD hf ⊢
  refine (num_any 200000 w5 (by decide)).mono ?_
  rintro e w6 ⟨li, rfl, hli, hfx⟩
  replace h := h.fr hfx h.lt (fun x => x)
  replace hA := hA.fr hfx hA.lt (fun x => x)
  replace hT := hT.fr hfx hT.lt (fun x => x)
  replace h7 := h7.fr hfx h7.lt (fun x => x)
  replace h8 := h8.fr hfx h8.lt (fun x => x)
  replace hn := hn.fr hfx
  replace hb := hb.fr hfx
  replace ht := ht.fr hfx
  replace hD := hD.fr hfx
  replace hf := hf.step hfx hf.size (fun _ _ x => absurd x (fun x => x))
  clear hfx
  have fli : FarS c li := far_top h rfl (noU8.slice _ _ _) (noU8.slice _ _ _) (noU8.slice _ _ _) (noU8.slice _ _ _) (noU8.slice _ _ _) (noU8.slice _ _ _) (noU8.slice _ _ _) (noU8.slice _ _ _) (noU8.sl ht) hli 3 top3 (by decide) (by decide) (by decide) (by decide) (by intro x hx; rw [(List.mem_replicate.1 hx).2]; decide) (.inl (by decide))
  have k14 := h.cell 14 rfl
  have z14 := h.unfrozen 14
  have oli := hli.one
  go_wp2_with fail
  clear k14 z14
  have hfs : Fr w6.heap.size (· = c) w6 (w6.setCell ⟨c, 14, none⟩ li) := (Fr.refl _ (· = c) _).setCell (.inr rfl) _
  replace h : VB (w6.setCell ⟨c, 14, none⟩ li) c 75 (stV (.slice (some ⟨gA, 0, none⟩) 1 cap) (.slice none 0 0) (.slice none 0 0) (.slice none 0 0) 0 0 1 li (.slice none 0 0) (.slice none 0 0) (.slice none 0 0) vt (List.replicate 20 0)) := h.set (i := 14) (by rw [stV_length _ _ _ _ _ _ _ _ _ _ _ _ _ rfl]; decide) li
  replace hA := hA.other (a := ⟨c, 14, none⟩) (by simpa using ncA) li
  replace hT := hT.other (a := ⟨c, 14, none⟩) (by simpa using ncT) li
  replace h7 := h7.other (a := ⟨c, 14, none⟩) (by simpa using nc7) li
  replace h8 := h8.other (a := ⟨c, 14, none⟩) (by simpa using nc8) li
  replace hn := hn.frS fn hfs
  replace hb := hb.frS fb hfs
  replace ht := ht.frS ft hfs
  replace hD := hD.frS fD hfs
  replace hli := hli.frS fli hfs
  replace hf := hf.setCell (p := ⟨c, 14, none⟩) (.inr rfl) li
  clear hfs
  generalize w6.setCell ⟨c, 14, none⟩ li = w7 at h hA hT h7 h8 hn hb ht hD hli hf ⊢
  have hSall : ∀ w' L', VB w' c 75 L' → L'[14]? = some li → VB w' w.heap.size 30 T → (w'.cell? ⟨c, 14, none⟩ = some li ∧ (loadVar 30 ⟨w.heap.size, 0, none⟩).run Sang.prog w' = .ok (.agg T.toArray) w') := fun w' L' q1 q2 q3 => by
    refine ⟨q1.cell 14 q2, ?_⟩
    have q := q3.q
    rw [ld30 w' w.heap.size 0 q.2.2 (by rw [q.1, lT]; decide), q.1, tall]
  have hx0 := hSall w7.drew _ h.drew rfl hT.drew
  have hDd : Sl w7.drew .u8 data D := hD
  have hlid : Sl w7.drew .u8 li (digs 200000) := hli
  go_cut [73] (fun s73 wx => ∃ tg, Sl wx .u8 tg (digs (200000 - intrN D)) ∧ FarS c tg ∧ ∃ wy, wx = wy.setCell ⟨c, 15, none⟩ tg ∧ Fr w7.heap.size no w7 wy)
  case first =>
    go_region_held3 (fun w' => w'.cell? ⟨c, 14, none⟩ = some li ∧ (loadVar 30 ⟨w.heap.size, 0, none⟩).run Sang.prog w' = .ok (.agg T.toArray) w')
      (first
        | exact hx0
        | exact hSall _ _ hz rfl (hTx.other (a := ⟨c, 15, none⟩) (by simpa using ncT) tg)
        | exact hSall _ _ hhy rfl hTx
        | exact hSall _ _ hhx rfl hTx)
      (first
        | (go_at_call 75; (with_reducible refine (HI.out w7.drew hDd).mono ?_); rintro e w8 ⟨v8, rfl, hv8, hf8⟩; have hfx : Fr w7.heap.size no w7 w8 := (Fr.refl _ _ _).drew.step hf8 (Nat.le_refl _) (fun _ _ x => x); have hhx := h.fr hfx h.lt (fun x => x); have hTx := hT.fr hfx hT.lt (fun x => x); have hli8 := hli.fr hfx)
        | (go_at_call 74; (with_reducible refine (less_any li v8 200000 (intrN D) w8 hli8 hv8 HL2.out).mono ?_); rintro e w9 ⟨tg, rfl, htg, hf9⟩; have hfy := hfx.step hf9 hfx.size (fun _ _ x => x); have hhy := h.fr hfy h.lt (fun x => x); have hTx := hT.fr hfy hT.lt (fun x => x); have k15 := hhy.cell 15 rfl; have z15 := hhy.unfrozen 15; have otg := htg.one; have hz := hhy.set (i := 15) (by rw [stV_length _ _ _ _ _ _ _ _ _ _ _ _ _ rfl]; decide) tg))
    all_goals (
      go_wp2_with fail
      go_meet
      have ftg : FarS c tg := far_top hhy rfl (noU8.slice _ _ _) (noU8.slice _ _ _) (noU8.slice _ _ _) (noU8.slice _ _ _) (noU8.sl hli) (noU8.slice _ _ _) (noU8.slice _ _ _) (noU8.slice _ _ _) (noU8.sl ht) htg 2 (Htop.out ()) (by decide) (by decide) (by decide) (by decide) (by intro x hx; rw [(List.mem_replicate.1 hx).2]; decide) (.inl (by decide))
      exact ⟨tg, htg.frS ftg ((Fr.refl _ (· = c) _).setCell (.inr rfl) _), ftg, w9, rfl, hfy⟩)
  case rest =>
  obtain ⟨tg, htg, ftg, wy, rfl, hfx⟩ := hcut
  clear hSall hx0 hDd hlid
  replace h := h.fr hfx h.lt (fun x => x)
  replace hA := hA.fr hfx hA.lt (fun x => x)
  replace hT := hT.fr hfx hT.lt (fun x => x)
  replace h7 := h7.fr hfx h7.lt (fun x => x)
  replace h8 := h8.fr hfx h8.lt (fun x => x)
  replace hn := hn.fr hfx
  replace hb := hb.fr hfx
  replace ht := ht.fr hfx
  replace hD := hD.fr hfx
  replace hli := hli.fr hfx
  replace hf := hf.step hfx hf.size (fun _ _ x => absurd x (fun x => x))
  clear hfx
  have otg := htg.one
  have htgX := htg
  clear htg
  have hfs : Fr wy.heap.size (· = c) wy (wy.setCell ⟨c, 15, none⟩ tg) := (Fr.refl _ (· = c) _).setCell (.inr rfl) _
  replace h : VB (wy.setCell ⟨c, 15, none⟩ tg) c 75 (stV (.slice (some ⟨gA, 0, none⟩) 1 cap) (.slice none 0 0) (.slice none 0 0) (.slice none 0 0) 0 0 1 li tg (.slice none 0 0) (.slice none 0 0) vt (List.replicate 20 0)) := h.set (i := 15) (by rw [stV_length _ _ _ _ _ _ _ _ _ _ _ _ _ rfl]; decide) tg
  replace hA := hA.other (a := ⟨c, 15, none⟩) (by simpa using ncA) tg
  replace hT := hT.other (a := ⟨c, 15, none⟩) (by simpa using ncT) tg
  replace h7 := h7.other (a := ⟨c, 15, none⟩) (by simpa using nc7) tg
  replace h8 := h8.other (a := ⟨c, 15, none⟩) (by simpa using nc8) tg
  replace hn := hn.frS fn hfs
  replace hb := hb.frS fb hfs
  replace ht := ht.frS ft hfs
  replace hD := hD.frS fD hfs
  replace hli := hli.frS fli hfs
  replace hf := hf.setCell (p := ⟨c, 15, none⟩) (.inr rfl) tg
  clear hfs
  have htg := htgX
  clear htgX
  generalize wy.setCell ⟨c, 15, none⟩ tg = w10 at h hA hT h7 h8 hn hb ht hD hli htg hf ⊢
  have q := hT.q
  go_wp2_with fail
  clear q
  refine (HP.out w10 _ h (st_fee _ _ _ _ _ _ _ _ _ _ _ _ _ rfl)).mono ?_
  rintro e w11 ⟨pr, rfl, hpr, hfx⟩
  replace h := h.fr hfx h.lt (fun x => x)
  replace hA := hA.fr hfx hA.lt (fun x => x)
  replace hT := hT.fr hfx hT.lt (fun x => x)
  replace h7 := h7.fr hfx h7.lt (fun x => x)
  replace h8 := h8.fr hfx h8.lt (fun x => x)
  replace hn := hn.fr hfx
  replace hb := hb.fr hfx
  replace ht := ht.fr hfx
  replace hD := hD.fr hfx
  replace hli := hli.fr hfx
  replace htg := htg.fr hfx
  replace hf := hf.step hfx hf.size (fun _ _ x => absurd x (fun x => x))
  clear hfx
  have fpr : FarS c pr := FarS.empty hpr
  have k17 := h.cell 17 rfl
  have z17 := h.unfrozen 17
  have opr := hpr.one
  have hT1 := hT.other (a := ⟨c, 17, none⟩) (by simpa using ncT) pr
  have qT1 := hT1.q
  have h1 : VB (w11.setCell ⟨c, 17, none⟩ pr) c 75 (stV (.slice (some ⟨gA, 0, none⟩) 1 cap) (.slice none 0 0) (.slice none 0 0) (.slice none 0 0) 0 0 1 li tg (.slice none 0 0) pr vt (List.replicate 20 0)) := h.set (i := 17) (by rw [stV_length _ _ _ _ _ _ _ _ _ _ _ _ _ rfl]; decide) pr
  have qh1 := h1.q
  have lst1 : (stV (.slice (some ⟨gA, 0, none⟩) 1 cap) (.slice none 0 0) (.slice none 0 0) (.slice none 0 0) 0 0 1 li tg (.slice none 0 0) pr vt (List.replicate 20 0)).length = 179 := stV_length _ _ _ _ _ _ _ _ _ _ _ _ _ rfl
  have la19 : layV (stV (.slice (some ⟨gA, 0, none⟩) 1 cap) (.slice none 0 0) (.slice none 0 0) (.slice none 0 0) 0 0 1 li tg (.slice none 0 0) pr vt (List.replicate 20 0)) 19 (byV A) = stV (.slice (some ⟨gA, 0, none⟩) 1 cap) (.slice none 0 0) (.slice none 0 0) (.slice none 0 0) 0 0 1 li tg (.slice none 0 0) pr vt A := st_lay19 _ _ _ _ _ _ _ _ _ _ _ _ _ A rfl lA
  have h2 : VB (setV (w11.setCell ⟨c, 17, none⟩ pr) c 75 (stV (.slice (some ⟨gA, 0, none⟩) 1 cap) (.slice none 0 0) (.slice none 0 0) (.slice none 0 0) 0 0 1 li tg (.slice none 0 0) pr vt A)) c 75 (stV (.slice (some ⟨gA, 0, none⟩) 1 cap) (.slice none 0 0) (.slice none 0 0) (.slice none 0 0) 0 0 1 li tg (.slice none 0 0) pr vt A) := VB.setV h1.lt 75 _
  have k8 := h2.cell 8 rfl
  have z8 := h2.unfrozen 8
  have s8 : (setV (w11.setCell ⟨c, 17, none⟩ pr) c 75 (stV (.slice (some ⟨gA, 0, none⟩) 1 cap) (.slice none 0 0) (.slice none 0 0) (.slice none 0 0) 0 0 1 li tg (.slice none 0 0) pr vt A)).setCell ⟨c, 8, none⟩ (.slice none 0 0) = setV (w11.setCell ⟨c, 17, none⟩ pr) c 75 (stV (.slice (some ⟨gA, 0, none⟩) 1 cap) (.slice none 0 0) (.slice none 0 0) (.slice none 0 0) 0 0 1 li tg (.slice none 0 0) pr vt A) := self_cell h2 8 rfl
  have k0 := h2.cell 0 rfl
  generalize hS1 : stV (.slice (some ⟨gA, 0, none⟩) 1 cap) (.slice none 0 0) (.slice none 0 0) (.slice none 0 0) 0 0 1 li tg (.slice none 0 0) pr vt (List.replicate 20 0) = S1 at h1 qh1 lst1 la19
  generalize hS2 : stV (.slice (some ⟨gA, 0, none⟩) 1 cap) (.slice none 0 0) (.slice none 0 0) (.slice none 0 0) 0 0 1 li tg (.slice none 0 0) pr vt A = S2 at la19 h2 k8 z8 s8 k0
  go_wp2_with fail
  subst hS2
  clear hS1 k8 z8 s8 k0 qh1 lst1 la19 qT1 hT1 k17 z17 h1
  have hfs : Fr w11.heap.size (· = c) w11 (setV (w11.setCell ⟨c, 17, none⟩ pr) c 75 (stV (.slice (some ⟨gA, 0, none⟩) 1 cap) (.slice none 0 0) (.slice none 0 0) (.slice none 0 0) 0 0 1 li tg (.slice none 0 0) pr vt A)) := ((Fr.refl _ (· = c) _).setCell (.inr rfl) _).setV (.inr rfl) _ _
  replace h := h2
  clear h2
  replace hA := (hA.other (a := ⟨c, 17, none⟩) (by simpa using ncA) pr).otherV (b' := c) (fun e => ncA e.symm) 75 (stV (.slice (some ⟨gA, 0, none⟩) 1 cap) (.slice none 0 0) (.slice none 0 0) (.slice none 0 0) 0 0 1 li tg (.slice none 0 0) pr vt A)
  replace hT := (hT.other (a := ⟨c, 17, none⟩) (by simpa using ncT) pr).otherV (b' := c) (fun e => ncT e.symm) 75 (stV (.slice (some ⟨gA, 0, none⟩) 1 cap) (.slice none 0 0) (.slice none 0 0) (.slice none 0 0) 0 0 1 li tg (.slice none 0 0) pr vt A)
  replace h7 := (h7.other (a := ⟨c, 17, none⟩) (by simpa using nc7) pr).otherV (b' := c) (fun e => nc7 e.symm) 75 (stV (.slice (some ⟨gA, 0, none⟩) 1 cap) (.slice none 0 0) (.slice none 0 0) (.slice none 0 0) 0 0 1 li tg (.slice none 0 0) pr vt A)
  replace h8 := (h8.other (a := ⟨c, 17, none⟩) (by simpa using nc8) pr).otherV (b' := c) (fun e => nc8 e.symm) 75 (stV (.slice (some ⟨gA, 0, none⟩) 1 cap) (.slice none 0 0) (.slice none 0 0) (.slice none 0 0) 0 0 1 li tg (.slice none 0 0) pr vt A)
  replace hn := hn.frS fn hfs
  replace hb := hb.frS fb hfs
  replace ht := ht.frS ft hfs
  replace hD := hD.frS fD hfs
  replace hli := hli.frS fli hfs
  replace htg := htg.frS ftg hfs
  replace hpr := hpr.frS fpr hfs
  replace hf := hf.step hfs hf.size (fun _ _ x => x)
  clear hfs
  generalize setV (w11.setCell ⟨c, 17, none⟩ pr) c 75 (stV (.slice (some ⟨gA, 0, none⟩) 1 cap) (.slice none 0 0) (.slice none 0 0) (.slice none 0 0) 0 0 1 li tg (.slice none 0 0) pr vt A) = w12 at h hA hT h7 h8 hn hb ht hD hli htg hpr hf ⊢
  go_loopw [96] (fun iv wr => (iv = .int .i64 0 ∧ wr = w12) ∨ (iv = .int .i64 1 ∧ wr = w12.alloc (.cells M.toArray 106))) (fun i _ => 1 - (intOf i).toNat)
  case atStart => exact .inl ⟨rfl, rfl⟩
  case round =>
  rcases hrel with ⟨rfl, rfl⟩ | ⟨rfl, hwr⟩
  · have qA := hA.q
    have k23 := (VB.new wr 106 M).cell 23 m4
    go_wp2_with fail
    go_loopw [103] (fun iv wr' => iv = .int .i64 0 ∧ wr' = wr.alloc (.cells M.toArray 106)) (fun _ _ => 0)
    case atStart => exact ⟨rfl, rfl⟩
    case round =>
      obtain ⟨rfl, rfl⟩ := hrel
      go_wp2_with fail
      refine ⟨.inr ?_, by simp [intOf]⟩
      simp
  replace h := h.alloc (.cells M.toArray 106)
  replace hA := hA.alloc (.cells M.toArray 106)
  replace hT := hT.alloc (.cells M.toArray 106)
  replace h7 := h7.alloc (.cells M.toArray 106)
  replace h8 := h8.alloc (.cells M.toArray 106)
  have hfa : Fr w12.heap.size no w12 (w12.alloc (.cells M.toArray 106)) := (Fr.refl _ _ _).alloc (Nat.le_refl _) _
  replace hn := hn.fr hfa
  replace hb := hb.fr hfa
  replace ht := ht.fr hfa
  replace hD := hD.fr hfa
  replace hli := hli.fr hfa
  replace htg := htg.fr hfa
  replace hpr := hpr.fr hfa
  replace hf := hf.step hfa hf.size (fun _ _ x => absurd x (fun x => x))
  clear hfa
  rw [← hwr] at h hA hT h7 h8 hn hb ht hD hli htg hpr hf
  clear hwr
  go_wp2_with fail
  exact wp_join (begin_tail c gA cap j7 j8 LA M Zv T vn vb vt data li tg pr D A B B4 C w wr hl hgc fb ft fD ncA ncT fn HL2 top3 Htop hs hFl hLn m1 m2 m4 hMall hu23 lZv fZv HZv hbz HIb hlD HWm lC HC lB4 hb4 lT t40 t42 t107 t173 t108 tall HFV lA hMe lBv fAv hi23 HA1 tf lB lBw eB fBv HNat hiB hb5 tto nc7 nT7 nc8 n8T n87 fli oli ftg otg fpr opr h hA hT h7 h8 hn hb ht hD hli htg hpr hf _ _ _ _ _ _ _ _ _ _ _ _ _ _ _ _ _ _ _ _ _ _ _ _ _ _ _ _ _ _ _ _ _ _ _ _ _ _ _ _ _ _ _ _ _ _ _ _ _ _ _ _ _ _ _ _ _ _ _ _ _ _ _ _ _ _ _ _ _ _ _ _ _ _ _ _ _ _ _ _ _ _ _ _ _ _ _ _ _ _ _ _ _ _ _ _ _ _ _ _ _ _ _ _ _ _ _ _ _ _ _ _ _ _ _ _ _ _ _ _ _ _ _ _ _ _ _ _ _ _ _ _ _ _ _ _ _ _ _ _ _ _ _ _ _ _ _ _ _ _ _ _ _ _ _ _ _ _ _ _ _ _ _ _ _ _ _ _ _ _ _ _ _ _ _ _ _ _ _ _ _ _ _ _ _ _ _ _ _ _ _ _ _ _ _ _ _ _ _ _ _ _ _ _ _ _ _ _ _ _ _ _ _ _ _ _ _ _ _ _ _ _ _ _ _ _ _ _ _ _ _ _ _ _ _ _ _ _ _ _ _ _ _ _ _ _ _ _ _ _ _ _ _ _ _ _ _ _ _ _ _ _ _) (by assumption)
end Go.Proofs.YgcsanGreat
