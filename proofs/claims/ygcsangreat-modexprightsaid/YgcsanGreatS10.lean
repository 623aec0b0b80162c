/-
  Package yp: New on the stage's world.
-/
import Derived.Test.YgcsanGreatS8
import Derived.Test.YgcsanGreatS9
namespace Go.Proofs.YgcsanGreat
open Go.RowKit
set_option linter.unusedSimpArgs false
set_option linter.unusedVariables false
attribute [-go_sem] loadVar storeVar Instr.build Instr.fill Instr.buildSlice Builtin.append_


theorem lay75 : layV Sang.zeroCells75.toList 59 envV = stV (.slice none 0 0) (.slice none 0 0) (.slice none 0 0) (.slice none 0 0) 0 0 0 (.slice none 0 0) (.slice none 0 0) (.slice none 0 0) (.slice none 0 0) (.slice none 0 0) (List.replicate 20 0) := by kernel_rfl
theorem zc75 : Sang.zeroCells75.toList.length = 179 := by kernel_rfl
theorem val128 : val 256 b128.reverse = 2 ^ 128 := by kernel_rfl
theorem digs128 : digs (2 ^ 128) = List.replicate 16 0 ++ [1] := by
  have h : val 256 (List.replicate 16 0 ++ [1]) = 2 ^ 128 := by kernel_rfl
  exact (eq_digs (by intro d hd; simp at hd; omega) (.inr ⟨_, _, rfl, by decide⟩) h).symm

theorem step_append_nil {P : Program} {w : World} {ops : Array Oper} {K : Act → World → Prop} {Q : Exit → Act → World → Prop} {E : Prop} {a : Act} {dst : Option Tmp} {type : TypeId} {pos : String} {after : Array Edge}
    (s x : Operand) (t e : TypeId) (i : TypeInfo) (z : Value) (size bytes : Nat) (h1 : P.underlying t = some (.slice e)) (h2 : P.info? e = some i) (h3 : i.zero = some z) (h4 : i.size = size) (h5 : i.bytes = bytes) (h6 : z.cells.size = size) (h7 : 0 < size) (h8 : bytes ≤ 4096)
    (hs : a.eval s = .slice none 0 0) (b c : Nat) (t' : TypeId) (N : List Value) (hx : a.eval x = .slice (some ⟨b, 0, none⟩) 1 c) (hV : VB w b t' N) (hn : N.length = size) (hf : Flat N)
    (hK : ∀ g cap L w', w.heap.size ≤ g → VB w' g e L → 1 ≤ cap → cap ≤ maxLen → L.length = cap * size → subV L 0 size = N → Fr w.heap.size no w w' → K (a.put dst (.slice (some ⟨g, 0, none⟩) 1 cap)) w') :
    if Region.wanted ⟨dst, .call { callee := .builtin .append, args := #[s, x], argTypes := #[t, t] }, type, pos, after, none⟩ (yielded ops a.tmps) = true then
      Oper.wp P ⟨dst, .call { callee := .builtin .append, args := #[s, x], argTypes := #[t, t] }, type, pos, after, none⟩ a w K Q else E := by
  refine step_append_grows rfl s x t rfl e i z size bytes h1 h2 h3 h4 h5 h6 h7 none 0 0 [] hs (fun _ => ⟨rfl, rfl⟩) (by simp) (by simp) ⟨b, 0, none⟩ 1 c N hx (by omega) ?_ hf (by omega) (by unfold maxLen; omega) (by omega) ?_
  · intro j u hj
    have := hV.cell j hj
    rw [Addr.add_lit]
    simpa using this
  · intro v' w' ho hg
    obtain ⟨g, cap, L, rfl, r1, r2, r3, r4, r5, r6, r7⟩ := own_one ho hg
    exact hK g cap L w' r1 r2 r3 r4 r5 r6 r7

set_option maxRecDepth 10000 in
set_option maxHeartbeats 4000000 in
theorem new_any (g cap : Nat) (LA : List Value) (w : World) (h : VB w g 98 LA) (hl : 55 ≤ LA.length) (hs : subV LA 0 55 = oaV) :
    Calls Sang.prog 42 #[.slice (some ⟨g, 0, none⟩) 1 cap, .agg envV.toArray] w fun e w' => ∃ c gA cap' LA' vn vb vt, e = .returned (.tuple #[.pointer (some ⟨c, 0, none⟩), .bool true]) ∧ VB w' c 75 (stV (.slice (some ⟨gA, 0, none⟩) 1 cap') (.slice none 0 0) (.slice none 0 0) (.slice none 0 0) 0 0 0 (.slice none 0 0) (.slice none 0 0) (.slice none 0 0) (.slice none 0 0) vt (List.replicate 20 0)) ∧
      VB w' gA 106 LA' ∧ subV LA' 0 24 = acV (adNo 240) vn vb (.slice none 0 0) (.slice none 0 0) ∧ 24 ≤ LA'.length ∧ Sl w' .u8 vn (digs 0) ∧ Sl w' .u8 vb (digs (2 ^ 128)) ∧ FarS c vb ∧ Sl w' .u8 vt (digs (2 ^ 128)) ∧ FarS c vt ∧ w.heap.size ≤ c ∧ w.heap.size ≤ gA ∧ gA ≠ c ∧ Fr w.heap.size no w w' := by
  have hOK : ∀ w', VB w' g 98 LA → Calls Sang.prog 113 #[.slice (some ⟨g, 0, none⟩) 1 cap] w' fun e w'' => e = .returned (.bool true) ∧ Fr w'.heap.size no w' w'' := fun w' hw => worldOK_any g cap LA w' hw hl hs
  have hE119 : envV[119]? = some (.slice none 0 0) := by kernel_rfl
  have hEn := fun w => envOK_any envV w hE119
  have hEl := envV_length
  have hEf := envV_flat
  have hEs : subV envV 0 120 = envV := by rw [← hEl]; simp [subV]
  have HOK : Hid (∀ w', VB w' g 98 LA → Calls Sang.prog 113 #[.slice (some ⟨g, 0, none⟩) 1 cap] w' fun e w'' => e = .returned (.bool true) ∧ Fr w'.heap.size no w' w'') := hOK
  have HEn : Hid (∀ w, Calls Sang.prog 114 #[.agg envV.toArray] w fun e w' => e = .returned (.bool true) ∧ Fr w.heap.size no w w') := hEn
  have h1 := h.alloc (.cells envV.toArray 64)
  have hE1 := VB.new w 64 envV
  have hf : Fr w.heap.size no w (w.alloc (.cells envV.toArray 64)) := (Fr.refl _ _ _).alloc (Nat.le_refl _) _
  have hla := lay75
  have hst0 : (stV (.slice none 0 0) (.slice none 0 0) (.slice none 0 0) (.slice none 0 0) 0 0 0 (.slice none 0 0) (.slice none 0 0) (.slice none 0 0) (.slice none 0 0) (.slice none 0 0) (List.replicate 20 0)).set 178 (.slice none 0 0) = stV (.slice none 0 0) (.slice none 0 0) (.slice none 0 0) (.slice none 0 0) 0 0 0 (.slice none 0 0) (.slice none 0 0) (.slice none 0 0) (.slice none 0 0) (.slice none 0 0) (List.replicate 20 0) := by kernel_rfl
  have hst178 : (stV (.slice none 0 0) (.slice none 0 0) (.slice none 0 0) (.slice none 0 0) 0 0 0 (.slice none 0 0) (.slice none 0 0) (.slice none 0 0) (.slice none 0 0) (.slice none 0 0) (List.replicate 20 0))[178]? = some (.slice none 0 0) := by kernel_rfl
  have hst0l : (stV (.slice none 0 0) (.slice none 0 0) (.slice none 0 0) (.slice none 0 0) 0 0 0 (.slice none 0 0) (.slice none 0 0) (.slice none 0 0) (.slice none 0 0) (.slice none 0 0) (List.replicate 20 0)).length = 179 := by kernel_rfl
  have hZl := zc75
  clear hOK hEn
  obtain ⟨st0, hst0e⟩ : ∃ st0, Hid (∀ _ : Unit, stV (.slice none 0 0) (.slice none 0 0) (.slice none 0 0) (.slice none 0 0) 0 0 0 (.slice none 0 0) (.slice none 0 0) (.slice none 0 0) (.slice none 0 0) (.slice none 0 0) (List.replicate 20 0) = st0) := ⟨_, fun _ => rfl⟩
  rw [hst0e.out ()] at hla hst0 hst178 hst0l
  generalize envV = E at *
  go_enter Sang.func42, Sang.ntmps42
  go_wp2_with fail
  generalize w.alloc (.cells E.toArray 64) = w1 at h1 hE1 hf ⊢
  refine (HOK.out w1 h1).mono ?_
  rintro e w2 ⟨rfl, hfx⟩
  replace h1 := h1.fr hfx h1.lt (fun x => x)
  replace hE1 := hE1.fr hfx hE1.lt (fun x => x)
  replace hf := hf.step hfx hf.size (fun _ _ x => x)
  clear hfx HOK
  have q := hE1.q
  go_wp2_with fail
  refine (HEn.out w2).mono ?_
  rintro e w3 ⟨rfl, hfx⟩
  replace h1 := h1.fr hfx h1.lt (fun x => x)
  replace hE1 := hE1.fr hfx hE1.lt (fun x => x)
  replace hf := hf.step hfx hf.size (fun _ _ x => x)
  clear hfx HEn q
  have h2 := h1.alloc (.cells Sang.zeroCells75 75)
  have hE2 := hE1.alloc (.cells Sang.zeroCells75 75)
  have hf2 := hf.alloc hf.size (.cells Sang.zeroCells75 75)
  have hC := zeroV w3 Sang.zeroCells75 75
  generalize Sang.zeroCells75.toList = Z75 at *
  have q1 := hE2.q
  have q2 := hC.q
  have hcE : w3.heap.size ≠ w.heap.size := by have := hE1.lt; omega
  have hcg : w3.heap.size ≠ g := by have := h1.lt; omega
  have hE3 := hE2.otherV (b' := w3.heap.size) (fun e => hcE e.symm) 75 st0
  have kE := hE3.cell 119 hE119
  go_wp2_with fail
  replace h2 := h2.otherV (b' := w3.heap.size) (fun e => hcg e.symm) 75 st0
  replace hC := VB.setV hC.lt 75 st0
  replace hf2 := hf2.setV (b := w3.heap.size) (.inl hf.size) 75 st0
  clear q1 q2 hE2 kE
  generalize setV (w3.alloc (.cells Sang.zeroCells75 75)) w3.heap.size 75 st0 = w4 at h2 hC hf2 hE3 ⊢
  obtain ⟨c, hc⟩ : ∃ c, c = w3.heap.size := ⟨_, rfl⟩
  have hwc : w.heap.size < c := by have := hE1.lt; omega
  rw [← hc] at hC hcE hcg ⊢
  clear hc hE1 h1 hf hE3
  refine (wordsOf_nil w4).mono ?_
  rintro e w5 ⟨rfl, rfl⟩
  have k178 := hC.cell 178 hst178
  have z178 := hC.unfrozen 178
  have s178 : w5.setCell ⟨c, 178, none⟩ (.slice none 0 0) = w5 := by
    have := setCells_setV [(.slice none 0 0)] w5 c 75 _ 178 hC (by rw [hst0l]; simp)
    simp only [World.setCells, layV] at this
    rw [this, hst0]
    exact setV_self hC
  go_wp2_with fail
  rw [← hst0e.out ()] at hC
  have hO := oaV_length
  have hOf := oaV_flat
  have o20 : oaV[20]? = some (.int .u64 0) := by kernel_rfl
  have o53 : oaV[53]? = some (.slice none 0 0) := by kernel_rfl
  have o54 : oaV[54]? = some (.slice none 0 0) := by kernel_rfl
  have oA : subV oaV 0 20 = byV (adNo 240) := by kernel_rfl
  have oB : ∀ i, i < 32 → oaV[21 + i]? = some (.int .u8 ((b128.getD i 0 : Nat) : Int)) := oaV_bal
  have lA : (adNo 240).length = 20 := rfl
  generalize oaV = O at *
  clear k178 z178 s178 hst0 hst178 hst0l hst0e hla
  go_loopw [36] (fun iv wr => (iv = .int .i64 0 ∧ wr = w5) ∨ (iv = .int .i64 1 ∧ ∃ gA cap' LA' vn vb vt, VB wr c 75 (stV (.slice (some ⟨gA, 0, none⟩) 1 cap') (.slice none 0 0) (.slice none 0 0) (.slice none 0 0) 0 0 0 (.slice none 0 0) (.slice none 0 0) (.slice none 0 0) (.slice none 0 0) vt (List.replicate 20 0)) ∧ VB wr gA 106 LA' ∧ subV LA' 0 24 = acV (adNo 240) vn vb (.slice none 0 0) (.slice none 0 0) ∧ 24 ≤ LA'.length ∧ Sl wr .u8 vn (digs 0) ∧ Sl wr .u8 vb (digs (2 ^ 128)) ∧ FarS c vb ∧ Sl wr .u8 vt (digs (2 ^ 128)) ∧ FarS c vt ∧ w.heap.size ≤ gA ∧ gA ≠ c ∧ Fr w.heap.size no w wr)) (fun i _ => 1 - (intOf i).toNat)
  case atStart => exact .inl ⟨rfl, rfl⟩
  case round =>
    rcases hrel with ⟨rfl, rfl⟩ | ⟨rfl, gA, cap', LA', vn, vb, vt, r1, r2, r3, r4, r5, r6, r7, r8, r9, r10, r11, r12⟩
    · have qg := h2.q
      go_upto_region 9 with fail
      have hM := VB.new wr 98 O
      have hC1 := hC.alloc (.cells O.toArray 98)
      have hf3 := hf2.alloc hf2.size (.cells O.toArray 98)
      generalize wr.alloc (.cells O.toArray 98) = w5 at hM hC1 hf3 ⊢
      have hj5 : ∃ j5, j5 = wr.heap.size := ⟨_, rfl⟩
      obtain ⟨j5, hj5⟩ := hj5
      rw [← hj5] at hM ⊢
      clear hj5 qg hC h2 hf2
      have HCl : Hid (VB w5 c 75 (stV (.slice none 0 0) (.slice none 0 0) (.slice none 0 0) (.slice none 0 0) 0 0 0 (.slice none 0 0) (.slice none 0 0) (.slice none 0 0) (.slice none 0 0) (.slice none 0 0) (List.replicate 20 0)) ∧ Fr w.heap.size no w w5) := ⟨hC1, hf3⟩
      have hcl : c < w5.heap.size := hC1.lt
      clear hC1 hf3
      go_cut [9] (fun s9 wx => ∃ j6 n' b', s9 = .pointer (some ⟨j6, 0, none⟩) ∧ VB wx j6 106 (acV (adNo 240) n' b' (.slice none 0 0) (.slice none 0 0)) ∧ Sl wx .u8 n' (digs 0) ∧ Sl wx .u8 b' (digs (2 ^ 128)) ∧ w5.heap.size ≤ j6 ∧ Fr w5.heap.size no w5 wx)
      case first =>
        have HN : Hid (∀ w', Calls Sang.prog 65 #[.int .u64 0] w' (fun e w'' => ∃ v', e = .returned v' ∧ Sl w'' .u8 v' (digs 0) ∧ Fr w'.heap.size no w' w'')) := fun w' => num_any 0 w' (by decide)
        have HBa : Hid (∀ w', Fr w5.heap.size no w5 w' → Calls Sang.prog 83 #[.slice (some ⟨j5, 21, none⟩) 32 32] w' (fun e w'' => ∃ v', e = .returned v' ∧ Sl w'' .u8 v' (digs (2 ^ 128)) ∧ Fr w'.heap.size no w' w'')) := fun w' f => by
          have hM' := hM.fr f hM.lt (fun x => x)
          have hS := Sl.of_vb hM' 21 b128 (fun i hi => oB i (by simpa [b128] using hi)) (by decide)
          have := fromBE_any _ _ w' hS b128_dg (by decide)
          rw [val128] at this
          exact this
        have HCo : Hid (∀ w, Calls Sang.prog 49 #[.slice none 0 0] w fun e w' => e = .returned (.slice none 0 0) ∧ w' = w) := bytesOf_nil
        have hu23 := und23
        have lB : (byV (adNo 240)).length = 20 := rfl
        have hi23 : (Sang.prog.info? 23).map (·.size) = some (byV (adNo 240)).length := siz23
        have hSall : ∀ w', Fr w5.heap.size no w5 w' → (Fr w5.heap.size no w5 w' ∧ w'.rangeAt j5 0 (byV (adNo 240)) ∧ w'.cell? ⟨j5, 20, none⟩ = some (.int .u64 0) ∧ w'.cell? ⟨j5, 53, none⟩ = some (.slice none 0 0)) := fun w' f => by
          have hM' := hM.fr f hM.lt (fun x => x)
          exact ⟨f, hM'.range 0 20 oA, hM'.cell 20 o20, hM'.cell 53 o53⟩
        have hz : VB (w5.alloc (.cells #[Value.int IntKind.u8 0, Value.int IntKind.u8 0, Value.int IntKind.u8 0, Value.int IntKind.u8 0, Value.int IntKind.u8 0, Value.int IntKind.u8 0, Value.int IntKind.u8 0, Value.int IntKind.u8 0, Value.int IntKind.u8 0, Value.int IntKind.u8 0, Value.int IntKind.u8 0, Value.int IntKind.u8 0, Value.int IntKind.u8 0, Value.int IntKind.u8 0, Value.int IntKind.u8 0, Value.int IntKind.u8 0, Value.int IntKind.u8 0, Value.int IntKind.u8 0, Value.int IntKind.u8 0, Value.int IntKind.u8 0, Value.slice none 0 0, Value.slice none 0 0, Value.slice none 0 0, Value.slice none 0 0] 106)).drew w5.heap.size 106 zaV := (VB.newAt rfl rfl : VB (w5.alloc (.cells #[Value.int IntKind.u8 0, Value.int IntKind.u8 0, Value.int IntKind.u8 0, Value.int IntKind.u8 0, Value.int IntKind.u8 0, Value.int IntKind.u8 0, Value.int IntKind.u8 0, Value.int IntKind.u8 0, Value.int IntKind.u8 0, Value.int IntKind.u8 0, Value.int IntKind.u8 0, Value.int IntKind.u8 0, Value.int IntKind.u8 0, Value.int IntKind.u8 0, Value.int IntKind.u8 0, Value.int IntKind.u8 0, Value.int IntKind.u8 0, Value.int IntKind.u8 0, Value.int IntKind.u8 0, Value.int IntKind.u8 0, Value.slice none 0 0, Value.slice none 0 0, Value.slice none 0 0, Value.slice none 0 0] 106)) w5.heap.size 106 zaV).drew
        have hzl : w5.heap.size ≤ w5.heap.size := Nat.le_refl _
        have hzL : zaV.length = 24 := rfl
        have q := hz.q
        have hx0 := hSall w5.drew (Fr.refl _ _ _).drew
        have hx1 := hSall (w5.alloc (.cells #[Value.int IntKind.u8 0, Value.int IntKind.u8 0, Value.int IntKind.u8 0, Value.int IntKind.u8 0, Value.int IntKind.u8 0, Value.int IntKind.u8 0, Value.int IntKind.u8 0, Value.int IntKind.u8 0, Value.int IntKind.u8 0, Value.int IntKind.u8 0, Value.int IntKind.u8 0, Value.int IntKind.u8 0, Value.int IntKind.u8 0, Value.int IntKind.u8 0, Value.int IntKind.u8 0, Value.int IntKind.u8 0, Value.int IntKind.u8 0, Value.int IntKind.u8 0, Value.int IntKind.u8 0, Value.int IntKind.u8 0, Value.slice none 0 0, Value.slice none 0 0, Value.slice none 0 0, Value.slice none 0 0] 106)).drew (((Fr.refl _ _ _).alloc (Nat.le_refl _) _).drew)
        clear hM o20 o53 oB oA
        generalize adNo 240 = A at *
        go_region_held3 (fun w' => Fr w5.heap.size no w5 w' ∧ w'.rangeAt j5 0 (byV A) ∧ w'.cell? ⟨j5, 20, none⟩ = some (.int .u64 0) ∧ w'.cell? ⟨j5, 53, none⟩ = some (.slice none 0 0))
          (first
            | exact hx0
            | exact hx1
            | exact hSall _ ((‹Fr w5.heap.size no w5 _ ∧ _›).1.step hfx (‹Fr w5.heap.size no w5 _ ∧ _›).1.size (fun _ _ x => x))
            | exact hSall _ ((‹Fr w5.heap.size no w5 _ ∧ _›).1.alloc (‹Fr w5.heap.size no w5 _ ∧ _›).1.size _)
            | exact hSall _ (‹Fr w5.heap.size no w5 _ ∧ _›).1
            | exact hSall _ ((‹Fr w5.heap.size no w5 _ ∧ _›).1.setV (.inl hzl) _ _))
          (first
            | (go_at_call 65; (with_reducible refine (HN.out _).mono ?_); rintro e w7 ⟨v7, rfl, hs7, hfx⟩; (first | (have hz := hz.fr hfx hz.lt (fun x => x)) | (have hzl : w5.heap.size ≤ w7.heap.size := Nat.le_trans (‹Fr w5.heap.size no w5 _ ∧ _›).1.size hfx.size; have hz : VB (w7.alloc (.cells #[Value.int IntKind.u8 0, Value.int IntKind.u8 0, Value.int IntKind.u8 0, Value.int IntKind.u8 0, Value.int IntKind.u8 0, Value.int IntKind.u8 0, Value.int IntKind.u8 0, Value.int IntKind.u8 0, Value.int IntKind.u8 0, Value.int IntKind.u8 0, Value.int IntKind.u8 0, Value.int IntKind.u8 0, Value.int IntKind.u8 0, Value.int IntKind.u8 0, Value.int IntKind.u8 0, Value.int IntKind.u8 0, Value.int IntKind.u8 0, Value.int IntKind.u8 0, Value.int IntKind.u8 0, Value.int IntKind.u8 0, Value.slice none 0 0, Value.slice none 0 0, Value.slice none 0 0, Value.slice none 0 0] 106)) w7.heap.size 106 zaV := VB.newAt rfl rfl)); have q := hz.q)
            | (go_at_call 83; (with_reducible refine (HBa.out _ (‹Fr w5.heap.size no w5 _ ∧ _›).1).mono ?_); rintro e w8 ⟨v8, rfl, hs8, hfx⟩; have hs7' : Sl w8 .u8 v7 (digs 0) := (by first | exact hs7.fr hfx | exact hs7.fr2 hfx); (first | (have hz := hz.fr hfx hz.lt (fun x => x)) | (have hzl : w5.heap.size ≤ w8.heap.size := Nat.le_trans (‹Fr w5.heap.size no w5 _ ∧ _›).1.size hfx.size; have hz : VB (w8.alloc (.cells #[Value.int IntKind.u8 0, Value.int IntKind.u8 0, Value.int IntKind.u8 0, Value.int IntKind.u8 0, Value.int IntKind.u8 0, Value.int IntKind.u8 0, Value.int IntKind.u8 0, Value.int IntKind.u8 0, Value.int IntKind.u8 0, Value.int IntKind.u8 0, Value.int IntKind.u8 0, Value.int IntKind.u8 0, Value.int IntKind.u8 0, Value.int IntKind.u8 0, Value.int IntKind.u8 0, Value.int IntKind.u8 0, Value.int IntKind.u8 0, Value.int IntKind.u8 0, Value.int IntKind.u8 0, Value.int IntKind.u8 0, Value.slice none 0 0, Value.slice none 0 0, Value.slice none 0 0, Value.slice none 0 0] 106)) w8.heap.size 106 zaV := VB.newAt rfl rfl)); have q := hz.q; have hbd := fun w => bld106_4 w A v7 v8 lA hs7.cells hs8.cells; have hFl' := acV_flat A v7 v8 (.slice none 0 0) (.slice none 0 0) hs7.one hs8.one rfl rfl; have hLn' := acV_length A v7 v8 (.slice none 0 0) (.slice none 0 0) lA; have la : layV zaV 0 (acV A v7 v8 (.slice none 0 0) (.slice none 0 0)) = acV A v7 v8 (.slice none 0 0) (.slice none 0 0) := layV_all _ _ (hLn'.trans rfl))
            | (go_at_call 49; (with_reducible refine (HCo.out _).mono ?_); rintro e w' ⟨rfl, rfl⟩))
        all_goals (
          go_wp2_with fail
          go_meet
          refine ⟨_, v7, v8, rfl, VB.setV hz.lt _ _, ?_, ?_, hzl, (‹Fr w5.heap.size no w5 _ ∧ _›).1⟩
          · first | exact fin_store hz hs7' | exact fin_store hz (hs7'.alloc _)
          · first | exact fin_store hz hs8 | exact fin_store hz (hs8.alloc _))
      case rest =>
        obtain ⟨j6, n', b', rfl, hN6, hsn, hsb, hj6, hfx⟩ := hcut
        obtain ⟨hC5, hf5⟩ := HCl.out
        have hM6 := hM.fr hfx hM.lt (fun x => x)
        have hC6 := hC5.fr hfx hC5.lt (fun x => x)
        have hf6 := hf5.step hfx hf5.size (fun _ _ x => x)
        have k54 := hM6.cell 54 o54
        clear HCl hC5 hf5 hM hfx
        go_wp2_with fail
        go_loopw [55] (fun iv wr => iv = .int .i64 0 ∧ wr = wc) (fun _ _ => 0)
        case atStart => exact ⟨rfl, rfl⟩
        case round =>
          obtain ⟨rfl, rfl⟩ := hrel
          obtain ⟨i106, hi, hz, hsz, hby⟩ := info_parts info106
          have zsz : (Value.agg zaV.toArray).cells.size = 24 := rfl
          have hFn := acV_flat (adNo 240) n' b' (.slice none 0 0) (.slice none 0 0) hsn.one hsb.one rfl rfl
          have hLn := acV_length (adNo 240) n' b' (.slice none 0 0) (.slice none 0 0) lA
          have e2 := acV_all (adNo 240) n' b' (.slice none 0 0) (.slice none 0 0) lA
          have m2 := acV_bal (adNo 240) n' b' (.slice none 0 0) (.slice none 0 0) lA
          have t128 : (digs (2 ^ 128)).getD ((digs (2 ^ 128)).length - 1) 0 = 1 := by rw [digs128]; rfl
          have fb : FarS c b' := far_top hC6 (by simp) (noU8.slice _ _ _) (noU8.slice _ _ _) (noU8.slice _ _ _) (noU8.slice _ _ _) (noU8.slice _ _ _) (noU8.slice _ _ _) (noU8.slice _ _ _) (noU8.slice _ _ _) (noU8.slice _ _ _) hsb 1 t128 (by decide) (by decide) (by decide) (by decide) (by intro x hx; rw [(List.mem_replicate.1 hx).2]; decide) (.inl (by decide))
          have Hs : Hid (∀ _ : Unit, acV (adNo 240) n' b' (.slice none 0 0) (.slice none 0 0) = acV (adNo 240) n' b' (.slice none 0 0) (.slice none 0 0)) := fun _ => rfl
          obtain ⟨N, HNe⟩ : ∃ N, Hid (∀ _ : Unit, acV (adNo 240) n' b' (.slice none 0 0) (.slice none 0 0) = N) := ⟨_, fun _ => rfl⟩
          rw [HNe.out ()] at hFn hLn e2 m2 hN6
          clear Hs hO hOf o20 o53 o54 oA oB k54 hM6
          have hjc : j6 ≠ c := by omega
          have hk1 : (stV (.slice none 0 0) (.slice none 0 0) (.slice none 0 0) (.slice none 0 0) 0 0 0 (.slice none 0 0) (.slice none 0 0) (.slice none 0 0) (.slice none 0 0) (.slice none 0 0) (List.replicate 20 0))[0]? = some (.slice none 0 0) := rfl
          have hset0 : ∀ v, (stV (.slice none 0 0) (.slice none 0 0) (.slice none 0 0) (.slice none 0 0) 0 0 0 (.slice none 0 0) (.slice none 0 0) (.slice none 0 0) (.slice none 0 0) (.slice none 0 0) (List.replicate 20 0)).set 0 v = stV v (.slice none 0 0) (.slice none 0 0) (.slice none 0 0) 0 0 0 (.slice none 0 0) (.slice none 0 0) (.slice none 0 0) (.slice none 0 0) (.slice none 0 0) (List.replicate 20 0) := fun v => rfl
          obtain ⟨S0, HS0⟩ : ∃ S0, Hid (∀ _ : Unit, stV (.slice none 0 0) (.slice none 0 0) (.slice none 0 0) (.slice none 0 0) 0 0 0 (.slice none 0 0) (.slice none 0 0) (.slice none 0 0) (.slice none 0 0) (.slice none 0 0) (List.replicate 20 0) = S0) := ⟨_, fun _ => rfl⟩
          rw [HS0.out ()] at hC6 hk1 hset0
          have hS0l : 0 < S0.length := by rw [← HS0.out ()]; exact Nat.succ_pos _
          go_upto_region 15 with fail
          go_cut [81] (fun s81 wx => ∃ gA cap' LA', s81 = .slice (some ⟨gA, 0, none⟩) 1 cap' ∧ VB wx c 75 (stV (.slice (some ⟨gA, 0, none⟩) 1 cap') (.slice none 0 0) (.slice none 0 0) (.slice none 0 0) 0 0 0 (.slice none 0 0) (.slice none 0 0) (.slice none 0 0) (.slice none 0 0) (.slice none 0 0) (List.replicate 20 0)) ∧ VB wx gA 106 LA' ∧ subV LA' 0 24 = N ∧ 24 ≤ LA'.length ∧ wr.heap.size ≤ gA ∧ VB wx j6 106 N ∧ Fr wr.heap.size (· = c) wr wx)
          case first =>
            have hCd := hC6.drew
            have hNd := hN6.drew
            have hB := (VB.new wr 106 N).drew
            have hC7 := (hC6.alloc (.cells N.toArray 106)).drew
            have hN7 := (hN6.alloc (.cells N.toArray 106)).drew
            have k0 := hCd.cell 0 hk1
            have k7 := hC7.cell 0 hk1
            have qN := hNd.q
            have qN7 := hN7.q
            have hf7 : Fr wr.heap.size no wr (wr.alloc (.cells N.toArray 106)).drew := ((Fr.refl _ _ _).alloc (Nat.le_refl _) _).drew
            go_region_law (refine step_append_nil (.tmp 78) (.tmp 80) 53 106 i106 _ 24 120 Sang.underlying53 hi hz hsz hby zsz (by decide) (by decide) (by simp [Act.put, Act.eval]) wr.heap.size 1 106 N (by simp [Act.put, Act.eval]) hB hLn hFn ?_; intro gA cap' LA' w8 hg hVg hc1 hcm hlen hsub hf8; have hC8 := hC7.fr hf8 hC7.lt (fun x => x); have hN8 := hN7.fr hf8 hN7.lt (fun x => x); have k8 := hC8.cell 0 hk1; have z8 := hC8.unfrozen 0; have hff := hf7.step hf8 hf7.size (fun _ _ x => x); have hg2 := Nat.le_trans hf7.size hg)
            all_goals (
              go_wp2_with fail
              go_meet
              have hC9 := hC8.set hS0l (.slice (some ⟨gA, 0, none⟩) 1 cap')
              rw [hset0] at hC9
              have hgc : gA ≠ c := by have := hC6.lt; omega
              exact ⟨gA, cap', LA', rfl, hC9, hVg.other (by simpa using fun e => hgc e.symm) _, hsub, by omega, hg2, hN8.other (by simpa using fun e => hjc e.symm) _, (Fr.weak (X := (· = c)) hff).setCell (.inr rfl) _⟩)
          case rest =>
            obtain ⟨gA, cap', LA', rfl, hC9, hVg, hsub, hll, hgA, hN9, hf9⟩ := hcut
            have hsn9 : Sl wc .u8 n' (digs 0) := hsn.frS (FarS.empty hsn) hf9
            have hsb9 := hsb.frS fb hf9
            have hff : Fr w.heap.size no w wc := hf6.step hf9 hf6.size (fun i hi e => absurd e (by omega))
            have hgc : gA ≠ c := by have := hC6.lt; omega
            have hgw : w.heap.size ≤ gA := by have := hf6.size; omega
            clear hC6 hN6 hsn hsb hf6 hf9 hset0 hk1 HS0 hS0l
            have hk18 : (stV (.slice (some ⟨gA, 0, none⟩) 1 cap') (.slice none 0 0) (.slice none 0 0) (.slice none 0 0) 0 0 0 (.slice none 0 0) (.slice none 0 0) (.slice none 0 0) (.slice none 0 0) (.slice none 0 0) (List.replicate 20 0))[18]? = some (.slice none 0 0) := rfl
            have hset18 : ∀ v, (stV (.slice (some ⟨gA, 0, none⟩) 1 cap') (.slice none 0 0) (.slice none 0 0) (.slice none 0 0) 0 0 0 (.slice none 0 0) (.slice none 0 0) (.slice none 0 0) (.slice none 0 0) (.slice none 0 0) (List.replicate 20 0)).set 18 v = stV (.slice (some ⟨gA, 0, none⟩) 1 cap') (.slice none 0 0) (.slice none 0 0) (.slice none 0 0) 0 0 0 (.slice none 0 0) (.slice none 0 0) (.slice none 0 0) (.slice none 0 0) v (List.replicate 20 0) := fun v => rfl
            obtain ⟨S1, HS1⟩ : ∃ S1, Hid (∀ _ : Unit, stV (.slice (some ⟨gA, 0, none⟩) 1 cap') (.slice none 0 0) (.slice none 0 0) (.slice none 0 0) 0 0 0 (.slice none 0 0) (.slice none 0 0) (.slice none 0 0) (.slice none 0 0) (.slice none 0 0) (List.replicate 20 0) = S1) := ⟨_, fun _ => rfl⟩
            rw [HS1.out ()] at hC9 hk18 hset18
            have hS1l : 18 < S1.length := by rw [← HS1.out ()]; simp [stV]
            go_wp2_with fail
            have hCd := hC9.drew
            have hNd := hN9.drew
            have hffd := hff.drew
            have hsbd : Sl wc.drew .u8 b' (digs (2 ^ 128)) := hsb9
            have k18 := hCd.cell 18 hk18
            have k21 := hNd.cell 21 m2
            have HR : Hid (0 < W64 ^ 8 ∧ 2 ^ 128 < W64 ^ 8) := by unfold Hid; decide
            go_region_with (go_at_call 78; (with_reducible refine (addN_any (.slice none 0 0) b' 0 (2 ^ 128) wc.drew (Sl.nil _ _) hsbd HR.out.1 HR.out.2).mono ?_); rintro e w8 ⟨vt, rfl, hvt, hfx⟩; have hC8 := hCd.fr hfx hCd.lt (fun x => x); have hVg8 := hVg.drew.fr hfx hVg.lt (fun x => x); have hff8 := hffd.step hfx hffd.size (fun _ _ x => x); have k8 := hC8.cell 18 hk18; have z8 := hC8.unfrozen 18; have ov := hvt.one)
            all_goals (
              go_wp2_with fail
              rw [Nat.zero_add] at hvt
              have hC8' := hC8
              rw [← HS1.out ()] at hC8'
              have ft : FarS c vt := far_top hC8' (by simp) (noU8.slice _ _ _) (noU8.slice _ _ _) (noU8.slice _ _ _) (noU8.slice _ _ _) (noU8.slice _ _ _) (noU8.slice _ _ _) (noU8.slice _ _ _) (noU8.slice _ _ _) (noU8.slice _ _ _) hvt 1 t128 (by decide) (by decide) (by decide) (by decide) (by intro x hx; rw [(List.mem_replicate.1 hx).2]; decide) (.inl (by decide))
              have hfs : Fr w8.heap.size (· = c) w8 (w8.setCell ⟨c, 18, none⟩ vt) := (Fr.refl _ (· = c) _).setCell (.inr rfl) _
              have hC10 := hC8.set hS1l vt
              rw [hset18] at hC10
              have hsn10 : Sl w8 .u8 n' (digs 0) := Sl.fr (w := wc.drew) hsn9 hfx
              have hsb10 : Sl w8 .u8 b' (digs (2 ^ 128)) := Sl.fr (w := wc.drew) hsb9 hfx
              refine ⟨.inr ⟨rfl, gA, cap', LA', n', b', vt, hC10, hVg8.other (by simpa using fun e => hgc e.symm) _, hsub.trans (HNe.out ()).symm, hll, hsn10.frS (FarS.empty hsn10) hfs, hsb10.frS fb hfs, fb, hvt.frS ft hfs, ft, hgw, hgc, hff8.setCell (.inl (by simp only; omega)) _⟩, by simp [intOf]⟩)
    · go_wp2_with fail
      go_ret2
      exact ⟨c, gA, cap', LA', vn, vb, vt, rfl, r1, r2, r3, r4, r5, r6, r7, r8, r9, by omega, r10, r11, r12⟩
end Go.Proofs.YgcsanGreat
