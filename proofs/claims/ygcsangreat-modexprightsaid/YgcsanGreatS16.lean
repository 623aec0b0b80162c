/-
  Package yp: State.native, Chain.Step, World.goes.
-/
import Derived.Test.YgcsanGreatS14
import Derived.Test.YgcsanGreatS15
import Derived.Test.YgcsanGreatS12
namespace Go.Proofs.YgcsanGreat
open Go.RowKit
set_option linter.unusedSimpArgs false
set_option linter.unusedVariables false
attribute [-go_sem] loadVar storeVar Instr.build Instr.fill Instr.buildSlice Builtin.append_


theorem subV_set {L F : List Value} {n : Nat} (h : subV L 0 n = F) (i : Nat) (hi : i < n) (v : Value) : subV (L.set i v) 0 n = F.set i v := by
  subst h
  simp only [subV, List.drop_zero]
  rw [List.take_set]
theorem frV_set4 (nat : Nat) (gas val inp g : Value) (self caller : List Nat) (saved : List Value) : (frV nat gas val inp self caller saved).set 4 g = frV nat g val inp self caller saved := rfl
theorem FarS.sl {w w' : World} {b : Nat} {v : Value} {l : List Nat} (h : Sl w .u8 v l) (hF : FarS b v) {t : TypeId} {L : List Value} (i : Nat) (u : Value) (e : w' = w.setCell ⟨b, i, none⟩ u) : Sl w' .u8 v l := by
  subst e
  exact h.frS hF ((Fr.refl _ (· = b) _).setCell (.inr rfl) _)

set_option maxRecDepth 10000 in
set_option maxHeartbeats 4000000 in
theorem native_ok (c gF capF : Nat) (L LF W : List Value) (A B I : List Nat) (gas val inp : Value) (G : Nat) (w : World) (h : VB w c 75 L) (lL : L.length = 179) (c9 : L[9]? = some (.slice (some ⟨gF, 0, none⟩) 1 capF)) (hF : VB w gF 119 LF) (hl : 60 ≤ LF.length) (hcap : 1 ≤ capF) (hgc : gF ≠ c)
    (hs : subV LF 0 60 = frV 5 gas val inp B A W) (lA : A.length = 20) (lB : B.length = 20) (lW : W.length = 8) (hg : Sl w .u8 gas (digs G)) (hv : val.oneCell' = true) (hi : Sl w .u8 inp I) (hdI : Dg 256 I) (sI : I.length ≤ 16777216) (hW : Flat W)
    (hFI : FarS gF inp) (hOK : lenOk I) (hc : costN 5 I ≤ G) (lG : (digs G).length ≤ 8388608) (hFar : ∀ w' v, VB w' c 75 L → Sl w' .u8 v (digs (G - costN 5 I)) → FarS c v) :
    Calls Sang.prog 92 #[.pointer (some ⟨c, 0, none⟩), .pointer (some ⟨gF, 0, none⟩)] w fun e w' => e = .returned (.tuple #[]) ∧ ∃ vo vg, VB w' c 75 (((((((L).set 10 vo).set 9 (.slice (some ⟨gF, 0, none⟩) 0 0)).set 9 (.slice none 0 0)).set 11 (.int .u8 2)).set 12 (.int .u8 0)).set 16 vg) ∧ Sl w' .u8 vo (outN I) ∧ Nw w.heap.size vo ∧ Sl w' .u8 vg (digs (G - costN 5 I)) ∧ Fr w.heap.size (fun x => x = c ∨ x = gF) w w' := by
  have hcl := h.lt
  have hgl := hF.lt
  have f1 : (frV 5 gas val inp B A W)[1]? = some (.int .u8 5) := rfl
  have f4 : (frV 5 gas val inp B A W)[4]? = some gas := rfl
  have f11 : (frV 5 gas val inp B A W)[11]? = some inp := rfl
  have g1 := subV_get hs 1 f1
  have g4 := subV_get hs 4 f4
  have g11 := subV_get hs 11 f11
  clear f1 f4 f11
  have HCost : Hid (∀ w', Sl w' .u8 inp I → Calls Sang.prog 143 #[.int .u8 5, inp] w' fun e w'' => ∃ v', e = .returned (.tuple #[v', .bool true]) ∧ Sl w'' .u8 v' (digs (costN 5 I)) ∧ Fr w'.heap.size no w' w'') := fun w' hw => by
    refine (yCost_pow inp I w' hw hdI sI).mono ?_
    rintro e w'' ⟨⟨_, v', rfl, hv'⟩ | ⟨hno, _⟩, hf⟩
    · exact ⟨v', rfl, hv', hf⟩
    · exact absurd hOK hno
  have HRun : Hid (∀ w', Sl w' .u8 inp I → Calls Sang.prog 144 #[.int .u8 5, inp] w' fun e w'' => ∃ v', e = .returned v' ∧ Sl w'' .u8 v' (outN I) ∧ Nw w'.heap.size v' ∧ Fr w'.heap.size no w' w'') := fun w' hw => yRun_new inp I w' hw hdI sI hOK
  have Hle : Hid (∀ _ : Unit, costN 5 I ≤ G) := fun _ => hc
  have HFr : Hid (∀ w' v, VB w' c 75 L → Sl w' .u8 v (digs (G - costN 5 I)) → FarS c v) := hFar
  clear hFar hOK
  generalize costN 5 I = C at *
  clear hc
  have hSall : ∀ w', Fr w.heap.size no w w' → (Fr w.heap.size no w w' ∧ w'.cell? ⟨gF, 1, none⟩ = some (.int .u8 5) ∧ w'.cell? ⟨gF, 11, none⟩ = some inp) := fun w' f => by
    have hF' := hF.fr f hF.lt (fun x => x)
    exact ⟨f, hF'.cell 1 g1, hF'.cell 11 g11⟩
  have hx0 := hSall w.drew (Fr.refl _ _ _).drew
  have hid : Sl w.drew .u8 inp I := hi
  go_enter Sang.func92, Sang.ntmps92
  go_wp2_with fail
  go_region_held3 (fun w' => Fr w.heap.size no w w' ∧ w'.cell? ⟨gF, 1, none⟩ = some (.int .u8 5) ∧ w'.cell? ⟨gF, 11, none⟩ = some inp)
    (first | exact hx0 | exact hSall _ hf)
    (first | (go_at_call 143; (with_reducible refine (HCost.out w.drew hid).mono ?_); rintro e w1 ⟨vc, rfl, hvc, hf1⟩; have hf : Fr w.heap.size no w w1 := (Fr.refl _ _ _).drew.step hf1 (Nat.le_refl _) (fun _ _ x => x)))
  clear hx0 hSall hf1
  have h1 := h.fr hf h.lt (fun x => x)
  have hF1 := hF.fr hf hF.lt (fun x => x)
  have hg1 := hg.fr hf
  have hi1 := hi.fr hf
  have k4 := hF1.cell 4 g4
  go_wp2_with fail
  refine (cmpN vc gas C G w1 hvc hg1).mono ?_
  rintro e w2 ⟨rfl, hfx⟩
  replace h1 := h1.fr hfx h1.lt (fun x => x)
  replace hF1 := hF1.fr hfx hF1.lt (fun x => x)
  replace hg1 := hg1.fr hfx
  replace hi1 := hi1.fr hfx
  replace hvc := hvc.fr hfx
  replace hf := hf.step hfx hf.size (fun _ _ x => x)
  clear hfx k4
  obtain ⟨z, HZ⟩ : ∃ z : Int, Hid (∀ _ : Unit, cmpZ C G = z) := ⟨_, fun _ => rfl⟩
  have hz : (0 < z) = False := by
    rw [← HZ.out ()]
    have := Hle.out ()
    simp [cmpZ]
    split
    · omega
    · split
      · omega
      · omega
  rw [HZ.out ()]
  have k4 := hF1.cell 4 g4
  go_wp2_with fail
  refine (less_any gas vc G C w2 hg1 hvc lG).mono ?_
  rintro e w3 ⟨vg, rfl, hvg, hfx⟩
  replace h1 := h1.fr hfx h1.lt (fun x => x)
  replace hF1 := hF1.fr hfx hF1.lt (fun x => x)
  replace hi1 := hi1.fr hfx
  replace hf := hf.step hfx hf.size (fun _ _ x => x)
  clear hfx k4 hvc hg1
  have k4 := hF1.cell 4 g4
  have z4 := hF1.unfrozen 4
  have ov := hvg.one
  go_wp2_with fail
  have fvg := HFr.out w3 vg h1 hvg
  have hF2 := hF1.set (i := 4) (by omega) vg
  have hs2 := subV_set hs 4 (by decide) vg
  rw [frV_set4] at hs2
  have h2 := h1.other (a := ⟨gF, 4, none⟩) (by simpa using hgc) vg
  have hi2 : Sl (w3.setCell ⟨gF, 4, none⟩ vg) .u8 inp I := hi1.frS hFI ((Fr.refl _ (· = gF) _).setCell (.inr rfl) _)
  have hFa : Hid (FarS gF vg ∨ True) := .inr trivial
  have hvg2 : Sl (w3.setCell ⟨gF, 4, none⟩ vg) .u8 vg (digs (G - C)) := by
    obtain ⟨a, cp, rfl, p1, p2, p3⟩ := hvg
    refine ⟨a, cp, rfl, p1, p2, ?_⟩
    rcases p3 with p3 | ⟨b, off, rfl, p3⟩
    · exact .inl p3
    · refine .inr ⟨b, off, rfl, fun i hi => ?_⟩
      rw [← p3 i hi]
      refine World.cell?_setCell_other _ _ _ _ ?_
      intro e
      have e1 : off + i = 4 := by simp at e; omega
      have e2 : b = gF := by simp at e; omega
      have := p3 i hi
      rw [e1, e2, k4] at this
      obtain ⟨a', cp', hga, -⟩ := hg
      rw [hga] at this
      cases this
  have hf2 : Fr w.heap.size (fun x => x = c ∨ x = gF) w (w3.setCell ⟨gF, 4, none⟩ vg) := (Fr.weak (X := fun x => x = c ∨ x = gF) hf).setCell (.inr (.inr rfl)) _
  have j1 : (LF.set 4 vg)[1]? = some (.int .u8 5) := by rw [List.getElem?_set_ne (by decide)]; exact g1
  have j11 : (LF.set 4 vg)[11]? = some inp := by rw [List.getElem?_set_ne (by decide)]; exact g11
  have lF2 : 60 ≤ (LF.set 4 vg).length := by simpa using hl
  have hszw := hf.size
  clear h1 hF1 hi1 hvg hf k4 z4 g1 g4 g11 hs hl
  generalize w3.setCell ⟨gF, 4, none⟩ vg = w5 at hF2 h2 hi2 hvg2 hf2 ⊢
  have hsz5 := hf2.size
  have HL : Hid (∀ w' vo, VB w' c 75 L → VB w' gF 119 (LF.set 4 vg) → vo.oneCell' = true → Calls Sang.prog 95 #[.pointer (some ⟨c, 0, none⟩), .int .u8 0, vo] w' fun e w'' => e = .returned (.tuple #[]) ∧ VB w'' c 75 (((((((L).set 10 vo).set 9 (.slice (some ⟨gF, 0, none⟩) 0 0)).set 9 (.slice none 0 0)).set 11 (.int .u8 2)).set 12 (.int .u8 0)).set 16 vg) ∧ Fr w'.heap.size (· = c) w' w'') := fun w' vo q1 q2 q3 => leave_ok c gF capF L (LF.set 4 vg) W A B vg val inp vo q3 w' q1 lL c9 q2 lF2 hcap hgc hs2 lA lB lW ov hv hi.one hW
  have hSall : ∀ w', Fr w5.heap.size (· = c) w5 w' → (Fr w5.heap.size (· = c) w5 w' ∧ w'.cell? ⟨gF, 1, none⟩ = some (.int .u8 5) ∧ w'.cell? ⟨gF, 11, none⟩ = some inp) := fun w' f => by
    have hF' := hF2.fr f hF2.lt (by simpa using hgc)
    exact ⟨f, hF'.cell 1 j1, hF'.cell 11 j11⟩
  have hx0 := hSall w5.drew (Fr.refl _ _ _).drew
  have hi2d : Sl w5.drew .u8 inp I := hi2
  go_region_held3 (fun w' => Fr w5.heap.size (· = c) w5 w' ∧ w'.cell? ⟨gF, 1, none⟩ = some (.int .u8 5) ∧ w'.cell? ⟨gF, 11, none⟩ = some inp)
    (first | exact hx0 | exact hSall _ hfy | exact hSall _ hfx.weak)
    (first
      | (go_at_call 144; (with_reducible refine (HRun.out w5.drew hi2d).mono ?_); rintro e w6 ⟨vo, rfl, hvo, hNo, hf6⟩; have hfx : Fr w5.heap.size no w5 w6 := (Fr.refl _ _ _).drew.step hf6 (Nat.le_refl _) (fun _ _ x => x); have oo := hvo.one)
      | (go_at_call 95; (with_reducible refine (HL.out w6 vo (h2.fr hfx h2.lt (fun x => x)) (hF2.fr hfx hF2.lt (fun x => x)) oo).mono ?_); rintro e w7 ⟨rfl, h7, hf7⟩; have hfy := (Fr.weak (X := (· = c)) hfx).step hf7 hfx.size (fun _ _ x => x)))
  go_wp2_with fail
  go_end0
  refine ⟨rfl, vo, vg, h7, hvo.frS (FarS.fresh hNo (Nat.lt_of_lt_of_le hcl hsz5)) hf7, hNo.mono hsz5, (hvg2.fr hfx).frS fvg hf7, hf2.step hfy hsz5 (fun i _ e => .inl e)⟩

set_option maxRecDepth 10000 in
set_option maxHeartbeats 4000000 in
theorem native_no (c gF capF : Nat) (L LF W : List Value) (A B I : List Nat) (gas val inp : Value) (G : Nat) (w : World) (h : VB w c 75 L) (lL : L.length = 179) (c9 : L[9]? = some (.slice (some ⟨gF, 0, none⟩) 1 capF)) (hF : VB w gF 119 LF) (hl : 60 ≤ LF.length) (hcap : 1 ≤ capF) (hgc : gF ≠ c)
    (hs : subV LF 0 60 = frV 5 gas val inp B A W) (lA : A.length = 20) (lB : B.length = 20) (lW : W.length = 8) (hg : Sl w .u8 gas (digs G)) (hv : val.oneCell' = true) (hi : Sl w .u8 inp I) (hdI : Dg 256 I) (sI : I.length ≤ 16777216) (hW : Flat W)
    (hOK : ¬ lenOk I) :
    Calls Sang.prog 92 #[.pointer (some ⟨c, 0, none⟩), .pointer (some ⟨gF, 0, none⟩)] w fun e w' => e = .returned (.tuple #[]) ∧ VB w' c 75 ((((((((layV L 0 W)).set 10 (.slice none 0 0)).set 9 (.slice (some ⟨gF, 0, none⟩) 0 0)).set 9 (.slice none 0 0)).set 11 (.int .u8 2)).set 12 (.int .u8 2)).set 16 (.slice none 0 0)) ∧ Fr w.heap.size (· = c) w w' := by
  have f1 : (frV 5 gas val inp B A W)[1]? = some (.int .u8 5) := rfl
  have f11 : (frV 5 gas val inp B A W)[11]? = some inp := rfl
  have g1 := subV_get hs 1 f1
  have g11 := subV_get hs 11 f11
  clear f1 f11
  have HCost : Hid (∀ w', Sl w' .u8 inp I → Calls Sang.prog 143 #[.int .u8 5, inp] w' fun e w'' => e = .returned (.tuple #[.slice none 0 0, .bool false]) ∧ Fr w'.heap.size no w' w'') := fun w' hw => by
    refine (yCost_pow inp I w' hw hdI sI).mono ?_
    rintro e w'' ⟨⟨hyes, _⟩ | ⟨_, rfl⟩, hf⟩
    · exact absurd hyes hOK
    · exact ⟨rfl, hf⟩
  have HL : Hid (∀ w', VB w' c 75 L → VB w' gF 119 LF → Calls Sang.prog 95 #[.pointer (some ⟨c, 0, none⟩), .int .u8 2, (.slice none 0 0)] w' fun e w'' => e = .returned (.tuple #[]) ∧ VB w'' c 75 ((((((((layV L 0 W)).set 10 (.slice none 0 0)).set 9 (.slice (some ⟨gF, 0, none⟩) 0 0)).set 9 (.slice none 0 0)).set 11 (.int .u8 2)).set 12 (.int .u8 2)).set 16 (.slice none 0 0)) ∧ Fr w'.heap.size (· = c) w' w'') := fun w' q1 q2 => leave_no c gF capF L LF W A B gas val inp w' q1 lL c9 q2 hl hcap hgc hs lA lB lW hg.one hv hi.one hW
  have hSall : ∀ w', Fr w.heap.size no w w' → (Fr w.heap.size no w w' ∧ w'.cell? ⟨gF, 1, none⟩ = some (.int .u8 5) ∧ w'.cell? ⟨gF, 11, none⟩ = some inp) := fun w' f => by
    have hF' := hF.fr f hF.lt (fun x => x)
    exact ⟨f, hF'.cell 1 g1, hF'.cell 11 g11⟩
  have hx0 := hSall w.drew (Fr.refl _ _ _).drew
  have hid : Sl w.drew .u8 inp I := hi
  go_enter Sang.func92, Sang.ntmps92
  go_wp2_with fail
  go_region_held3 (fun w' => Fr w.heap.size no w w' ∧ w'.cell? ⟨gF, 1, none⟩ = some (.int .u8 5) ∧ w'.cell? ⟨gF, 11, none⟩ = some inp)
    (first | exact hx0 | exact hSall _ hf)
    (first | (go_at_call 143; (with_reducible refine (HCost.out w.drew hid).mono ?_); rintro e w1 ⟨rfl, hf1⟩; have hf : Fr w.heap.size no w w1 := (Fr.refl _ _ _).drew.step hf1 (Nat.le_refl _) (fun _ _ x => x)))
  clear hx0 hSall hf1
  go_wp2_with fail
  refine (HL.out w1 (h.fr hf h.lt (fun x => x)) (hF.fr hf hF.lt (fun x => x))).mono ?_
  rintro e w2 ⟨rfl, h2, hf2⟩
  go_wp2_with fail
  exact bodyPost_ret (results_none Sang.results92 _ _ _) rfl ⟨rfl, h2, (Fr.weak (X := (· = c)) hf).step hf2 hf.size (fun _ _ x => x)⟩

set_option maxRecDepth 10000 in
set_option maxHeartbeats 400000 in
theorem step_end (c : Nat) (t : TypeId) (L : List Value) (w : World) (h : VB w c t L) (c11 : L[11]? = some (.int .u8 2)) :
    Calls Sang.prog 31 #[.pointer (some ⟨c, 0, none⟩)] w fun e w' => e = .returned (.bool false) ∧ w' = w := by
  have k := h.cell 11 c11
  go_enter Sang.func31, Sang.ntmps31
  go_wp2_with fail
  go_ret
  exact ⟨rfl, rfl⟩

set_option maxRecDepth 10000 in
set_option maxHeartbeats 400000 in
theorem step_run (c gF capF : Nat) (L LF : List Value) (w : World) (Pst : World → Prop) (h : VB w c 75 L) (c11 : L[11]? = some (.int .u8 1)) (c9 : L[9]? = some (.slice (some ⟨gF, 0, none⟩) 1 capF)) (hF : VB w gF 119 LF) (g1 : LF[1]? = some (.int .u8 5))
    (hN : Calls Sang.prog 92 #[.pointer (some ⟨c, 0, none⟩), .pointer (some ⟨gF, 0, none⟩)] w.drew fun e w' => e = .returned (.tuple #[]) ∧ Pst w') :
    Calls Sang.prog 31 #[.pointer (some ⟨c, 0, none⟩)] w fun e w' => e = .returned (.bool true) ∧ Pst w' := by
  have HN : Hid (Calls Sang.prog 92 #[.pointer (some ⟨c, 0, none⟩), .pointer (some ⟨gF, 0, none⟩)] w.drew fun e w' => e = .returned (.tuple #[]) ∧ Pst w') := hN
  clear hN
  have k11 := h.cell 11 c11
  have k9 := h.cell 9 c9
  have k9d := h.drew.cell 9 c9
  have k1 := hF.drew.cell 1 g1
  have ew0 : IntKind.i64.wrap 0 = 0 := by rw [IntKind.wrap_i64]; rfl
  go_enter Sang.func31, Sang.ntmps31
  go_wp2_with fail
  go_region_held3 (fun w' => w'.cell? ⟨c, 9, none⟩ = some (.slice (some ⟨gF, 0, none⟩) 1 capF)) (exact k9d) (fail)
  go_wp2_with fail
  refine HN.out.mono ?_
  rintro e w1 ⟨rfl, hp⟩
  go_wp2_with fail
  go_ret
  exact ⟨rfl, hp⟩

set_option maxRecDepth 10000 in
set_option maxHeartbeats 400000 in
theorem goes_nil (c : Nat) (t : TypeId) (L : List Value) (w : World) (h : VB w c t L) (c7 : L[7]? = some (.slice none 0 0)) :
    Calls Sang.prog 91 #[.pointer (some ⟨c, 0, none⟩)] w fun e w' => e = .returned (.tuple #[]) ∧ w' = w := by
  have k := h.cell 7 c7
  go_enter Sang.func91, Sang.ntmps91
  go_wp2_with fail
  go_loopw [9] (fun iv wr => iv = .int .i64 0 ∧ wr = w) (fun _ _ => 0)
  case atStart => exact ⟨rfl, rfl⟩
  case round =>
    obtain ⟨rfl, rfl⟩ := hrel
    go_wp2_with fail
    go_end0
    exact ⟨rfl, rfl⟩
end Go.Proofs.YgcsanGreat
