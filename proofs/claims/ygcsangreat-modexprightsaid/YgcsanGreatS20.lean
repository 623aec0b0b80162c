/-
  Package yp: Chain.Apply; package law: specOf, applied, ModExpRight.
-/
import Derived.Test.YgcsanGreatS17
import Derived.Test.YgcsanGreatS18
import Derived.Test.YgcsanGreatS19
import Derived.Test.YgcsanGreatHoldsB
namespace Go.Proofs.YgcsanGreat
open Go.RowKit
set_option linter.unusedSimpArgs false
set_option linter.unusedVariables false
attribute [-go_sem] loadVar storeVar Instr.build Instr.fill Instr.buildSlice Builtin.append_


theorem finish_end (c s X U d : Nat) (O : List Nat) (w w' : World) (hP : EndP c s X O w w') (lO : O.length ≤ 16777216) (hs02 : s = 0 ∨ s = 2) (hU : 200000 - X = U) (hU2 : U ≤ 200000) (htop : (digs U).getD ((digs U).length - 1) 0 = d) (hd : d ≠ 0 ∧ d ≠ 192 ∧ d ≠ 2 ∧ d ≠ s ∧ (∀ x ∈ adNo 240, d ≠ x) ∧ d ≠ 1) :
    Calls Sang.prog 29 #[.pointer (some ⟨c, 0, none⟩)] w' fun e w'' => ∃ R out, e = .returned (.agg R.toArray) ∧ R.length = 25 ∧ Flat R ∧ R[0]? = some (.int .u8 0) ∧ R[1]? = some (.int .u8 (s : Int)) ∧ R[2]? = some (.int .u64 (U : Int)) ∧ R[3]? = some out ∧ Sl w'' .u8 out O ∧ Nw w'.heap.size out ∧ Fr w'.heap.size (· = c) w' w'' := by
  obtain ⟨g, cap, LA, n1, b1, wa, rt, li, tg, le, pr, vt, a1, a2, a3, a4, a5, a6, a7, a8, a9, a10, a11, a12, a13, a14, a15, a16, a17, a18, a19, a20, a21, a22⟩ := hP
  exact finish_any c g cap LA n1 b1 wa rt li tg le pr vt s X U d O w' a1 a2 a3 a4 a5 a6 a7 a8 a9 a10 a11 a12 a13 a14 a15 a16 a17 lO a18 a19 a20 a21 hs02 hU hU2 htop hd

/-- what the whole transaction answers -/
structure RunP (D O : List Nat) (s X U d : Nat) : Prop where
  step : ∀ (c : Nat) (vt : Value) (w w' : World), FarS c vt → BegP c vt D w w' → Calls Sang.prog 31 #[.pointer (some ⟨c, 0, none⟩)] w' fun e w'' => e = .returned (.bool true) ∧ EndP c s X O w w''
  lO : O.length ≤ 16777216
  s02 : s = 0 ∨ s = 2
  hU : 200000 - X = U
  hU2 : U ≤ 200000
  top : (digs U).getD ((digs U).length - 1) 0 = d
  hd : d ≠ 0 ∧ d ≠ 192 ∧ d ≠ 2 ∧ d ≠ s ∧ (∀ x ∈ adNo 240, d ≠ x) ∧ d ≠ 1

set_option maxRecDepth 10000 in
set_option maxHeartbeats 2000000 in
theorem apply_any (c gA cap : Nat) (LA : List Value) (vn vb vt data : Value) (D O : List Nat) (s X U d : Nat) (w : World) (h : VB w c 75 (stV (.slice (some ⟨gA, 0, none⟩) 1 cap) (.slice none 0 0) (.slice none 0 0) (.slice none 0 0) 0 0 0 (.slice none 0 0) (.slice none 0 0) (.slice none 0 0) (.slice none 0 0) vt (List.replicate 20 0))) (hA : VB w gA 106 LA) (hs : subV LA 0 24 = acV (adNo 240) vn vb (.slice none 0 0) (.slice none 0 0)) (hl : 24 ≤ LA.length) (hgc : gA ≠ c)
    (hn : Sl w .u8 vn (digs 0)) (hb : Sl w .u8 vb (digs (2 ^ 128))) (fb : FarS c vb) (ht : Sl w .u8 vt (digs (2 ^ 128))) (ft : FarS c vt) (hD : Sl w .u8 data D) (fD : FarS c data) (lD : D.length ≤ 1024) (hI1 : 3393 ≤ intrN D) (hI2 : intrN D ≤ 68000) (hR : RunP D O s X U d) :
    Calls Sang.prog 19 #[.pointer (some ⟨c, 0, none⟩), .agg (txM data).toArray] w fun e w' => (∃ R out, e = .returned (.agg R.toArray) ∧ R.length = 25 ∧ Flat R ∧ R[0]? = some (.int .u8 0) ∧ R[1]? = some (.int .u8 (s : Nat)) ∧ R[2]? = some (.int .u64 (U : Nat)) ∧ R[3]? = some out ∧ Sl w' .u8 out (O) ∧ Nw w.heap.size out) ∧ Fr w.heap.size (· = c) w w' := by
  have lT := txM_length data
  have tall := txM_all data
  have HB : Hid (∀ w', VB w' c 75 (stV (.slice (some ⟨gA, 0, none⟩) 1 cap) (.slice none 0 0) (.slice none 0 0) (.slice none 0 0) 0 0 0 (.slice none 0 0) (.slice none 0 0) (.slice none 0 0) (.slice none 0 0) vt (List.replicate 20 0)) → VB w' gA 106 LA → Sl w' .u8 vn (digs 0) → Sl w' .u8 vb (digs (2 ^ 128)) → Sl w' .u8 vt (digs (2 ^ 128)) → Sl w' .u8 data D → Calls Sang.prog 28 #[.pointer (some ⟨c, 0, none⟩), .agg (txM data).toArray] w' fun e w'' => e = .returned (.int .u8 0) ∧ BegP c vt D w' w'') := fun w' q1 q2 q3 q4 q5 q6 => begin_any c gA cap LA vn vb vt data D w' q1 q2 hs hl hgc q3 q4 fb q5 ft q6 fD lD hI1 hI2
  have hcl := h.lt
  have HR : Hid (RunP D O s X U d) := hR
  clear hR hI1 hI2
  generalize txM data = T at *
  have h1 := (h.alloc (.cells T.toArray 30)).alloc (.cells #[Value.int IntKind.u8 0, Value.int IntKind.u8 0, Value.int IntKind.u64 0, Value.slice none 0 0, Value.slice none 0 0, Value.int IntKind.u8 0, Value.int IntKind.u8 0, Value.int IntKind.u8 0, Value.int IntKind.u8 0, Value.int IntKind.u8 0, Value.int IntKind.u8 0, Value.int IntKind.u8 0, Value.int IntKind.u8 0, Value.int IntKind.u8 0, Value.int IntKind.u8 0, Value.int IntKind.u8 0, Value.int IntKind.u8 0, Value.int IntKind.u8 0, Value.int IntKind.u8 0, Value.int IntKind.u8 0, Value.int IntKind.u8 0, Value.int IntKind.u8 0, Value.int IntKind.u8 0, Value.int IntKind.u8 0, Value.int IntKind.u8 0] 37)
  have hA1 := (hA.alloc (.cells T.toArray 30)).alloc (.cells #[Value.int IntKind.u8 0, Value.int IntKind.u8 0, Value.int IntKind.u64 0, Value.slice none 0 0, Value.slice none 0 0, Value.int IntKind.u8 0, Value.int IntKind.u8 0, Value.int IntKind.u8 0, Value.int IntKind.u8 0, Value.int IntKind.u8 0, Value.int IntKind.u8 0, Value.int IntKind.u8 0, Value.int IntKind.u8 0, Value.int IntKind.u8 0, Value.int IntKind.u8 0, Value.int IntKind.u8 0, Value.int IntKind.u8 0, Value.int IntKind.u8 0, Value.int IntKind.u8 0, Value.int IntKind.u8 0, Value.int IntKind.u8 0, Value.int IntKind.u8 0, Value.int IntKind.u8 0, Value.int IntKind.u8 0, Value.int IntKind.u8 0] 37)
  have hT1 := (VB.new w 30 T).alloc (.cells #[Value.int IntKind.u8 0, Value.int IntKind.u8 0, Value.int IntKind.u64 0, Value.slice none 0 0, Value.slice none 0 0, Value.int IntKind.u8 0, Value.int IntKind.u8 0, Value.int IntKind.u8 0, Value.int IntKind.u8 0, Value.int IntKind.u8 0, Value.int IntKind.u8 0, Value.int IntKind.u8 0, Value.int IntKind.u8 0, Value.int IntKind.u8 0, Value.int IntKind.u8 0, Value.int IntKind.u8 0, Value.int IntKind.u8 0, Value.int IntKind.u8 0, Value.int IntKind.u8 0, Value.int IntKind.u8 0, Value.int IntKind.u8 0, Value.int IntKind.u8 0, Value.int IntKind.u8 0, Value.int IntKind.u8 0, Value.int IntKind.u8 0] 37)
  have hR1 : VB ((w.alloc (.cells T.toArray 30)).alloc (.cells #[Value.int IntKind.u8 0, Value.int IntKind.u8 0, Value.int IntKind.u64 0, Value.slice none 0 0, Value.slice none 0 0, Value.int IntKind.u8 0, Value.int IntKind.u8 0, Value.int IntKind.u8 0, Value.int IntKind.u8 0, Value.int IntKind.u8 0, Value.int IntKind.u8 0, Value.int IntKind.u8 0, Value.int IntKind.u8 0, Value.int IntKind.u8 0, Value.int IntKind.u8 0, Value.int IntKind.u8 0, Value.int IntKind.u8 0, Value.int IntKind.u8 0, Value.int IntKind.u8 0, Value.int IntKind.u8 0, Value.int IntKind.u8 0, Value.int IntKind.u8 0, Value.int IntKind.u8 0, Value.int IntKind.u8 0, Value.int IntKind.u8 0] 37)) (w.heap.size + 1) 37 (rcV 0 0 (.slice none 0 0)) := VB.newAt (by simp) (by rfl)
  have hf : Fr w.heap.size no w ((w.alloc (.cells T.toArray 30)).alloc (.cells #[Value.int IntKind.u8 0, Value.int IntKind.u8 0, Value.int IntKind.u64 0, Value.slice none 0 0, Value.slice none 0 0, Value.int IntKind.u8 0, Value.int IntKind.u8 0, Value.int IntKind.u8 0, Value.int IntKind.u8 0, Value.int IntKind.u8 0, Value.int IntKind.u8 0, Value.int IntKind.u8 0, Value.int IntKind.u8 0, Value.int IntKind.u8 0, Value.int IntKind.u8 0, Value.int IntKind.u8 0, Value.int IntKind.u8 0, Value.int IntKind.u8 0, Value.int IntKind.u8 0, Value.int IntKind.u8 0, Value.int IntKind.u8 0, Value.int IntKind.u8 0, Value.int IntKind.u8 0, Value.int IntKind.u8 0, Value.int IntKind.u8 0] 37)) := ((Fr.refl _ _ _).alloc (Nat.le_refl _) _).alloc (by simp) _
  have q := hT1.q
  go_enter Sang.func19, Sang.ntmps19
  go_wp2_with fail
  generalize (w.alloc (.cells T.toArray 30)).alloc (.cells #[Value.int IntKind.u8 0, Value.int IntKind.u8 0, Value.int IntKind.u64 0, Value.slice none 0 0, Value.slice none 0 0, Value.int IntKind.u8 0, Value.int IntKind.u8 0, Value.int IntKind.u8 0, Value.int IntKind.u8 0, Value.int IntKind.u8 0, Value.int IntKind.u8 0, Value.int IntKind.u8 0, Value.int IntKind.u8 0, Value.int IntKind.u8 0, Value.int IntKind.u8 0, Value.int IntKind.u8 0, Value.int IntKind.u8 0, Value.int IntKind.u8 0, Value.int IntKind.u8 0, Value.int IntKind.u8 0, Value.int IntKind.u8 0, Value.int IntKind.u8 0, Value.int IntKind.u8 0, Value.int IntKind.u8 0, Value.int IntKind.u8 0] 37) = w1 at h1 hA1 hT1 hR1 hf q ⊢
  refine (HB.out w1 h1 hA1 (hn.fr hf) (hb.fr hf) (ht.fr hf) (hD.fr hf)).mono ?_
  rintro e w2 ⟨rfl, hP⟩
  have hPF : Fr w1.heap.size (· = c) w1 w2 := by
    obtain ⟨g2, cap2, LA2, n1, b1, wa, gF, capF, LF, g', va', LA', n', b', li, tg, pr, val, inp, a1, a2, a3, a4, a5, a6, a7, a8, a9, a10, a11, a12, a13, a14, a15, a16, a17, a18, a19, a20, a21, a22, a23, a24, a25, a26, a27, a28, a29, a30, a31, a32, a33, a34, a35, a36, a37, a38, a39, a40, a41, a42, a43, a44, a45, a46, a48, a47⟩ := hP
    exact a47
  have HP : Hid (BegP c vt D w1 w2) := hP
  clear hP q HB
  have hR2 := hR1.fr hPF hR1.lt (by omega)
  have hcR : c ≠ w.heap.size + 1 := by omega
  go_wp2_with fail
  have p1 : w2.cell? ⟨c, 11, none⟩ = some (.int .u8 1) := by
    obtain ⟨g2, cap2, LA2, n1, b1, wa, gF, capF, LF, g', va', LA', n', b', li, tg, pr, val, inp, a1, _⟩ := HP.out
    exact a1.cell 11 rfl
  have HQ : Hid (∀ wr, EndP c s X O w1 wr → wr.cell? ⟨c, 11, none⟩ = some (.int .u8 2) ∧ Fr w1.heap.size (· = c) w1 wr ∧ Calls Sang.prog 31 #[.pointer (some ⟨c, 0, none⟩)] wr fun e w' => e = .returned (.bool false) ∧ w' = wr) := fun wr hE => by
    obtain ⟨g, cap, LA, n1, b1, wa, rt, li, tg, le, pr, vt, a1, a2, a3, a4, a5, a6, a7, a8, a9, a10, a11, a12, a13, a14, a15, a16, a17, a18, a19, a20, a21, a22⟩ := hE
    exact ⟨a1.cell 11 rfl, a22, step_end c 75 _ wr a1 rfl⟩
  go_loopw [13] (fun _ wr => wr = w2 ∨ Hid (EndP c s X O w1 wr)) (fun _ wr => match wr.cell? ⟨c, 11, none⟩ with | some (.int _ n) => (2 - n).toNat | _ => 0)
  case atStart => exact .inl rfl
  case round =>
    rcases hrel with hw | HE
    · subst hw
      go_wp2_with fail
      refine (HR.out.step c vt w1 _ ft HP.out).mono ?_
      rintro e w3 ⟨rfl, hE⟩
      have p2 := (HQ.out w3 hE).1
      have HE : Hid (EndP c s X O w1 w3) := hE
      clear hE
      go_wp2_with fail
      refine ⟨.inr HE, ?_⟩
      rw [p1, p2]
      decide
    · obtain ⟨p2, hfE, hst⟩ := HQ.out wr HE.out
      have HST : Hid (Calls Sang.prog 31 #[.pointer (some ⟨c, 0, none⟩)] wr fun e w' => e = .returned (.bool false) ∧ w' = wr) := hst
      clear hst
      go_wp2_with fail
      refine HST.out.mono ?_
      rintro e w3 ⟨rfl, rfl⟩
      go_wp2_with fail
      refine (finish_end c s X U d O w1 w3 HE.out HR.out.lO HR.out.s02 HR.out.hU HR.out.hU2 HR.out.top HR.out.hd).mono ?_
      rintro e w4 ⟨R, out, rfl, l1, l2, l3, l4, l5, l6, l7, l7n, l8⟩
      have hR4 := (hR1.fr hfE hR1.lt (by omega)).fr l8 (by have := (hR1.fr hfE hR1.lt (by omega)).lt; omega) (by omega)
      have q := hR4.q
      have lz := rcV_length 0 0 (.slice none 0 0)
      have la : layV (rcV 0 0 (.slice none 0 0)) 0 R = R := layV_all _ _ (by omega)
      have hi37 : (Sang.prog.info? 37).map (·.size) = some R.length := by rw [l1]; exact siz37
      go_wp2_with fail
      refine bodyPost_ret (results_cellV Sang.results19 rfl (VB.setV hR4.lt _ _) _ Sang.underlying37 rfl hi37) rfl ⟨⟨R, out, rfl, l1, l2, l3, l4, l5, l6, ?_, l7n.mono (Nat.le_trans hf.size hfE.size)⟩, ?_⟩
      · refine l7.frS ?_ ((Fr.refl _ (· = w.heap.size + 1) _).setV (.inr rfl) _ _)
        exact FarS.fresh l7n (hR1.fr hfE hR1.lt (by omega)).lt
      · exact (((Fr.weak (X := (· = c)) hf).step hfE hf.size (fun _ _ x => x)).step l8 (Nat.le_trans hf.size hfE.size) (fun _ _ x => x)).setV (.inl (by omega)) _ _

set_option maxRecDepth 10000 in
set_option maxHeartbeats 2000000 in
theorem specOf_any (g cap : Nat) (LA : List Value) (w : World) (h : VB w g 98 LA) (hl : 55 ≤ LA.length) (hs : subV LA 0 55 = oaV) :
    Calls Sang.prog 18 #[.slice (some ⟨g, 0, none⟩) 1 cap] w fun e w' => ∃ c gA cap' LA' vn vb vt, e = .returned (.pointer (some ⟨c, 0, none⟩)) ∧ VB w' c 75 (stV (.slice (some ⟨gA, 0, none⟩) 1 cap') (.slice none 0 0) (.slice none 0 0) (.slice none 0 0) 0 0 0 (.slice none 0 0) (.slice none 0 0) (.slice none 0 0) (.slice none 0 0) vt (List.replicate 20 0)) ∧
      VB w' gA 106 LA' ∧ subV LA' 0 24 = acV (adNo 240) vn vb (.slice none 0 0) (.slice none 0 0) ∧ 24 ≤ LA'.length ∧ Sl w' .u8 vn (digs 0) ∧ Sl w' .u8 vb (digs (2 ^ 128)) ∧ FarS c vb ∧ Sl w' .u8 vt (digs (2 ^ 128)) ∧ FarS c vt ∧ w.heap.size ≤ c ∧ w.heap.size ≤ gA ∧ gA ≠ c ∧ Fr w.heap.size no w w' := by
  have HE : Hid (∀ w, Calls Sang.prog 43 #[] w fun e w' => e = .returned (.agg envV.toArray) ∧ Fr w.heap.size no w w') := stageEnv_any
  have HN : Hid (∀ w', VB w' g 98 LA → Calls Sang.prog 42 #[.slice (some ⟨g, 0, none⟩) 1 cap, .agg envV.toArray] w' _) := fun w' hw => new_any g cap LA w' hw hl hs
  generalize envV = E at *
  go_enter Sang.func18, Sang.ntmps18
  go_wp2_with fail
  refine (HE.out w).mono ?_
  rintro e w1 ⟨rfl, hf⟩
  go_wp2_with fail
  refine (HN.out w1 (h.fr hf h.lt (fun x => x))).mono ?_
  rintro e w2 ⟨c, gA, cap', LA', vn, vb, vt, rfl, a1, a2, a3, a4, a5, a6, a7, a8, a9, a10, a11, a12, a13⟩
  go_wp2_with fail
  go_ret
  exact ⟨c, gA, cap', LA', vn, vb, vt, rfl, a1, a2, a3, a4, a5, a6, a7, a8, a9, Nat.le_trans hf.size a10, Nat.le_trans hf.size a11, a12, hf.step a13 hf.size (fun _ _ x => x)⟩

set_option maxRecDepth 10000 in
set_option maxHeartbeats 2000000 in
theorem applied_any (g cap : Nat) (LA : List Value) (data : Value) (D O : List Nat) (s X U d : Nat) (w : World) (h : VB w g 98 LA) (hl : 55 ≤ LA.length) (hs : subV LA 0 55 = oaV) (hD : Sl w .u8 data D) (lD : D.length ≤ 1024) (hI1 : 3393 ≤ intrN D) (hI2 : intrN D ≤ 68000) (hR : RunP D O s X U d) :
    Calls Sang.prog 14 #[.slice (some ⟨g, 0, none⟩) 1 cap, .agg (txM data).toArray] w fun e w' => (∃ R out, e = .returned (.agg R.toArray) ∧ R.length = 25 ∧ Flat R ∧ R[0]? = some (.int .u8 0) ∧ R[1]? = some (.int .u8 (s : Nat)) ∧ R[2]? = some (.int .u64 (U : Nat)) ∧ R[3]? = some out ∧ Sl w' .u8 out (O) ∧ Nw w.heap.size out) ∧ Fr w.heap.size no w w' := by
  have lT := txM_length data
  have tall := txM_all data
  have HAp : Hid (∀ (c gA cap : Nat) (LA : List Value) (vn vb vt : Value) (w : World), VB w c 75 (stV (.slice (some ⟨gA, 0, none⟩) 1 cap) (.slice none 0 0) (.slice none 0 0) (.slice none 0 0) 0 0 0 (.slice none 0 0) (.slice none 0 0) (.slice none 0 0) (.slice none 0 0) vt (List.replicate 20 0)) → VB w gA 106 LA → subV LA 0 24 = acV (adNo 240) vn vb (.slice none 0 0) (.slice none 0 0) → 24 ≤ LA.length → gA ≠ c → Sl w .u8 vn (digs 0) → Sl w .u8 vb (digs (2 ^ 128)) → FarS c vb → Sl w .u8 vt (digs (2 ^ 128)) → FarS c vt → Sl w .u8 data D → FarS c data → Calls Sang.prog 19 #[.pointer (some ⟨c, 0, none⟩), .agg (txM data).toArray] w fun e w' => (∃ R out, e = .returned (.agg R.toArray) ∧ R.length = 25 ∧ Flat R ∧ R[0]? = some (.int .u8 0) ∧ R[1]? = some (.int .u8 (s : Nat)) ∧ R[2]? = some (.int .u64 (U : Nat)) ∧ R[3]? = some out ∧ Sl w' .u8 out (O) ∧ Nw w.heap.size out) ∧ Fr w.heap.size (· = c) w w') := fun c gA cap LA vn vb vt w q1 q2 q3 q4 q5 q6 q7 q8 q9 q10 q11 q12 => apply_any c gA cap LA vn vb vt data D O s X U d w q1 q2 q3 q4 q5 q6 q7 q8 q9 q10 q11 q12 lD hI1 hI2 hR
  have HSp : Hid (∀ w', VB w' g 98 LA → Calls Sang.prog 18 #[.slice (some ⟨g, 0, none⟩) 1 cap] w' _) := fun w' hw => specOf_any g cap LA w' hw hl hs
  clear hR hI1 hI2 lD
  generalize txM data = T at *
  have h1 := (h.alloc (.cells T.toArray 30)).alloc (.cells #[Value.int IntKind.u8 0, Value.int IntKind.u8 0, Value.int IntKind.u64 0, Value.slice none 0 0, Value.slice none 0 0, Value.int IntKind.u8 0, Value.int IntKind.u8 0, Value.int IntKind.u8 0, Value.int IntKind.u8 0, Value.int IntKind.u8 0, Value.int IntKind.u8 0, Value.int IntKind.u8 0, Value.int IntKind.u8 0, Value.int IntKind.u8 0, Value.int IntKind.u8 0, Value.int IntKind.u8 0, Value.int IntKind.u8 0, Value.int IntKind.u8 0, Value.int IntKind.u8 0, Value.int IntKind.u8 0, Value.int IntKind.u8 0, Value.int IntKind.u8 0, Value.int IntKind.u8 0, Value.int IntKind.u8 0, Value.int IntKind.u8 0] 37)
  have hT1 := (VB.new w 30 T).alloc (.cells #[Value.int IntKind.u8 0, Value.int IntKind.u8 0, Value.int IntKind.u64 0, Value.slice none 0 0, Value.slice none 0 0, Value.int IntKind.u8 0, Value.int IntKind.u8 0, Value.int IntKind.u8 0, Value.int IntKind.u8 0, Value.int IntKind.u8 0, Value.int IntKind.u8 0, Value.int IntKind.u8 0, Value.int IntKind.u8 0, Value.int IntKind.u8 0, Value.int IntKind.u8 0, Value.int IntKind.u8 0, Value.int IntKind.u8 0, Value.int IntKind.u8 0, Value.int IntKind.u8 0, Value.int IntKind.u8 0, Value.int IntKind.u8 0, Value.int IntKind.u8 0, Value.int IntKind.u8 0, Value.int IntKind.u8 0, Value.int IntKind.u8 0] 37)
  have hR1 : VB ((w.alloc (.cells T.toArray 30)).alloc (.cells #[Value.int IntKind.u8 0, Value.int IntKind.u8 0, Value.int IntKind.u64 0, Value.slice none 0 0, Value.slice none 0 0, Value.int IntKind.u8 0, Value.int IntKind.u8 0, Value.int IntKind.u8 0, Value.int IntKind.u8 0, Value.int IntKind.u8 0, Value.int IntKind.u8 0, Value.int IntKind.u8 0, Value.int IntKind.u8 0, Value.int IntKind.u8 0, Value.int IntKind.u8 0, Value.int IntKind.u8 0, Value.int IntKind.u8 0, Value.int IntKind.u8 0, Value.int IntKind.u8 0, Value.int IntKind.u8 0, Value.int IntKind.u8 0, Value.int IntKind.u8 0, Value.int IntKind.u8 0, Value.int IntKind.u8 0, Value.int IntKind.u8 0] 37)) (w.heap.size + 1) 37 (rcV 0 0 (.slice none 0 0)) := VB.newAt (by simp) (by rfl)
  have hf : Fr w.heap.size no w ((w.alloc (.cells T.toArray 30)).alloc (.cells #[Value.int IntKind.u8 0, Value.int IntKind.u8 0, Value.int IntKind.u64 0, Value.slice none 0 0, Value.slice none 0 0, Value.int IntKind.u8 0, Value.int IntKind.u8 0, Value.int IntKind.u8 0, Value.int IntKind.u8 0, Value.int IntKind.u8 0, Value.int IntKind.u8 0, Value.int IntKind.u8 0, Value.int IntKind.u8 0, Value.int IntKind.u8 0, Value.int IntKind.u8 0, Value.int IntKind.u8 0, Value.int IntKind.u8 0, Value.int IntKind.u8 0, Value.int IntKind.u8 0, Value.int IntKind.u8 0, Value.int IntKind.u8 0, Value.int IntKind.u8 0, Value.int IntKind.u8 0, Value.int IntKind.u8 0, Value.int IntKind.u8 0] 37)) := ((Fr.refl _ _ _).alloc (Nat.le_refl _) _).alloc (by simp) _
  have hs1 : ((w.alloc (.cells T.toArray 30)).alloc (.cells #[Value.int IntKind.u8 0, Value.int IntKind.u8 0, Value.int IntKind.u64 0, Value.slice none 0 0, Value.slice none 0 0, Value.int IntKind.u8 0, Value.int IntKind.u8 0, Value.int IntKind.u8 0, Value.int IntKind.u8 0, Value.int IntKind.u8 0, Value.int IntKind.u8 0, Value.int IntKind.u8 0, Value.int IntKind.u8 0, Value.int IntKind.u8 0, Value.int IntKind.u8 0, Value.int IntKind.u8 0, Value.int IntKind.u8 0, Value.int IntKind.u8 0, Value.int IntKind.u8 0, Value.int IntKind.u8 0, Value.int IntKind.u8 0, Value.int IntKind.u8 0, Value.int IntKind.u8 0, Value.int IntKind.u8 0, Value.int IntKind.u8 0] 37)).heap.size = w.heap.size + 2 := by simp
  have HS1 : Hid (((w.alloc (.cells T.toArray 30)).alloc (.cells #[Value.int IntKind.u8 0, Value.int IntKind.u8 0, Value.int IntKind.u64 0, Value.slice none 0 0, Value.slice none 0 0, Value.int IntKind.u8 0, Value.int IntKind.u8 0, Value.int IntKind.u8 0, Value.int IntKind.u8 0, Value.int IntKind.u8 0, Value.int IntKind.u8 0, Value.int IntKind.u8 0, Value.int IntKind.u8 0, Value.int IntKind.u8 0, Value.int IntKind.u8 0, Value.int IntKind.u8 0, Value.int IntKind.u8 0, Value.int IntKind.u8 0, Value.int IntKind.u8 0, Value.int IntKind.u8 0, Value.int IntKind.u8 0, Value.int IntKind.u8 0, Value.int IntKind.u8 0, Value.int IntKind.u8 0, Value.int IntKind.u8 0] 37)).heap.size = w.heap.size + 2) := hs1
  clear hs1
  go_enter Sang.func14, Sang.ntmps14
  go_wp2_with fail
  generalize (w.alloc (.cells T.toArray 30)).alloc (.cells #[Value.int IntKind.u8 0, Value.int IntKind.u8 0, Value.int IntKind.u64 0, Value.slice none 0 0, Value.slice none 0 0, Value.int IntKind.u8 0, Value.int IntKind.u8 0, Value.int IntKind.u8 0, Value.int IntKind.u8 0, Value.int IntKind.u8 0, Value.int IntKind.u8 0, Value.int IntKind.u8 0, Value.int IntKind.u8 0, Value.int IntKind.u8 0, Value.int IntKind.u8 0, Value.int IntKind.u8 0, Value.int IntKind.u8 0, Value.int IntKind.u8 0, Value.int IntKind.u8 0, Value.int IntKind.u8 0, Value.int IntKind.u8 0, Value.int IntKind.u8 0, Value.int IntKind.u8 0, Value.int IntKind.u8 0, Value.int IntKind.u8 0] 37) = w1 at h1 hT1 hR1 hf HS1 ⊢
  have hSall : ∀ w', Fr w1.heap.size (· = w.heap.size + 1) w1 w' → (Fr w1.heap.size (· = w.heap.size + 1) w1 w' ∧ (loadVar 30 ⟨w.heap.size, 0, none⟩).run Sang.prog w' = .ok (.agg T.toArray) w') := fun w' f => by
    have hT' := hT1.fr f hT1.lt (by omega)
    have q := hT'.q
    refine ⟨f, ?_⟩
    rw [ld30 w' w.heap.size 0 q.2.2 (by rw [q.1, lT]; decide), q.1, tall]
  have hx0 := hSall w1.drew (Fr.refl _ _ _).drew
  have h1d := h1.drew
  go_region_held3 (fun w' => Fr w1.heap.size (· = w.heap.size + 1) w1 w' ∧ (loadVar 30 ⟨w.heap.size, 0, none⟩).run Sang.prog w' = .ok (.agg T.toArray) w')
    (first | exact hx0 | exact hSall _ ((Fr.weak (X := (· = w.heap.size + 1)) hfy).setV (b := w.heap.size + 1) (.inr rfl) _ _) | exact hSall _ hfy.weak | exact hSall _ hfx.weak)
    (first
      | (go_at_call 18; (with_reducible refine (HSp.out w1.drew h1d).mono ?_); rintro e w2 ⟨c, gA, cap', LA', vn, vb, vt, rfl, a1, a2, a3, a4, a5, a6, a7, a8, a9, a10, a11, a12, a13⟩; have hfx : Fr w1.heap.size no w1 w2 := (Fr.refl _ _ _).drew.step a13 (Nat.le_refl _) (fun _ _ x => x); have hD2 := (hD.fr hf).fr hfx; have fD : FarS c data := FarS.old (hD.fr hf) a10)
      | (go_at_call 19; (with_reducible refine (HAp.out c gA cap' LA' vn vb vt w2 a1 a2 a3 a4 a12 a5 a6 a7 a8 a9 hD2 fD).mono ?_); rintro e w3 ⟨⟨R, out, rfl, l1, l2, l3, l4, l5, l6, l7, l7n⟩, hf3⟩; have hfy : Fr w1.heap.size no w1 w3 := hfx.step hf3 hfx.size (fun i hi e => absurd e (by have : w1.heap.size ≤ c := a10; omega)); have hR3 := hR1.fr hfy hR1.lt (fun x => x); have q := hR3.q; have lz := rcV_length 0 0 (.slice none 0 0); have la : layV (rcV 0 0 (.slice none 0 0)) 0 R = R := layV_all _ _ (by omega)))
  have hi37 : (Sang.prog.info? 37).map (·.size) = some R.length := by rw [l1]; exact siz37
  go_wp2_with fail
  refine bodyPost_ret (results_cellV Sang.results14 rfl (VB.setV hR3.lt _ _) _ Sang.underlying37 rfl hi37) rfl ⟨⟨R, out, rfl, l1, l2, l3, l4, l5, l6, ?_, l7n.mono (Nat.le_trans hf.size hfx.size)⟩, ?_⟩
  · exact l7.frS (FarS.fresh l7n (hR1.fr hfx hR1.lt (fun x => x)).lt) ((Fr.refl _ (· = w.heap.size + 1) _).setV (.inr rfl) _ _)
  · exact (hf.step hfy hf.size (fun _ _ x => x)).setV (.inl (by omega)) _ _

theorem intr_mx (lb le lm b e m : Nat) (h0 : lb < 70) (h1 : le < 70) (h2 : lm < 70) : 21000 ≤ intrN (mxIn lb le lm b e m) ∧ intrN (mxIn lb le lm b e m) ≤ 25848 := by
  have hl := mxIn_length lb le lm b e m
  have hn := nz_le (mxIn lb le lm b e m)
  unfold intrN
  omega
theorem cost_mx (lb le lm b e m : Nat) (h0 : lb ≤ 64) (h1 : le ≤ 64) (h2 : lm ≤ 64) (he : e < 256) : costN 5 (mxIn lb le lm b e m) ≤ 5461 := by
  rw [mx_cost]
  have hf : (max lb lm + 7) / 8 ≤ 8 := by omega
  have ht : max (if 32 < le then 8 * (le - 32) else blen (if le = 0 then 0 else e) - 1) 1 ≤ 256 := by
    have hb : blen (if le = 0 then 0 else e) ≤ 8 := blen_small (by split <;> omega)
    split <;> omega
  have h3 := Nat.mul_le_mul hf hf
  have h4 := Nat.mul_le_mul h3 ht
  omega
theorem top_two (n : Nat) (h1 : 256 ≤ n) (h2 : n < 65536) : (digs n).getD ((digs n).length - 1) 0 = n / 256 := by
  have e : [n % 256, n / 256] = digs n := eq_digs (by intro d hd; simp at hd; omega) (.inr ⟨[n % 256], n / 256, rfl, by omega⟩) (by simp [val]; omega)
  rw [← e]
  rfl
theorem runP_ok (lb le lm b e m : Nat) (h0 : lb ≤ 64) (h1 : le ≤ 64) (h2 : lm ≤ 64) (hb : b < 256) (he : e < 256) (hm : m < 256) :
    RunP (mxIn lb le lm b e m) (outN (mxIn lb le lm b e m)) 0 (200000 - intrN (mxIn lb le lm b e m) - costN 5 (mxIn lb le lm b e m)) (intrN (mxIn lb le lm b e m) + costN 5 (mxIn lb le lm b e m)) ((intrN (mxIn lb le lm b e m) + costN 5 (mxIn lb le lm b e m)) / 256) := by
  have hi := intr_mx lb le lm b e m (by omega) (by omega) (by omega)
  have hc := cost_mx lb le lm b e m h0 h1 h2 he
  have hl := mxIn_length lb le lm b e m
  refine ⟨fun c vt w w' q1 q2 => run_ok c vt _ w w' q1 q2 (mxIn_dg _ _ _ _ _ _ (by omega) (by omega) (by omega) hb he hm) (by omega) ((mx_ok _ _ _ _ _ _).2 ⟨h0, h1, h2⟩) (by omega) (by omega), ?_, .inl rfl, by omega, by omega, top_two _ (by omega) (by omega), by omega, by omega, by omega, by omega, ?_, by omega⟩
  · have : (outN (mxIn lb le lm b e m)).length = lm := by
      unfold outN
      rw [List.length_reverse, limbs_length]
      exact (mx_len lb le lm b e m).2.2
    omega
  · intro x hx
    simp [adNo] at hx
    omega
theorem runP_no (lb le lm b e m : Nat) (h0 : lb < 70) (h1 : le < 70) (h2 : lm < 70) (hb : b < 256) (he : e < 256) (hm : m < 256) (hno : ¬ (lb ≤ 64 ∧ le ≤ 64 ∧ lm ≤ 64)) :
    RunP (mxIn lb le lm b e m) [] 2 0 200000 3 := by
  have hl := mxIn_length lb le lm b e m
  refine ⟨fun c vt w w' q1 q2 => run_no c vt _ w w' q1 q2 (mxIn_dg _ _ _ _ _ _ (by omega) (by omega) (by omega) hb he hm) (by omega) (fun h => hno ((mx_ok _ _ _ _ _ _).1 h)), by simp, .inr rfl, rfl, Nat.le_refl _, top_limit, by decide, by decide, by decide, by decide, ?_, by decide⟩
  decide
end Go.Proofs.YgcsanGreat
