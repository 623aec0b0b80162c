/-
  The step of the transaction: from Begin to the end.
-/
import Derived.Test.YgcsanGreatS17a
namespace Go.Proofs.YgcsanGreat
open Go.RowKit
set_option linter.unusedSimpArgs false
set_option linter.unusedVariables false
attribute [-go_sem] loadVar storeVar Instr.build Instr.fill Instr.buildSlice Builtin.append_


/-- the state behind Begin -/
def BegP (c : Nat) (vt : Value) (D : List Nat) (w w' : World) : Prop := ∃ g2 cap2 LA2 n1 b1 wa gF capF LF g' va' LA' n' b' li tg pr val inp,
      VB w' c 75 (stV (.slice (some ⟨g2, 0, none⟩) 1 cap2) wa (.slice (some ⟨gF, 0, none⟩) 1 capF) (.slice none 0 0) 1 0 1 li tg (.slice none 0 0) pr vt (adNo 240)) ∧ VB w' g2 106 LA2 ∧ subV LA2 0 24 = acV (adNo 240) n1 b1 (.slice none 0 0) (.slice none 0 0) ∧ 24 ≤ LA2.length ∧ Sl w' .u8 n1 (digs 1) ∧ Far c n1 ∧ Sl w' .u8 b1 (digs (2 ^ 128)) ∧ FarS c b1 ∧
      VB w' gF 119 LF ∧ 60 ≤ LF.length ∧ 1 ≤ capF ∧ subV LF 0 60 = frV 5 tg val inp (adNo 5) (adNo 240) (wdV (.slice (some ⟨g', 0, none⟩) 1 1) va') ∧ VB w' g' 106 LA' ∧ subV LA' 0 24 = acV (adNo 240) n' b' (.slice none 0 0) (.slice none 0 0) ∧ 24 ≤ LA'.length ∧ Sl w' .u8 n' (digs 1) ∧ FarS c n' ∧ Sl w' .u8 b' (digs (2 ^ 128)) ∧ FarS c b' ∧ va'.oneCell' = true ∧ noU8 va' ∧
      (Sl w' .u8 li (digs 200000) ∧ FarS c li ∧ Sl w' .u8 tg (digs (200000 - intrN D)) ∧ FarS c tg ∧ Sl w' .u8 pr (digs 0) ∧ Sl w' .u8 val (digs 0) ∧ Sl w' .u8 inp D ∧ FarS c inp ∧ Sl w' .u8 vt (digs (2 ^ 128)) ∧ wa.oneCell' = true ∧ noU8 wa ∧ FarS gF n1 ∧ FarS gF b1 ∧ FarS gF vt ∧ FarS gF li ∧ FarS gF pr ∧ FarS gF inp ∧ FarS gF tg ∧ FarS gF n' ∧ FarS gF b' ∧ g' ≠ gF ∧ g2 ≠ gF ∧ g' ≠ c ∧ gF ≠ c ∧ c ≠ g2 ∧ w.heap.size ≤ gF ∧ Fr w.heap.size (· = c) w w')
/-- the state at the end -/
def EndP (c s X : Nat) (O : List Nat) (w w' : World) : Prop := ∃ g cap LA n1 b1 wa rt li tg le pr vt, VB w' c 75 (stV (.slice (some ⟨g, 0, none⟩) 1 cap) wa (.slice none 0 0) rt 2 s 1 li tg le pr vt (adNo 240)) ∧ VB w' g 106 LA ∧ subV LA 0 24 = acV (adNo 240) n1 b1 (.slice none 0 0) (.slice none 0 0) ∧ 24 ≤ LA.length ∧ c ≠ g ∧ Sl w' .u8 n1 (digs 1) ∧ Far c n1 ∧ Sl w' .u8 b1 (digs (2 ^ 128)) ∧ FarS c b1 ∧ Sl w' .u8 li (digs 200000) ∧ FarS c li ∧ Sl w' .u8 le (digs X) ∧ Sl w' .u8 pr (digs 0) ∧ Sl w' .u8 vt (digs (2 ^ 128)) ∧ FarS c vt ∧ Sl w' .u8 rt O ∧ FarS c rt ∧ wa.oneCell' = true ∧ noU8 wa ∧ tg.oneCell' = true ∧ noU8 tg ∧ Fr w.heap.size (· = c) w w'

theorem Sl.fr2y {w w' : World} {c j : Nat} {v : Value} {l : List Nat} (h : Sl w .u8 v l) (hF : FarS c v) (hG : FarS j v) (k : Fr w.heap.size (fun x => x = c ∨ x = j) w w') : Sl w' .u8 v l := by
  obtain ⟨a, cap, rfl, h1, h2, h3⟩ := h
  refine ⟨a, cap, rfl, h1, h2, ?_⟩
  rcases h3 with h3 | ⟨b, off, rfl, h3⟩
  · exact .inl h3
  · rcases hF _ _ _ rfl with h0 | h0
    · exact .inl (List.eq_nil_of_length_eq_zero h0)
    · rcases hG _ _ _ rfl with h0' | h0'
      · exact .inl (List.eq_nil_of_length_eq_zero h0')
      · refine .inr ⟨b, off, rfl, fun i hi => ?_⟩
        rw [← h3 i hi]
        exact k.cell (cell_lt (h3 i hi)) (fun e => by rcases e with e | e; exact h0 e; exact h0' e)
theorem Sl.fr2x {w w' : World} {c j : Nat} {v : Value} {l : List Nat} (h : Sl w .u8 v l) (hF : Far c v) (hG : FarS j v) (k : Fr w.heap.size (fun x => x = c ∨ x = j) w w') (hc : w'.cell? ⟨c, 13, none⟩ = w.cell? ⟨c, 13, none⟩) : Sl w' .u8 v l := by
  obtain ⟨a, cap, rfl, h1, h2, h3⟩ := h
  refine ⟨a, cap, rfl, h1, h2, ?_⟩
  rcases h3 with h3 | ⟨b, off, rfl, h3⟩
  · exact .inl h3
  · rcases hG _ _ _ rfl with h0' | h0'
    · exact .inl (List.eq_nil_of_length_eq_zero h0')
    · rcases hF _ _ _ rfl with h0 | h0 | ⟨h0, h00⟩
      · exact .inl (List.eq_nil_of_length_eq_zero h0)
      · refine .inr ⟨b, off, rfl, fun i hi => ?_⟩
        rw [← h3 i hi]
        exact k.cell (cell_lt (h3 i hi)) (fun e => by rcases e with e | e; exact h0 e; exact h0' e)
      · simp only at h00
        subst h00
        refine .inr ⟨b, 13, rfl, fun i hi => ?_⟩
        by_cases hb : b = c
        · subst hb
          have : i = 0 := by omega
          subst this
          rw [← h3 0 hi]
          exact hc
        · rw [← h3 i hi]
          exact k.cell (cell_lt (h3 i hi)) (fun e => by rcases e with e | e; exact hb e; exact h0' e)

theorem run_ok (c : Nat) (vt : Value) (D : List Nat) (w w' : World) (ft : FarS c vt) (hP : BegP c vt D w w') (hd : Dg 256 D) (sD : D.length ≤ 16777216) (hOK : lenOk D) (h1 : 3393 ≤ intrN D + costN 5 D) (h2 : intrN D + costN 5 D ≤ 68000) :
    Calls Sang.prog 31 #[.pointer (some ⟨c, 0, none⟩)] w' fun e w'' => e = .returned (.bool true) ∧ EndP c 0 (200000 - intrN D - costN 5 D) (outN D) w w'' := by
  obtain ⟨g2, cap2, LA2, n1, b1, wa, gF, capF, LF, g', va', LA', n', b', li, tg, pr, val, inp, a1, a2, a3, a4, a5, a6, a7, a8, a9, a10, a11, a12, a13, a14, a15, a16, a17, a18, a19, a20, a21, a22, a23, a24, a25, a26, a27, a28, a29, a30, a31, a32, a33, a34, a35, a36, a37, a38, a39, a40, a41, a42, a43, a44, a45, a46, a48, a47⟩ := hP
  have lL := stV_length (.slice (some ⟨g2, 0, none⟩) 1 cap2) wa (.slice (some ⟨gF, 0, none⟩) 1 capF) (.slice none 0 0) 1 0 1 li tg (.slice none 0 0) pr vt (adNo 240) rfl
  have hcl := a1.lt
  refine step_run c gF capF _ LF w' _ a1 rfl rfl a9 (subV_get a12 1 rfl) ?_
  refine (native_ok c gF capF _ LF _ (adNo 240) (adNo 5) D tg val inp (200000 - intrN D) w'.drew a1.drew lL rfl a9.drew a10 a11 a45 a12 rfl rfl rfl a24 a27.one a28 hd sD (wdV_flat _ _ rfl a20) a38 hOK (by omega) ?_ ?_).mono ?_
  · exact Nat.le_trans ((digs_length_le _ 3).2 (Nat.lt_of_le_of_lt (Nat.sub_le _ _) (by decide))) (by decide)
  · intro w2 v q1 q2
    exact far_top q1 rfl (noU8.slice _ _ _) a32 (noU8.slice _ _ _) (noU8.slice _ _ _) (noU8.sl a22) (noU8.sl a24) (noU8.slice _ _ _) (noU8.sl a26) (noU8.sl a30) q2 2 (top_digit _ (by omega) (by omega)) (by decide) (by decide) (by decide) (by decide) (by decide) (.inl (by decide))
  rintro e w2 ⟨rfl, vo, vg, q1, q2, q3, q4, q5⟩
  refine ⟨rfl, ?_⟩
  have q1' : VB w2 c 75 (stV (.slice (some ⟨g2, 0, none⟩) 1 cap2) wa (.slice none 0 0) vo 2 0 1 li tg vg pr vt (adNo 240)) := q1
  have q5' : Fr w'.heap.size (fun x => x = c ∨ x = gF) w' w2 := ⟨q5.os, q5.tape, q5.output, q5.size, q5.block⟩
  refine ⟨g2, cap2, LA2, n1, b1, wa, vo, li, tg, vg, pr, vt, q1', a2.fr q5' a2.lt ?_, a3, a4, a46, Sl.fr2x a5 a6 a33 q5' ((q1'.cell 13 rfl).trans (a1.cell 13 rfl).symm), a6, Sl.fr2y a7 a8 a34 q5', a8, Sl.fr2y a22 a23 a36 q5', a23, q4, Sl.fr2y a26 (FarS.empty a26) a37 q5', Sl.fr2y a30 ft a35 q5', ft, q2, FarS.fresh q3 hcl, a31, a32, a24.one, noU8.sl a24, ?_⟩
  · rintro (e | e)
    · exact a46 e.symm
    · exact a43 e
  · exact a47.step q5' a47.size (fun i hi e => by
      rcases e with e | e
      · exact e
      · omega)

theorem run_no (c : Nat) (vt : Value) (D : List Nat) (w w' : World) (ft : FarS c vt) (hP : BegP c vt D w w') (hd : Dg 256 D) (sD : D.length ≤ 16777216) (hOK : ¬ lenOk D) :
    Calls Sang.prog 31 #[.pointer (some ⟨c, 0, none⟩)] w' fun e w'' => e = .returned (.bool true) ∧ EndP c 2 0 [] w w'' := by
  obtain ⟨g2, cap2, LA2, n1, b1, wa, gF, capF, LF, g', va', LA', n', b', li, tg, pr, val, inp, a1, a2, a3, a4, a5, a6, a7, a8, a9, a10, a11, a12, a13, a14, a15, a16, a17, a18, a19, a20, a21, a22, a23, a24, a25, a26, a27, a28, a29, a30, a31, a32, a33, a34, a35, a36, a37, a38, a39, a40, a41, a42, a43, a44, a45, a46, a48, a47⟩ := hP
  have lL := stV_length (.slice (some ⟨g2, 0, none⟩) 1 cap2) wa (.slice (some ⟨gF, 0, none⟩) 1 capF) (.slice none 0 0) 1 0 1 li tg (.slice none 0 0) pr vt (adNo 240) rfl
  have hcl := a1.lt
  refine step_run c gF capF _ LF w' _ a1 rfl rfl a9 (subV_get a12 1 rfl) ?_
  refine (native_no c gF capF _ LF _ (adNo 240) (adNo 5) D tg val inp (200000 - intrN D) w'.drew a1.drew lL rfl a9.drew a10 a11 a45 a12 rfl rfl rfl a24 a27.one a28 hd sD (wdV_flat _ _ rfl a20) hOK).mono ?_
  rintro e w2 ⟨rfl, q1, q5⟩
  refine ⟨rfl, ?_⟩
  have q1' : VB w2 c 75 (stV (.slice (some ⟨g', 0, none⟩) 1 1) va' (.slice none 0 0) (.slice none 0 0) 2 2 1 li tg (.slice none 0 0) pr vt (adNo 240)) := q1
  have q5' : Fr w'.heap.size (· = c) w' w2 := ⟨q5.os, q5.tape, q5.output, q5.size, q5.block⟩
  exact ⟨g', 1, LA', n', b', va', (.slice none 0 0), li, tg, (.slice none 0 0), pr, vt, q1', a13.fr q5' a13.lt (fun e => a44 e), a14, a15, (fun e => a44 e.symm), a16.frS a17 q5', a17.far, a18.frS a19 q5', a19, a22.frS a23 q5', a23, Sl.nil _ _, a26.frS (FarS.empty a26) q5', a30.frS ft q5', ft, Sl.nil _ _, FarS.nil _, a20, a21, a24.one, noU8.sl a24, a47.step q5' a47.size (fun _ _ x => x)⟩
end Go.Proofs.YgcsanGreat
