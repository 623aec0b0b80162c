/-
  Package yp: Chain.Begin of the transaction at hand, from the nonce on.
-/
import Derived.Test.YgcsanGreatS17a
namespace Go.Proofs.YgcsanGreat
open Go.RowKit
set_option linter.unusedSimpArgs false
set_option linter.unusedVariables false
attribute [-go_sem] loadVar storeVar Instr.build Instr.fill Instr.buildSlice Builtin.append_


/-- the code from region n on -/
def tailAt (n : Nat) : Code → Option Code
  | .seq a b => match a with
    | .region k _ _ => if k == n then some (.seq a b) else tailAt n b
    | _ => match tailAt n a with
      | some c => some c
      | none => tailAt n b
  | .block _ c => tailAt n c
  | .scope c => tailAt n c
  | _ => none
def seqFst : Option Code → Code
  | some (.seq a _) => a
  | _ => .skip
def seqSnd : Option Code → Code
  | some (.seq _ b) => b
  | _ => .skip
theorem wp_k {P : Program} {Q : Exit → Act → World → Prop} {a : Act} {w : World} {x : Code} {N : Act → World → Prop} (h : ∀ K : Act → World → Prop, (∀ a w, N a w → K a w) → x.wp P (Exit.then K Q) a w) : x.wp P (Exit.then N Q) a w := h N (fun _ _ h => h)
theorem wp_join {P : Program} {Q : Exit → Act → World → Prop} {a : Act} {w : World} {x : Code} {N K : Act → World → Prop} (h : x.wp P (Exit.then N Q) a w) (hK : ∀ a w, N a w → K a w) : x.wp P (Exit.then K Q) a w :=
  wp_mono h (fun e a w hq => by cases e <;> first | exact hK _ _ hq | exact hq)

abbrev BegQ (c : Nat) (vt : Value) (D A B : List Nat) (w : World) (e : Ending) (w' : World) : Prop := e = .returned (.int .u8 0) ∧ ∃ g2 cap2 LA2 n1 b1 wa gF capF LF g' va' LA' n' b' li tg pr val inp,
      VB w' c 75 (stV (.slice (some ⟨g2, 0, none⟩) 1 cap2) wa (.slice (some ⟨gF, 0, none⟩) 1 capF) (.slice none 0 0) 1 0 1 li tg (.slice none 0 0) pr vt A) ∧ VB w' g2 106 LA2 ∧ subV LA2 0 24 = acV A n1 b1 (.slice none 0 0) (.slice none 0 0) ∧ 24 ≤ LA2.length ∧ Sl w' .u8 n1 (digs 1) ∧ Far c n1 ∧ Sl w' .u8 b1 (digs (2 ^ 128)) ∧ FarS c b1 ∧
      VB w' gF 119 LF ∧ 60 ≤ LF.length ∧ 1 ≤ capF ∧ subV LF 0 60 = frV 5 tg val inp B A (wdV (.slice (some ⟨g', 0, none⟩) 1 1) va') ∧ VB w' g' 106 LA' ∧ subV LA' 0 24 = acV A n' b' (.slice none 0 0) (.slice none 0 0) ∧ 24 ≤ LA'.length ∧ Sl w' .u8 n' (digs 1) ∧ FarS c n' ∧ Sl w' .u8 b' (digs (2 ^ 128)) ∧ FarS c b' ∧ va'.oneCell' = true ∧ noU8 va' ∧
      (Sl w' .u8 li (digs 200000) ∧ FarS c li ∧ Sl w' .u8 tg (digs (200000 - intrN D)) ∧ FarS c tg ∧ Sl w' .u8 pr (digs 0) ∧ Sl w' .u8 val (digs 0) ∧ Sl w' .u8 inp D ∧ FarS c inp ∧ Sl w' .u8 vt (digs (2 ^ 128)) ∧ wa.oneCell' = true ∧ noU8 wa ∧ FarS gF n1 ∧ FarS gF b1 ∧ FarS gF vt ∧ FarS gF li ∧ FarS gF pr ∧ FarS gF inp ∧ FarS gF tg ∧ FarS gF n' ∧ FarS gF b' ∧ g' ≠ gF ∧ g2 ≠ gF ∧ g' ≠ c ∧ gF ≠ c ∧ c ≠ g2 ∧ w.heap.size ≤ gF ∧ Fr w.heap.size (· = c) w w')

set_option maxRecDepth 10000 in
set_option maxHeartbeats 8000000 in
theorem begin_tail (c gA cap j7 j8 : Nat) (LA M Zv T : List Value) (vn vb vt data li tg pr : Value) (D A B B4 C : List Nat) (w wr : World)
    (hl : 24 ≤ LA.length)
    (hgc : gA ≠ c)
    (fb : FarS c vb)
    (ft : FarS c vt)
    (fD : FarS c data)
    (ncA : c ≠ gA)
    (ncT : c ≠ w.heap.size)
    (fn : FarS c vn)
    (HL2 : Hid ((digs 200000).length ≤ 8388608))
    (top3 : (digs 200000).getD ((digs 200000).length - 1) 0 = 3)
    (Htop : Hid (∀ _ : Unit, (digs (200000 - intrN D)).getD ((digs (200000 - intrN D)).length - 1) 0 = 2))
    (hs : subV LA 0 24 = M)
    (hFl : Flat M)
    (hLn : M.length = 24)
    (m1 : M[20]? = some vn)
    (m2 : M[21]? = some vb)
    (m4 : M[23]? = some (.slice none 0 0))
    (hMall : subV M 0 24 = M)
    (hu23 : Sang.prog.underlying 23 = some (.array 20 5))
    (lZv : Zv.length = 20)
    (fZv : Flat Zv)
    (HZv : Hid (∀ _ : Unit, byV (List.replicate 20 0) = Zv))
    (hbz : ∀ w, (Instr.build 23 #[]).run Sang.prog w = .ok (.agg Zv.toArray) w)
    (HIb : Hid (∀ _ : Unit, 3393 ≤ intrN D ∧ intrN D ≤ 68000))
    (hlD : (D.length : Int) ≤ 1024)
    (HWm : Hid (∀ (w' : World) (L' : List Value) (va : Value) (k : Nat) (X : List Nat), VB w' c 75 L' → L'[1]? = some va → k ≤ 900 → AS w' k va → (∀ a n d, va = .slice (some a) n d → a.block ≠ c) → X.length = 20 → Calls Sang.prog 81 #[.pointer (some ⟨c, 0, none⟩), .agg (byV X).toArray] w' fun e w'' => e = .returned (.tuple #[]) ∧ ∃ va', VB w'' c 75 (L'.set 1 va') ∧ AS w'' (k + 1) va' ∧ (∀ a n d, va' = .slice (some a) n d → a.block ≠ c) ∧ Fr w'.heap.size (· = c) w' w''))
    (lC : C.length = 20)
    (HC : Hid (∀ _ : Unit, adNo 192 = C))
    (lB4 : B4.length = 20)
    (hb4 : ∀ w, (Instr.build 23 #[(19, .int .u8 4)]).run Sang.prog w = .ok (.agg (byV B4).toArray) w)
    (lT : T.length = 174)
    (t40 : T[40]? = some (.bool false))
    (t42 : T[42]? = some (.int .u64 200000))
    (t107 : T[107]? = some data)
    (t173 : T[173]? = some (.slice none 0 0))
    (t108 : T[108]? = some (.bool false))
    (tall : subV T 0 174 = T)
    (HFV : Hid (∀ w', VB w' w.heap.size 30 T → Calls Sang.prog 83 #[.slice (some ⟨w.heap.size, 75, none⟩) 32 32] w' fun e w'' => ∃ v', e = .returned v' ∧ Sl w'' .u8 v' (digs 0) ∧ Fr w'.heap.size no w' w''))
    (lA : A.length = 20)
    (hMe : acV A vn vb (.slice none 0 0) (.slice none 0 0) = M)
    (lBv : (byV A).length = 20)
    (fAv : Flat (byV A))
    (hi23 : (Sang.prog.info? 23).map (·.size) = some (byV A).length)
    (HA1 : Hid (∀ x ∈ A, 1 ≠ x))
    (tf : subV T 0 20 = byV A)
    (lB : B.length = 20)
    (lBw : (byV B).length = 20)
    (eB : subV (byV B) 0 20 = byV B)
    (fBv : Flat (byV B))
    (HNat : Hid (∀ w', Calls Sang.prog 84 #[.agg (byV B).toArray] w' fun e w'' => e = .returned (.int .u8 5) ∧ Fr w'.heap.size no w' w''))
    (hiB : (Sang.prog.info? 23).map (·.size) = some (byV B).length)
    (hb5 : ∀ w, (Instr.build 23 #[(19, .int .u8 5)]).run Sang.prog w = .ok (.agg (byV B).toArray) w)
    (tto : subV T 20 20 = byV B)
    (nc7 : c ≠ j7)
    (nT7 : w.heap.size ≠ j7)
    (nc8 : c ≠ j8)
    (n8T : w.heap.size ≠ j8)
    (n87 : j7 ≠ j8)
    (fli : FarS c li)
    (oli : li.oneCell' = true)
    (ftg : FarS c tg)
    (otg : tg.oneCell' = true)
    (fpr : FarS c pr)
    (opr : pr.oneCell' = true)
    (h : VB wr c 75 (stV (.slice (some ⟨gA, 0, none⟩) 1 cap) (.slice none 0 0) (.slice none 0 0) (.slice none 0 0) 0 0 1 li tg (.slice none 0 0) pr vt A))
    (hA : VB wr gA 106 LA)
    (hT : VB wr w.heap.size 30 T)
    (h7 : VB wr j7 106 M)
    (h8 : VB wr j8 23 (byV B))
    (hn : Sl wr .u8 vn (digs 0))
    (hb : Sl wr .u8 vb (digs (2 ^ 128)))
    (ht : Sl wr .u8 vt (digs (2 ^ 128)))
    (hD : Sl wr .u8 data D)
    (hli : Sl wr .u8 li (digs 200000))
    (htg : Sl wr .u8 tg (digs (200000 - intrN D)))
    (hpr : Sl wr .u8 pr (digs 0))
    (hf : Fr w.heap.size (· = c) w wr)
    (u2 u9 u10 u11 u12 u13 u14 u15 u16 u17 u18 u19 u20 u21 u22 u23 u24 u25 u26 u27 u28 u29 u30 u31 u32 u33 u34 u35 u36 u37 u38 u39 u40 u41 u42 u43 u44 u45 u46 u47 u48 u49 u50 u51 u52 u53 u54 u55 u56 u57 u58 u59 u60 u61 u62 u63 u64 u65 u66 u67 u68 u69 u70 u71 u72 u73 u74 u75 u76 u77 u78 u79 u80 u81 u82 u83 u84 u85 u86 u87 u88 u89 u90 u91 u92 u93 u94 u95 u96 u97 u98 u99 u100 u101 u102 u103 u104 u105 u106 u107 u108 u109 u110 u111 u112 u113 u114 u115 u116 u117 u118 u119 u120 u121 u122 u123 u124 u125 u126 u127 u128 u129 u130 u131 u132 u133 u134 u135 u136 u137 u138 u139 u140 u141 u142 u143 u144 u145 u146 u147 u148 u149 u150 u151 u152 u153 u154 u155 u156 u157 u158 u159 u160 u161 u162 u163 u164 u165 u166 u167 u168 u169 u170 u171 u172 u173 u174 u175 u176 u177 u178 u179 u180 u181 u182 u183 u184 u185 u186 u187 u188 u189 u190 u191 u192 u193 u194 u195 u196 u197 u198 u199 u200 u201 u202 u203 u204 u205 u206 u207 u208 u209 u210 u211 u212 u213 u214 u215 u216 u217 u218 u219 u220 u221 u222 u223 u224 u225 u226 u227 u228 u229 u230 u231 u232 u233 u234 u235 u236 u237 u238 u239 u240 u241 u242 u243 u244 u245 u246 u247 u248 u249 u250 u251 u252 u253 u254 u255 u256 u257 u258 u259 u260 u261 u262 u263 u264 u265 u266 u267 u268 u269 u270 : Value) :
    Code.wp Sang.prog (seqFst ((Sang.f28.body.bind (tailAt 27)))) (Exit.then (Code.wp Sang.prog (seqSnd ((Sang.f28.body.bind (tailAt 27)))) (bodyPost Sang.prog Sang.f28 (BegQ c vt D A B w))) (bodyPost Sang.prog Sang.f28 (BegQ c vt D A B w))) ⟨#[Value.pointer (some ⟨c, 0, none⟩), Value.agg T.toArray, u2, Value.pointer (some ⟨w.heap.size, 0, none⟩), Value.int .u8 0, Value.pointer (some ⟨c, 0, none⟩), Value.int .u8 0, Value.pointer (some ⟨j7, 0, none⟩), Value.pointer (some ⟨j8, 0, none⟩), u9, u10, u11, u12, u13, u14, u15, u16, u17, u18, u19, u20, u21, u22, u23, u24, u25, u26, u27, u28, u29, u30, u31, u32, u33, u34, u35, u36, u37, u38, u39, u40, u41, u42, u43, u44, u45, u46, u47, u48, u49, u50, u51, u52, u53, u54, u55, u56, u57, u58, u59, u60, u61, u62, u63, u64, u65, u66, u67, u68, u69, u70, u71, u72, u73, u74, u75, u76, u77, u78, u79, u80, u81, u82, u83, u84, u85, u86, u87, u88, u89, u90, u91, u92, u93, u94, u95, u96, u97, u98, u99, u100, u101, u102, u103, u104, u105, u106, u107, u108, u109, u110, u111, u112, u113, u114, u115, u116, u117, u118, u119, u120, u121, u122, u123, u124, u125, u126, u127, u128, u129, u130, u131, u132, u133, u134, u135, u136, u137, u138, u139, u140, u141, u142, u143, u144, u145, u146, u147, u148, u149, u150, u151, u152, u153, u154, u155, u156, u157, u158, u159, u160, u161, u162, u163, u164, u165, u166, u167, u168, u169, u170, u171, u172, u173, u174, u175, u176, u177, u178, u179, u180, u181, u182, u183, u184, u185, u186, u187, u188, u189, u190, u191, u192, u193, u194, u195, u196, u197, u198, u199, u200, u201, u202, u203, u204, u205, u206, u207, u208, u209, u210, u211, u212, u213, u214, u215, u216, u217, u218, u219, u220, u221, u222, u223, u224, u225, u226, u227, u228, u229, u230, u231, u232, u233, u234, u235, u236, u237, u238, u239, u240, u241, u242, u243, u244, u245, u246, u247, u248, u249, u250, u251, u252, u253, u254, u255, u256, u257, u258, u259, u260, u261, u262, u263, u264, u265, u266, u267, u268, u269, u270], []⟩ wr := by
  conv => arg 2; whnf
  conv => arg 3; arg 1; arg 2; whnf
  refine wp_k fun K hK => ?_
  have HSN : Hid (∀ w' v, VB w' c 75 (stV (.slice (some ⟨gA, 0, none⟩) 1 cap) (.slice none 0 0) (.slice none 0 0) (.slice none 0 0) 0 0 1 li tg (.slice none 0 0) pr vt A) → VB w' gA 106 LA → Sl w' .u8 v (digs 1) → Sl w' .u8 vb (digs (2 ^ 128)) → Calls Sang.prog 77 #[.pointer (some ⟨c, 0, none⟩), .agg (byV A).toArray, v] w' fun e w'' => e = .returned (.tuple #[]) ∧ ∃ g' cap' LA', VB w'' c 75 (stV (.slice (some ⟨g', 0, none⟩) 1 cap') (.slice none 0 0) (.slice none 0 0) (.slice none 0 0) 0 0 1 li tg (.slice none 0 0) pr vt A) ∧ VB w'' g' 106 LA' ∧ subV LA' 0 24 = acV A v vb (.slice none 0 0) (.slice none 0 0) ∧ 24 ≤ LA'.length ∧ w'.heap.size ≤ g' ∧ Fr w'.heap.size (· = c) w' w'') := fun w' v q1 q2 q3 q4 => setNonce_hit c 75 _ LA gA cap A vn vb w' q1 rfl q2 lA (hs.trans hMe.symm) hl hn.one hb.one v 1 (2 ^ 128) q3 q4 (by decide)
  have hSall : ∀ w', Fr wr.heap.size (· = c) wr w' → (Fr wr.heap.size (· = c) wr w' ∧ w'.rangeAt w.heap.size 0 (byV A) ∧ w'.cell? ⟨j7, 20, none⟩ = some vn) := fun w' f => ⟨f, (hT.fr f hT.lt (fun e => ncT e.symm)).range 0 20 tf, (h7.fr f h7.lt (fun e => nc7 e.symm)).cell 20 m1⟩
  have hx0 := hSall wr.drew (Fr.refl _ _ _).drew
  have HN1 : Hid (∀ w, Calls Sang.prog 65 #[.int .u64 1] w fun e w' => ∃ v', e = .returned v' ∧ Sl w' .u8 v' (digs 1) ∧ Fr w.heap.size no w w') := fun w => num_any 1 w (by decide)
  have HR1 : Hid (0 < W64 ^ 8 ∧ 1 < W64 ^ 8 ∧ 200000 < W64 ^ 8) := by unfold Hid; decide
  go_region_held3 (fun w' => Fr wr.heap.size (· = c) wr w' ∧ w'.rangeAt w.heap.size 0 (byV A) ∧ w'.cell? ⟨j7, 20, none⟩ = some vn)
    (first | exact hx0 | exact hSall _ hfz | exact hSall _ hfy.weak | exact hSall _ hfx.weak)
    (first
      | (go_at_call 65; (with_reducible refine (HN1.out wr.drew).mono ?_); rintro e w14 ⟨v14, rfl, hv14, hf14⟩; have hfx : Fr wr.heap.size no wr w14 := (Fr.refl _ _ _).drew.step hf14 (Nat.le_refl _) (fun _ _ x => x); have hn14 := hn.fr hfx)
      | (go_at_call 78; (with_reducible refine (addN_any vn v14 0 1 w14 hn14 hv14 HR1.out.1 HR1.out.2.1).mono ?_); rintro e w15 ⟨n1, rfl, hn1, hf15⟩; have hfy := hfx.step hf15 hfx.size (fun _ _ x => x); have h15 := h.fr hfy h.lt (fun x => x); have hA15 := hA.fr hfy hA.lt (fun x => x); have hb15 := hb.fr hfy)
      | (go_at_call 77; (with_reducible refine (HSN.out w15 n1 h15 hA15 hn1 hb15).mono ?_); rintro e w16 ⟨rfl, g1, cap1, LA1, h16, hA16, hs16, hl16, hg16, hf16⟩; have hfz := (Fr.weak (X := (· = c)) hfy).step hf16 hfy.size (fun _ _ x => x)))
  clear hSall hx0 HN1 hf14 hf15 hv14 hn14 hfx HSN
  have fn1 : Far c n1 := far_one h15 lA (noU8.slice _ _ _) (noU8.slice _ _ _) (noU8.slice _ _ _) (noU8.slice _ _ _) (noU8.sl hli) (noU8.sl htg) (noU8.slice _ _ _) (noU8.sl hpr) (noU8.sl ht) (by rw [← digs_one]; exact hn1) (by decide) (by decide) HA1.out
  have hn1' : Sl w16 .u8 n1 (digs 1) := hn1.frX fn1 hf16 ((h16.cell 13 rfl).trans (h15.cell 13 rfl).symm)
  have nc1 : c ≠ g1 := by have := h15.lt; omega
  clear hn1 hf16 h15 hA15 hb15 hfy hA
  replace h : VB _ c 75 (stV (.slice (some ⟨g1, 0, none⟩) 1 cap1) (.slice none 0 0) (.slice none 0 0) (.slice none 0 0) 0 0 1 li tg (.slice none 0 0) pr vt A) := h16
  replace hT := hT.fr hfz hT.lt (fun e => ncT e.symm)
  replace h7 := h7.fr hfz h7.lt (fun e => nc7 e.symm)
  replace h8 := h8.fr hfz h8.lt (fun e => nc8 e.symm)
  replace hn := hn.frS fn hfz
  replace hb := hb.frS fb hfz
  replace ht := ht.frS ft hfz
  replace hD := hD.frS fD hfz
  replace hli := hli.frS fli hfz
  replace htg := htg.frS ftg hfz
  replace hpr := hpr.frS fpr hfz
  replace hf := hf.step hfz hf.size (fun _ _ x => x)
  clear h16 hfz hn
  go_wp2_with fail
  have HSB : Hid (∀ w' v, VB w' c 75 (stV (.slice (some ⟨g1, 0, none⟩) 1 cap1) (.slice none 0 0) (.slice none 0 0) (.slice none 0 0) 0 0 1 li tg (.slice none 0 0) pr vt A) → VB w' g1 106 LA1 → Sl w' .u8 v (digs (2 ^ 128)) → Sl w' .u8 n1 (digs 1) → Calls Sang.prog 79 #[.pointer (some ⟨c, 0, none⟩), .agg (byV A).toArray, v] w' fun e w'' => e = .returned (.tuple #[]) ∧ ∃ g' cap' LA', VB w'' c 75 (stV (.slice (some ⟨g', 0, none⟩) 1 cap') (.slice none 0 0) (.slice none 0 0) (.slice none 0 0) 0 0 1 li tg (.slice none 0 0) pr vt A) ∧ VB w'' g' 106 LA' ∧ subV LA' 0 24 = acV A n1 v (.slice none 0 0) (.slice none 0 0) ∧ 24 ≤ LA'.length ∧ w'.heap.size ≤ g' ∧ Fr w'.heap.size (· = c) w' w'') := fun w' v q1 q2 q3 q4 => setBalance_hit c 75 _ LA1 g1 cap1 A n1 vb w' q1 rfl q2 lA hs16 hl16 q4.one hb.one v 1 (2 ^ 128) q3 q4 (by decide)
  have hSall : ∀ w' L', Fr w16.heap.size (· = c) w16 w' → VB w' c 75 L' → L'[14]? = some li → L'[17]? = some pr → (Fr w16.heap.size (· = c) w16 w' ∧ w'.rangeAt w.heap.size 0 (byV A) ∧ w'.cell? ⟨j7, 21, none⟩ = some vb ∧ w'.cell? ⟨c, 14, none⟩ = some li ∧ w'.cell? ⟨c, 17, none⟩ = some pr) := fun w' L' f q1 q2 q3 => ⟨f, (hT.fr f hT.lt (fun e => ncT e.symm)).range 0 20 tf, (h7.fr f h7.lt (fun e => nc7 e.symm)).cell 21 m2, q1.cell 14 q2, q1.cell 17 q3⟩
  have hx0 := hSall w16.drew _ (Fr.refl _ _ _).drew h.drew rfl rfl
  have hlid : Sl w16.drew .u8 li (digs 200000) := hli
  have hprd : Sl w16.drew .u8 pr (digs 0) := hpr
  have HL8 : Hid ((digs (2 ^ 128)).length ≤ 8388608) := by unfold Hid; rw [digs128]; decide
  go_region_held3 (fun w' => Fr w16.heap.size (· = c) w16 w' ∧ w'.rangeAt w.heap.size 0 (byV A) ∧ w'.cell? ⟨j7, 21, none⟩ = some vb ∧ w'.cell? ⟨c, 14, none⟩ = some li ∧ w'.cell? ⟨c, 17, none⟩ = some pr)
    (first | exact hx0 | exact hSall _ _ hfz h19 rfl rfl | exact hSall _ _ hfy.weak h18 rfl rfl | exact hSall _ _ hfx.weak h17 rfl rfl)
    (first
      | (go_at_call 80; (with_reducible refine (mulN_any li pr 200000 0 w16.drew hlid hprd HR1.out.2.2 HR1.out.1).mono ?_); rintro e w17 ⟨v17, rfl, hv17, hf17⟩; have hfx : Fr w16.heap.size no w16 w17 := (Fr.refl _ _ _).drew.step hf17 (Nat.le_refl _) (fun _ _ x => x); have h17 := h.fr hfx h.lt (fun x => x); have hb17 := hb.fr hfx; have hv17' : Sl w17 .u8 v17 (digs 0) := hv17)
      | (go_at_call 74; (with_reducible refine (less_any vb v17 (2 ^ 128) 0 w17 hb17 hv17' HL8.out).mono ?_); rintro e w18 ⟨b1, rfl, hb1, hf18⟩; have hfy := hfx.step hf18 hfx.size (fun _ _ x => x); have h18 := h.fr hfy h.lt (fun x => x); have hA18 := hA16.fr hfy hA16.lt (fun x => x); have hn18 := hn1'.fr hfy; have hb1' : Sl w18 .u8 b1 (digs (2 ^ 128)) := hb1)
      | (go_at_call 79; (with_reducible refine (HSB.out w18 b1 h18 hA18 hb1' hn18).mono ?_); rintro e w19 ⟨rfl, g2, cap2, LA2, h19, hA19, hs19, hl19, hg19, hf19⟩; have hfz := (Fr.weak (X := (· = c)) hfy).step hf19 hfy.size (fun _ _ x => x)))
  clear hSall hx0 hlid hprd hf17 hf18 hv17 hv17' hb17 hfx HSB
  have t128 : (digs (2 ^ 128)).getD ((digs (2 ^ 128)).length - 1) 0 = 1 := by rw [digs128]; rfl
  have fb1 : FarS c b1 := far_top h18 lA (noU8.slice _ _ _) (noU8.slice _ _ _) (noU8.slice _ _ _) (noU8.slice _ _ _) (noU8.sl hli) (noU8.sl htg) (noU8.slice _ _ _) (noU8.sl hpr) (noU8.sl ht) hb1' 1 t128 (by decide) (by decide) (by decide) (by decide) HA1.out (.inr (by rw [digs128]; decide))
  have hb2 : Sl w19 .u8 b1 (digs (2 ^ 128)) := hb1'.frS fb1 hf19
  have nc2 : c ≠ g2 := by have := h18.lt; omega
  clear hb1 hb1' hf19 h18 hA18 hn18 hfy hA16 hs16 hl16 t128
  have h13 := h.cell 13 rfl
  replace h : VB _ c 75 (stV (.slice (some ⟨g2, 0, none⟩) 1 cap2) (.slice none 0 0) (.slice none 0 0) (.slice none 0 0) 0 0 1 li tg (.slice none 0 0) pr vt A) := h19
  replace hT := hT.fr hfz hT.lt (fun e => ncT e.symm)
  replace h7 := h7.fr hfz h7.lt (fun e => nc7 e.symm)
  replace h8 := h8.fr hfz h8.lt (fun e => nc8 e.symm)
  replace hb := hb.frS fb hfz
  replace ht := ht.frS ft hfz
  replace hD := hD.frS fD hfz
  replace hli := hli.frS fli hfz
  replace htg := htg.frS ftg hfz
  replace hpr := hpr.frS fpr hfz
  replace hn1' := hn1'.frX fn1 hfz ((h.cell 13 rfl).trans h13.symm)
  clear h13
  replace hf := hf.step hfz hf.size (fun _ _ x => x)
  clear h19 hfz hb nc1
  go_wp2_with fail
  have hwa : AS w19 0 (.slice none 0 0) := AS.nil _ _
  have fwa : ∀ a n d, (.slice none 0 0) = Value.slice (some a) n d → a.block ≠ c := fun a n d e => by cases e
  have qd := hT.drew.q
  have hwad : AS w19.drew 0 (.slice none 0 0) := hwa
  have hdr := h.drew
  go_region_with (go_at_call 81; (with_reducible refine (HWm.out w19.drew _ (.slice none 0 0) 0 A hdr rfl (by decide) hwad fwa lA).mono ?_); rintro e w20 ⟨rfl, va1, hW, hwa2, fwa2, hfx'⟩; have hfx : Fr w19.heap.size (· = c) w19 w20 := (Fr.refl _ _ _).drew.step hfx' (Nat.le_refl _) (fun _ _ x => x))
  clear qd hwad hdr hfx' 
  have h13 := h.cell 13 rfl
  replace h : VB _ c 75 (stV (.slice (some ⟨g2, 0, none⟩) 1 cap2) va1 (.slice none 0 0) (.slice none 0 0) 0 0 1 li tg (.slice none 0 0) pr vt A) := hW
  replace hT := hT.fr hfx hT.lt (fun e => ncT e.symm)
  replace h7 := h7.fr hfx h7.lt (fun e => nc7 e.symm)
  replace h8 := h8.fr hfx h8.lt (fun e => nc8 e.symm)
  replace hA19 := hA19.fr hfx hA19.lt (fun e => nc2 e.symm)
  replace ht := ht.frS ft hfx
  replace hD := hD.frS fD hfx
  replace hli := hli.frS fli hfx
  replace htg := htg.frS ftg hfx
  replace hpr := hpr.frS fpr hfx
  replace hb2 := hb2.frS fb1 hfx
  replace hn1' := hn1'.frX fn1 hfx ((h.cell 13 rfl).trans h13.symm)
  clear h13
  replace hf := hf.step hfx hf.size (fun _ _ x => x)
  clear hW hfx hwa fwa
  have hwa := hwa2
  have fwa := fwa2
  clear hwa2 fwa2
  go_wp2_with fail
  have lst : (stV (.slice (some ⟨g2, 0, none⟩) 1 cap2) va1 (.slice none 0 0) (.slice none 0 0) 0 0 1 li tg (.slice none 0 0) pr vt A).length = 179 := stV_length _ _ _ _ _ _ _ _ _ _ _ _ _ lA
  have e59 : subV (stV (.slice (some ⟨g2, 0, none⟩) 1 cap2) va1 (.slice none 0 0) (.slice none 0 0) 0 0 1 li tg (.slice none 0 0) pr vt A) 59 20 = byV C := by rw [← HC.out ()]; exact st_coin _ _ _ _ _ _ _ _ _ _ _ _ _ lA
  have qd := h.drew.q
  have hwad : AS w20.drew 1 va1 := hwa
  have hdr := h.drew
  generalize hSS : stV (.slice (some ⟨g2, 0, none⟩) 1 cap2) va1 (.slice none 0 0) (.slice none 0 0) 0 0 1 li tg (.slice none 0 0) pr vt A = SS at qd lst e59
  go_region_with (go_at_call 81; (with_reducible refine (HWm.out w20.drew _ va1 1 C hdr rfl (by decide) hwad fwa lC).mono ?_); rintro e w21 ⟨rfl, va2, hW, hwa2, fwa2, hfx'⟩; have hfx : Fr w20.heap.size (· = c) w20 w21 := (Fr.refl _ _ _).drew.step hfx' (Nat.le_refl _) (fun _ _ x => x))
  clear qd hwad hdr hfx' 
  clear hSS lst e59
  have h13 := h.cell 13 rfl
  replace h : VB _ c 75 (stV (.slice (some ⟨g2, 0, none⟩) 1 cap2) va2 (.slice none 0 0) (.slice none 0 0) 0 0 1 li tg (.slice none 0 0) pr vt A) := hW
  replace hT := hT.fr hfx hT.lt (fun e => ncT e.symm)
  replace h7 := h7.fr hfx h7.lt (fun e => nc7 e.symm)
  replace h8 := h8.fr hfx h8.lt (fun e => nc8 e.symm)
  replace hA19 := hA19.fr hfx hA19.lt (fun e => nc2 e.symm)
  replace ht := ht.frS ft hfx
  replace hD := hD.frS fD hfx
  replace hli := hli.frS fli hfx
  replace htg := htg.frS ftg hfx
  replace hpr := hpr.frS fpr hfx
  replace hb2 := hb2.frS fb1 hfx
  replace hn1' := hn1'.frX fn1 hfx ((h.cell 13 rfl).trans h13.symm)
  clear h13
  replace hf := hf.step hfx hf.size (fun _ _ x => x)
  clear hW hfx hwa fwa
  have hwa := hwa2
  have fwa := fwa2
  clear hwa2 fwa2
  go_wp2_with fail
  have qd := h8.drew.q
  have hwad : AS w21.drew 2 va2 := hwa
  have hdr := h.drew
  go_region_with (go_at_call 81; (with_reducible refine (HWm.out w21.drew _ va2 2 B hdr rfl (by decide) hwad fwa lB).mono ?_); rintro e w22 ⟨rfl, va3, hW, hwa2, fwa2, hfx'⟩; have hfx : Fr w21.heap.size (· = c) w21 w22 := (Fr.refl _ _ _).drew.step hfx' (Nat.le_refl _) (fun _ _ x => x))
  clear qd hwad hdr hfx' 
  have h13 := h.cell 13 rfl
  replace h : VB _ c 75 (stV (.slice (some ⟨g2, 0, none⟩) 1 cap2) va3 (.slice none 0 0) (.slice none 0 0) 0 0 1 li tg (.slice none 0 0) pr vt A) := hW
  replace hT := hT.fr hfx hT.lt (fun e => ncT e.symm)
  replace h7 := h7.fr hfx h7.lt (fun e => nc7 e.symm)
  replace h8 := h8.fr hfx h8.lt (fun e => nc8 e.symm)
  replace hA19 := hA19.fr hfx hA19.lt (fun e => nc2 e.symm)
  replace ht := ht.frS ft hfx
  replace hD := hD.frS fD hfx
  replace hli := hli.frS fli hfx
  replace htg := htg.frS ftg hfx
  replace hpr := hpr.frS fpr hfx
  replace hb2 := hb2.frS fb1 hfx
  replace hn1' := hn1'.frX fn1 hfx ((h.cell 13 rfl).trans h13.symm)
  clear h13
  replace hf := hf.step hfx hf.size (fun _ _ x => x)
  clear hW hfx hwa fwa
  have hwa := hwa2
  have fwa := fwa2
  clear hwa2 fwa2
  go_wp2_with fail
  refine (warm_any c 75 _ va3 3 B4 w22 h rfl (by decide) hwa fwa lB4).mono ?_
  rintro e w23 ⟨rfl, va4, hW, hwa2, fwa2, hfx⟩
  have h13 := h.cell 13 rfl
  replace h : VB _ c 75 (stV (.slice (some ⟨g2, 0, none⟩) 1 cap2) va4 (.slice none 0 0) (.slice none 0 0) 0 0 1 li tg (.slice none 0 0) pr vt A) := hW
  replace hT := hT.fr hfx hT.lt (fun e => ncT e.symm)
  replace h7 := h7.fr hfx h7.lt (fun e => nc7 e.symm)
  replace h8 := h8.fr hfx h8.lt (fun e => nc8 e.symm)
  replace hA19 := hA19.fr hfx hA19.lt (fun e => nc2 e.symm)
  replace ht := ht.frS ft hfx
  replace hD := hD.frS fD hfx
  replace hli := hli.frS fli hfx
  replace htg := htg.frS ftg hfx
  replace hpr := hpr.frS fpr hfx
  replace hb2 := hb2.frS fb1 hfx
  replace hn1' := hn1'.frX fn1 hfx ((h.cell 13 rfl).trans h13.symm)
  clear h13
  replace hf := hf.step hfx hf.size (fun _ _ x => x)
  clear hW hfx hwa fwa
  have hwa := hwa2
  have fwa := fwa2
  clear hwa2 fwa2
  go_wp2_with fail
  refine (warm_any c 75 _ va4 4 B w23 h rfl (by decide) hwa fwa lB).mono ?_
  rintro e w24 ⟨rfl, va5, hW, hwa2, fwa2, hfx⟩
  have h13 := h.cell 13 rfl
  replace h : VB _ c 75 (stV (.slice (some ⟨g2, 0, none⟩) 1 cap2) va5 (.slice none 0 0) (.slice none 0 0) 0 0 1 li tg (.slice none 0 0) pr vt A) := hW
  replace hT := hT.fr hfx hT.lt (fun e => ncT e.symm)
  replace h7 := h7.fr hfx h7.lt (fun e => nc7 e.symm)
  replace h8 := h8.fr hfx h8.lt (fun e => nc8 e.symm)
  replace hA19 := hA19.fr hfx hA19.lt (fun e => nc2 e.symm)
  replace ht := ht.frS ft hfx
  replace hD := hD.frS fD hfx
  replace hli := hli.frS fli hfx
  replace htg := htg.frS ftg hfx
  replace hpr := hpr.frS fpr hfx
  replace hb2 := hb2.frS fb1 hfx
  replace hn1' := hn1'.frX fn1 hfx ((h.cell 13 rfl).trans h13.symm)
  clear h13
  replace hf := hf.step hfx hf.size (fun _ _ x => x)
  clear hW hfx hwa fwa
  have hwa := hwa2
  have fwa := fwa2
  clear hwa2 fwa2
  have k173 := hT.cell 173 t173
  go_wp2_with fail
  clear k173
  go_loopw [186] (fun iv wr' => iv = .int .i64 0 ∧ wr' = w24) (fun _ _ => 0)
  case atStart => exact ⟨rfl, rfl⟩
  case round =>
  obtain ⟨rfl, hwr⟩ := hrel
  rw [hwr]
  clear hwr
  have k10 := h.cell 10 rfl
  have z10 := h.unfrozen 10
  have s10 : w24.setCell ⟨c, 10, none⟩ (.slice none 0 0) = w24 := self_cell h 10 rfl
  go_upto_region 45 with fail
  clear k10 z10 s10
  go_cut [17] (fun s17 wx => ∃ j17 val, s17 = .pointer (some ⟨j17, 0, none⟩) ∧ VB wx j17 119 (frV 0 tg val (.slice none 0 0) B A (wdV (.slice none 0 0) (.slice none 0 0))) ∧ Sl wx .u8 val (digs 0) ∧ w24.heap.size ≤ j17 ∧ Fr w24.heap.size no w24 wx)
  case first =>
    have hSall : ∀ w', Fr w24.heap.size no w24 w' → (Fr w24.heap.size no w24 w' ∧ w'.cell? ⟨c, 15, none⟩ = some tg ∧ w'.rangeAt j8 0 (byV B) ∧ w'.rangeAt w.heap.size 0 (byV A)) := fun w' f => ⟨f, (h.fr f h.lt (fun x => x)).cell 15 rfl, (h8.fr f h8.lt (fun x => x)).range 0 20 eB, (hT.fr f hT.lt (fun x => x)).range 0 20 tf⟩
    have hx0 := hSall w24.drew (Fr.refl _ _ _).drew
    have hTd := hT.drew
    have otg := htg.one
    refine wp_region_held_drew (S := fun w' => Fr w24.heap.size no w24 w' ∧ w'.cell? ⟨c, 15, none⟩ = some tg ∧ w'.rangeAt j8 0 (byV B) ∧ w'.rangeAt w.heap.size 0 (byV A)) (by kernel_rfl) hx0 (fun hHeld => ?_)
    refine wpAnyH_take (i := 0) (v := ?_) (by first | (simp only [List.getElem?_toArray, List.getElem?_cons_succ, List.getElem?_cons_zero]; done) | (simp only [List.getElem?_toArray, List.getElem?_cons_succ, List.getElem?_cons_zero]; rfl)) (by kernel_rfl) (by kernel_rfl) (by kernel_rfl) (by intro _ _ _ hh; exact hh) (Or.inl ⟨by rfl, ?_⟩) hHeld ?_
    rotate_left
    · intro w' hSw
      (try dsimp only at hSw)
      go_simp
      try with_reducible rfl
    (try simp only [Act.put, List.setIfInBounds_toArray, List.set_cons_zero, List.set_cons_succ])
    refine wpAnyH_take (i := 1) (v := ?_) (by first | (simp only [List.getElem?_toArray, List.getElem?_cons_succ, List.getElem?_cons_zero]; done) | (simp only [List.getElem?_toArray, List.getElem?_cons_succ, List.getElem?_cons_zero]; rfl)) (by kernel_rfl) (by kernel_rfl) (by kernel_rfl) (by intro _ _ _ hh; exact hh) (Or.inl ⟨by rfl, ?_⟩) hHeld ?_
    rotate_left
    · intro w' hSw
      (try dsimp only at hSw)
      go_simp
      try with_reducible rfl
    (try simp only [Act.put, List.setIfInBounds_toArray, List.set_cons_zero, List.set_cons_succ])
    refine wpAnyH_take (i := 2) (v := ?_) (by first | (simp only [List.getElem?_toArray, List.getElem?_cons_succ, List.getElem?_cons_zero]; done) | (simp only [List.getElem?_toArray, List.getElem?_cons_succ, List.getElem?_cons_zero]; rfl)) (by kernel_rfl) (by kernel_rfl) (by kernel_rfl) (by intro _ _ _ hh; exact hh) (Or.inl ⟨by rfl, ?_⟩) hHeld ?_
    rotate_left
    · intro w' hSw
      (try dsimp only at hSw)
      go_simp
      try with_reducible rfl
    (try simp only [Act.put, List.setIfInBounds_toArray, List.set_cons_zero, List.set_cons_succ])
    refine wpAnyH_take (i := 3) (v := ?_) (by first | (simp only [List.getElem?_toArray, List.getElem?_cons_succ, List.getElem?_cons_zero]; done) | (simp only [List.getElem?_toArray, List.getElem?_cons_succ, List.getElem?_cons_zero]; rfl)) (by kernel_rfl) (by kernel_rfl) (by kernel_rfl) (by intro _ _ _ hh; exact hh) (Or.inl ⟨by rfl, ?_⟩) hHeld ?_
    rotate_left
    · intro w' hSw
      (try dsimp only at hSw)
      go_simp
      try with_reducible rfl
    (try simp only [Act.put, List.setIfInBounds_toArray, List.set_cons_zero, List.set_cons_succ])
    refine wpAnyH_take (i := 4) (v := ?_) (by first | (simp only [List.getElem?_toArray, List.getElem?_cons_succ, List.getElem?_cons_zero]; done) | (simp only [List.getElem?_toArray, List.getElem?_cons_succ, List.getElem?_cons_zero]; rfl)) (by kernel_rfl) (by kernel_rfl) (by kernel_rfl) (by intro _ _ _ hh; exact hh) (Or.inl ⟨by rfl, ?_⟩) hHeld ?_
    rotate_left
    · intro w' hSw
      (try dsimp only at hSw)
      go_simp
      try with_reducible rfl
    (try simp only [Act.put, List.setIfInBounds_toArray, List.set_cons_zero, List.set_cons_succ])
    refine wpAnyH_take (i := 5) (v := ?_) (by first | (simp only [List.getElem?_toArray, List.getElem?_cons_succ, List.getElem?_cons_zero]; done) | (simp only [List.getElem?_toArray, List.getElem?_cons_succ, List.getElem?_cons_zero]; rfl)) (by kernel_rfl) (by kernel_rfl) (by kernel_rfl) (by intro _ _ _ hh; exact hh) (Or.inl ⟨by rfl, ?_⟩) hHeld ?_
    rotate_left
    · intro w' hSw
      (try dsimp only at hSw)
      go_simp
      try with_reducible rfl
    (try simp only [Act.put, List.setIfInBounds_toArray, List.set_cons_zero, List.set_cons_succ])
    refine wpAnyH_take (i := 7) (v := .agg (byV B).toArray) (by first | (simp only [List.getElem?_toArray, List.getElem?_cons_succ, List.getElem?_cons_zero]; done) | (simp only [List.getElem?_toArray, List.getElem?_cons_succ, List.getElem?_cons_zero]; rfl)) (by kernel_rfl) (by kernel_rfl) (by kernel_rfl) (by intro _ _ _ hh; exact hh) (yieldsIf_load_mid (by rfl) 23 (.tmp 8) (by rfl) j8 0 (by rfl) (byV B) _ (fun w' h => h.2.2.1) und23 rfl hiB) hHeld ?_
    (try simp only [Act.put, List.setIfInBounds_toArray, List.set_cons_zero, List.set_cons_succ])
    refine wpAnyH_take (i := 8) (v := ?_) (by first | (simp only [List.getElem?_toArray, List.getElem?_cons_succ, List.getElem?_cons_zero]; done) | (simp only [List.getElem?_toArray, List.getElem?_cons_succ, List.getElem?_cons_zero]; rfl)) (by kernel_rfl) (by kernel_rfl) (by kernel_rfl) (by intro _ _ _ hh; exact hh) (Or.inl ⟨by rfl, ?_⟩) hHeld ?_
    rotate_left
    · intro w' hSw
      (try dsimp only at hSw)
      go_simp
      try with_reducible rfl
    (try simp only [Act.put, List.setIfInBounds_toArray, List.set_cons_zero, List.set_cons_succ])
    refine wpAnyH_take (i := 9) (v := .agg (byV A).toArray) (by first | (simp only [List.getElem?_toArray, List.getElem?_cons_succ, List.getElem?_cons_zero]; done) | (simp only [List.getElem?_toArray, List.getElem?_cons_succ, List.getElem?_cons_zero]; rfl)) (by kernel_rfl) (by kernel_rfl) (by kernel_rfl) (by intro _ _ _ hh; exact hh) (yieldsIf_load_mid (by rfl) 23 (.tmp 224) (by rfl) w.heap.size 0 (by rfl) (byV A) _ (fun w' h => h.2.2.2) und23 rfl hi23) hHeld ?_
    (try simp only [Act.put, List.setIfInBounds_toArray, List.set_cons_zero, List.set_cons_succ])
    refine wpAnyH_ready (rs := [6, 11]) (by kernel_rfl) (by simp) ?_
    refine AllReadyH.cons (by first | (simp only [List.getElem?_toArray, List.getElem?_cons_succ, List.getElem?_cons_zero]; done) | (simp only [List.getElem?_toArray, List.getElem?_cons_succ, List.getElem?_cons_zero]; rfl)) (fun K hK => ?_) ?_
    · go_simp
      refine (HFV.out w24.drew hTd).mono ?_
      rintro e w25 ⟨val, rfl, hval, hf25⟩
      have hfx : Fr w24.heap.size no w24 w25 := (Fr.refl _ _ _).drew.step hf25 (Nat.le_refl _) (fun _ _ x => x)
      try go_wp2_with fail
      refine hK.out _ _ (hSall _ hfx) (fun hHeld => ?_)
      clear hK K
      (try simp only [Act.put, List.setIfInBounds_toArray, List.set_cons_zero, List.set_cons_succ])
      have hbd := fun w => bld119 w tg val B A lB lA otg hval.one
      have fF := frV_flat 0 tg val (.slice none 0 0) B A (wdV (.slice none 0 0) (.slice none 0 0)) otg hval.one rfl (wdV_flat _ _ rfl rfl)
      have fL := frV_length 0 tg val (.slice none 0 0) B A (wdV (.slice none 0 0) (.slice none 0 0)) lB lA rfl
      generalize hFe : frV 0 tg val (.slice none 0 0) B A (wdV (.slice none 0 0) (.slice none 0 0)) = F at hbd fF fL
      refine wpAnyH_take (i := 10) (v := .agg F.toArray) (by first | (simp only [List.getElem?_toArray, List.getElem?_cons_succ, List.getElem?_cons_zero]; done) | (simp only [List.getElem?_toArray, List.getElem?_cons_succ, List.getElem?_cons_zero]; rfl)) (by kernel_rfl) (by kernel_rfl) (by kernel_rfl) (by intro _ _ _ hh; exact hh) (Or.inl ⟨by rfl, ?_⟩) hHeld ?_
      · intro w' hSw
        clear hSw
        go_simp
      (try simp only [Act.put, List.setIfInBounds_toArray, List.set_cons_zero, List.set_cons_succ])
      refine wpAnyH_ready (rs := [11]) (by kernel_rfl) (by simp) ?_
      refine AllReadyH.cons (by first | (simp only [List.getElem?_toArray, List.getElem?_cons_succ, List.getElem?_cons_zero]; done) | (simp only [List.getElem?_toArray, List.getElem?_cons_succ, List.getElem?_cons_zero]; rfl)) (fun K hK => ?_) AllReadyH.nil
      go_simp
      refine hK.out _ _ (hSall _ (hfx.alloc hfx.size _)) (fun hHeld => ?_)
      clear hK K
      (try simp only [Act.put, List.setIfInBounds_toArray, List.set_cons_zero, List.set_cons_succ])
      refine wpAnyH_ready (rs := [12]) (by kernel_rfl) (by simp) ?_
      refine AllReadyH.cons (by first | (simp only [List.getElem?_toArray, List.getElem?_cons_succ, List.getElem?_cons_zero]; done) | (simp only [List.getElem?_toArray, List.getElem?_cons_succ, List.getElem?_cons_zero]; rfl)) (fun K hK => ?_) AllReadyH.nil
      go_simp
      refine hK.out _ _ (hSall _ (hfx.alloc hfx.size _)) (fun hHeld => ?_)
      clear hK K
      (try simp only [Act.put, List.setIfInBounds_toArray, List.set_cons_zero, List.set_cons_succ])
      refine wpAnyH_done (by kernel_rfl) ?_ _
      go_wp2_with fail
      go_meet
      rw [← hFe]
      exact ⟨_, val, rfl, VB.new w25 119 _, hval.alloc _, hfx.size, hfx.alloc hfx.size _⟩
    refine AllReadyH.cons (by first | (simp only [List.getElem?_toArray, List.getElem?_cons_succ, List.getElem?_cons_zero]; done) | (simp only [List.getElem?_toArray, List.getElem?_cons_succ, List.getElem?_cons_zero]; rfl)) (fun K hK => ?_) AllReadyH.nil
    · go_simp
      have hfa : Fr w24.heap.size no w24 (w24.alloc (.cells #[Value.int IntKind.u8 0, Value.int IntKind.u8 0, Value.bool false, Value.slice none 0 0, Value.slice none 0 0, Value.slice none 0 0, Value.slice none 0 0, Value.slice none 0 0, Value.slice none 0 0, Value.slice none 0 0, Value.slice none 0 0, Value.slice none 0 0, Value.int IntKind.u8 0, Value.int IntKind.u8 0, Value.int IntKind.u8 0, Value.int IntKind.u8 0, Value.int IntKind.u8 0, Value.int IntKind.u8 0, Value.int IntKind.u8 0, Value.int IntKind.u8 0, Value.int IntKind.u8 0, Value.int IntKind.u8 0, Value.int IntKind.u8 0, Value.int IntKind.u8 0, Value.int IntKind.u8 0, Value.int IntKind.u8 0, Value.int IntKind.u8 0, Value.int IntKind.u8 0, Value.int IntKind.u8 0, Value.int IntKind.u8 0, Value.int IntKind.u8 0, Value.int IntKind.u8 0, Value.int IntKind.u8 0, Value.int IntKind.u8 0, Value.int IntKind.u8 0, Value.int IntKind.u8 0, Value.int IntKind.u8 0, Value.int IntKind.u8 0, Value.int IntKind.u8 0, Value.int IntKind.u8 0, Value.int IntKind.u8 0, Value.int IntKind.u8 0, Value.int IntKind.u8 0, Value.int IntKind.u8 0, Value.int IntKind.u8 0, Value.int IntKind.u8 0, Value.int IntKind.u8 0, Value.int IntKind.u8 0, Value.int IntKind.u8 0, Value.int IntKind.u8 0, Value.int IntKind.u8 0, Value.int IntKind.u8 0, Value.slice none 0 0, Value.slice none 0 0, Value.slice none 0 0, Value.slice none 0 0, Value.slice none 0 0, Value.slice none 0 0, Value.slice none 0 0, Value.slice none 0 0] 119)).drew := ((Fr.refl _ _ _).alloc (Nat.le_refl _) _).drew
      have hz : VB (w24.alloc (.cells #[Value.int IntKind.u8 0, Value.int IntKind.u8 0, Value.bool false, Value.slice none 0 0, Value.slice none 0 0, Value.slice none 0 0, Value.slice none 0 0, Value.slice none 0 0, Value.slice none 0 0, Value.slice none 0 0, Value.slice none 0 0, Value.slice none 0 0, Value.int IntKind.u8 0, Value.int IntKind.u8 0, Value.int IntKind.u8 0, Value.int IntKind.u8 0, Value.int IntKind.u8 0, Value.int IntKind.u8 0, Value.int IntKind.u8 0, Value.int IntKind.u8 0, Value.int IntKind.u8 0, Value.int IntKind.u8 0, Value.int IntKind.u8 0, Value.int IntKind.u8 0, Value.int IntKind.u8 0, Value.int IntKind.u8 0, Value.int IntKind.u8 0, Value.int IntKind.u8 0, Value.int IntKind.u8 0, Value.int IntKind.u8 0, Value.int IntKind.u8 0, Value.int IntKind.u8 0, Value.int IntKind.u8 0, Value.int IntKind.u8 0, Value.int IntKind.u8 0, Value.int IntKind.u8 0, Value.int IntKind.u8 0, Value.int IntKind.u8 0, Value.int IntKind.u8 0, Value.int IntKind.u8 0, Value.int IntKind.u8 0, Value.int IntKind.u8 0, Value.int IntKind.u8 0, Value.int IntKind.u8 0, Value.int IntKind.u8 0, Value.int IntKind.u8 0, Value.int IntKind.u8 0, Value.int IntKind.u8 0, Value.int IntKind.u8 0, Value.int IntKind.u8 0, Value.int IntKind.u8 0, Value.int IntKind.u8 0, Value.slice none 0 0, Value.slice none 0 0, Value.slice none 0 0, Value.slice none 0 0, Value.slice none 0 0, Value.slice none 0 0, Value.slice none 0 0, Value.slice none 0 0] 119)).drew w24.heap.size 119 zfV := (VB.newAt rfl (by rfl) : VB (w24.alloc (.cells #[Value.int IntKind.u8 0, Value.int IntKind.u8 0, Value.bool false, Value.slice none 0 0, Value.slice none 0 0, Value.slice none 0 0, Value.slice none 0 0, Value.slice none 0 0, Value.slice none 0 0, Value.slice none 0 0, Value.slice none 0 0, Value.slice none 0 0, Value.int IntKind.u8 0, Value.int IntKind.u8 0, Value.int IntKind.u8 0, Value.int IntKind.u8 0, Value.int IntKind.u8 0, Value.int IntKind.u8 0, Value.int IntKind.u8 0, Value.int IntKind.u8 0, Value.int IntKind.u8 0, Value.int IntKind.u8 0, Value.int IntKind.u8 0, Value.int IntKind.u8 0, Value.int IntKind.u8 0, Value.int IntKind.u8 0, Value.int IntKind.u8 0, Value.int IntKind.u8 0, Value.int IntKind.u8 0, Value.int IntKind.u8 0, Value.int IntKind.u8 0, Value.int IntKind.u8 0, Value.int IntKind.u8 0, Value.int IntKind.u8 0, Value.int IntKind.u8 0, Value.int IntKind.u8 0, Value.int IntKind.u8 0, Value.int IntKind.u8 0, Value.int IntKind.u8 0, Value.int IntKind.u8 0, Value.int IntKind.u8 0, Value.int IntKind.u8 0, Value.int IntKind.u8 0, Value.int IntKind.u8 0, Value.int IntKind.u8 0, Value.int IntKind.u8 0, Value.int IntKind.u8 0, Value.int IntKind.u8 0, Value.int IntKind.u8 0, Value.int IntKind.u8 0, Value.int IntKind.u8 0, Value.int IntKind.u8 0, Value.slice none 0 0, Value.slice none 0 0, Value.slice none 0 0, Value.slice none 0 0, Value.slice none 0 0, Value.slice none 0 0, Value.slice none 0 0, Value.slice none 0 0] 119)) w24.heap.size 119 zfV).drew
      have hTa := hT.fr hfa hT.lt (fun x => x)
      refine hK.out _ _ (hSall _ hfa) (fun hHeld => ?_)
      clear hK K
      (try simp only [Act.put, List.setIfInBounds_toArray, List.set_cons_zero, List.set_cons_succ])
      refine wpAnyH_ready (rs := [6]) (by kernel_rfl) (by simp) ?_
      refine AllReadyH.cons (by first | (simp only [List.getElem?_toArray, List.getElem?_cons_succ, List.getElem?_cons_zero]; done) | (simp only [List.getElem?_toArray, List.getElem?_cons_succ, List.getElem?_cons_zero]; rfl)) (fun K hK => ?_) AllReadyH.nil
      go_simp
      refine (HFV.out _ hTa).mono ?_
      rintro e w25 ⟨val, rfl, hval, hf25⟩
      have hfx : Fr w24.heap.size no w24 w25 := hfa.step hf25 hfa.size (fun _ _ x => x)
      replace hz := hz.fr hf25 hz.lt (fun x => x)
      try go_wp2_with fail
      refine hK.out _ _ (hSall _ hfx) (fun hHeld => ?_)
      clear hK K
      (try simp only [Act.put, List.setIfInBounds_toArray, List.set_cons_zero, List.set_cons_succ])
      have hbd := fun w => bld119 w tg val B A lB lA otg hval.one
      have fF := frV_flat 0 tg val (.slice none 0 0) B A (wdV (.slice none 0 0) (.slice none 0 0)) otg hval.one rfl (wdV_flat _ _ rfl rfl)
      have fL := frV_length 0 tg val (.slice none 0 0) B A (wdV (.slice none 0 0) (.slice none 0 0)) lB lA rfl
      generalize hFe : frV 0 tg val (.slice none 0 0) B A (wdV (.slice none 0 0) (.slice none 0 0)) = F at hbd fF fL
      have q := hz.q
      have lz : zfV.length = 60 := by kernel_rfl
      have la : layV zfV 0 F = F := layV_all _ _ (by omega)
      refine wpAnyH_take (i := 10) (v := .agg F.toArray) (by first | (simp only [List.getElem?_toArray, List.getElem?_cons_succ, List.getElem?_cons_zero]; done) | (simp only [List.getElem?_toArray, List.getElem?_cons_succ, List.getElem?_cons_zero]; rfl)) (by kernel_rfl) (by kernel_rfl) (by kernel_rfl) (by intro _ _ _ hh; exact hh) (Or.inl ⟨by rfl, ?_⟩) hHeld ?_
      · intro w' hSw
        clear hSw
        go_simp
      (try simp only [Act.put, List.setIfInBounds_toArray, List.set_cons_zero, List.set_cons_succ])
      refine wpAnyH_ready (rs := [12]) (by kernel_rfl) (by simp) ?_
      refine AllReadyH.cons (by first | (simp only [List.getElem?_toArray, List.getElem?_cons_succ, List.getElem?_cons_zero]; done) | (simp only [List.getElem?_toArray, List.getElem?_cons_succ, List.getElem?_cons_zero]; rfl)) (fun K hK => ?_) AllReadyH.nil
      go_simp
      refine hK.out _ _ (hSall _ (hfx.setV (.inl (Nat.le_refl _)) _ _)) (fun hHeld => ?_)
      clear hK K
      (try simp only [Act.put, List.setIfInBounds_toArray, List.set_cons_zero, List.set_cons_succ])
      refine wpAnyH_done (by kernel_rfl) ?_ _
      go_wp2_with fail
      go_meet
      rw [← hFe]
      exact ⟨_, val, rfl, VB.setV hz.lt _ _, hval.frS (FarS.empty hval) ((Fr.refl _ (· = w24.heap.size) _).setV (.inr rfl) _ _), Nat.le_refl _, hfx.setV (.inl (Nat.le_refl _)) _ _⟩
  case rest =>
  obtain ⟨j17, val, rfl, h17, hval, hj17, hfx⟩ := hcut
  have nc17 : c ≠ j17 := by have := h.lt; omega
  have n17T : w.heap.size ≠ j17 := by have := hT.lt; omega
  have hwj : w.heap.size ≤ j17 := Nat.le_trans hf.size hj17
  have n178 : j8 ≠ j17 := by have := h8.lt; omega
  have n217 : g2 ≠ j17 := by have := hA19.lt; omega
  have fwa17 := hwa.old hj17
  have f17ht : FarS j17 vt := FarS.old ht hj17
  have f17hD : FarS j17 data := FarS.old hD hj17
  have f17hli : FarS j17 li := FarS.old hli hj17
  have f17htg : FarS j17 tg := FarS.old htg hj17
  have f17hpr : FarS j17 pr := FarS.old hpr hj17
  have f17hb2 : FarS j17 b1 := FarS.old hb2 hj17
  have f17n : FarS j17 n1 := FarS.old hn1' hj17
  have f17hval : FarS j17 val := FarS.empty hval
  replace hwa := hwa.fr hfx (fun _ _ _ _ x => x)
  have fval : FarS c val := FarS.empty hval
  replace h := h.fr hfx h.lt (fun x => x)
  replace hT := hT.fr hfx hT.lt (fun x => x)
  replace h7 := h7.fr hfx h7.lt (fun x => x)
  replace h8 := h8.fr hfx h8.lt (fun x => x)
  replace hA19 := hA19.fr hfx hA19.lt (fun x => x)
  replace ht := ht.fr hfx
  replace hD := hD.fr hfx
  replace hli := hli.fr hfx
  replace htg := htg.fr hfx
  replace hpr := hpr.fr hfx
  replace hb2 := hb2.fr hfx
  replace hn1' := hn1'.fr hfx
  replace hf := hf.step hfx hf.size (fun _ _ x => absurd x (fun x => x))
  clear hfx
  have k40 := hT.cell 40 t40
  have q8 := h8.q
  go_wp2_with fail
  clear k40 q8
  refine (HNat.out wc).mono ?_
  rintro e w26 ⟨rfl, hfx⟩
  replace hwa := hwa.fr hfx (fun _ _ _ _ x => x)
  replace h := h.fr hfx h.lt (fun x => x)
  replace hT := hT.fr hfx hT.lt (fun x => x)
  replace h7 := h7.fr hfx h7.lt (fun x => x)
  replace h8 := h8.fr hfx h8.lt (fun x => x)
  replace hA19 := hA19.fr hfx hA19.lt (fun x => x)
  replace h17 := h17.fr hfx h17.lt (fun x => x)
  replace ht := ht.fr hfx
  replace hD := hD.fr hfx
  replace hli := hli.fr hfx
  replace htg := htg.fr hfx
  replace hpr := hpr.fr hfx
  replace hb2 := hb2.fr hfx
  replace hval := hval.fr hfx
  replace hn1' := hn1'.fr hfx
  replace hf := hf.step hfx hf.size (fun _ _ x => absurd x (fun x => x))
  clear hfx
  have k1 := h17.cell 1 rfl
  have z1 := h17.unfrozen 1
  have h17b : VB (w26.setCell ⟨j17, 1, none⟩ (.int .u8 5)) j17 119 (frV 5 tg val (.slice none 0 0) B A (wdV (.slice none 0 0) (.slice none 0 0))) := h17.set (i := 1) (by rw [frV_length _ _ _ _ _ _ _ lB lA rfl]; decide) (.int .u8 5)
  have k1b := h17b.cell 1 rfl
  have hTb := hT.other (a := ⟨j17, 1, none⟩) (by simpa using fun e => n17T e.symm) (.int .u8 5)
  have k107 := hTb.cell 107 t107
  go_wp2_with fail
  clear k1 z1 k1b k107
  have hf17 : Fr w26.heap.size (· = j17) w26 (w26.setCell ⟨j17, 1, none⟩ (.int .u8 5)) := (Fr.refl _ (· = j17) _).setCell (.inr rfl) _
  replace h := h.fr hf17 h.lt (fun e => nc17 e)
  replace hT := hTb
  clear hTb
  replace h8 := h8.fr hf17 h8.lt (fun e => n178 e)
  replace hA19 := hA19.fr hf17 hA19.lt (fun e => n217 e)
  replace hwa := hwa.fr hf17 (fun a n d e x => fwa17 a n d e x)
  replace ht := ht.frS f17ht hf17
  replace hD := hD.frS f17hD hf17
  replace hli := hli.frS f17hli hf17
  replace htg := htg.frS f17htg hf17
  replace hpr := hpr.frS f17hpr hf17
  replace hb2 := hb2.frS f17hb2 hf17
  replace hval := hval.frS f17hval hf17
  replace hn1' := hn1'.frS f17n hf17
  replace hf := hf.setCell (p := ⟨j17, 1, none⟩) (.inl hwj) (.int .u8 5)
  replace h17 := h17b
  clear h17b h7
  generalize w26.setCell ⟨j17, 1, none⟩ (.int .u8 5) = w27 at h hT h8 hA19 h17 ht hD hli htg hpr hb2 hval hn1' hwa hf ⊢
  refine (bytesOf_new data D w27 hD (by omega)).mono ?_
  rintro e w28 ⟨inp, rfl, hinp, hNi, hfx⟩
  clear hf17
  have fic : FarS c inp := FarS.fresh hNi h.lt
  have fi17 : FarS j17 inp := FarS.fresh hNi h17.lt
  replace hwa := hwa.fr hfx (fun _ _ _ _ x => x)
  replace h := h.fr hfx h.lt (fun x => x)
  replace hT := hT.fr hfx hT.lt (fun x => x)
  replace h8 := h8.fr hfx h8.lt (fun x => x)
  replace hA19 := hA19.fr hfx hA19.lt (fun x => x)
  replace h17 := h17.fr hfx h17.lt (fun x => x)
  replace ht := ht.fr hfx
  replace hD := hD.fr hfx
  replace hli := hli.fr hfx
  replace htg := htg.fr hfx
  replace hpr := hpr.fr hfx
  replace hb2 := hb2.fr hfx
  replace hval := hval.fr hfx
  replace hn1' := hn1'.fr hfx
  replace hf := hf.step hfx hf.size (fun _ _ x => absurd x (fun x => x))
  clear hfx
  have k11 := h17.cell 11 rfl
  have z11 := h17.unfrozen 11
  have oi := hinp.one
  have h17b : VB (w28.setCell ⟨j17, 11, none⟩ inp) j17 119 (frV 5 tg val inp B A (wdV (.slice none 0 0) (.slice none 0 0))) := h17.set (i := 11) (by rw [frV_length _ _ _ _ _ _ _ lB lA rfl]; decide) inp
  have hf17 : Fr w28.heap.size (· = j17) w28 (w28.setCell ⟨j17, 11, none⟩ inp) := (Fr.refl _ (· = j17) _).setCell (.inr rfl) _
  have hb11 := h.fr hf17 h.lt (fun e => nc17 e)
  have kc11 := hb11.cell 11 rfl
  have zc11 := hb11.unfrozen 11
  have hE : VB ((w28.setCell ⟨j17, 11, none⟩ inp).setCell ⟨c, 11, none⟩ (.int .u8 1)) c 75 (stV (.slice (some ⟨g2, 0, none⟩) 1 cap2) va5 (.slice none 0 0) (.slice none 0 0) 1 0 1 li tg (.slice none 0 0) pr vt A) := hb11.set (i := 11) (by rw [stV_length _ _ _ _ _ _ _ _ _ _ _ _ _ lA]; decide) (.int .u8 1)
  have h17c := h17b.other (a := ⟨c, 11, none⟩) (by simpa using nc17) (.int .u8 1)
  have q17 := h17c.q
  have l17 : (frV 5 tg val inp B A (wdV (.slice none 0 0) (.slice none 0 0))).length = 60 := frV_length _ _ _ _ _ _ _ lB lA rfl
  have a17 := frV_all 5 tg val inp B A (wdV (.slice none 0 0) (.slice none 0 0)) lB lA rfl
  generalize hFI : frV 5 tg val inp B A (wdV (.slice none 0 0) (.slice none 0 0)) = FI at q17 l17 a17
  go_wp2_with fail
  subst hFI
  clear k11 z11 kc11 zc11 q17 l17 a17
  have h13 := hb11.cell 13 rfl
  have hfc : Fr (w28.setCell ⟨j17, 11, none⟩ inp).heap.size (· = c) (w28.setCell ⟨j17, 11, none⟩ inp) ((w28.setCell ⟨j17, 11, none⟩ inp).setCell ⟨c, 11, none⟩ (.int .u8 1)) := (Fr.refl _ (· = c) _).setCell (.inr rfl) _
  replace hA19 := (hA19.fr hf17 hA19.lt (fun e => n217 e)).other (a := ⟨c, 11, none⟩) (by simpa using nc2) (.int .u8 1)
  replace hwa := (hwa.fr hf17 (fun a n d e x => fwa17 a n d e x)).fr hfc (fun a n d e => fwa a n d e)
  replace ht := (ht.frS f17ht hf17).frS ft hfc
  replace hD := (hD.frS f17hD hf17).frS fD hfc
  replace hli := (hli.frS f17hli hf17).frS fli hfc
  replace htg := (htg.frS f17htg hf17).frS ftg hfc
  replace hpr := (hpr.frS f17hpr hf17).frS fpr hfc
  replace hb2 := (hb2.frS f17hb2 hf17).frS fb1 hfc
  replace hval := (hval.frS f17hval hf17).frS fval hfc
  replace hinp := (hinp.frS fi17 hf17).frS fic hfc
  replace hn1' := (hn1'.frS f17n hf17).frX fn1 hfc ((hE.cell 13 rfl).trans h13.symm)
  replace hf := (hf.setCell (p := ⟨j17, 11, none⟩) (.inl hwj) inp).setCell (p := ⟨c, 11, none⟩) (.inr rfl) (.int .u8 1)
  replace h := hE
  replace h17 := h17c
  clear h17b h17c hE hb11 hf17 hfc h13 hT h8
  generalize (w28.setCell ⟨j17, 11, none⟩ inp).setCell ⟨c, 11, none⟩ (.int .u8 1) = w30 at h h17 hA19 ht hD hli htg hpr hb2 hval hinp hn1' hwa hf ⊢
  refine (enter_any c g2 cap2 _ LA2 A B n1 b1 va5 tg val inp 1 (2 ^ 128) 5 w30 h rfl rfl (by intro i h1 h2; have hi : i = 2 ∨ i = 3 ∨ i = 4 ∨ i = 5 ∨ i = 6 ∨ i = 7 := (by omega); rcases hi with rfl | rfl | rfl | rfl | rfl | rfl <;> rfl) rfl rfl hA19 lA lB hs19 hl19 hn1' hb2 (by rw [digs_one]; decide) (by rw [digs128]; decide) hwa (by decide) htg.one hval hinp.one).mono ?_
  rintro e w31 ⟨rfl, gF, capF, LF, g', va', LA', n', b', r1, r2, r3, r4, r5, r6, r7, r8, r9, r10, r11, r12, r13, r14, r15, r16, r17, r18, r19, r20⟩
  have hfz := r20
  have h13 := h.cell 13 rfl
  have r1' : VB w31 c 75 (stV (.slice (some ⟨g2, 0, none⟩) 1 cap2) va5 (.slice (some ⟨gF, 0, none⟩) 1 capF) (.slice none 0 0) 1 0 1 li tg (.slice none 0 0) pr vt A) := r1
  have on : FarS gF n1 := FarS.old hn1' r15
  have ob : FarS gF b1 := FarS.old hb2 r15
  have ot : FarS gF vt := FarS.old ht r15
  have ol : FarS gF li := FarS.old hli r15
  have op : FarS gF pr := FarS.old hpr r15
  have oi2 : FarS gF inp := FarS.old hinp r15
  have ogs : FarS gF tg := FarS.old htg r15
  have hg2 : g2 < w30.heap.size := hA19.lt
  have hcw := h.lt
  go_wp2_with fail
  go_ret
  refine ⟨rfl, g2, cap2, LA2, n1, b1, va5, gF, capF, LF, g', va', LA', n', b', li, tg, pr, val, inp, r1', hA19.fr hfz hA19.lt (fun e => nc2 e.symm), (hs19 : subV LA2 0 24 = acV A n1 b1 (.slice none 0 0) (.slice none 0 0)), hl19, hn1'.frX fn1 hfz ((r1'.cell 13 rfl).trans h13.symm), fn1, hb2.frS fb1 hfz, fb1, r2, r3, r4, r5, r6, r7, r8, r9, r10, r11, r12, r13, r14, ?_⟩
  refine ⟨hli.frS fli hfz, fli, htg.frS ftg hfz, ftg, hpr.frS fpr hfz, hval.frS fval hfz, hinp.frS fic hfz, fic, ht.frS ft hfz, hwa.one, hwa.noU8, on, ob, ot, ol, op, oi2, ogs, r17, r18, r19, by omega, by omega, by omega, nc2, Nat.le_trans hf.size r15, hf.step hfz hf.size (fun _ _ x => x)⟩
end Go.Proofs.YgcsanGreat
