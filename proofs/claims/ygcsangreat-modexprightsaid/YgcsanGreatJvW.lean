/-
  Calls that are answered without a run: rows of bytes, transactions, sums; the whole.
-/
import Derived.Test.YgcsanGreatJvV
import Derived.Test.YgcsanGreatNewI
import Derived.Test.YgcsanGreatNewK
namespace Go.Jv
open Go Go.Proofs
open Go.Proofs.YgcsanGreat (mxIn mxIn_dg mxIn_length outN costN lenOk mx_len mx_ok want_no wantN_ok yCost_new yRun_new modExpInput_new digs Sl NewD Fr no IB val Dg ints VB byV zsV txV adNo nz intrN ypIntrinsic_new intrinsicOf_any bytesOf_new copyBytes_some equalBytes_same addTo_gen curG)
set_option linter.unusedVariables false
set_option linter.unusedSimpArgs false
variable {σ : Va}

section
variable {n0 : Nat} {ι : Im} {h h' : Hp} {w : World} {tok : Value}

/-- what a row holds -/
def rowN (σ : Va) (j N : Nat) : List Nat := match j with
  | 1 => List.replicate N 0
  | 3 => rowU σ N
  | _ => rowD σ N
theorem rowN_length (j N : Nat) : (rowN σ j N).length = N := by
  unfold rowN
  split
  · simp
  · simp [rowU]
  · exact rowD_length N
theorem symD_row3 (e : List Int) : dec σ [.map (some 3), .tuple (encE e).toArray] = some ((rowU σ (evL e σ.xs).toNat).map byteV) := by
  show symD σ 3 (encE e).toArray.toList = _
  rw [List.toList_toArray]
  simp only [symD, evE_enc]
theorem rowN_dec {j : Nat} (hj : j = 1 ∨ j = 2 ∨ j = 3) (e : List Int) {N : Nat} (hN : evL e σ.xs = (N : Nat)) : dec σ [.map (some j), .tuple (encE e).toArray] = some ((rowN σ j N).map byteV) := by
  rcases hj with rfl | rfl | rfl
  · rw [symD_row0, hN]; simp [rowN]
  · rw [symD_row2, hN]; simp [rowN]
  · rw [symD_row3, hN]; simp [rowN]
/-- a row as it lies -/
theorem rowB_some {v u : Value} {k j : Nat} {L : List Int} (hr : rowB h v = some (k, j, L)) (hv : VRel σ ι v u) :
    ∃ b q z c N, ι k = some (b, q, z) ∧ u = .slice (some ⟨b, q, none⟩) N c ∧ evL L σ.xs = (N : Nat) ∧ 1 ≤ N ∧ N ≤ c ∧ c ≤ maxLen ∧ h.get σ k = some ((rowN σ j N).map byteV) ∧ (j = 1 ∨ j = 2 ∨ j = 3) := by
  unfold rowB at hr
  cases hrt : rowT v with
  | none => rw [hrt] at hr; simp [rowB1] at hr
  | some ke =>
    obtain ⟨k0, e⟩ := ke
    rw [hrt] at hr
    simp only [rowB1] at hr
    cases hs : symAt h k0 with
    | none => rw [hs] at hr; simp [rowB2] at hr
    | some je =>
      obtain ⟨j0, e'⟩ := je
      rw [hs] at hr
      simp only [rowB2] at hr
      split at hr
      · rename_i hb
        simp only [Bool.and_eq_true] at hb
        simp only [Option.some.injEq, Prod.mk.injEq] at hr
        obtain ⟨rfl, rfl, rfl⟩ := hr
        have he := beqP_eq hb.2.2
        subst he
        rw [rowT_some hrt] at hv
        obtain ⟨b, q, z, c, hk, h1, h2, h3, rfl⟩ := hv.tokOf.row
        rw [List.toList_toArray] at h1 h2 ⊢
        have h4 : 1 ≤ j0 := Nat.le_of_ble_eq_true hb.1
        have h5 : j0 ≤ 3 := Nat.le_of_ble_eq_true hb.2.1
        have hg := symAt_some (σ := σ) hs
        have hN : evL (decE e) σ.xs = (evE σ e : Nat) := by unfold evE at h1 ⊢; omega
        refine ⟨b, q, z, c, _, hk, rfl, hN, h1, h2, h3, ?_, by omega⟩
        rw [hg]
        match j0, h4, h5 with
        | 1, _, _ => simp [symD, rowN]
        | 2, _, _ => simp [symD, rowN]
        | 3, _, _ => simp [symD, rowN]
      · cases hr
theorem row_sl (H : HRel σ n0 ι h w) {v u : Value} (hv : VRel σ ι v u) {k j : Nat} {e : List Int} (hr : rowB h v = some (k, j, e)) :
    ∃ N : Nat, evL e σ.xs = (N : Nat) ∧ 1 ≤ N ∧ (j = 1 ∨ j = 2 ∨ j = 3) ∧ Sl w .u8 u (rowN σ j N) := by
  obtain ⟨b, q, z, c, N, hk, rfl, hN, h1, h2, h3, hR, hj⟩ := rowB_some hr hv
  refine ⟨N, hN, h1, hj, ?_⟩
  have hl := rowN_length (σ := σ) j N
  refine ⟨some ⟨b, q, none⟩, c, by rw [hl], by omega, h3, .inr ⟨b, q, rfl, ?_⟩⟩
  intro i hi
  obtain ⟨b2, p2, C, T, hi2, hb2, hc2⟩ := H.live k _ hR
  rw [hk] at hi2
  injection hi2 with hi2
  injection hi2 with f1 f2
  injection f2 with f2 f3
  subst f1; subst f2
  obtain ⟨u, hu, hr⟩ := hc2 i (byteV (rowN σ j N)[i]) (by simp [hi])
  have hue := hr.constOf rfl
  subst hue
  have hgd : (rowN σ j N).getD i 0 = (rowN σ j N)[i] := by simp [List.getD, hi]
  rw [hgd]
  have hu' : C[q + i]? = some (.int .u8 (((rowN σ j N)[i] : Nat) : Int)) := hu
  simp only [World.cell?, hb2]
  simpa using hu'
theorem rowAt_B {v : Value} {x : Nat × Nat × List Int} (hr : rowAt h v = some x) : rowB h v = some x := by
  unfold rowAt at hr
  unfold rowB
  cases hrt : rowT v with
  | none => rw [hrt] at hr; simp [rowAt1] at hr
  | some ke =>
    obtain ⟨k0, e⟩ := ke
    rw [hrt] at hr
    simp only [rowAt1] at hr
    simp only [rowB1]
    cases hs : symAt h k0 with
    | none => rw [hs] at hr; simp [rowAt2] at hr
    | some je =>
      obtain ⟨j0, e'⟩ := je
      rw [hs] at hr
      simp only [rowAt2] at hr
      split at hr
      · rename_i hb
        simp only [Bool.and_eq_true] at hb
        have h5 : j0 ≤ 2 := Nat.le_of_ble_eq_true hb.2.1
        have h6 : Nat.ble j0 3 = true := bleT (by omega)
        simp only [rowB2, hb.1, h6, hb.2.2, Bool.and_self]
        exact hr
      · cases hr
/-- a new row -/
theorem Ans.row (H : HRel σ n0 ι h w) {w' : World} (hf : Fr w.heap.size no w w') {j : Nat} {e : List Int} {v : Value} {N : Nat} (hj : j = 1 ∨ j = 2 ∨ j = 3) (hN : evL e σ.xs = (N : Nat)) (h1 : 1 ≤ N)
    (hs : outR (newSym h j 7 e) = some (tok, h')) (hv : NewD w.heap.size w' v (rowN σ j N)) : Ans σ n0 ι h w tok h' (.returned v) w' := by
  cases hns : newSym h j 7 e with
  | none => rw [hns] at hs; simp [outR] at hs
  | some out =>
    rw [hns] at hs
    obtain ⟨m', rfl, hset⟩ := newSym_some hns
    simp only [outR, Option.some.injEq, Prod.mk.injEq] at hs
    obtain ⟨rfl, rfl⟩ := hs
    have hl := rowN_length (σ := σ) j N
    obtain ⟨b, cap, z, rfl, g1, g2, H', E⟩ := new_sym H hf hv (fun e0 => by rw [e0] at hl; simp at hl; omega) hset (rowN_dec hj e hN)
    have hE : (evL e σ.xs).toNat = N := by rw [hN]; rfl
    refine ⟨_, _, rfl, ?_, H', E⟩
    rw [hl] at g1 ⊢
    have := row_tok (σ := σ) (e := e) (c := cap) (Im.up_self ι h.next (b, 0, z)) (by omega) (by rw [hE]; exact g1) g2
    rw [hE] at this
    exact this
theorem ans49 (H : HRel σ n0 ι h w) {v u : Value} (hv : VRel σ ι v u) (he : orRow h (rowB h v) = some (tok, h')) : Calls Sang.prog 49 #[u] w (Ans σ n0 ι h w tok h') := by
  cases hr : rowB h v with
  | none => rw [hr] at he; simp [orRow] at he
  | some x =>
    obtain ⟨k, j, e⟩ := x
    rw [hr] at he
    simp only [orRow] at he
    split at he
    · rename_i hb
      simp only [Bool.and_eq_true] at hb
      have h2 := geE_ev (σ := σ) hb.2
      rw [ev_one] at h2
      obtain ⟨N, hN, h1, hj, hs⟩ := row_sl H hv hr
      refine (bytesOf_new u (rowN σ j N) w hs (by rw [rowN_length]; omega)).mono ?_
      rintro e' w' ⟨v', rfl, hd, hf⟩
      exact Ans.row H hf hj hN h1 he hd
    · cases he
theorem ans41 (H : HRel σ n0 ι h w) {x y ux uy : Value} (hx : VRel σ ι x ux) (hy : VRel σ ι y uy) (he : orSame h (rowB h x) (rowB h y) = some (tok, h')) : Calls Sang.prog 41 #[ux, uy] w (Ans σ n0 ι h w tok h') := by
  unfold orSame at he
  split at he
  · rename_i k j e k' j' e' h1 h2
    split at he
    · rename_i hb
      simp only [Bool.and_eq_true] at hb
      simp only [Option.some.injEq, Prod.mk.injEq] at he
      obtain ⟨rfl, rfl⟩ := he
      have hjj := Nat.eq_of_beq_eq_true hb.1
      subst hjj
      have hee := eqE_ev (σ := σ) hb.2
      obtain ⟨N, hN, _, _, hs⟩ := row_sl H hx h1
      obtain ⟨N', hN', _, _, hs'⟩ := row_sl H hy h2
      have : N = N' := by omega
      subst this
      refine (equalBytes_same ux uy _ w hs hs').mono ?_
      rintro e w' ⟨rfl, rfl⟩
      exact Ans.same H (Fr.refl _ _ _) (.cell (.bool _))
    · cases he
  · cases he

theorem data_len (σ : Va) : 1 ≤ σ.data.length ∧ σ.data.length ≤ 1024 := by
  have h1 := geE_ev (σ := σ) (x := dataLen) (y := [1]) rfl
  have h2 := geE_ev (σ := σ) (x := [1024]) (y := dataLen) rfl
  rw [ev_one, σ.okl] at h1 h2
  omega
theorem rowD_data (σ : Va) : rowD σ σ.data.length = σ.data := by unfold rowD; simp
/-! contract 5 -/
structure Mx (σ : Va) (lb le lm b e m : Nat) : Prop where
  ps : pars.map (fun e => Value.int .u8 (evL e σ.xs)) = [.int .u8 (lb : Int), .int .u8 (le : Int), .int .u8 (lm : Int), .int .u8 (b : Int), .int .u8 (e : Int), .int .u8 (m : Int)]
  b0 : lb < 70
  b1 : le < 70
  b2 : lm < 70
  b3 : b < 256
  b4 : e < 256
  b5 : m < 256
  data : σ.data = mxIn lb le lm b e m
  out : σ.out = outN σ.data
  no : σ.md = 0 → ¬ (lb ≤ 64 ∧ le ≤ 64 ∧ lm ≤ 64)
  yes : σ.md ≠ 0 → (lb ≤ 64 ∧ le ≤ 64 ∧ lm ≤ 64) ∧ evL costE σ.xs = (costN 5 σ.data : Nat)
  one : σ.md = 1 → σ.out = []
  two : σ.md ≠ 0 → σ.md ≠ 1 → evL outE σ.xs = (σ.out.length : Nat) ∧ 1 ≤ σ.out.length
theorem rowU_out (σ : Va) : rowU σ σ.out.length = σ.out := by unfold rowU; simp
theorem Mx.dg {lb le lm b e m : Nat} (M : Mx σ lb le lm b e m) : Dg 256 σ.data := by
  have h0 := M.b0; have h1 := M.b1; have h2 := M.b2
  rw [M.data]; exact mxIn_dg _ _ _ _ _ _ (by omega) (by omega) (by omega) M.b3 M.b4 M.b5
theorem Mx.ok {lb le lm b e m : Nat} (M : Mx σ lb le lm b e m) : lenOk σ.data ↔ lb ≤ 64 ∧ le ≤ 64 ∧ lm ≤ 64 := by rw [M.data]; exact mx_ok _ _ _ _ _ _
theorem isFive_eq {v u : Value} (hv : VRel σ ι v u) (h5 : isFive v = true) : u = .int .u8 5 := by
  unfold isFive at h5
  split at h5
  · rename_i n
    have := Nat.eq_of_beq_eq_true h5
    subst this
    exact hv.int
  · cases h5
theorem dataT_sl (H : HRel σ n0 ι h w) {v u : Value} (hv : VRel σ ι v u) (hd : dataT h (rowB h v) = true) : Sl w .u8 u σ.data := by
  unfold dataT at hd
  split at hd
  · rename_i k j e hra
    simp only [Bool.and_eq_true] at hd
    have hj := Nat.eq_of_beq_eq_true hd.1
    subst hj
    have hee := eqE_ev (σ := σ) hd.2
    rw [σ.okl] at hee
    obtain ⟨N, hN, _, _, hs⟩ := row_sl H hv hra
    have : N = σ.data.length := by omega
    subst this
    have hs' : Sl w .u8 u (rowD σ σ.data.length) := hs
    rw [rowD_data] at hs'
    exact hs'
  · cases hd
/-- a row of the output, or none -/
theorem ans143 {lb le lm b e m : Nat} (M : Mx σ lb le lm b e m) (H : HRel σ n0 ι h w) {x y ux uy : Value} (hx : VRel σ ι x ux) (hy : VRel σ ι y uy) (he : orCost σ.md h x (rowB h y) = some (tok, h')) : Calls Sang.prog 143 #[ux, uy] w (Ans σ n0 ι h w tok h') := by
  unfold orCost at he
  split at he
  · rename_i hb
    simp only [Bool.and_eq_true] at hb
    have h5 := isFive_eq hx hb.1
    subst h5
    have hs := dataT_sl H hy hb.2
    have hc := yCost_new uy σ.data w hs M.dg (by have := data_len σ; omega)
    split at he
    · rename_i hmd
      simp only [Option.some.injEq, Prod.mk.injEq] at he
      obtain ⟨rfl, rfl⟩ := he
      refine hc.mono ?_
      rintro e' w' ⟨⟨hok, _⟩ | ⟨_, rfl⟩, hf⟩
      · exact absurd (M.ok.1 hok) (M.no hmd)
      · exact Ans.same H hf (.tuple (.cons (.cell (.nils _ _)) (.cons (.cell (.bool _)) .nil)))
    · rename_i hmd
      obtain ⟨hle, hC⟩ := M.yes hmd
      obtain ⟨v, hn, rfl⟩ := withB_some he
      refine hc.mono ?_
      rintro e' w' ⟨⟨hok, v', rfl, hd⟩ | ⟨hno, _⟩, hf⟩
      · obtain ⟨ι', g1, g2, g3⟩ := new_nat H hf hn hC hd
        obtain ⟨_, _, m', ev, _⟩ := newN_some (σ := σ) hn
        exact ⟨_, ι', rfl, .tuple (.cons (g1.wr ev) (.cons (.cell (.bool _)) .nil)), g2, g3⟩
      · exact absurd (M.ok.2 hle) hno
  · cases he
theorem out_row {lb le lm b e m : Nat} (M : Mx σ lb le lm b e m) (H : HRel σ n0 ι h w) {w' : World} (hf : Fr w.heap.size no w w') {v : Value} (hv : NewD w.heap.size w' v (outN σ.data)) (h0 : σ.md ≠ 0) :
    (σ.md = 1 → newN h [] = some (tok, h') → ∃ ι', WRel σ ι' tok v ∧ HRel σ n0 ι' h' w' ∧ Ext ι h w ι' h' w') ∧
    (σ.md ≠ 1 → outR (newSym h 3 7 outE) = some (tok, h') → ∃ ι', WRel σ ι' tok v ∧ HRel σ n0 ι' h' w' ∧ Ext ι h w ι' h' w') := by
  rw [← M.out] at hv
  constructor
  · intro h1 hn
    rw [M.one h1] at hv
    obtain ⟨ι', g1, g2, g3⟩ := new_nat H hf hn (N := 0) rfl hv
    obtain ⟨_, _, m', ev, _⟩ := newN_some (σ := σ) hn
    exact ⟨ι', g1.wr ev, g2, g3⟩
  · intro h1 hn
    obtain ⟨hL, hl⟩ := M.two h0 h1
    have hv' : NewD w.heap.size w' v (rowN σ 3 σ.out.length) := by
      show NewD w.heap.size w' v (rowU σ σ.out.length)
      rw [rowU_out]; exact hv
    obtain ⟨u, ι', e, g1, g2, g3⟩ := Ans.row (tok := tok) (h' := h') H hf (.inr (.inr rfl)) hL hl hn hv'
    injection e with e
    subst e
    refine ⟨ι', ?_, g2, g3⟩
    cases hns : newSym h 3 7 outE with
    | none => rw [hns] at hn; simp [outR] at hn
    | some o =>
      rw [hns] at hn
      obtain ⟨m', rfl, _⟩ := newSym_some hns
      simp only [outR, Option.some.injEq, Prod.mk.injEq] at hn
      exact g1.wr hn.1.symm
theorem ans144 {lb le lm b e m : Nat} (M : Mx σ lb le lm b e m) (H : HRel σ n0 ι h w) {x y ux uy : Value} (hx : VRel σ ι x ux) (hy : VRel σ ι y uy) (he : orRun σ.md h x (rowB h y) = some (tok, h')) : Calls Sang.prog 144 #[ux, uy] w (Ans σ n0 ι h w tok h') := by
  unfold orRun at he
  split at he
  · rename_i hb
    simp only [Bool.and_eq_true] at hb
    have h5 := isFive_eq hx hb.1
    subst h5
    have hs := dataT_sl H hy hb.2
    split at he
    · cases he
    · rename_i hmd
      have h0 : σ.md ≠ 0 := by omega
      refine (yRun_new uy σ.data w hs M.dg (by have := data_len σ; omega) (M.ok.2 (M.yes h0).1)).mono ?_
      rintro e' w' ⟨v', rfl, hd, hf⟩
      obtain ⟨ι', g1, g2, g3⟩ := (out_row M H hf hd h0).1 hmd he
      exact ⟨v', ι', rfl, .one g1, g2, g3⟩
    · rename_i hn0 hn1
      refine (yRun_new uy σ.data w hs M.dg (by have := data_len σ; omega) (M.ok.2 (M.yes hn0).1)).mono ?_
      rintro e' w' ⟨v', rfl, hd, hf⟩
      obtain ⟨ι', g1, g2, g3⟩ := (out_row M H hf hd hn0).2 hn1 he
      exact ⟨v', ι', rfl, .one g1, g2, g3⟩
  · cases he
theorem parsOk_rel : ∀ {l us : List Value} {m : List (List Int)}, parsOk l m = true → All2 (VRel σ ι) l us → us = m.map (fun e => Value.int .u8 (evL e σ.xs)) := by
  intro l
  induction l with
  | nil =>
    intro us m hp h
    cases m with
    | nil => rw [h.nilL]; rfl
    | cons => simp [parsOk] at hp
  | cons v l ih =>
    intro us m hp h
    cases m with
    | nil => simp [parsOk] at hp
    | cons e m =>
      obtain ⟨u, us, rfl, hu, hl⟩ := h.consL
      simp only [parsOk] at hp
      split at hp
      · rename_i hb
        rw [ih hp hl]
        unfold parOk at hb
        split at hb
        · rename_i e' hx
          rw [exOf_rel hx hu, eqE_ev (σ := σ) hb]
          rfl
        · cases hb
      · cases hp
theorem with3_some {c : Option Value} {x : Option (Value × Hp)} (he : with3 c x = some (tok, h')) : ∃ v c', x = some (v, h') ∧ c = some c' ∧ tok = .tuple #[v, c', .bool true] := by
  cases x with
  | none => simp [with3] at he
  | some p =>
    obtain ⟨v, h1⟩ := p
    cases c with
    | none => simp [with3] at he
    | some c =>
      simp only [with3, Option.some.injEq, Prod.mk.injEq] at he
      exact ⟨v, c, by rw [he.2], rfl, he.1.symm⟩
theorem ans12 {lb le lm b e m : Nat} (M : Mx σ lb le lm b e m) (H : HRel σ n0 ι h w) (he : outR (newSym h 2 7 dataLen) = some (tok, h')) :
    Calls Sang.prog 12 #[.int .u8 (lb : Int), .int .u8 (le : Int), .int .u8 (lm : Int), .int .u8 (b : Int), .int .u8 (e : Int), .int .u8 (m : Int)] w (Ans σ n0 ι h w tok h') := by
  refine (modExpInput_new lb le lm b e m w M.b0 M.b1 M.b2 M.b3 M.b4 M.b5).mono ?_
  rintro e' w' ⟨v', rfl, hd, hf⟩
  rw [← M.data] at hd
  refine Ans.row H hf (.inr (.inl rfl)) σ.okl (data_len σ).1 he ?_
  show NewD w.heap.size w' _ (rowD σ σ.data.length)
  rw [rowD_data]
  exact hd
theorem ans39 {lb le lm b e m : Nat} (M : Mx σ lb le lm b e m) (H : HRel σ n0 ι h w) (he : orWant σ.md h = some (tok, h')) :
    Calls Sang.prog 39 #[.int .u8 (lb : Int), .int .u8 (le : Int), .int .u8 (lm : Int), .int .u8 (b : Int), .int .u8 (e : Int), .int .u8 (m : Int)] w (Ans σ n0 ι h w tok h') := by
  have taken : σ.md ≠ 0 → ∀ x : Option (Value × Hp), with3 (rangeI .u64 costE) x = some (tok, h') → (∀ v w', x = some (v, h') → ∀ u, NewD w.heap.size w' u (outN σ.data) → Fr w.heap.size no w w' → ∃ ι', WRel σ ι' v u ∧ HRel σ n0 ι' h' w' ∧ Ext ι h w ι' h' w') →
      Calls Sang.prog 39 #[.int .u8 (lb : Int), .int .u8 (le : Int), .int .u8 (lm : Int), .int .u8 (b : Int), .int .u8 (e : Int), .int .u8 (m : Int)] w (Ans σ n0 ι h w tok h') := by
    intro h0 x hw hx
    obtain ⟨v, c, hv, hc, rfl⟩ := with3_some hw
    obtain ⟨⟨g0, g1, g2⟩, hC⟩ := M.yes h0
    refine (wantN_ok lb le lm b e m w g0 g1 g2 M.b3 M.b4 M.b5).mono ?_
    rintro e' w' ⟨v', rfl, hd, hf⟩
    rw [← M.data] at hd ⊢
    obtain ⟨ι', a1, a2, a3⟩ := hx v w' hv v' hd hf
    have hcr := (rangeI_rel (σ := σ) (ι := ι') hc).1
    rw [hC] at hcr
    exact ⟨_, ι', rfl, .tuple (.cons a1 (.cons (.cell hcr) (.cons (.cell (.bool _)) .nil))), a2, a3⟩
  unfold orWant at he
  split at he
  · rename_i hmd
    simp only [Option.some.injEq, Prod.mk.injEq] at he
    obtain ⟨rfl, rfl⟩ := he
    refine (want_no lb le lm b e m w (M.no hmd)).mono ?_
    rintro e' w' ⟨rfl, rfl⟩
    exact Ans.same H (Fr.refl _ _ _) (.tuple (.cons (.cell (.nils _ _)) (.cons (.cell (.int _ _)) (.cons (.cell (.bool _)) .nil))))
  · rename_i hmd
    have h0 : σ.md ≠ 0 := by omega
    exact taken h0 _ he (fun v w' hv u hd hf => (out_row M H hf hd h0).1 hmd hv)
  · rename_i hn0 hn1
    exact taken hn0 _ he (fun v w' hv u hd hf => (out_row M H hf hd hn0).2 hn1 hv)

/-! no byte at all -/
theorem zeroO_sl (H : HRel σ n0 ι h w) {v u : Value} (hv : VRel σ ι v u) (hz : zeroO (natE h v) = true) : Sl w .u8 u [] := by
  cases hn : natE h v with
  | none => rw [hn] at hz; simp [zeroO] at hz
  | some e =>
    rw [hn] at hz
    obtain ⟨N, hN, hs, _⟩ := natE_sl H hv hn
    have := eqE_ev (σ := σ) (x := e) (y := []) hz
    rw [hN, evL_nil] at this
    have h0 : N = 0 := by omega
    subst h0
    exact hs
theorem ans49z (H : HRel σ n0 ι h w) {v u : Value} (hv : VRel σ ι v u) (hz : zeroO (natE h v) = true) (he : newN h [] = some (tok, h')) : Calls Sang.prog 49 #[u] w (Ans σ n0 ι h w tok h') := by
  refine (bytesOf_new u [] w (zeroO_sl H hv hz) (by simp)).mono ?_
  rintro e' w' ⟨v', rfl, hd, hf⟩
  exact Ans.nat H hf he (N := 0) rfl hd
theorem ans41z (H : HRel σ n0 ι h w) {x y ux uy : Value} (hx : VRel σ ι x ux) (hy : VRel σ ι y uy) (h1 : zeroO (natE h x) = true) (h2 : zeroO (natE h y) = true) : Calls Sang.prog 41 #[ux, uy] w (Ans σ n0 ι h w (.bool true) h) := by
  refine (equalBytes_same ux uy [] w (zeroO_sl H hx h1) (zeroO_sl H hy h2)).mono ?_
  rintro e w' ⟨rfl, rfl⟩
  exact Ans.same H (Fr.refl _ _ _) (.cell (.bool _))

/-! a transaction -/
theorem u8L_rel : ∀ {l m : List Value}, u8L l = true → All2 (CRel σ ι) l m → ∃ ns : List Nat, m = byV ns ∧ ns.length = l.length := by
  intro l
  induction l with
  | nil => intro m _ h; rw [h.nilL]; exact ⟨[], rfl, rfl⟩
  | cons v l ih =>
    intro m hu h
    obtain ⟨u, m, rfl, hvu, hl⟩ := h.consL
    simp only [u8L] at hu
    cases hc : u8C v with
    | false => rw [hc] at hu; simp at hu
    | true =>
      rw [hc] at hu
      obtain ⟨ns, rfl, hn⟩ := ih hu hl
      have hone : ∃ n : Nat, u = .int .u8 (n : Int) := by
        unfold u8C at hc
        split at hc
        · exact ⟨_, hvu.constOf rfl⟩
        · rename_i t p
          have ht := Nat.eq_of_beq_eq_true hc
          subst ht
          obtain ⟨e, _, h0, _, hu⟩ := (VRel.cell hvu).tokOf.num (k := .u8) rfl
          exact ⟨(evL (decE e.toList) σ.xs).toNat, by rw [hu]; congr 1; omega⟩
        · cases hc
      obtain ⟨n, rfl⟩ := hone
      exact ⟨n :: ns, rfl, by simp [hn]⟩
theorem cut_all {l m r : List Value} (hm : All2 (CRel σ ι) l m) {o n : Nat} (hc : cut0 (skip l o) n = some r) : All2 (CRel σ ι) r ((m.drop o).take n) ∧ r.length = n := by
  rw [skip_eq] at hc
  obtain ⟨h1, rfl⟩ := cut0_spec _ _ _ hc
  exact ⟨(hm.drop o).take n, by simp at h1 ⊢; omega⟩
theorem beqO_some {m : List Value} {x : Option (List Value)} (hb : beqO m x = true) : x = some m := by
  cases x with
  | none => simp [beqO] at hb
  | some l => rw [beqL_eq hb]
theorem const_all {l m : List Value} (hc : constL l = true) (h : All2 (CRel σ ι) l m) : m = l := by
  refine All2.ind (R := CRel σ ι) (C := fun l m => constL l = true → m = l) (fun _ => rfl) ?_ h hc
  intro a b l m h1 _ ih hc
  simp only [constL] at hc
  cases hx : constC a with
  | false => simp [hx] at hc
  | true => rw [hx] at hc; rw [h1.constOf hx, ih hc]
theorem split_at (m : List Value) (o n : Nat) : m.drop o = (m.drop o).take n ++ m.drop (o + n) := by
  rw [← List.drop_drop, List.take_append_drop]
theorem orTx_some {v u : Value} (hv : VRel σ ι v u) (H : HRel σ n0 ι h w) (he : orTx h v = true) : ∃ to value data, to.length = 20 ∧ value.length = 32 ∧ u = .agg (txV to value data).toArray ∧ Sl w .u8 data σ.data := by
  unfold orTx at he
  split at he
  · rename_i cs
    obtain ⟨m, hm, rfl⟩ := hv.aggOf
    simp only [Bool.and_eq_true, txOk] at he
    obtain ⟨hd, c1, c2, c3, c4, c5, c6, c7⟩ := he
    have k1 : cut0 (skip cs.toList 0) 20 = some sndL := by
      have : skip cs.toList 0 = cs.toList := by cases cs.toList <;> rfl
      rw [this]; exact beqO_some c1
    have k3 := beqO_some c3
    have k4 := beqO_some c4
    have k6 := beqO_some c6
    have e1 := const_all (by rfl) (cut_all hm k1).1
    have e3 := const_all (by rfl) (cut_all hm k3).1
    have e4 := const_all (by rfl) (cut_all hm k4).1
    have e6 := const_all (by rfl) (cut_all hm k6).1
    cases k2 : cut0 (skip cs.toList 20) 20 with
    | none => rw [k2] at c2; simp [u8O] at c2
    | some r2 =>
      rw [k2] at c2
      obtain ⟨a2, l2⟩ := cut_all hm k2
      obtain ⟨to, e2, n2⟩ := u8L_rel c2 a2
      cases k5 : cut0 (skip cs.toList 75) 32 with
      | none => rw [k5] at c5; simp [u8O] at c5
      | some r5 =>
        rw [k5] at c5
        obtain ⟨a5, l5⟩ := cut_all hm k5
        obtain ⟨value, e5, n5⟩ := u8L_rel c5 a5
        unfold dataO at hd
        split at hd
        · rename_i d k7
          obtain ⟨a7, l7⟩ := cut_all hm k7
          obtain ⟨data, m7, e7, hdd, hr7⟩ := a7.consL
          have e70 := hr7.nilL
          subst e70
          have hlen : m.length = 174 := by
            have h1 := hm.length
            unfold emptyL at c7
            split at c7
            · rename_i hsk
              rw [skip_eq] at hsk
              have h2 : cs.toList.length ≤ 174 := by
                have := congrArg List.length hsk
                simp at this ⊢; omega
              have h3 := (cut_all hm k6).1.length
              rw [e6] at h3
              have h4 : ((m.drop 108).take 66).length = 66 := by rw [e6]; rfl
              simp at h4
              omega
            · cases c7
          refine ⟨to, value, data, by omega, by omega, ?_, ?_⟩
          · have em : m = txV to value data := by
              have f0 : m = m.drop 0 := by simp
              rw [f0, split_at m 0 20, split_at m (0 + 20) 20, split_at m (0 + 20 + 20) 3, split_at m (0 + 20 + 20 + 3) 32, split_at m (0 + 20 + 20 + 3 + 32) 32, split_at m (0 + 20 + 20 + 3 + 32 + 32) 1, split_at m (0 + 20 + 20 + 3 + 32 + 32 + 1) 66]
              have f9 : m.drop (0 + 20 + 20 + 3 + 32 + 32 + 1 + 66) = [] := List.drop_of_length_le (by omega)
              rw [f9]
              show (m.drop 0).take 20 ++ ((m.drop 20).take 20 ++ ((m.drop 40).take 3 ++ ((m.drop 43).take 32 ++ ((m.drop 75).take 32 ++ ((m.drop 107).take 1 ++ ((m.drop 108).take 66 ++ [])))))) = _
              rw [e1, e2, e3, e4, e5, e6, e7]
              rfl
            rw [em]
          · unfold dataT at hd
            split at hd
            · rename_i k j e hra
              simp only [Bool.and_eq_true] at hd
              have hj := Nat.eq_of_beq_eq_true hd.1
              subst hj
              have hee := eqE_ev (σ := σ) hd.2
              rw [σ.okl] at hee
              obtain ⟨N, hN, _, _, hs⟩ := row_sl H (.cell hdd) (rowAt_B hra)
              have : N = σ.data.length := by omega
              subst this
              have hs' : Sl w .u8 data (rowD σ σ.data.length) := hs
              rw [rowD_data] at hs'
              exact hs'
            · cases hd
        · cases hd
  · cases he
theorem nz_count (l : List Nat) : nz l = l.countP (fun x => x != 0) := by
  induction l with
  | nil => rfl
  | cons a l ih =>
    simp only [nz, ih, List.countP_cons]
    by_cases h : a = 0
    · simp [h]
    · simp [h]; omega
theorem intrE_ev (σ : Va) : evL intrE σ.xs = (intrN σ.data : Nat) := by
  have h1 := σ.okl
  have h2 := σ.oky
  have h3 := σ.okb
  unfold intrN
  rw [nz_count]
  have e : intrE = addE [21000] (addE (mulE 4 dataLen) (mulE 12 [0, 0, 1])) := rfl
  rw [e, evL_addE, evL_addE, evL_mulE, evL_mulE, ev_one, h1, h2]
  omega
theorem ans75 (H : HRel σ n0 ι h w) {v u : Value} (hv : VRel σ ι v u) (hr : orTx h v = true) (he : newN h intrE = some (tok, h')) : Calls Sang.prog 75 #[u] w (Ans σ n0 ι h w tok h') := by
  obtain ⟨to, value, data, l1, l2, rfl, hs⟩ := orTx_some hv H hr
  refine (ypIntrinsic_new to value σ.data data w l1 l2 hs (by have := data_len σ; omega)).mono ?_
  rintro e' w' ⟨v', rfl, hd, hf⟩
  exact Ans.nat H hf he (intrE_ev σ) hd
theorem ans40 (H : HRel σ n0 ι h w) {v u : Value} (hv : VRel σ ι v u) (hr : orTx h v = true) {x : Value} (hx : rangeI .u64 intrE = some x) : Calls Sang.prog 40 #[u] w (Ans σ n0 ι h w x h) := by
  obtain ⟨to, value, data, l1, l2, rfl, hs⟩ := orTx_some hv H hr
  refine (intrinsicOf_any to value σ.data data w l1 l2 hs (by have := data_len σ; omega)).mono ?_
  rintro e' w' ⟨rfl, hf⟩
  have h1 := (rangeI_rel (σ := σ) (ι := ι) hx).1
  rw [intrE_ev σ] at h1
  exact Ans.same H hf (.cell h1)

/-! a sum -/
theorem bytesL_some : ∀ {l : List Value}, bytesL l = true → ∃ ns : List Nat, l = ns.map byteV ∧ Dg 256 ns := by
  intro l
  induction l with
  | nil => intro _; exact ⟨[], rfl, Dg.nil _⟩
  | cons v l ih =>
    intro h
    unfold bytesL at h
    split at h
    · rename_i e; cases e
    · rename_i n l' e
      injection e with e1 e2
      subst e1; subst e2
      cases hb : Nat.ble n 255 with
      | false => rw [hb] at h; simp at h
      | true =>
        rw [hb] at h
        obtain ⟨ns, rfl, hd⟩ := ih h
        have := Nat.le_of_ble_eq_true hb
        exact ⟨n :: ns, rfl, Dg.cons (by omega) hd⟩
    · cases h
/-- one block of the world is changed -/
theorem HRel.over {w' : World} (H : HRel σ n0 ι h w) {k : Nat} {L L' : List Value} {b p : Nat} {C C' : Array Value} {T : TypeId} (hk : h.get σ k = some L) (hi : ι k = some (b, p, C.size)) (hn : h'.next = h.next)
    (hg : ∀ m, h'.get σ m = if m = k then some L' else h.get σ m) (hb' : w'.heap[b]? = some (.cells C' T (0, 0))) (hsz : C'.size = C.size) (hc' : ∀ i v, L'[i]? = some v → ∃ u, C'[p + i]? = some u ∧ CRel σ ι v u)
    (hs : w.heap.size ≤ w'.heap.size) (hf : ∀ x, x < w.heap.size → x ≠ b → w'.heap[x]? = w.heap[x]?) : HRel σ n0 ι h' w' := by
  refine ⟨Nat.le_trans H.base hs, H.low, fun k x e => hn ▸ H.dom k x e, fun k b p z e => Nat.lt_of_lt_of_le (H.img k b p z e) hs, ?_, ?_, ?_⟩
  · intro k2 l2 e2
    rw [hg k2] at e2
    by_cases hk2 : k2 = k
    · subst hk2
      rw [if_pos rfl] at e2
      injection e2 with e2
      subst e2
      exact ⟨b, p, C', T, by rw [hi, hsz], hb', hc'⟩
    · rw [if_neg hk2] at e2
      obtain ⟨b2, p2, C2, T2, hi2, hb2, hc2⟩ := H.live k2 l2 e2
      have hne : b2 ≠ b := fun e => hk2 (H.inj k2 k b p2 p _ _ (by rw [e2]; rfl) (by rw [hk]; rfl) (e ▸ hi2) hi)
      exact ⟨b2, p2, C2, T2, hi2, by rw [hf b2 (H.img _ _ _ _ hi2) hne]; exact hb2, hc2⟩
  · intro k1 k2 b1 p1 p2 z1 z2 a1 a2
    refine H.inj k1 k2 b1 p1 p2 z1 z2 ?_ ?_
    · rw [hg] at a1; split at a1
      · rename_i e; rw [e, hk]; rfl
      · exact a1
    · rw [hg] at a2; split at a2
      · rename_i e; rw [e, hk]; rfl
      · exact a2
  · intro x o e
    have h1 := H.old x o e
    have h2 := H.low k b p _ hi
    have h3 := H.base
    exact ⟨h1.1, by rw [hf x (by omega) (by omega)]; exact h1.2⟩

theorem addH_some {x : Option Hp} (he : addH x = some (tok, h')) : x = some h' ∧ tok = .bool true := by
  cases x with
  | none => simp [addH] at he
  | some y => simp only [addH, Option.some.injEq, Prod.mk.injEq] at he; exact ⟨by rw [he.2], he.1.symm⟩
theorem ans173 (H : HRel σ n0 ι h w) {x y ux uy : Value} (hx : VRel σ ι x ux) (hy : VRel σ ι y uy) (he : orAdd h x y = some (tok, h')) : Calls Sang.prog 173 #[ux, uy] w (Ans σ n0 ι h w tok h') := by
  unfold orAdd at he
  split at he
  · rename_i a b
    cases hne : Nat.beq a.block b.block with
    | true => rw [hne] at he; simp at he
    | false =>
      rw [hne] at he
      simp only at he
      unfold orAdd2 at he
      split at he
      · rename_i z l hra hrb
        split at he
        · rename_i hzb
          simp only [Bool.and_eq_true] at hzb
          have hz := beqL_eq hzb.1
          subst hz
          obtain ⟨ns, rfl, hd⟩ := bytesL_some hzb.2
          obtain ⟨hwr, rfl⟩ := addH_some he
          obtain ⟨k, o, L, rfl, hL, hl1, hl2⟩ := Hp.read_some (σ := σ) hra
          obtain ⟨k2, o2, L2, rfl, hL2, hl3, hl4⟩ := Hp.read_some (σ := σ) hrb
          obtain ⟨k', o', L0, e0, hL0, hnx, hor⟩ := Hp.write_some (σ := σ) hwr
          injection e0 with e01 e02
          subst e01; subst e02
          rw [hL] at hL0
          injection hL0 with hL0
          subst hL0
          have hnl : ns.length = 32 := by
            have := congrArg List.length hl4
            simp at this; omega
          rcases hor with ⟨e9, _⟩ | ⟨L', hlay, hg⟩
          · rw [List.map_eq_nil_iff] at e9
            rw [e9] at hnl
            simp at hnl
          obtain ⟨hfit, rfl⟩ := lay_spec _ _ _ _ hlay
          have hml : (ns.map byteV).length = 32 := by simp [hnl]
          rw [hml] at hfit hg
          obtain ⟨b, p, C, T, hi, hb, hc⟩ := H.live k L hL
          obtain ⟨b2, p2, C2, T2, hi2, hb2, hc2⟩ := H.live k2 L2 hL2
          have hkk : k ≠ k2 := fun e => by subst e; simp at hne
          have hbb : b ≠ b2 := fun e => hkk (H.inj k k2 b p p2 _ _ (by rw [hL]; rfl) (by rw [hL2]; rfl) hi (e ▸ hi2))
          obtain ⟨_, _, _, _, _, f1, f2, rfl⟩ := hx.ptr
          injection f1 with f11 f12
          subst f11; subst f12
          rw [hi] at f2
          injection f2 with f2
          injection f2 with f3 f4
          injection f4 with f4 f5
          subst f3; subst f4
          obtain ⟨_, _, _, _, _, g1, g2, rfl⟩ := hy.ptr
          injection g1 with g11 g12
          subst g11; subst g12
          rw [hi2] at g2
          injection g2 with g2
          injection g2 with g3 g4
          injection g4 with g4 g5
          subst g3; subst g4
          have hLz : ∀ i, i < 32 → L[o + i]? = some (.int .u8 0) := by
            intro i hi
            have e : (zerL 32)[i]? = some (.int .u8 0) := by unfold zerL; rw [List.getElem?_replicate, if_pos hi]
            rw [hl2, List.getElem?_take_of_lt hi, List.getElem?_drop] at e
            exact e
          have hcz : ∀ i, i < 32 → C.toList[p + o + i]? = some (.int .u8 0) := by
            intro i hi
            obtain ⟨u, hu, hr⟩ := hc (o + i) _ (hLz i hi)
            have := hr.constOf rfl
            subst this
            rw [Array.getElem?_toList, Nat.add_assoc]; exact hu
          have hcb : ∀ i, i < 32 → C2.toList[p2 + o2 + i]? = some (.int .u8 ((ns.getD i 0 : Nat) : Int)) := by
            intro i hi
            have hin : i < ns.length := by omega
            have e : (ns.map byteV)[i]? = some (byteV ns[i]) := by simp [hin]
            rw [hl4, List.getElem?_take_of_lt hi, List.getElem?_drop] at e
            obtain ⟨u, hu, hr⟩ := hc2 (o2 + i) _ e
            have := hr.constOf rfl
            subst this
            rw [Array.getElem?_toList, Nat.add_assoc, hu]
            simp [List.getD, hin, byteV]
          have hle : p + o + 32 ≤ C.toList.length := by
            have := (List.getElem?_eq_some_iff.1 (hcz 31 (by decide))).1
            omega
          refine (addTo_gen b (p + o) b2 (p2 + o2) T T2 C.toList C2.toList ns w (by unfold VB; rw [Array.toArray_toList]; exact hb) (by unfold VB; rw [Array.toArray_toList]; exact hb2) hbb hnl hd hcb hcz).mono ?_
          rintro e' w' ⟨rfl, hvb, hf⟩
          have hsz : (curG C.toList ns (p + o) 0).toArray.size = C.size := by
            rw [List.size_toArray, Go.Proofs.YgcsanGreat.curG_length hnl hle (by omega), Array.length_toList]
          have H' : HRel σ n0 ι h' w' := by
            refine H.over hL hi hnx hg hvb hsz ?_ hf.size (fun x hx hxb => hf.block x hx hxb)
            intro i v hv
            have eC : (curG C.toList ns (p + o) 0).toArray[p + i]? = (C.toList.take (p + o) ++ (ns.map byteV ++ C.toList.drop (p + o + 32)))[p + i]? := by
              rw [List.getElem?_toArray]; rfl
            rw [eC]
            have hCl : C.toList.length = C.size := Array.length_toList
            by_cases c1 : i < o
            · rw [List.getElem?_append_left (by simp; omega), List.getElem?_take_of_lt c1] at hv
              obtain ⟨u, hu, hr⟩ := hc i v hv
              refine ⟨u, ?_, hr⟩
              rw [List.getElem?_append_left (by simp; omega), List.getElem?_take_of_lt (by omega), Array.getElem?_toList]
              exact hu
            · by_cases c2 : i < o + 32
              · rw [List.getElem?_append_right (by simp; omega), List.getElem?_append_left (by simp; omega)] at hv
                have hto : (L.take o).length = o := by simp; omega
                rw [hto] at hv
                refine ⟨v, ?_, ?_⟩
                · rw [List.getElem?_append_right (by simp; omega), List.getElem?_append_left (by simp; omega)]
                  have htc : (C.toList.take (p + o)).length = p + o := by simp; omega
                  rw [htc, show p + i - (p + o) = i - o by omega]
                  exact hv
                · obtain ⟨_, rfl⟩ := byteV_get hv
                  exact .int _ _
              · rw [List.getElem?_append_right (by simp; omega), List.getElem?_append_right (by simp; omega), List.getElem?_drop] at hv
                have hv2 : L[i]? = some v := by
                  rw [← hv]; congr 1; simp; omega
                obtain ⟨u, hu, hr⟩ := hc i v hv2
                refine ⟨u, ?_, hr⟩
                rw [List.getElem?_append_right (by simp; omega), List.getElem?_append_right (by simp; omega), List.getElem?_drop, Array.getElem?_toList, ← hu]
                congr 1
                simp
                omega
          refine ⟨_, ι, rfl, .cell (.bool _), H', ⟨.refl ι, Nat.le_of_eq hnx.symm, hf.size, ?_, fun k b p z e _ => ⟨k, p, z, e⟩, hf.os, hf.tape, hf.output⟩⟩
          intro x hx hnx2
          exact hf.block x hx (fun e => hnx2 k p _ (e ▸ hi))
        · cases he
      · cases he
  · cases he

/-! ### the whole -/
theorem orcOk (σ : Va) {lb le lm b e m : Nat} (M : Mx σ lb le lm b e m) (n0 : Nat) : OrcOk σ Sang.prog n0 := by
  intro f args h v h' ι w us he H hus
  show Calls Sang.prog f us.toArray w (Ans σ n0 ι h w v h')
  unfold orc at he
  split at he
  · rename_i x
    obtain ⟨u, m, rfl, hu, hr⟩ := hus.consL
    have e0 := hr.nilL
    subst e0
    show Calls Sang.prog f #[u] w (Ans σ n0 ι h w v h')
    unfold orc1 at he
    split at he
    · simp only [Option.some.injEq] at he; exact ans109 H hu he
    · simp only [Option.some.injEq] at he; exact ans65 H hu he
    · simp only [Option.some.injEq] at he
      split at he
      · rename_i a ha; exact ans116 H hu ha he
      · cases he
    · simp only [Option.some.injEq] at he; exact ans127 H hu he
    · simp only [Option.some.injEq] at he; exact ans83 H hu he
    · simp only [Option.some.injEq] at he
      split at he
      · rename_i a ha; exact ans117 H hu ha he
      · cases he
    · simp only [Option.some.injEq] at he
      split at he
      · rename_i a ha; exact ans155 H hu ha he
      · cases he
    · split at he
      · simp only [Option.some.injEq] at he; exact ans51 H hu he
      · cases he
    · split at he
      · simp only [Option.some.injEq] at he; exact ans49 H hu he
      · split at he
        · simp only [Option.some.injEq] at he
          split at he
          · rename_i hz; exact ans49z H hu hz he
          · cases he
        · cases he
    · split at he
      · rename_i ha; simp only [Option.some.injEq] at he; exact ans75 H hu ha he
      · cases he
    · split at he
      · rename_i ha
        simp only [Option.some.injEq] at he
        split at he
        · rename_i x hx
          simp only [Option.some.injEq, Prod.mk.injEq] at he
          obtain ⟨rfl, rfl⟩ := he
          exact ans40 H hu ha hx
        · cases he
      · cases he
    · cases he
  · rename_i x y
    obtain ⟨ux, m, rfl, hx, hr⟩ := hus.consL
    obtain ⟨uy, m, rfl, hy, hr⟩ := hr.consL
    have e0 := hr.nilL
    subst e0
    show Calls Sang.prog f #[ux, uy] w (Ans σ n0 ι h w v h')
    unfold orc2 at he
    cases hn2 : isNat2 f with
    | true =>
      rw [hn2] at he
      simp only [Option.some.injEq] at he
      unfold orc2a at he
      split at he
      · rename_i a b ha hb
        unfold orc2b at he
        split at he
        · exact ans64 H hx hy ha hb he
        · exact ans78 H hx hy ha hb he
        · exact ans80 H hx hy ha hb he
        · exact ans111 H hx hy ha hb he
        · exact ans142 H hx hy ha hb he
        · cases he
      · cases he
    | false =>
      rw [hn2] at he
      simp only at he
      split at he
      · split at he
        · simp only [Option.some.injEq] at he; exact ans41 H hx hy he
        · split at he
          · rename_i hz
            simp only [Bool.and_eq_true] at hz
            simp only [Option.some.injEq, Prod.mk.injEq] at he
            obtain ⟨rfl, rfl⟩ := he
            exact ans41z H hx hy hz.1 hz.2
          · cases he
      · simp only [Option.some.injEq] at he; exact ans143 M H hx hy he
      · simp only [Option.some.injEq] at he; exact ans144 M H hx hy he
      · cases hoa : orAdd h x y with
        | none => rw [hoa] at he; simp [someO] at he
        | some r =>
          rw [hoa] at he
          simp only [someO, Option.some.injEq] at he
          subst he
          exact ans173 H hx hy hoa
      · cases he
  · split at he
    · rename_i hp
      have hu := parsOk_rel hp hus
      rw [M.ps] at hu
      subst hu
      split at he
      · simp only [Option.some.injEq] at he; exact ans12 M H he
      · simp only [Option.some.injEq] at he; exact ans39 M H he
      · cases he
    · cases he
  · cases he
end
end Go.Jv
