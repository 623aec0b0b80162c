/-
  Calls that are answered without a run: rows of bytes, transactions, sums; the whole.
-/
import Derived.Test.YgcsanGreatIvV
namespace Go.Iv
open Go Go.Proofs
open Go.Proofs.YgcsanGreat (digs Sl NewD Fr no IB val Dg ints VB byV zsV txV adNo nz intrN ypIntrinsic_new intrinsicOf_any bytesOf_new copyBytes_some equalBytes_same addTo_gen curG)
set_option linter.unusedVariables false
set_option linter.unusedSimpArgs false
variable {σ : Va}

section
variable {n0 : Nat} {ι : Im} {h h' : Hp} {w : World} {tok : Value}

/-- what a row holds -/
def rowN (σ : Va) (j N : Nat) : List Nat := match j with
  | 1 => List.replicate N 0
  | _ => rowD σ N
theorem rowN_length (j N : Nat) : (rowN σ j N).length = N := by
  unfold rowN
  split
  · simp
  · exact rowD_length N
theorem rowN_dec {j : Nat} (hj : j = 1 ∨ j = 2) (e : List Int) {N : Nat} (hN : evL e σ.xs = (N : Nat)) : dec σ [.map (some j), .tuple (encE e).toArray] = some ((rowN σ j N).map byteV) := by
  rcases hj with rfl | rfl
  · rw [symD_row0, hN]; simp [rowN]
  · rw [symD_row2, hN]; simp [rowN]
/-- a row as it lies -/
theorem row_sl (H : HRel σ n0 ι h w) {v u : Value} (hv : VRel σ ι v u) {k j : Nat} {e : List Int} (hr : rowAt h v = some (k, j, e)) :
    ∃ N : Nat, evL e σ.xs = (N : Nat) ∧ 1 ≤ N ∧ (j = 1 ∨ j = 2) ∧ Sl w .u8 u (rowN σ j N) := by
  obtain ⟨b, q, z, c, R, N, hk, rfl, hN, h1, h2, h3, hR, hRl, hRj⟩ := rowAt_some hr hv
  have hRN : R = (rowN σ j N).map byteV := by
    rcases hRj with ⟨rfl, e⟩ | ⟨rfl, e⟩
    · rw [e]; simp [rowN]
    · rw [e]; simp [rowN]
  refine ⟨N, hN, h1, ?_, ?_⟩
  · rcases hRj with ⟨e, _⟩ | ⟨e, _⟩
    · exact .inl e
    · exact .inr e
  · have hl := rowN_length (σ := σ) j N
    refine ⟨some ⟨b, q, none⟩, c, by rw [hl], by omega, h3, .inr ⟨b, q, rfl, ?_⟩⟩
    intro i hi
    obtain ⟨b2, p2, C, T, hi2, hb2, hc2⟩ := H.live k R hR
    rw [hk] at hi2
    injection hi2 with hi2
    injection hi2 with f1 f2
    injection f2 with f2 f3
    subst f1; subst f2
    obtain ⟨u, hu, hr⟩ := hc2 i (byteV (rowN σ j N)[i]) (by rw [hRN]; simp [hi])
    have hue := hr.constOf rfl
    subst hue
    have hgd : (rowN σ j N).getD i 0 = (rowN σ j N)[i] := by simp [List.getD, hi]
    rw [hgd]
    have hu' : C[q + i]? = some (.int .u8 (((rowN σ j N)[i] : Nat) : Int)) := hu
    simp only [World.cell?, hb2]
    simpa using hu'
/-- a new row -/
theorem Ans.row (H : HRel σ n0 ι h w) {w' : World} (hf : Fr w.heap.size no w w') {j : Nat} {e : List Int} {v : Value} {N : Nat} (hj : j = 1 ∨ j = 2) (hN : evL e σ.xs = (N : Nat)) (h1 : 1 ≤ N)
    (hs : outR (newSym h j 7 e) = some (tok, h')) (hv : NewD w.heap.size w' v (rowN σ j N)) : Ans σ n0 ι h w tok h' (.returned v) w' := by
  cases hns : newSym h j 7 e with
  | none => rw [hns] at hs; simp [outR] at hs
  | some out =>
    rw [hns] at hs
    obtain ⟨m', rfl, hset⟩ := newSym_some hns
    simp only [outR, Option.some.injEq, Prod.mk.injEq] at hs
    obtain ⟨rfl, rfl⟩ := hs
    have hl := rowN_length (σ := σ) j N
    obtain ⟨b, cap, z, rfl, g1, g2, H', E⟩ := new_sym H hf hv (fun e0 => by rw [e0] at hl; simp at hl; omega) hset (rowN_dec hj e hN)
    have hE : (evL e σ.xs).toNat = N := by rw [hN]; rfl
    refine ⟨_, _, rfl, ?_, H', E⟩
    rw [hl] at g1 ⊢
    have := row_tok (σ := σ) (e := e) (c := cap) (Im.up_self ι h.next (b, 0, z)) (by omega) (by rw [hE]; exact g1) g2
    rw [hE] at this
    exact this
theorem ans49 (H : HRel σ n0 ι h w) {v u : Value} (hv : VRel σ ι v u) (he : orRow h (rowAt h v) = some (tok, h')) : Calls Sang.prog 49 #[u] w (Ans σ n0 ι h w tok h') := by
  cases hr : rowAt h v with
  | none => rw [hr] at he; simp [orRow] at he
  | some x =>
    obtain ⟨k, j, e⟩ := x
    rw [hr] at he
    simp only [orRow] at he
    split at he
    · rename_i hb
      simp only [Bool.and_eq_true] at hb
      have h2 := geE_ev (σ := σ) hb.2
      rw [ev_one] at h2
      obtain ⟨N, hN, h1, hj, hs⟩ := row_sl H hv hr
      refine (bytesOf_new u (rowN σ j N) w hs (by rw [rowN_length]; omega)).mono ?_
      rintro e' w' ⟨v', rfl, hd, hf⟩
      exact Ans.row H hf hj hN h1 he hd
    · cases he
theorem ans41 (H : HRel σ n0 ι h w) {x y ux uy : Value} (hx : VRel σ ι x ux) (hy : VRel σ ι y uy) (he : orSame h (rowAt h x) (rowAt h y) = some (tok, h')) : Calls Sang.prog 41 #[ux, uy] w (Ans σ n0 ι h w tok h') := by
  unfold orSame at he
  split at he
  · rename_i k j e k' j' e' h1 h2
    split at he
    · rename_i hb
      simp only [Bool.and_eq_true] at hb
      simp only [Option.some.injEq, Prod.mk.injEq] at he
      obtain ⟨rfl, rfl⟩ := he
      have hjj := Nat.eq_of_beq_eq_true hb.1
      subst hjj
      have hee := eqE_ev (σ := σ) hb.2
      obtain ⟨N, hN, _, _, hs⟩ := row_sl H hx h1
      obtain ⟨N', hN', _, _, hs'⟩ := row_sl H hy h2
      have : N = N' := by omega
      subst this
      refine (equalBytes_same ux uy _ w hs hs').mono ?_
      rintro e w' ⟨rfl, rfl⟩
      exact Ans.same H (Fr.refl _ _ _) (.cell (.bool _))
    · cases he
  · cases he

theorem data_len (σ : Va) : 1 ≤ σ.data.length ∧ σ.data.length ≤ 1024 := by
  have h1 := geE_ev (σ := σ) (x := dataLen) (y := [1]) rfl
  have h2 := geE_ev (σ := σ) (x := [1024]) (y := dataLen) rfl
  rw [ev_one, σ.okl] at h1 h2
  omega
theorem rowD_data (σ : Va) : rowD σ σ.data.length = σ.data := by unfold rowD; simp
theorem ans17 (H : HRel σ n0 ι h w) {v u : Value} (hv : VRel σ ι v u) (hr : isArg v = true) (he : outR (newSym h 2 7 dataLen) = some (tok, h')) : Calls Sang.prog 17 #[u] w (Ans σ n0 ι h w tok h') := by
  unfold isArg at hr
  split at hr
  · obtain ⟨rfl, b, off, cap, C, T, f, ha, h1, h2, h3, h4⟩ := hv.tokOf.argOf
    obtain ⟨h5, h6⟩ := H.old _ _ h3
    obtain ⟨d1, d2⟩ := data_len σ
    have hsl : Sl w .u8 (.slice (some ⟨b, off, none⟩) σ.data.length cap) σ.data := by
      refine ⟨_, cap, rfl, h1, h2, .inr ⟨b, off, rfl, ?_⟩⟩
      intro i hi
      have hu : C[off + i]? = some (.int .u8 ((σ.data.getD i 0 : Nat) : Int)) := h4 i hi
      simp only [World.cell?, h6]
      simpa using hu
    rw [ha]
    refine (copyBytes_some ⟨b, off, none⟩ cap σ.data w hsl (by omega)).mono ?_
    rintro e' w' ⟨rfl, hi, hf⟩
    have hd := NewD.of_ib (B := w.heap.size) hi σ.data.length (Nat.le_refl _) (by unfold maxLen; omega) (Nat.le_refl _)
    rw [List.take_length] at hd
    refine Ans.row H hf (.inr rfl) σ.okl d1 he ?_
    show NewD w.heap.size w' _ (rowD σ σ.data.length)
    rw [rowD_data]
    exact hd
  · cases hr
theorem ans17z (H : HRel σ n0 ι h w) {v u : Value} (hv : VRel σ ι v u) (hr : isArg0 v = true) (he : outR (newBlock h [] (fun a => .slice (some a) 0 0)) = some (tok, h')) : Calls Sang.prog 17 #[u] w (Ans σ n0 ι h w tok h') := by
  unfold isArg0 at hr
  split at hr
  · obtain ⟨a, c, hc, rfl⟩ := hv.tokOf.arg0Of
    refine (copyBytes_some a c [] w ⟨some a, c, rfl, Nat.zero_le _, hc, .inl rfl⟩ (by simp)).mono ?_
    rintro e' w' ⟨rfl, hi, hf⟩
    cases hnb : newBlock h [] (fun a => .slice (some a) 0 0) with
    | none => rw [hnb] at he; simp [outR] at he
    | some out =>
      rw [hnb] at he
      obtain ⟨_, m', rfl, hset⟩ := newBlock_some hnb
      simp only [outR, Option.some.injEq, Prod.mk.injEq] at he
      obtain ⟨rfl, rfl⟩ := he
      obtain ⟨n, m⟩ := h
      have hn : ι n = none := H.unlaid (Nat.le_refl _)
      have H' := (H.fr hf).layIn (l := []) hset rfl (b := w.heap.size) (p := 0) H.base hi.lt (fun k p z e => by have := H.img k _ p z e; omega) hi (fun i v hv => by simp at hv)
      refine ⟨_, _, rfl, .cell (.slc (o := 0) (Im.up_self _ _ _) (capRel_exact (by simp [big]))), H', ?_⟩
      refine ⟨Im.le_up hn _, Nat.le_succ _, hf.size, fun x hx _ => hf.block x hx (fun y => y), ?_, hf.os, hf.tape, hf.output⟩
      intro k b' p z e hb
      by_cases hk : k = n
      · subst hk; rw [Im.up_self] at e; injection e with e; injection e with e1 e2; omega
      · rw [Im.up_ne _ hk] at e; exact ⟨k, p, z, e⟩
  · cases hr

/-! a transaction -/
theorem u8L_rel : ∀ {l m : List Value}, u8L l = true → All2 (CRel σ ι) l m → ∃ ns : List Nat, m = byV ns ∧ ns.length = l.length := by
  intro l
  induction l with
  | nil => intro m _ h; rw [h.nilL]; exact ⟨[], rfl, rfl⟩
  | cons v l ih =>
    intro m hu h
    obtain ⟨u, m, rfl, hvu, hl⟩ := h.consL
    simp only [u8L] at hu
    cases hc : u8C v with
    | false => rw [hc] at hu; simp at hu
    | true =>
      rw [hc] at hu
      obtain ⟨ns, rfl, hn⟩ := ih hu hl
      have hone : ∃ n : Nat, u = .int .u8 (n : Int) := by
        unfold u8C at hc
        split at hc
        · exact ⟨_, hvu.constOf rfl⟩
        · rename_i t p
          have ht := Nat.eq_of_beq_eq_true hc
          subst ht
          obtain ⟨e, _, h0, _, hu⟩ := (VRel.cell hvu).tokOf.num (k := .u8) rfl
          exact ⟨(evL (decE e.toList) σ.xs).toNat, by rw [hu]; congr 1; omega⟩
        · cases hc
      obtain ⟨n, rfl⟩ := hone
      exact ⟨n :: ns, rfl, by simp [hn]⟩
theorem cut_all {l m r : List Value} (hm : All2 (CRel σ ι) l m) {o n : Nat} (hc : cut0 (skip l o) n = some r) : All2 (CRel σ ι) r ((m.drop o).take n) ∧ r.length = n := by
  rw [skip_eq] at hc
  obtain ⟨h1, rfl⟩ := cut0_spec _ _ _ hc
  exact ⟨(hm.drop o).take n, by simp at h1 ⊢; omega⟩
theorem beqO_some {m : List Value} {x : Option (List Value)} (hb : beqO m x = true) : x = some m := by
  cases x with
  | none => simp [beqO] at hb
  | some l => rw [beqL_eq hb]
theorem const_all {l m : List Value} (hc : constL l = true) (h : All2 (CRel σ ι) l m) : m = l := by
  refine All2.ind (R := CRel σ ι) (C := fun l m => constL l = true → m = l) (fun _ => rfl) ?_ h hc
  intro a b l m h1 _ ih hc
  simp only [constL] at hc
  cases hx : constC a with
  | false => simp [hx] at hc
  | true => rw [hx] at hc; rw [h1.constOf hx, ih hc]
theorem split_at (m : List Value) (o n : Nat) : m.drop o = (m.drop o).take n ++ m.drop (o + n) := by
  rw [← List.drop_drop, List.take_append_drop]
theorem orTx_some {v u : Value} (hv : VRel σ ι v u) (H : HRel σ n0 ι h w) (he : orTx h v = true) : ∃ to value data, to.length = 20 ∧ value.length = 32 ∧ u = .agg (txV to value data).toArray ∧ Sl w .u8 data σ.data := by
  unfold orTx at he
  split at he
  · rename_i cs
    obtain ⟨m, hm, rfl⟩ := hv.aggOf
    simp only [Bool.and_eq_true, txOk] at he
    obtain ⟨hd, c1, c2, c3, c4, c5, c6, c7⟩ := he
    have k1 : cut0 (skip cs.toList 0) 20 = some sndL := by
      have : skip cs.toList 0 = cs.toList := by cases cs.toList <;> rfl
      rw [this]; exact beqO_some c1
    have k3 := beqO_some c3
    have k4 := beqO_some c4
    have k6 := beqO_some c6
    have e1 := const_all (by rfl) (cut_all hm k1).1
    have e3 := const_all (by rfl) (cut_all hm k3).1
    have e4 := const_all (by rfl) (cut_all hm k4).1
    have e6 := const_all (by rfl) (cut_all hm k6).1
    cases k2 : cut0 (skip cs.toList 20) 20 with
    | none => rw [k2] at c2; simp [u8O] at c2
    | some r2 =>
      rw [k2] at c2
      obtain ⟨a2, l2⟩ := cut_all hm k2
      obtain ⟨to, e2, n2⟩ := u8L_rel c2 a2
      cases k5 : cut0 (skip cs.toList 75) 32 with
      | none => rw [k5] at c5; simp [u8O] at c5
      | some r5 =>
        rw [k5] at c5
        obtain ⟨a5, l5⟩ := cut_all hm k5
        obtain ⟨value, e5, n5⟩ := u8L_rel c5 a5
        unfold dataO at hd
        split at hd
        · rename_i d k7
          obtain ⟨a7, l7⟩ := cut_all hm k7
          obtain ⟨data, m7, e7, hdd, hr7⟩ := a7.consL
          have e70 := hr7.nilL
          subst e70
          have hlen : m.length = 174 := by
            have h1 := hm.length
            unfold emptyL at c7
            split at c7
            · rename_i hsk
              rw [skip_eq] at hsk
              have h2 : cs.toList.length ≤ 174 := by
                have := congrArg List.length hsk
                simp at this ⊢; omega
              have h3 := (cut_all hm k6).1.length
              rw [e6] at h3
              have h4 : ((m.drop 108).take 66).length = 66 := by rw [e6]; rfl
              simp at h4
              omega
            · cases c7
          refine ⟨to, value, data, by omega, by omega, ?_, ?_⟩
          · have em : m = txV to value data := by
              have f0 : m = m.drop 0 := by simp
              rw [f0, split_at m 0 20, split_at m (0 + 20) 20, split_at m (0 + 20 + 20) 3, split_at m (0 + 20 + 20 + 3) 32, split_at m (0 + 20 + 20 + 3 + 32) 32, split_at m (0 + 20 + 20 + 3 + 32 + 32) 1, split_at m (0 + 20 + 20 + 3 + 32 + 32 + 1) 66]
              have f9 : m.drop (0 + 20 + 20 + 3 + 32 + 32 + 1 + 66) = [] := List.drop_of_length_le (by omega)
              rw [f9]
              show (m.drop 0).take 20 ++ ((m.drop 20).take 20 ++ ((m.drop 40).take 3 ++ ((m.drop 43).take 32 ++ ((m.drop 75).take 32 ++ ((m.drop 107).take 1 ++ ((m.drop 108).take 66 ++ [])))))) = _
              rw [e1, e2, e3, e4, e5, e6, e7]
              rfl
            rw [em]
          · unfold dataT at hd
            split at hd
            · rename_i k j e hra
              simp only [Bool.and_eq_true] at hd
              have hj := Nat.eq_of_beq_eq_true hd.1
              subst hj
              have hee := eqE_ev (σ := σ) hd.2
              rw [σ.okl] at hee
              obtain ⟨N, hN, _, _, hs⟩ := row_sl H (.cell hdd) hra
              have : N = σ.data.length := by omega
              subst this
              have hs' : Sl w .u8 data (rowD σ σ.data.length) := hs
              rw [rowD_data] at hs'
              exact hs'
            · cases hd
        · cases hd
  · cases he
theorem nz_count (l : List Nat) : nz l = l.countP (fun x => x != 0) := by
  induction l with
  | nil => rfl
  | cons a l ih =>
    simp only [nz, ih, List.countP_cons]
    by_cases h : a = 0
    · simp [h]
    · simp [h]; omega
theorem intrE_ev (σ : Va) : evL intrE σ.xs = (intrN σ.data : Nat) := by
  have h1 := σ.okl
  have h2 := σ.oky
  have h3 := σ.okb
  unfold intrN
  rw [nz_count]
  have e : intrE = addE [21000] (addE (mulE 4 dataLen) (mulE 12 [0, 0, 0, 1])) := rfl
  rw [e, evL_addE, evL_addE, evL_mulE, evL_mulE, ev_one, h1, h2]
  omega
theorem ans75 (H : HRel σ n0 ι h w) {v u : Value} (hv : VRel σ ι v u) (hr : orTx h v = true) (he : newN h intrE = some (tok, h')) : Calls Sang.prog 75 #[u] w (Ans σ n0 ι h w tok h') := by
  obtain ⟨to, value, data, l1, l2, rfl, hs⟩ := orTx_some hv H hr
  refine (ypIntrinsic_new to value σ.data data w l1 l2 hs (by have := data_len σ; omega)).mono ?_
  rintro e' w' ⟨v', rfl, hd, hf⟩
  exact Ans.nat H hf he (intrE_ev σ) hd
theorem ans40 (H : HRel σ n0 ι h w) {v u : Value} (hv : VRel σ ι v u) (hr : orTx h v = true) {x : Value} (hx : rangeI .u64 intrE = some x) : Calls Sang.prog 40 #[u] w (Ans σ n0 ι h w x h) := by
  obtain ⟨to, value, data, l1, l2, rfl, hs⟩ := orTx_some hv H hr
  refine (intrinsicOf_any to value σ.data data w l1 l2 hs (by have := data_len σ; omega)).mono ?_
  rintro e' w' ⟨rfl, hf⟩
  have h1 := (rangeI_rel (σ := σ) (ι := ι) hx).1
  rw [intrE_ev σ] at h1
  exact Ans.same H hf (.cell h1)

/-! a sum -/
theorem bytesL_some : ∀ {l : List Value}, bytesL l = true → ∃ ns : List Nat, l = ns.map byteV ∧ Dg 256 ns := by
  intro l
  induction l with
  | nil => intro _; exact ⟨[], rfl, Dg.nil _⟩
  | cons v l ih =>
    intro h
    unfold bytesL at h
    split at h
    · rename_i e; cases e
    · rename_i n l' e
      injection e with e1 e2
      subst e1; subst e2
      cases hb : Nat.ble n 255 with
      | false => rw [hb] at h; simp at h
      | true =>
        rw [hb] at h
        obtain ⟨ns, rfl, hd⟩ := ih h
        have := Nat.le_of_ble_eq_true hb
        exact ⟨n :: ns, rfl, Dg.cons (by omega) hd⟩
    · cases h
/-- one block of the world is changed -/
theorem HRel.over {w' : World} (H : HRel σ n0 ι h w) {k : Nat} {L L' : List Value} {b p : Nat} {C C' : Array Value} {T : TypeId} (hk : h.get σ k = some L) (hi : ι k = some (b, p, C.size)) (hn : h'.next = h.next)
    (hg : ∀ m, h'.get σ m = if m = k then some L' else h.get σ m) (hb' : w'.heap[b]? = some (.cells C' T (0, 0))) (hsz : C'.size = C.size) (hc' : ∀ i v, L'[i]? = some v → ∃ u, C'[p + i]? = some u ∧ CRel σ ι v u)
    (hs : w.heap.size ≤ w'.heap.size) (hf : ∀ x, x < w.heap.size → x ≠ b → w'.heap[x]? = w.heap[x]?) : HRel σ n0 ι h' w' := by
  refine ⟨Nat.le_trans H.base hs, H.low, fun k x e => hn ▸ H.dom k x e, fun k b p z e => Nat.lt_of_lt_of_le (H.img k b p z e) hs, ?_, ?_, ?_⟩
  · intro k2 l2 e2
    rw [hg k2] at e2
    by_cases hk2 : k2 = k
    · subst hk2
      rw [if_pos rfl] at e2
      injection e2 with e2
      subst e2
      exact ⟨b, p, C', T, by rw [hi, hsz], hb', hc'⟩
    · rw [if_neg hk2] at e2
      obtain ⟨b2, p2, C2, T2, hi2, hb2, hc2⟩ := H.live k2 l2 e2
      have hne : b2 ≠ b := fun e => hk2 (H.inj k2 k b p2 p _ _ (by rw [e2]; rfl) (by rw [hk]; rfl) (e ▸ hi2) hi)
      exact ⟨b2, p2, C2, T2, hi2, by rw [hf b2 (H.img _ _ _ _ hi2) hne]; exact hb2, hc2⟩
  · intro k1 k2 b1 p1 p2 z1 z2 a1 a2
    refine H.inj k1 k2 b1 p1 p2 z1 z2 ?_ ?_
    · rw [hg] at a1; split at a1
      · rename_i e; rw [e, hk]; rfl
      · exact a1
    · rw [hg] at a2; split at a2
      · rename_i e; rw [e, hk]; rfl
      · exact a2
  · intro x o e
    have h1 := H.old x o e
    have h2 := H.low k b p _ hi
    have h3 := H.base
    exact ⟨h1.1, by rw [hf x (by omega) (by omega)]; exact h1.2⟩

theorem addH_some {x : Option Hp} (he : addH x = some (tok, h')) : x = some h' ∧ tok = .bool true := by
  cases x with
  | none => simp [addH] at he
  | some y => simp only [addH, Option.some.injEq, Prod.mk.injEq] at he; exact ⟨by rw [he.2], he.1.symm⟩
theorem ans173 (H : HRel σ n0 ι h w) {x y ux uy : Value} (hx : VRel σ ι x ux) (hy : VRel σ ι y uy) (he : orAdd h x y = some (tok, h')) : Calls Sang.prog 173 #[ux, uy] w (Ans σ n0 ι h w tok h') := by
  unfold orAdd at he
  split at he
  · rename_i a b
    cases hne : Nat.beq a.block b.block with
    | true => rw [hne] at he; simp at he
    | false =>
      rw [hne] at he
      simp only at he
      unfold orAdd2 at he
      split at he
      · rename_i z l hra hrb
        split at he
        · rename_i hzb
          simp only [Bool.and_eq_true] at hzb
          have hz := beqL_eq hzb.1
          subst hz
          obtain ⟨ns, rfl, hd⟩ := bytesL_some hzb.2
          obtain ⟨hwr, rfl⟩ := addH_some he
          obtain ⟨k, o, L, rfl, hL, hl1, hl2⟩ := Hp.read_some (σ := σ) hra
          obtain ⟨k2, o2, L2, rfl, hL2, hl3, hl4⟩ := Hp.read_some (σ := σ) hrb
          obtain ⟨k', o', L0, e0, hL0, hnx, hor⟩ := Hp.write_some (σ := σ) hwr
          injection e0 with e01 e02
          subst e01; subst e02
          rw [hL] at hL0
          injection hL0 with hL0
          subst hL0
          have hnl : ns.length = 32 := by
            have := congrArg List.length hl4
            simp at this; omega
          rcases hor with ⟨e9, _⟩ | ⟨L', hlay, hg⟩
          · rw [List.map_eq_nil_iff] at e9
            rw [e9] at hnl
            simp at hnl
          obtain ⟨hfit, rfl⟩ := lay_spec _ _ _ _ hlay
          have hml : (ns.map byteV).length = 32 := by simp [hnl]
          rw [hml] at hfit hg
          obtain ⟨b, p, C, T, hi, hb, hc⟩ := H.live k L hL
          obtain ⟨b2, p2, C2, T2, hi2, hb2, hc2⟩ := H.live k2 L2 hL2
          have hkk : k ≠ k2 := fun e => by subst e; simp at hne
          have hbb : b ≠ b2 := fun e => hkk (H.inj k k2 b p p2 _ _ (by rw [hL]; rfl) (by rw [hL2]; rfl) hi (e ▸ hi2))
          obtain ⟨_, _, _, _, _, f1, f2, rfl⟩ := hx.ptr
          injection f1 with f11 f12
          subst f11; subst f12
          rw [hi] at f2
          injection f2 with f2
          injection f2 with f3 f4
          injection f4 with f4 f5
          subst f3; subst f4
          obtain ⟨_, _, _, _, _, g1, g2, rfl⟩ := hy.ptr
          injection g1 with g11 g12
          subst g11; subst g12
          rw [hi2] at g2
          injection g2 with g2
          injection g2 with g3 g4
          injection g4 with g4 g5
          subst g3; subst g4
          have hLz : ∀ i, i < 32 → L[o + i]? = some (.int .u8 0) := by
            intro i hi
            have e : (zerL 32)[i]? = some (.int .u8 0) := by unfold zerL; rw [List.getElem?_replicate, if_pos hi]
            rw [hl2, List.getElem?_take_of_lt hi, List.getElem?_drop] at e
            exact e
          have hcz : ∀ i, i < 32 → C.toList[p + o + i]? = some (.int .u8 0) := by
            intro i hi
            obtain ⟨u, hu, hr⟩ := hc (o + i) _ (hLz i hi)
            have := hr.constOf rfl
            subst this
            rw [Array.getElem?_toList, Nat.add_assoc]; exact hu
          have hcb : ∀ i, i < 32 → C2.toList[p2 + o2 + i]? = some (.int .u8 ((ns.getD i 0 : Nat) : Int)) := by
            intro i hi
            have hin : i < ns.length := by omega
            have e : (ns.map byteV)[i]? = some (byteV ns[i]) := by simp [hin]
            rw [hl4, List.getElem?_take_of_lt hi, List.getElem?_drop] at e
            obtain ⟨u, hu, hr⟩ := hc2 (o2 + i) _ e
            have := hr.constOf rfl
            subst this
            rw [Array.getElem?_toList, Nat.add_assoc, hu]
            simp [List.getD, hin, byteV]
          have hle : p + o + 32 ≤ C.toList.length := by
            have := (List.getElem?_eq_some_iff.1 (hcz 31 (by decide))).1
            omega
          refine (addTo_gen b (p + o) b2 (p2 + o2) T T2 C.toList C2.toList ns w (by unfold VB; rw [Array.toArray_toList]; exact hb) (by unfold VB; rw [Array.toArray_toList]; exact hb2) hbb hnl hd hcb hcz).mono ?_
          rintro e' w' ⟨rfl, hvb, hf⟩
          have hsz : (curG C.toList ns (p + o) 0).toArray.size = C.size := by
            rw [List.size_toArray, Go.Proofs.YgcsanGreat.curG_length hnl hle (by omega), Array.length_toList]
          have H' : HRel σ n0 ι h' w' := by
            refine H.over hL hi hnx hg hvb hsz ?_ hf.size (fun x hx hxb => hf.block x hx hxb)
            intro i v hv
            have eC : (curG C.toList ns (p + o) 0).toArray[p + i]? = (C.toList.take (p + o) ++ (ns.map byteV ++ C.toList.drop (p + o + 32)))[p + i]? := by
              rw [List.getElem?_toArray]; rfl
            rw [eC]
            have hCl : C.toList.length = C.size := Array.length_toList
            by_cases c1 : i < o
            · rw [List.getElem?_append_left (by simp; omega), List.getElem?_take_of_lt c1] at hv
              obtain ⟨u, hu, hr⟩ := hc i v hv
              refine ⟨u, ?_, hr⟩
              rw [List.getElem?_append_left (by simp; omega), List.getElem?_take_of_lt (by omega), Array.getElem?_toList]
              exact hu
            · by_cases c2 : i < o + 32
              · rw [List.getElem?_append_right (by simp; omega), List.getElem?_append_left (by simp; omega)] at hv
                have hto : (L.take o).length = o := by simp; omega
                rw [hto] at hv
                refine ⟨v, ?_, ?_⟩
                · rw [List.getElem?_append_right (by simp; omega), List.getElem?_append_left (by simp; omega)]
                  have htc : (C.toList.take (p + o)).length = p + o := by simp; omega
                  rw [htc, show p + i - (p + o) = i - o by omega]
                  exact hv
                · obtain ⟨_, rfl⟩ := byteV_get hv
                  exact .int _ _
              · rw [List.getElem?_append_right (by simp; omega), List.getElem?_append_right (by simp; omega), List.getElem?_drop] at hv
                have hv2 : L[i]? = some v := by
                  rw [← hv]; congr 1; simp; omega
                obtain ⟨u, hu, hr⟩ := hc i v hv2
                refine ⟨u, ?_, hr⟩
                rw [List.getElem?_append_right (by simp; omega), List.getElem?_append_right (by simp; omega), List.getElem?_drop, Array.getElem?_toList, ← hu]
                congr 1
                simp
                omega
          refine ⟨_, ι, rfl, .cell (.bool _), H', ⟨.refl ι, Nat.le_of_eq hnx.symm, hf.size, ?_, fun k b p z e _ => ⟨k, p, z, e⟩, hf.os, hf.tape, hf.output⟩⟩
          intro x hx hnx2
          exact hf.block x hx (fun e => hnx2 k p _ (e ▸ hi))
        · cases he
      · cases he
  · cases he

/-! ### the whole -/
theorem orcOk (σ : Va) (n0 : Nat) : OrcOk σ Sang.prog n0 := by
  intro f args h v h' ι w us he H hus
  show Calls Sang.prog f us.toArray w (Ans σ n0 ι h w v h')
  unfold orc at he
  split at he
  · rename_i x
    obtain ⟨u, m, rfl, hu, hr⟩ := hus.consL
    have e0 := hr.nilL
    subst e0
    show Calls Sang.prog f #[u] w (Ans σ n0 ι h w v h')
    unfold orc1 at he
    split at he
    · simp only [Option.some.injEq] at he; exact ans109 H hu he
    · simp only [Option.some.injEq] at he; exact ans65 H hu he
    · simp only [Option.some.injEq] at he
      split at he
      · rename_i a ha; exact ans116 H hu ha he
      · cases he
    · simp only [Option.some.injEq] at he; exact ans127 H hu he
    · simp only [Option.some.injEq] at he; exact ans83 H hu he
    · simp only [Option.some.injEq] at he
      split at he
      · rename_i a ha; exact ans117 H hu ha he
      · cases he
    · simp only [Option.some.injEq] at he
      split at he
      · rename_i a ha; exact ans155 H hu ha he
      · cases he
    · split at he
      · simp only [Option.some.injEq] at he; exact ans51 H hu he
      · cases he
    · split at he
      · simp only [Option.some.injEq] at he; exact ans49 H hu he
      · cases he
    · split at he
      · rename_i ha; simp only [Option.some.injEq] at he; exact ans17 H hu ha he
      · split at he
        · rename_i ha; simp only [Option.some.injEq] at he; exact ans17z H hu ha he
        · cases he
    · split at he
      · rename_i ha; simp only [Option.some.injEq] at he; exact ans75 H hu ha he
      · cases he
    · split at he
      · rename_i ha
        simp only [Option.some.injEq] at he
        split at he
        · rename_i x hx
          simp only [Option.some.injEq, Prod.mk.injEq] at he
          obtain ⟨rfl, rfl⟩ := he
          exact ans40 H hu ha hx
        · cases he
      · cases he
    · cases he
  · rename_i x y
    obtain ⟨ux, m, rfl, hx, hr⟩ := hus.consL
    obtain ⟨uy, m, rfl, hy, hr⟩ := hr.consL
    have e0 := hr.nilL
    subst e0
    show Calls Sang.prog f #[ux, uy] w (Ans σ n0 ι h w v h')
    unfold orc2 at he
    cases hn2 : isNat2 f with
    | true =>
      rw [hn2] at he
      simp only [Option.some.injEq] at he
      unfold orc2a at he
      split at he
      · rename_i a b ha hb
        unfold orc2b at he
        split at he
        · exact ans64 H hx hy ha hb he
        · exact ans78 H hx hy ha hb he
        · exact ans80 H hx hy ha hb he
        · exact ans111 H hx hy ha hb he
        · exact ans142 H hx hy ha hb he
        · cases he
      · cases he
    | false =>
      rw [hn2] at he
      simp only at he
      split at he
      · split at he
        · simp only [Option.some.injEq] at he; exact ans41 H hx hy he
        · cases he
      · cases hoa : orAdd h x y with
        | none => rw [hoa] at he; simp [someO] at he
        | some r =>
          rw [hoa] at he
          simp only [someO, Option.some.injEq] at he
          subst he
          exact ans173 H hx hy hoa
      · cases he
  · cases he
end
end Go.Iv
