/-
  What the evaluator says of one operation holds of the model's: append and copy.
-/
import Derived.Test.YgcsanGreatJvE
namespace Go.Jv
open Go
set_option linter.unusedVariables false
set_option linter.unusedSimpArgs false
variable {σ : Va}

section
variable {P : Program} {n0 : Nat} {ι : Im} {h : Hp} {w : World} {ρ : Operand → Value} {o : Oper}

/-- A slice whose spare room is not known to the evaluator grows in place: its block is given up and laid anew at the same place. -/
theorem HRel.regrow (H : HRel σ n0 ι h w) {k q : Nat} {old news news' : List Value} {b p z : Nat} (hr : h.read ⟨k, q, none⟩ old.length = some old) (hi : ι k = some (b, p, z))
    {h1 : Hp} (hk : h.kill k = some h1) {m' : Tr (List Value)} (hs : Tr.set (some (old ++ news)) 64 h1.m h1.next = some m') (hdec : dec σ (old ++ news) = some (old ++ news)) (hn : All2 (CRel σ ι) news news') (hroom : p + q + old.length + news.length ≤ z) :
    ∃ w', (storeCells ⟨b, p + q + old.length, none⟩ news').run P w = .ok () w' ∧ HRel σ n0 (ι.up h1.next (b, p + q, z)) ⟨h1.next + 1, m'⟩ w' ∧ Ext ι h w (ι.up h1.next (b, p + q, z)) ⟨h1.next + 1, m'⟩ w' := by
  obtain ⟨hn1, hg⟩ := Hp.get_kill (σ := σ) hk
  obtain ⟨H1, E1⟩ := H.kill hk
  have hnone : ι h1.next = none := H1.unlaid (Nat.le_refl _)
  have hle := Im.le_up hnone (b, p + q, z)
  obtain ⟨k9, q9, L, e9, hL, r1, r2⟩ := Hp.read_some (σ := σ) hr
  injection e9 with e91 e92
  subst e91; subst e92
  cases hL9 : h.get σ k with
  | none => rw [hL9] at hL; cases hL
  | some L9 =>
    obtain ⟨b2, p2, C, T, hi2, hb, hc⟩ := H.live k L hL
    rw [hi] at hi2
    injection hi2 with hi2
    injection hi2 with e1 e2
    injection e2 with e2 e3
    subst e1; subst e2; subst e3
    have hfit : p + q + old.length + 0 + news'.length ≤ C.size := by rw [← hn.length]; omega
    have hrun := run_storeCells_at (P := P) b (p + q + old.length) T news' 0 C w hb hfit (fun v hv => by
      obtain ⟨i, hi', hv'⟩ := List.getElem_of_mem hv
      obtain ⟨x, _, r⟩ := hn.get' i v (by rw [List.getElem?_eq_getElem hi', hv'])
      exact r.one)
    simp only [Nat.add_zero] at hrun hfit
    have hb' := setRow_heap w b C (C.toList.take (p + q + old.length) ++ news' ++ C.toList.drop (p + q + old.length + news'.length)).toArray T (0, 0) hb
    have hget : ∀ j, (⟨h1.next + 1, m'⟩ : Hp).get σ j = if j = h1.next then some (old ++ news) else h1.get σ j := fun j => by
      have := Hp.get_set (σ := σ) hs (h1.next + 1) j
      rw [hdec] at this
      exact this
    have hsz : (C.toList.take (p + q + old.length) ++ news' ++ C.toList.drop (p + q + old.length + news'.length)).toArray.size = C.size := by simp; omega
    have hkd : h1.get σ k = none := by rw [hg, if_pos rfl]
    have hother : ∀ j l2, h1.get σ j = some l2 → ∃ b3 p3 C3 T3, ι j = some (b3, p3, C3.size) ∧ b3 ≠ b ∧ w.heap[b3]? = some (.cells C3 T3 (0, 0)) ∧ ∀ i v, l2[i]? = some v → ∃ u, C3[p3 + i]? = some u ∧ CRel σ ι v u := by
      intro j l2 e
      have hjk : j ≠ k := fun e' => by rw [e', hkd] at e; cases e
      rw [hg, if_neg hjk] at e
      obtain ⟨b3, p3, C3, T3, hi3, hb3, hc3⟩ := H.live j l2 e
      exact ⟨b3, p3, C3, T3, hi3, fun e' => hjk (H.inj j k b p3 p _ _ (by rw [e]; rfl) (by rw [hL]; rfl) (e' ▸ hi3) hi), hb3, hc3⟩
    have hjn : ∀ j x, ι j = some x → j ≠ h1.next := fun j x e e' => by rw [e', hnone] at e; cases e
    refine ⟨_, hrun, ⟨by simpa using H.base, ?_, ?_, ?_, ?_, ?_, fun x o e => ⟨(H.old x o e).1, by rw [setRow_other w b x _ (fun h => by have := H.low k b p _ hi; have := (H.old x o e).1; omega)]; exact (H.old x o e).2⟩⟩, ⟨hle, by show h.next ≤ h1.next + 1; omega, by simp, ?_, ?_, rfl, rfl, rfl⟩⟩
    · intro j b3 p3 z3 e
      by_cases hj : j = h1.next
      · subst hj; rw [Im.up_self] at e; injection e with e; injection e with e1 e2; subst e1; exact H.low k b p _ hi
      · rw [Im.up_ne _ hj] at e; exact H.low j b3 p3 z3 e
    · intro j x e
      by_cases hj : j = h1.next
      · subst hj; exact Nat.lt_succ_self _
      · rw [Im.up_ne _ hj] at e; have := H1.dom j x e; show j < h1.next + 1; omega
    · intro j b3 p3 z3 e
      rw [setRow_size]
      by_cases hj : j = h1.next
      · subst hj; rw [Im.up_self] at e; injection e with e; injection e with e1 e2; subst e1; exact H.img k b p _ hi
      · rw [Im.up_ne _ hj] at e; exact H.img j b3 p3 z3 e
    · intro j l2 e
      rw [hget] at e
      by_cases hj : j = h1.next
      · rw [if_pos hj] at e
        injection e with e
        subst e
        refine ⟨b, p + q, _, T, by rw [hj, Im.up_self, hsz], hb', ?_⟩
        intro i v hv
        by_cases c1 : i < old.length
        · have ho : old[i]? = some v := by rw [← hv, List.getElem?_append_left c1]
          have hLi : L[q + i]? = some v := by
            rw [← ho, r2, List.getElem?_take_of_lt c1, List.getElem?_drop]
          obtain ⟨u, hu, hr'⟩ := hc (q + i) v hLi
          have hlt := (Array.getElem?_eq_some_iff.1 hu).1
          refine ⟨u, ?_, hr'.mono hle⟩
          rw [← hu, List.getElem?_toArray, List.getElem?_append_left (by simp; omega), List.getElem?_append_left (by simp; omega)]
          rw [List.getElem?_take_of_lt (by omega), Array.getElem?_toList, Nat.add_assoc]
        · have ho : news[i - old.length]? = some v := by rw [← hv, List.getElem?_append_right (by omega)]
          obtain ⟨u, hu, hr'⟩ := hn.get (i - old.length) v ho
          refine ⟨u, ?_, hr'.mono hle⟩
          have hlt := (List.getElem?_eq_some_iff.1 hu).1
          rw [← hu, List.getElem?_toArray, List.getElem?_append_left (by simp; omega), List.getElem?_append_right (by simp; omega)]
          congr 1; simp; omega
      · rw [if_neg hj] at e
        obtain ⟨b3, p3, C3, T3, hi3, hne, hb3, hc3⟩ := hother j l2 e
        refine ⟨b3, p3, C3, T3, by rw [Im.up_ne _ hj]; exact hi3, by rw [setRow_other w b b3 _ hne]; exact hb3, ?_⟩
        intro i v hv
        obtain ⟨u, hu, hr'⟩ := hc3 i v hv
        exact ⟨u, hu, hr'.mono hle⟩
    · intro j j' b3 p3 p3' z3 z3' a1 a2 e1 e2
      rw [hget] at a1 a2
      have notb : ∀ x bb pp zz, x ≠ h1.next → (h1.get σ x).isSome → ι x = some (bb, pp, zz) → bb ≠ b := by
        intro x bb pp zz hx hs' e
        obtain ⟨l2, hl2⟩ := Option.isSome_iff_exists.1 hs'
        obtain ⟨b4, p4, C4, T4, hi4, hne, _, _⟩ := hother x l2 hl2
        rw [e] at hi4
        injection hi4 with hi4
        injection hi4 with hi4 _
        rw [hi4]; exact hne
      by_cases hj : j = h1.next
      · by_cases hj' : j' = h1.next
        · rw [hj, hj']
        · rw [hj, Im.up_self] at e1
          injection e1 with e1; injection e1 with e1 _
          rw [Im.up_ne _ hj'] at e2
          rw [if_neg hj'] at a2
          exact absurd e1.symm (notb j' _ _ _ hj' a2 e2)
      · by_cases hj' : j' = h1.next
        · rw [hj', Im.up_self] at e2
          injection e2 with e2; injection e2 with e2 _
          rw [Im.up_ne _ hj] at e1
          rw [if_neg hj] at a1
          exact absurd e2.symm (notb j _ _ _ hj a1 e1)
        · rw [if_neg hj] at a1
          rw [if_neg hj'] at a2
          rw [Im.up_ne _ hj] at e1
          rw [Im.up_ne _ hj'] at e2
          exact H1.inj j j' b3 p3 p3' z3 z3' a1 a2 e1 e2
    · intro x hx hnx
      exact setRow_other w b x _ (fun e => hnx k p _ (e ▸ hi))
    · intro j b3 p3 z3 e hx
      by_cases hj : j = h1.next
      · subst hj; rw [Im.up_self] at e; injection e with e; injection e with e1 e2; subst e1; exact ⟨k, p, _, hi⟩
      · rw [Im.up_ne _ hj] at e; exact ⟨j, p3, z3, e⟩

/-- what an optional row yields -/
theorem readO_goes (H : HRel σ n0 ι h w) {a : Option Addr} {n len c : Nat} {size : Nat} {l : List Value} {x' : Value} (hx : VRel σ ι (.slice a len c) x') (hr : readO h a (n * size) = some l) :
    ∃ m, All2 (CRel σ ι) l m ∧ m.length = n * size ∧ (Builtin.firstCells size n x').run P w = .ok m.toArray w ∧ (Builtin.firstCells size n x').run P w.drew = .ok m.toArray w.drew := by
  cases a with
  | none =>
    have := hx.nils
    subst this
    simp only [readO] at hr
    cases hb : Nat.beq (n * size) 0 with
    | false => rw [hb] at hr; simp at hr
    | true =>
      rw [hb] at hr
      injection hr with hr
      subst hr
      have h0 := Nat.eq_of_beq_eq_true hb
      exact ⟨[], .nil, by simp [h0], run_firstCells_none w size n len c, run_firstCells_none w.drew size n len c⟩
  | some a =>
    simp only [readO] at hr
    obtain ⟨k, q, b, p, z, rfl, _, hi, m, hm, hlen, hc⟩ := H.read hr
    obtain ⟨k2, q2, b2, p2, z2, c', e, hi2, hcap, rfl⟩ := hx.slc
    injection e with e1 e2
    subst e1; subst e2
    rw [hi] at hi2
    injection hi2 with hi2
    injection hi2 with e1 e2
    injection e2 with e2 e3
    subst e1; subst e2
    refine ⟨m, hm, hlen, run_firstCells_some w size n ⟨b, p + q, none⟩ len c' m hlen hc, run_firstCells_some w.drew size n ⟨b, p + q, none⟩ len c' m hlen (by simpa using hc)⟩

theorem all_one {l m : List Value} (h : All2 (CRel σ ι) l m) : ∀ u ∈ m, u.oneCell' = true := by
  intro v hv
  obtain ⟨i, hi', hv'⟩ := List.getElem_of_mem hv
  obtain ⟨x, _, r⟩ := h.get' i v (by rw [List.getElem?_eq_getElem hi', hv'])
  exact r.one

theorem writeO_goes (H : HRel σ n0 ι h w) {a : Option Addr} {M M' : List Value} {h' : Hp} (hw : writeO h a M = some h') (hM : All2 (CRel σ ι) M M') :
    (a = none ∧ M = [] ∧ M' = [] ∧ h' = h) ∨ ∃ k q b p z, a = some ⟨k, q, none⟩ ∧ ι k = some (b, p, z) ∧ ∃ w', (storeCells ⟨b, p + q, none⟩ M').run P w = .ok () w' ∧ HRel σ n0 ι h' w' ∧ Ext ι h w ι h' w' := by
  cases a with
  | none =>
    simp only [writeO] at hw
    cases M with
    | nil => simp only [Option.some.injEq] at hw; exact .inl ⟨rfl, rfl, hM.nilL, hw.symm⟩
    | cons x M => simp at hw
  | some a =>
    simp only [writeO] at hw
    obtain ⟨k, q, b, p, z, rfl, hi, rest⟩ := H.write (P := P) hw hM
    exact .inr ⟨k, q, b, p, z, rfl, hi, rest⟩

theorem minN_eq (a b : Nat) : minN a b = Nat.min a b := by
  unfold minN
  by_cases h : a ≤ b
  · rw [bleT h]; exact (Nat.min_eq_left h).symm
  · rw [bleF h]; show b = Nat.min a b; exact (Nat.min_eq_right (by omega)).symm

theorem copyLong_some {n : Nat} {d s : Option Addr} {out : Out} (he : copyLong h n d s = some out) :
    ∃ k q k2 q2 L L2 v N N2, d = some ⟨k, q, none⟩ ∧ s = some ⟨k2, q2, none⟩ ∧ (h.get σ k = some L ∧ L = List.replicate N v) ∧ h.get σ k2 = some L2 ∧ q + n ≤ N ∧ q2 + n ≤ N2 ∧ L2 = List.replicate N2 v ∧ constC v = true ∧ out = .val (.int .i64 (Int.ofNat n)) h := by
  unfold copyLong at he
  split at he
  · rename_i k q k2 q2
    cases hs : sameRep n q q2 (repAt h k) (repAt h k2) with
    | false => rw [hs] at he; simp at he
    | true =>
      rw [hs] at he
      simp only [mk, Option.some.injEq] at he
      have rep : ∀ j N v, repAt h j = some (N, v) → h.get σ j = some (List.replicate N v) := by
        intro j N v hj
        unfold repAt at hj
        cases hr : h.raw j with
        | none => rw [hr] at hj; simp at hj
        | some l =>
          rw [hr] at hj
          unfold Hp.get
          rw [hr, decO, dec_rep hj]
      cases h1 : repAt h k with
      | none => rw [h1] at hs; simp [sameRep] at hs
      | some a =>
        cases h2 : repAt h k2 with
        | none => rw [h1, h2] at hs; simp [sameRep] at hs
        | some b =>
          obtain ⟨N, v⟩ := a
          obtain ⟨N2, v2⟩ := b
          rw [h1, h2] at hs
          simp only [sameRep, Bool.and_eq_true] at hs
          obtain ⟨c1, c2, c3, c4⟩ := hs
          have hv : v = v2 := by
            unfold beqZ at c2
            split at c2
            · rw [Nat.eq_of_beq_eq_true c2]
            · cases c2
          subst hv
          exact ⟨k, q, k2, q2, _, _, v, N, N2, rfl, rfl, ⟨rep k N v h1, rfl⟩, rep k2 N2 v h2, Nat.le_of_ble_eq_true c3, Nat.le_of_ble_eq_true c4, rfl, c1, he.symm⟩
  · cases he
theorem lay0_rep (v : Value) : ∀ (N n : Nat), n ≤ N → lay0 (List.replicate N v) (List.replicate n v) = some (List.replicate N v) := by
  intro N
  induction N with
  | zero => intro n h; rw [show n = 0 by omega]; rfl
  | succ N ih =>
    intro n h
    cases n with
    | zero => rfl
    | succ n =>
      simp only [List.replicate_succ, lay0]
      rw [ih n (by omega)]; rfl
theorem lay_rep (v : Value) : ∀ (N q n : Nat), q + n ≤ N → lay (List.replicate N v) q (List.replicate n v) = some (List.replicate N v) := by
  intro N
  induction N with
  | zero => intro q n h; rw [show q = 0 by omega, show n = 0 by omega]; rfl
  | succ N ih =>
    intro q n h
    cases q with
    | zero => simp only [lay]; exact lay0_rep v _ _ (by omega)
    | succ q =>
      simp only [List.replicate_succ, lay]
      rw [ih q n (by omega)]; rfl

theorem goes_copy (H : HRel σ n0 ι h w) {t ty u : TypeId} {d s d' s' : Value} (hd : VRel σ ι d d') (hs : VRel σ ι s s') {out : Out} (he : evalCopy P h t d s = some out)
    (hr : execOp ρ o = (do pure (.value (← Builtin.copy_ #[t, u] ty #[d', s'])) : Sem Next)) : OpGoes σ P n0 ι h w ρ o out := by
  unfold evalCopy at he
  cases hu : P.underlying t with
  | none => rw [hu] at he; simp at he
  | some dd =>
    rw [hu] at he
    cases dd with
    | slice elem =>
      simp only at he
      cases hz : sizeOfT P elem with
      | none => rw [hz] at he; simp at he
      | some size =>
        rw [hz] at he
        simp only at he
        cases d with
        | slice base dLen dc =>
          cases s with
          | slice sb sLen sc =>
            simp only at he
            cases hlong : (Nat.beq size 1 && Nat.ble 4097 (minN sLen dLen)) with
            | true =>
              rw [hlong] at he
              simp only [Bool.and_eq_true] at hlong
              have hs1 : size = 1 := Nat.eq_of_beq_eq_true hlong.1
              subst hs1
              simp only at he
              obtain ⟨k, q, k2, q2, L, L2, v, N, N2, rfl, rfl, g1, g2, g3, g4, g5, hcv, rfl⟩ := copyLong_some (σ := σ) he
              rw [minN_eq] at g3 g4 ⊢
              obtain ⟨b2, p2, z2, hi2, m, hm, hlen, hcell⟩ := H.readSem (o := q2) (n := Nat.min sLen dLen) g2 (by rw [g5]; simp; omega)
              have hmr : (L2.drop q2).take (Nat.min sLen dLen) = List.replicate (Nat.min sLen dLen) v := by
                rw [g5]; simp only [List.drop_replicate, List.take_replicate]; congr 1; omega
              rw [hmr] at hm
              have hlay : lay (List.replicate N v) q (List.replicate (Nat.min sLen dLen) v) = some (List.replicate N v) := lay_rep v _ _ _ g3
              obtain ⟨b, p, z, hi, w', hst, H', E⟩ := H.writeSem (P := P) (h' := h) g1.1 (by rw [g1.2]; exact hlay) rfl (fun j => by by_cases e : j = k <;> simp only [e, if_true, if_false] ; rw [g1.1, g1.2]) hm
              obtain ⟨k3, q3, b3, p3, z3, c3, e3, hi3, _, rfl⟩ := hd.slc
              injection e3 with e31 e32
              subst e31; subst e32
              rw [hi] at hi3
              injection hi3 with hi3
              injection hi3 with f1 f2
              injection f2 with f2 f3
              subst f1; subst f2
              obtain ⟨k4, q4, b4, p4, z4, c4, e4, hi4, _, rfl⟩ := hs.slc
              injection e4 with e41 e42
              subst e41; subst e42
              rw [hi2] at hi4
              injection hi4 with hi4
              injection hi4 with f1 f2
              injection f2 with f2 f3
              subst f1; subst f2
              have hf := run_firstCells_some (P := P) w 1 (Nat.min sLen dLen) ⟨b2, p2 + q2, none⟩ sLen c4 m (by rw [hlen]; omega) hcell
              refine ⟨ι, w', .int .i64 (Int.ofNat (Nat.min sLen dLen)), .inl ?_, .cell (.int _ _), H', E⟩
              rw [hr]
              have hlen' : (Builtin.lenOf (.slice (some ⟨b2, p2 + q2, none⟩) sLen c4)).run P w = .ok sLen w := rfl
              simp only [Builtin.copy_, Sem.run_bind, run_under hu, Result.andThen_ok, hlen', (sizeOfT_some (w := w) hz).1, hf, Sem.run_pure, List.getElem?_toArray, List.getElem?_cons_zero, List.getElem?_cons_succ, goInt, hst]
              rfl
            | false =>
            rw [hlong] at he
            simp only at he
            cases hc : readO h sb (Nat.mul (minN sLen dLen) size) with
            | none => rw [hc] at he; simp [copy2] at he
            | some cells =>
              rw [hc] at he
              simp only [copy2] at he
              cases hw : writeO h base cells with
              | none => rw [hw] at he; simp [mkH] at he
              | some h' =>
                rw [hw] at he
                simp only [mkH, Option.some.injEq] at he
                subst he
                rw [minN_eq] at hc ⊢
                obtain ⟨m, hm, hlen, hf, _⟩ := readO_goes (P := P) H hs hc
                have hlen' : (Builtin.lenOf s').run P w = .ok sLen w := by
                  cases sb with
                  | none => rw [hs.nils]; rfl
                  | some a => obtain ⟨k, q, b, p, z, c', _, _, _, rfl⟩ := hs.slc; rfl
                rcases writeO_goes (P := P) H hw hm with ⟨rfl, rfl, rfl, rfl⟩ | ⟨k, q, b, p, z, rfl, hi, w', hst, H', E⟩
                · refine goes_value H (u := .int .i64 (Int.ofNat (Nat.min sLen dLen))) ?_ (.cell (.int _ _))
                  rw [hr, hd.nils]
                  simp only [Builtin.copy_, Sem.run_bind, run_under hu, Result.andThen_ok, hlen', (sizeOfT_some (w := w) hz).1, hf, Sem.run_pure, List.getElem?_toArray, List.getElem?_cons_zero, List.getElem?_cons_succ, goInt]
                  rfl
                · obtain ⟨k2, q2, b2, p2, z2, c', e, hi2, hcap, rfl⟩ := hd.slc
                  injection e with e1 e2
                  subst e1; subst e2
                  rw [hi] at hi2
                  injection hi2 with hi2
                  injection hi2 with e1 e2
                  injection e2 with e2 e3
                  subst e1; subst e2
                  refine ⟨ι, w', .int .i64 (Int.ofNat (Nat.min sLen dLen)), .inl ?_, .cell (.int _ _), H', E⟩
                  rw [hr]
                  simp only [Builtin.copy_, Sem.run_bind, run_under hu, Result.andThen_ok, hlen', (sizeOfT_some (w := w) hz).1, hf, Sem.run_pure, List.getElem?_toArray, List.getElem?_cons_zero, List.getElem?_cons_succ, goInt, hst]
                  rfl
          | _ => simp at he
        | _ => simp at he
    | _ => simp at he

/-! rows of bytes that are not known -/
theorem beqP_eq : ∀ {x y : List Value}, beqP x y = true → x = y := by
  intro x
  induction x with
  | nil =>
    intro y h
    cases y with
    | nil => rfl
    | cons => simp [beqP] at h
  | cons a l ih =>
    intro y h
    unfold beqP at h
    split at h
    · rename_i h1; cases h1
    · rename_i a1 l1 b1 m1 h1
      injection h1 with e1 e2
      subst e1; subst e2
      cases hb : Nat.beq a1 b1 with
      | false => rw [hb] at h; simp at h
      | true => rw [hb] at h; rw [Nat.eq_of_beq_eq_true hb, ih h]
    · rename_i a1 l1 b1 m1 h1
      injection h1 with e1 e2
      subst e1; subst e2
      cases hb : Nat.beq a1 b1 with
      | false => rw [hb] at h; simp at h
      | true => rw [hb] at h; rw [Nat.eq_of_beq_eq_true hb, ih h]
    · cases h
theorem symAt_some {k j : Nat} {e : List Value} (hs : symAt h k = some (j, e)) : h.get σ k = symD σ j e := by
  unfold symAt at hs
  cases hr : h.raw k with
  | none => rw [hr] at hs; simp at hs
  | some l =>
    rw [hr] at hs
    unfold Hp.get
    rw [hr, decO, dec_sym hs]
theorem rowD_length (n : Nat) : (rowD σ n).length = n := by unfold rowD; simp
/-- a row as it lies -/
theorem rowAt_some {v u : Value} {k j : Nat} {L : List Int} (hr : rowAt h v = some (k, j, L)) (hv : VRel σ ι v u) :
    ∃ b q z c R N, ι k = some (b, q, z) ∧ u = .slice (some ⟨b, q, none⟩) N c ∧ evL L σ.xs = (N : Nat) ∧ 1 ≤ N ∧ N ≤ c ∧ c ≤ maxLen ∧ h.get σ k = some R ∧ R.length = N ∧ ((j = 1 ∧ R = List.replicate N (byteV 0)) ∨ (j = 2 ∧ R = (rowD σ N).map byteV)) := by
  unfold rowAt at hr
  cases hrt : rowT v with
  | none => rw [hrt] at hr; simp [rowAt1] at hr
  | some ke =>
    obtain ⟨k0, e⟩ := ke
    rw [hrt] at hr
    simp only [rowAt1] at hr
    cases hs : symAt h k0 with
    | none => rw [hs] at hr; simp [rowAt2] at hr
    | some je =>
      obtain ⟨j0, e'⟩ := je
      rw [hs] at hr
      simp only [rowAt2] at hr
      split at hr
      · rename_i hb
        simp only [Bool.and_eq_true] at hb
        simp only [Option.some.injEq, Prod.mk.injEq] at hr
        obtain ⟨rfl, rfl, rfl⟩ := hr
        have he := beqP_eq hb.2.2
        subst he
        rw [rowT_some hrt] at hv
        obtain ⟨b, q, z, c, hk, h1, h2, h3, rfl⟩ := hv.tokOf.row
        rw [List.toList_toArray] at h1 h2 ⊢
        have h4 : 1 ≤ j0 := Nat.le_of_ble_eq_true hb.1
        have h5 : j0 ≤ 2 := Nat.le_of_ble_eq_true hb.2.1
        have hg := symAt_some (σ := σ) hs
        have hN : evL (decE e) σ.xs = (evE σ e : Nat) := by unfold evE at h1 ⊢; omega
        match j0, h4, h5 with
        | 1, _, _ => exact ⟨b, q, z, c, _, _, hk, rfl, hN, h1, h2, h3, hg, by simp, .inl ⟨rfl, rfl⟩⟩
        | 2, _, _ => exact ⟨b, q, z, c, _, _, hk, rfl, hN, h1, h2, h3, hg, by simp [rowD_length], .inr ⟨rfl, rfl⟩⟩
      · cases hr
theorem rowD_take {m n : Nat} (hmn : m ≤ n) : (rowD σ n).take m = rowD σ m := by
  unfold rowD
  apply List.ext_getElem?
  intro i
  by_cases hi : i < m
  · rw [List.getElem?_take_of_lt hi, List.getElem?_take_of_lt (by omega), List.getElem?_take_of_lt hi]
    by_cases hd : i < σ.data.length
    · rw [List.getElem?_append_left hd, List.getElem?_append_left hd]
    · rw [List.getElem?_append_right (by omega), List.getElem?_append_right (by omega), List.getElem?_replicate, List.getElem?_replicate, if_pos (by omega), if_pos (by omega)]
  · rw [List.getElem?_eq_none (by simp; omega), List.getElem?_eq_none (by simp; omega)]
theorem rowD_zeros {m n : Nat} (hmn : m ≤ n) (hd : σ.data.length ≤ m) : rowD σ m ++ List.replicate (n - m) 0 = rowD σ n := by
  unfold rowD
  apply List.ext_getElem?
  intro i
  by_cases hi : i < m
  · rw [List.getElem?_append_left (by simp; omega), List.getElem?_take_of_lt hi, List.getElem?_take_of_lt (by omega)]
    by_cases hd : i < σ.data.length
    · rw [List.getElem?_append_left hd, List.getElem?_append_left hd]
    · rw [List.getElem?_append_right (by omega), List.getElem?_append_right (by omega), List.getElem?_replicate, List.getElem?_replicate, if_pos (by omega), if_pos (by omega)]
  · rw [List.getElem?_append_right (by simp; omega)]
    have e : ((σ.data ++ List.replicate m 0).take m).length = m := by simp
    rw [e]
    by_cases hn : i < n
    · rw [List.getElem?_replicate, if_pos (by omega), List.getElem?_take_of_lt hn, List.getElem?_append_right (by omega), List.getElem?_replicate, if_pos (by omega)]
    · rw [List.getElem?_replicate, if_neg (by omega), List.getElem?_eq_none (by simp; omega)]
theorem lay0_ok : ∀ (l M : List Value), M.length ≤ l.length → lay0 l M = some (M ++ l.drop M.length) := by
  intro l
  induction l with
  | nil => intro M h; cases M with | nil => rfl | cons => simp at h
  | cons v l ih =>
    intro M h
    cases M with
    | nil => rfl
    | cons m M => simp only [lay0]; rw [ih M (by simpa using h)]; simp [consO]
theorem lay_ok {l M : List Value} (h : M.length ≤ l.length) : lay l 0 M = some (M ++ l.drop M.length) := by
  have : lay l 0 M = lay0 l M := by cases l <;> rfl
  rw [this, lay0_ok l M h]
theorem symD_row2 (e : List Int) : dec σ [.map (some 2), .tuple (encE e).toArray] = some ((rowD σ (evL e σ.xs).toNat).map byteV) := by
  show symD σ 2 (encE e).toArray.toList = _
  rw [List.toList_toArray]
  simp only [symD, evE_enc]
theorem putSym_some {k : Nat} {e r : List Int} {out : Out} (he : putSym h k e r = some out) :
    ∃ v h', out = .val v h' ∧ CRel σ ι v (.int .i64 (evL r σ.xs)) ∧ h'.next = h.next ∧ ∀ m, h'.get σ m = if m = k then some ((rowD σ (evL e σ.xs).toNat).map byteV) else h.get σ m := by
  unfold putSym at he
  cases hr : rangeI .i64 r with
  | none => rw [hr] at he; simp at he
  | some v =>
    rw [hr] at he
    simp only at he
    cases hp : h.put k [.map (some 2), .tuple (encE e).toArray] with
    | none => rw [hp] at he; simp [mkH] at he
    | some h' =>
      rw [hp] at he
      simp only [mkH, Option.some.injEq] at he
      obtain ⟨g1, g2⟩ := Hp.get_put (σ := σ) hp
      refine ⟨v, h', he.symm, (rangeI_rel hr).1, g1, fun m => ?_⟩
      rw [g2 m, symD_row2]
theorem byteV_rel (l : List Nat) : All2 (CRel σ ι) (l.map byteV) (l.map byteV) := by
  induction l with
  | nil => exact .nil
  | cons a l ih => exact .cons (.int _ _) ih

theorem goes_tokCopy (H : HRel σ n0 ι h w) {t ty u : TypeId} {d s d' s' : Value} (hd : VRel σ ι d d') (hs : VRel σ ι s s') {out : Out} (he : tokCopy P h t d s = some out)
    (hr : execOp ρ o = (do pure (.value (← Builtin.copy_ #[t, u] ty #[d', s'])) : Sem Next)) : OpGoes σ P n0 ι h w ρ o out := by
  unfold tokCopy at he
  split at he
  · rename_i elem hu
    cases hz : sizeOfT P elem with
    | none => rw [hz] at he; simp at he
    | some size =>
      rw [hz] at he
      simp only at he
      cases hb : Nat.beq size 1 with
      | false => rw [hb] at he; simp at he
      | true =>
        rw [hb] at he
        have hs1 := Nat.eq_of_beq_eq_true hb
        subst hs1
        simp only at he
        cases hrd : rowAt h d with
        | none => rw [hrd] at he; simp [copy1] at he
        | some x =>
          obtain ⟨k, j, L⟩ := x
          rw [hrd] at he
          obtain ⟨b, q, z, c, R, N, hk, rfl, hN, hN1, hNc, hc, hR, hRl, hRj⟩ := rowAt_some hrd hd
          cases hrs : rowAt h s with
          | none =>
            rw [hrs] at he
            simp only [copy1] at he
            split at he
            · rename_i a c2
              simp only [mk, Option.some.injEq] at he
              subst he
              refine goes_value H (u := .int .i64 0) ?_ (.cell (.int _ _))
              have hs2 : ∃ a' c', s' = .slice a' 0 c' := by
                cases a with
                | none => exact ⟨_, _, hs.nils⟩
                | some a => obtain ⟨_, _, _, _, _, c', _, _, _, e⟩ := hs.slc; exact ⟨_, _, e⟩
              obtain ⟨a', c', rfl⟩ := hs2
              have hlen' : (Builtin.lenOf (.slice a' 0 c')).run P w = .ok 0 w := rfl
              have hf : (Builtin.firstCells 1 0 (.slice a' 0 c')).run P w = .ok #[] w := by
                cases a' with
                | none => exact run_firstCells_none w 1 0 0 c'
                | some a' => exact run_firstCells_some w 1 0 a' 0 c' [] rfl (fun j v hj => by simp at hj)
              have hst : (storeCells ⟨b, q, none⟩ []).run P w = .ok () w := rfl
              rw [hr]
              have hmin : Nat.min 0 N = 0 := Nat.zero_min N
              simp only [Builtin.copy_, Sem.run_bind, run_under hu, Result.andThen_ok, hlen', (sizeOfT_some (w := w) hz).1, hf, Sem.run_pure, List.getElem?_toArray, List.getElem?_cons_zero, List.getElem?_cons_succ, goInt, hmin]
              rfl
            · cases he
          | some y =>
            obtain ⟨k2, j2, M⟩ := y
            rw [hrs] at he
            obtain ⟨b2, q2, z2, c2, R2, N2, hk2, rfl, hN2, hN21, hN2c, hc2, hR2, hR2l, hR2j⟩ := rowAt_some hrs hs
            simp only [copy1, copyT] at he
            cases hj2 : Nat.beq j2 2 with
            | false => rw [hj2] at he; simp at he
            | true =>
              rw [hj2] at he
              have hj2 := Nat.eq_of_beq_eq_true hj2
              have hR2d : R2 = (rowD σ N2).map byteV := by
                rcases hR2j with ⟨e, _⟩ | ⟨_, e⟩
                · omega
                · exact e
              simp only at he
              -- what is common: n cells go over
              have common : ∀ (n : Nat) (r : List Int), Nat.min N2 N = n → evL r σ.xs = (n : Nat) → (rowD σ n).map byteV ++ R.drop n = (rowD σ N).map byteV → putSym h k L r = some out → OpGoes σ P n0 ι h w ρ o out := by
                intro n r hn hr1 hlay hput
                have hnle : n ≤ N ∧ n ≤ N2 := by
                  rw [← hn]; exact ⟨Nat.min_le_right _ _, Nat.min_le_left _ _⟩
                obtain ⟨v, h', rfl, hv, hnx, hg⟩ := putSym_some (σ := σ) (ι := ι) hput
                obtain ⟨b3, p3, z3, hk3, m, hm, hml, hcell⟩ := H.readSem (o := 0) (n := n) hR2 (by rw [hR2l]; omega)
                rw [hk2] at hk3
                injection hk3 with hk3
                injection hk3 with f1 f2
                injection f2 with f2 f3
                subst f1; subst f2
                have hm2 : (R2.drop 0).take n = (rowD σ n).map byteV := by
                  rw [List.drop_zero, hR2d, ← List.map_take, rowD_take hnle.2]
                rw [hm2] at hm
                have hl2 : ((rowD σ n).map byteV).length = n := by simp [rowD_length]
                have hlay2 : lay R 0 ((rowD σ n).map byteV) = some ((rowD σ N).map byteV) := by
                  rw [lay_ok (by rw [hl2, hRl]; exact hnle.1), hl2, hlay]
                rw [hN, Int.toNat_natCast] at hg
                obtain ⟨b4, p4, z4, hk4, w', hst, H', E⟩ := H.writeSem (P := P) hR hlay2 hnx hg hm
                rw [hk] at hk4
                injection hk4 with hk4
                injection hk4 with f1 f2
                injection f2 with f2 f3
                subst f1; subst f2
                have hf := run_firstCells_some (P := P) w 1 n ⟨b2, q2, none⟩ N2 c2 m (by rw [hml]; omega) hcell
                rw [hr1] at hv
                refine ⟨ι, w', .int .i64 (n : Int), .inl ?_, .cell hv, H', E⟩
                rw [hr]
                have hlen' : (Builtin.lenOf (.slice (some ⟨b2, q2, none⟩) N2 c2)).run P w = .ok N2 w := rfl
                simp only [Nat.add_zero] at hst
                simp only [Builtin.copy_, Sem.run_bind, run_under hu, Result.andThen_ok, hlen', (sizeOfT_some (w := w) hz).1, hn, hf, Sem.run_pure, List.getElem?_toArray, List.getElem?_cons_zero, List.getElem?_cons_succ, goInt, hst]
              cases hge : geE M L with
              | true =>
                rw [hge] at he
                have h9 := geE_ev (σ := σ) hge
                rw [hN, hN2] at h9
                refine common N L (Nat.min_eq_right (by omega)) hN ?_ he
                rw [List.drop_of_length_le (by omega), List.append_nil]
              | false =>
                rw [hge] at he
                simp only at he
                split at he
                · rename_i hb2
                  simp only [Bool.and_eq_true, Bool.or_eq_true] at hb2
                  have h9 := geE_ev (σ := σ) hb2.1
                  rw [hN, hN2] at h9
                  refine common N2 M (Nat.min_eq_left (by omega)) hN2 ?_ he
                  rcases hRj with ⟨rfl, hR1⟩ | ⟨rfl, hR1⟩
                  · rcases hb2.2 with e | e
                    · simp at e
                    · have h8 := geE_ev (σ := σ) e
                      rw [hN2, σ.okl] at h8
                      rw [hR1, List.drop_replicate, ← rowD_zeros (σ := σ) (show N2 ≤ N by omega) (by omega)]
                      simp [List.map_append, List.map_replicate]
                  · rw [hR1, ← rowD_take (σ := σ) (show N2 ≤ N by omega), List.map_take, List.take_append_drop]
                · cases he
  · cases he

theorem zeroFits_some {i : TypeInfo} (h : zeroFits i = true) : ∃ z, i.zero = some z ∧ z.cells.size = i.size := by
  unfold zeroFits at h
  cases hz : constO i.zero with
  | none => rw [hz] at h; simp at h
  | some z =>
    rw [hz] at h
    exact ⟨z, (constO_some hz).1, by simpa using Nat.eq_of_beq_eq_true h⟩

theorem nextcap_le {need c : Nat} (h1 : need ≤ 1048576) (h2 : c < need) : Builtin.nextslicecap need c ≤ 2097152 + need := by
  unfold Builtin.nextslicecap
  split
  · omega
  · split
    · omega
    · simp only [Builtin.growBy]
      split
      · omega
      · split
        · omega
        · split
          · omega
          · split <;> omega

theorem grownCap_ge (w : World) (need old : Nat) (e : TypeId) : need ≤ grownCap w need old e := by
  unfold grownCap
  simp only [Question.cut]
  omega

theorem zeroCells_length (z : Array Value) (n : Nat) : (Builtin.zeroCells z n).size = n * z.size := by simp [Builtin.zeroCells]

theorem goes_append (H : HRel σ n0 ι h w) {t u ty : TypeId} {s x s' x' : Value} (hs : VRel σ ι s s') (hx : VRel σ ι x x') {out : Out} (he : evalAppend P h t u s x = some out)
    (hr : execOp ρ o = (do pure (.value (← Builtin.append_ #[t, u] ty #[s', x'])) : Sem Next)) : OpGoes σ P n0 ι h w ρ o out := by
  unfold evalAppend at he
  cases ht : P.underlying t with
  | none => rw [ht] at he; simp at he
  | some dt =>
    cases hu : P.underlying u with
    | none => rw [ht, hu] at he; cases dt <;> simp at he
    | some du =>
      rw [ht, hu] at he
      cases dt with
      | slice elem =>
        cases du with
        | slice elem2 =>
          simp only at he
          cases hi : P.info? elem with
          | none => rw [hi] at he; simp at he
          | some i =>
            rw [hi] at he
            simp only at he
            cases s with
            | slice base sLen sCap =>
              cases x with
              | slice xb n xc =>
                simp only at he
                cases hnews : readO h xb (Nat.mul n i.size) with
                | none => rw [hnews] at he; simp [append2] at he
                | some news =>
                  cases hold : readO h base (Nat.mul sLen i.size) with
                  | none => rw [hnews, hold] at he; simp [append2] at he
                  | some old =>
                    rw [hnews, hold] at he
                    simp only [append2] at he
                    cases hck : (Nat.ble 1 i.size && (Nat.ble i.bytes 1048576 && (zeroFits i && (capFits sCap i.size && Nat.ble (capLow sCap) 1048576)))) with
                    | false => rw [hck] at he; simp at he
                    | true =>
                      rw [hck] at he
                      simp only [Bool.and_eq_true] at hck
                      obtain ⟨k1, k2, k3, k4, k5⟩ := hck
                      have k1 := Nat.le_of_ble_eq_true k1
                      have k2 := Nat.le_of_ble_eq_true k2
                      have k5 := Nat.le_of_ble_eq_true k5
                      simp only at he
                      obtain ⟨nm, hnm, hnl, hnf, hnfd⟩ := readO_goes (P := P) H hx hnews
                      obtain ⟨om, hom, hol, hof, hofd⟩ := readO_goes (P := P) H hs hold
                      have hlenx : ∀ w' : World, (Builtin.lenOf x').run P w' = .ok n w' := by
                        intro w'
                        cases xb with
                        | none => rw [hx.nils]; rfl
                        | some a => obtain ⟨k, q, b, p, z, c', _, _, _, rfl⟩ := hx.slc; rfl
                      have hsrc : Src P i.size u x' n nm w := ⟨.inl ⟨elem2, hu⟩, hlenx, hnf, hnfd, hnl, all_one hnm⟩
                      have hnewsl : news.length = n * i.size := by rw [hnm.length, hnl]
                      have holdl : old.length = sLen * i.size := by rw [hom.length, hol]
                      cases hroom : Nat.ble (Nat.add sLen n) (capLow sCap) with
                      | true =>
                        -- there is room
                        rw [hroom] at he
                        have hroom := Nat.le_of_ble_eq_true hroom
                        simp only at he
                        cases hw : writeO h (addO base (Nat.mul sLen i.size)) news with
                        | none => rw [hw] at he; simp [mkH] at he
                        | some h' =>
                          rw [hw] at he
                          simp only [mkH, Option.some.injEq] at he
                          subst he
                          cases base with
                          | none =>
                            have e := hs.nils
                            subst e
                            rcases writeO_goes (P := P) H hw hnm with ⟨_, e1, e2, rfl⟩ | ⟨k, q, b, p, z, e, _⟩
                            · have hcl : capLow sCap ≤ sCap := Nat.mod_le _ _
                              have hrm : sLen + n ≤ sCap := Nat.le_trans hroom hcl
                              subst e2
                              refine goes_value H (u := .slice none (sLen + n) sCap) ?_ (.cell (.nils _ _))
                              rw [hr]
                              simp [Builtin.append_, run_underlying ht, run_underlying hu, sizeOf, typeInfo, hi, hlenx, hrm, hnf]
                            · simp [addO] at e
                          | some a =>
                            obtain ⟨k, q, b, p, z, c', rfl, hk, hcap, rfl⟩ := hs.slc
                            obtain ⟨g1, g2, g3⟩ := capRel_room hcap k4
                            rcases writeO_goes (P := P) H hw hnm with ⟨e, _⟩ | ⟨k2', q2, b2, p2, z2, e, hk2, w', hst, H', E⟩
                            · simp [addO] at e
                            · simp only [addO, addr_add, Option.some.injEq, Addr.mk.injEq, and_true] at e
                              obtain ⟨e1, e2⟩ := e
                              subst e1
                              rw [hk] at hk2
                              injection hk2 with hk2
                              injection hk2 with e1 e3
                              injection e3 with e3 e4
                              subst e1; subst e3; subst e4; subst e2
                              have hrm : sLen + n ≤ c' := Nat.le_trans hroom g1
                              refine ⟨ι, w', .slice (some ⟨b, p + q, none⟩) (sLen + n) c', .inl ?_, .cell (.slc hk hcap), H', E⟩
                              have hst' : (storeCells ⟨b, p + q + sLen * i.size, none⟩ nm).run P w = .ok () w' := by
                                rw [show p + q + sLen * i.size = p + (q + sLen * i.size) by omega]; exact hst
                              rw [hr]
                              simp [Builtin.append_, run_underlying ht, run_underlying hu, sizeOf, typeInfo, hi, hlenx, hrm, hnf, addr_add, hst']
                      | false =>
                        rw [hroom] at he
                        have hno : capLow sCap < sLen + n := by
                          rcases Nat.lt_or_ge (capLow sCap) (sLen + n) with e | e
                          · exact e
                          · have : Nat.ble (Nat.add sLen n) (capLow sCap) = true := bleT e
                            rw [hroom] at this; cases this
                        simp only at he
                        cases hsm : Nat.ble (Nat.add sLen n) 1048576 with
                        | false => rw [hsm] at he; simp at he
                        | true =>
                          rw [hsm] at he
                          have hsm : sLen + n ≤ 1048576 := Nat.le_of_ble_eq_true hsm
                          simp only at he
                          obtain ⟨z0, hz0, hzs⟩ := zeroFits_some k3
                          -- a new block, whatever the memory h1 is that bears the world
                          have fresh : ∀ (h1 : Hp) (c' : Nat) (base' : Option Addr), HRel σ n0 ι h1 w → Ext ι h w ι h1 w → s' = .slice base' sLen c' → c' < sLen + n → newBlock h1 (old ++ news) (fun a => .slice (some a) (Nat.add sLen n) (capAt (Nat.add sLen n) i.size)) = some out → OpGoes σ P n0 ι h w ρ o out := by
                            intro h1 c' base' H1 E1 es hlt he
                            obtain ⟨ho, m', rfl, hset⟩ := newBlock_some he
                            have hfit : Builtin.nextslicecap (sLen + n) c' * i.bytes ≤ 281474976710656 := by
                              have h1 := nextcap_le hsm hlt
                              have : Builtin.nextslicecap (sLen + n) c' * i.bytes ≤ 3145728 * 1048576 := Nat.mul_le_mul (by omega) k2
                              omega
                            have hgrow := run_append_grow_src w t u ty elem i z0 ht hi hz0 base' sLen c' om (by rw [← es]; exact hofd) x' n nm hsrc hlt (by omega) hfit
                            obtain ⟨n1, m1⟩ := h1
                            obtain ⟨H2, E2⟩ := (H1.drew (w.drawn + 1)).new (rest := (Builtin.zeroCells z0.cells (grownCap w (sLen + n) c' elem - (sLen + n))).toList) hset (okCells_dec ho) (hom.append hnm) elem
                            refine ⟨_, _, .slice (some ⟨w.heap.size, 0, none⟩) (sLen + n) (grownCap w (sLen + n) c' elem), .inl ?_, .cell ?_, H2, E1.trans ((Ext.drew ι ⟨n1, m1⟩ w (w.drawn + 1)).trans E2)⟩
                            · rw [hr, es]
                              simp only [Sem.run_bind, hgrow, Result.andThen_ok, Sem.run_pure]
                              congr 3
                              apply Array.ext'
                              simp
                            · refine .slc (o := 0) (Im.up_self _ _ _) ?_
                              have hb : sLen + n < big := by simp [big]; omega
                              refine ⟨fun hb' => absurd (capAt_big _ _) hb', fun _ => ?_⟩
                              have e1 : Nat.add sLen n = sLen + n := rfl
                              rw [e1, capAt_mod hb, capAt_div hb]
                              have hge := grownCap_ge w (sLen + n) c' elem
                              refine ⟨hge, ?_⟩
                              simp only [List.length_append, hol, hnl, Array.length_toList, zeroCells_length, hzs]
                              rw [← Nat.add_mul, ← Nat.add_mul]
                              have : sLen + n + (grownCap w (sLen + n) c' elem - (sLen + n)) = grownCap w (sLen + n) c' elem := by omega
                              rw [this]; omega
                          unfold killO at he
                          cases hbig : Nat.ble big sCap with
                          | false =>
                            rw [hbig] at he
                            simp only [growO] at he
                            cases base with
                            | none =>
                              have e := hs.nils
                              have hnb : ¬ big ≤ sCap := fun h' => by rw [bleT h'] at hbig; cases hbig
                              have hcl : capLow sCap = sCap := Nat.mod_eq_of_lt (by omega)
                              exact fresh h sCap none H (Ext.refl _ _ _) e (by omega) he
                            | some a =>
                              obtain ⟨k, q, b, p, z, c', rfl, hk, hcap, rfl⟩ := hs.slc
                              obtain ⟨g1, g2, g3⟩ := capRel_room hcap k4
                              exact fresh h c' _ H (Ext.refl _ _ _) rfl (by rw [g2 hbig]; exact hno) he
                          | true =>
                            rw [hbig] at he
                            cases base with
                            | none => simp [growO] at he
                            | some a =>
                              obtain ⟨k, q, b, p, z, c', rfl, hk, hcap, rfl⟩ := hs.slc
                              obtain ⟨g1, g2, g3⟩ := capRel_room hcap k4
                              simp only at he
                              cases hkill : h.kill k with
                              | none => rw [hkill] at he; simp [growO] at he
                              | some h1 =>
                                rw [hkill] at he
                                simp only [growO] at he
                                obtain ⟨H1, E1⟩ := H.kill hkill
                                rcases Nat.lt_or_ge c' (sLen + n) with hlt | hge
                                · exact fresh h1 c' _ H1 E1 rfl hlt he
                                · obtain ⟨ho, m', rfl, hset⟩ := newBlock_some he
                                  have hrd : h.read ⟨k, q, none⟩ old.length = some old := by
                                    rw [holdl]; exact hold
                                  have hrm : p + q + old.length + news.length ≤ z := by
                                    have := g3 hbig
                                    have h3 : (sLen + n) * i.size ≤ c' * i.size := Nat.mul_le_mul_right _ hge
                                    rw [Nat.add_mul] at h3
                                    rw [holdl, hnewsl]
                                    omega
                                  obtain ⟨w', hst, H2, E2⟩ := H.regrow (P := P) hrd hk hkill hset (okCells_dec ho) hnm hrm
                                  refine ⟨_, w', .slice (some ⟨b, p + q, none⟩) (sLen + n) c', .inl ?_, .cell ?_, H2, E2⟩
                                  · rw [holdl] at hst
                                    rw [hr]
                                    simp [Builtin.append_, run_underlying ht, run_underlying hu, sizeOf, typeInfo, hi, hlenx, hge, hnf, addr_add, hst]
                                  · refine .slc (o := 0) (p := p + q) (Im.up_self _ _ _) ?_
                                    have hb : sLen + n < big := by simp [big]; omega
                                    refine ⟨fun hb' => absurd (capAt_big _ _) hb', fun _ => ?_⟩
                                    have e1 : Nat.add sLen n = sLen + n := rfl
                                    rw [e1, capAt_mod hb, capAt_div hb]
                                    exact ⟨hge, by have := g3 hbig; omega⟩
              | _ => simp at he
            | _ => simp at he
        | _ => simp at he
      | _ => cases du <;> simp at he
end
end Go.Jv
