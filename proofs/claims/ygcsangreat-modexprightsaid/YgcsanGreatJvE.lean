/-
  What the evaluator says of one operation holds of the model's: new memory, copies, numbers.
-/
import Derived.Test.YgcsanGreatJvX
import Derived.Laws.MakeOwn
namespace Go.Jv
open Go
open Go.Proofs.YgcsanGreat (zipIdx_layV layV layV_eq layV_length run_mapM_list)
set_option linter.unusedVariables false
set_option linter.unusedSimpArgs false
variable {σ : Va}

section
variable {P : Program} {n0 : Nat} {ι : Im} {h : Hp} {w : World} {ρ : Operand → Value} {o : Oper}

theorem goes_alloc (H : HRel σ n0 ι h w) {t : TypeId} {out : Out} (he : evalAlloc h (zeroOf P t) = some out)
    (hr : execOp ρ o = (do pure (.value (← Instr.alloc t true (.tuple #[]))) : Sem Next)) : OpGoes σ P n0 ι h w ρ o out := by
  cases hz : zeroOf P t with
  | none => rw [hz] at he; simp [evalAlloc] at he
  | some z =>
    rw [hz] at he
    simp only [evalAlloc] at he
    obtain ⟨h1, h2⟩ := zeroOf_some (w := w) hz
    refine goes_new H (l' := z.cells.toList) (rest := []) he (fun _ => constOk_cells h2) t (g := fun a => .pointer (some a)) ?_ (fun κ hk => .cell (.ptr (o := 0) hk))
    rw [hr]
    simp [Instr.alloc, h1, newVar, run_newRow]

theorem goes_box (H : HRel σ n0 ι h w) {t : TypeId} {x x' : Value} (hx : VRel σ ι x x') {out : Out} (he : newBlock h x.cells.toList (fun a => .pointer (some a)) = some out)
    (hr : execOp ρ o = (do pure (.value (← Instr.box t x')) : Sem Next)) : OpGoes σ P n0 ι h w ρ o out := by
  refine goes_new H (l' := x'.cells.toList) (rest := []) he (fun ho => hx.cells ho) t (g := fun a => .pointer (some a)) ?_ (fun κ hk => .cell (.ptr (o := 0) hk))
  rw [hr]
  simp [Instr.box, newVar, run_newRow]

theorem capRel_exact {c q z : Nat} (h : c < big) : capRel c c q z := ⟨fun _ => rfl, fun hb => by omega⟩
theorem times_length (z : List Value) (n : Nat) : (times z n).length = n * z.length := by
  induction n with
  | zero => simp [times]
  | succ n ih => simp only [times, List.length_append, ih]; rw [Nat.succ_mul]; omega
theorem times_get (z : List Value) : ∀ (n i : Nat), i < n * z.length → (times z n)[i]? = z[i % z.length]? := by
  intro n
  induction n with
  | zero => intro i h; simp at h
  | succ n ih =>
    intro i h
    simp only [times]
    by_cases hi : i < z.length
    · rw [List.getElem?_append_left hi, Nat.mod_eq_of_lt hi]
    · rw [List.getElem?_append_right (by omega), ih (i - z.length) (by rw [Nat.succ_mul] at h; omega)]
      congr 1
      have : i = (i - z.length) + z.length := by omega
      conv => rhs; rw [this]
      rw [Nat.add_mod_right]
theorem times_eq (z : Array Value) (n k : Nat) (hk : z.size = k) (h1 : 1 ≤ k) : (Array.range (n * k)).map (fun i => z[i % z.size]!) = (times z.toList n).toArray := by
  apply Array.ext'
  rw [List.toList_toArray]
  apply List.ext_getElem?
  intro i
  have hl : z.toList.length = k := by simpa using hk
  by_cases hi : i < n * k
  · rw [times_get _ _ _ (by rw [hl]; exact hi), hl]
    have : i % k < z.size := by rw [hk]; exact Nat.mod_lt _ (by omega)
    simp [hi, hk]
    rw [getElem!_pos z (i % k) this, Array.getElem?_eq_getElem this]
  · rw [List.getElem?_eq_none (by simp; omega), List.getElem?_eq_none (by rw [times_length, hl]; omega)]
theorem times_rel {l : List Value} (hl : All2 (CRel σ ι) l l) (n : Nat) : All2 (CRel σ ι) (times l n) (times l n) := by
  induction n with
  | zero => exact .nil
  | succ n ih => exact hl.append ih

theorem rowOf_some {elem : TypeId} {n : Nat} {row : List Value} (hr : rowOf P elem n = some row) :
    ∃ i z, P.info? elem = some i ∧ i.zero = some z ∧ constOk z = true ∧ z.cells.size = i.size ∧ 1 ≤ i.size ∧ i.bytes ≤ 1048576 ∧ row = times z.cells.toList n := by
  unfold rowOf at hr
  cases hi : P.info? elem with
  | none => rw [hi] at hr; simp at hr
  | some i =>
    rw [hi] at hr
    simp only at hr
    cases hz : constO i.zero with
    | none => rw [hz] at hr; simp [rowO] at hr
    | some z =>
      rw [hz] at hr
      simp only [rowO] at hr
      obtain ⟨h1, h2⟩ := constO_some hz
      cases hc : (Nat.beq z.cells.toList.length i.size && (Nat.ble 1 i.size && Nat.ble i.bytes 1048576)) with
      | false => rw [hc] at hr; simp at hr
      | true =>
        rw [hc] at hr
        injection hr with hr
        simp only [Bool.and_eq_true] at hc
        exact ⟨i, z, rfl, h1, h2, by simpa using Nat.eq_of_beq_eq_true hc.1, Nat.le_of_ble_eq_true hc.2.1, Nat.le_of_ble_eq_true hc.2.2, hr.symm⟩

theorem run_mk {t elem : TypeId} {l c : Nat} {kl kc : IntKind} {row : List Value} (hd : P.underlying t = some (.slice elem)) (hrow : rowOf P elem c = some row) (hlc : l ≤ c) (hc : c ≤ 1048576) :
    (Instr.makeSlice t (.int kl (Int.ofNat l)) (.int kc (Int.ofNat c))).run P w = .ok (.slice (some ⟨w.heap.size, 0, none⟩) l c) (w.alloc (.cells row.toArray elem)) := by
  obtain ⟨i, z, h1, h2, h3, h4, h5, h6, rfl⟩ := rowOf_some hrow
  have hbig : i.bytes * c ≤ 1048576 * 1048576 := Nat.mul_le_mul h6 hc
  have hb : (i.bytes : Int) * (Int.ofNat c) ≤ 281474976710656 := by
    have : (i.bytes : Int) * (Int.ofNat c) = ((i.bytes * c : Nat) : Int) := by simp
    rw [this]; omega
  rw [Go.run_make w t elem i z hd h1 h2 kl kc (Int.ofNat l) (Int.ofNat c) (by simp) (by simpa using hlc) hb (by simp; omega)]
  have : madeCells z.cells ((Int.ofNat c).toNat * i.size) = (times z.cells.toList c).toArray := times_eq _ _ _ h4 h5
  rw [this]
  rfl

theorem times_one (v : Value) (n : Nat) : times [v] n = List.replicate n v := by
  induction n with
  | zero => rfl
  | succ n ih => simp only [times, ih, List.replicate_succ]; rfl
theorem rowOf_more {elem : TypeId} {v : Value} (h : rowOf P elem 1 = some [v]) (c : Nat) : rowOf P elem c = some (times [v] c) := by
  unfold rowOf at h ⊢
  cases hi : P.info? elem with
  | none => rw [hi] at h; simp at h
  | some i =>
    rw [hi] at h
    simp only at h ⊢
    cases hz : constO i.zero with
    | none => rw [hz] at h; simp [rowO] at h
    | some z =>
      rw [hz] at h
      simp only [rowO] at h ⊢
      cases hc : (Nat.beq z.cells.toList.length i.size && (Nat.ble 1 i.size && Nat.ble i.bytes 1048576)) with
      | false => rw [hc] at h; simp at h
      | true =>
        rw [hc] at h
        simp only [Option.some.injEq, times, List.append_nil] at h ⊢
        rw [h]
theorem makeLong_some {l c : Nat} {elem : TypeId} {out : Out} (he : makeLong h l c (rowOf P elem 1) = some out) :
    ∃ v, rowOf P elem 1 = some [v] ∧ (∃ m', out = .val (.slice (some ⟨h.next, 0, none⟩) l c) ⟨h.next + 1, m'⟩ ∧ Tr.set (some [.chan (some c), v]) 64 h.m h.next = some m') ∧ ∀ κ : Im, All2 (CRel σ κ) [v] [v] := by
  cases hrow : rowOf P elem 1 with
  | none => rw [hrow] at he; simp [makeLong] at he
  | some row =>
    rw [hrow] at he
    obtain ⟨i, z, _, _, h3, _, _, _, e⟩ := rowOf_some hrow
    cases row with
    | nil => simp [makeLong] at he
    | cons v row =>
      cases row with
      | cons => simp [makeLong] at he
      | nil =>
        simp only [makeLong, newRep] at he
        refine ⟨v, rfl, ?_, ?_⟩
        · obtain ⟨n, m⟩ := h
          simp only at he
          cases hs : Tr.set (some [.chan (some c), v]) 64 m n with
          | none => rw [hs] at he; simp [newO] at he
          | some m' => rw [hs] at he; simp only [newO, Option.some.injEq] at he; exact ⟨m', he.symm, rfl⟩
        · intro κ
          rw [e]; exact times_rel (constOk_cells h3) 1

theorem evE_enc (e : List Int) : evE σ (encE e) = (evL e σ.xs).toNat := by unfold evE; rw [decE_encE]
theorem newSym_some {j t : Nat} {e : List Int} {out : Out} (he : newSym h j t e = some out) :
    ∃ m', out = .val (tokV (2 * h.next + t) e) ⟨h.next + 1, m'⟩ ∧ Tr.set (some [.map (some j), .tuple (encE e).toArray]) 64 h.m h.next = some m' := by
  obtain ⟨n, m⟩ := h
  simp only [newSym] at he
  cases hs : Tr.set (some [.map (some j), .tuple (encE e).toArray]) 64 m n with
  | none => rw [hs] at he; simp [newO] at he
  | some m' => rw [hs] at he; simp only [newO, Option.some.injEq] at he; exact ⟨m', he.symm, rfl⟩
theorem row_tok {k b q z c : Nat} {e : List Int} (hk : ι k = some (b, q, z)) (h1 : 1 ≤ evL e σ.xs) (hc : (evL e σ.xs).toNat ≤ c) (hm : c ≤ maxLen) : VRel σ ι (tokV (2 * k + 7) e) (.slice (some ⟨b, q, none⟩) (evL e σ.xs).toNat c) := by
  refine .cell (.tok (.inr (.inr (.inr (.inr (.inr ⟨k, _, b, q, z, c, rfl, rfl, ?_⟩))))))
  rw [List.toList_toArray, evE_enc]
  exact ⟨by omega, hk, hc, hm, rfl⟩
theorem isNull_some {x : Option (List Value)} (h : isNull x = true) : x = some [.int .u8 0] := by
  unfold isNull at h
  split at h
  · rfl
  · cases h
/-- what a new row of noughts is -/
theorem tokMake_some {t : TypeId} {e : List Int} {out : Out} (he : tokMake P h t e = some out) :
    ∃ elem, P.underlying t = some (.slice elem) ∧ rowOf P elem 1 = some [.int .u8 0] ∧ 1 ≤ evL e σ.xs ∧ evL e σ.xs ≤ 1048576 ∧ newSym h 1 7 e = some out := by
  unfold tokMake at he
  split at he
  · rename_i elem hd
    split at he
    · rename_i hb
      simp only [Bool.and_eq_true] at hb
      have h1 := geE_ev (σ := σ) hb.2.1
      have h2 := geE_ev (σ := σ) hb.2.2
      rw [ev_one] at h1 h2
      exact ⟨elem, hd, isNull_some hb.1, h1, h2, he⟩
    · cases he
  · cases he
theorem makeT_some {t : TypeId} {t1 t2 : Nat} {p p2 : Value} {out : Out} (he : makeT P h t t1 p t2 p2 = some out) :
    ∃ k k2 e e2, exOf (.iface t1 p) = some (k, e) ∧ exOf (.iface t2 p2) = some (k2, e2) ∧ evL e σ.xs = evL e2 σ.xs ∧ tokMake P h t e = some out := by
  unfold makeT at he
  split at he
  · rename_i k e k2 e2 h1 h2
    split at he
    · rename_i hb
      exact ⟨k, k2, e, e2, h1, h2, eqE_ev hb, he⟩
    · cases he
  · cases he
theorem symD_row0 (e : List Int) : dec σ [.map (some 1), .tuple (encE e).toArray] = some (List.replicate (evL e σ.xs).toNat (byteV 0)) := by
  show symD σ 1 (encE e).toArray.toList = _
  rw [List.toList_toArray]
  simp only [symD, evE_enc]

theorem goes_make (H : HRel σ n0 ι h w) {t : TypeId} {l c l' c' : Value} (hl : VRel σ ι l l') (hc : VRel σ ι c c') {out : Out} (he : evalMake P h t l c = some out)
    (hr : execOp ρ o = (do pure (.value (← Instr.makeSlice t l' c')) : Sem Next)) : OpGoes σ P n0 ι h w ρ o out := by
  unfold evalMake at he
  cases l with
  | int kl nl =>
    have := hl.int
    subst this
    cases nl with
    | negSucc n => simp at he
    | ofNat l =>
      simp only at he
      cases c with
      | int kc nc =>
        have := hc.int
        subst this
        cases nc with
        | negSucc n => simp at he
        | ofNat c =>
          simp only at he
          cases hd : P.underlying t with
          | none => rw [hd] at he; simp at he
          | some d =>
            rw [hd] at he
            cases d with
            | slice elem =>
              simp only at he
              cases hb : (Nat.ble l c && Nat.ble c 1048576) with
              | false => rw [hb] at he; simp at he
              | true =>
                rw [hb] at he
                simp only [Bool.and_eq_true] at hb
                have b1 := Nat.le_of_ble_eq_true hb.1
                have b2 := Nat.le_of_ble_eq_true hb.2
                simp only at he
                cases hsm : Nat.ble c 4096 with
                | true =>
                  rw [hsm] at he
                  simp only at he
                  cases hrow : rowOf P elem c with
                  | none => rw [hrow] at he; simp [makeO] at he
                  | some row =>
                    rw [hrow] at he
                    simp only [makeO] at he
                    obtain ⟨i, z, _, _, h3, _, _, _, e⟩ := rowOf_some hrow
                    have hrel : All2 (CRel σ ι) row row := by rw [e]; exact times_rel (constOk_cells h3) c
                    refine goes_new H (l' := row) (rest := []) he (fun _ => hrel) elem (g := fun a => .slice (some a) l c) ?_ (fun κ hk => .cell (.slc (o := 0) hk (capRel_exact (by simp [big]; omega))))
                    rw [hr]
                    simp only [Sem.run_bind, run_mk hd hrow b1 b2, Result.andThen_ok, Sem.run_pure, List.append_nil]
                | false =>
                  rw [hsm] at he
                  simp only at he
                  obtain ⟨v, hrow, hout, hcv⟩ := makeLong_some he
                  obtain ⟨m', rfl, hset⟩ := hout
                  have hrel : All2 (CRel σ ι) (List.replicate c v) (List.replicate c v) := by rw [← times_one]; exact times_rel (hcv ι) c
                  obtain ⟨nn, mm⟩ := h
                  obtain ⟨h1, h2⟩ := H.new (rest := []) hset (l := List.replicate c v) rfl hrel elem
                  refine ⟨_, _, .slice (some ⟨w.heap.size, 0, none⟩) l c, .inl ?_, .cell (.slc (o := 0) (Im.up_self _ _ _) (capRel_exact (by simp [big]; omega))), h1, h2⟩
                  have hrow2 : rowOf P elem c = some (List.replicate c v) := by rw [← times_one]; exact rowOf_more hrow c
                  rw [hr]
                  simp only [Sem.run_bind, run_mk hd hrow2 b1 b2, Result.andThen_ok, Sem.run_pure, List.append_nil]
            | _ => simp at he
      | _ => simp at he
  | iface t1 p =>
    simp only at he
    cases c with
    | iface t2 p2 =>
      simp only at he
      obtain ⟨k, k2, e, e2, x1, x2, hee, hmk⟩ := makeT_some (σ := σ) he
      obtain ⟨elem, hd, hrow, h1, h2, hns⟩ := tokMake_some (σ := σ) hmk
      obtain ⟨m', rfl, hset⟩ := newSym_some hns
      have el := exOf_rel x1 hl
      have ec := exOf_rel x2 hc
      rw [← hee] at ec
      have hrow2 : rowOf P elem (evL e σ.xs).toNat = some (List.replicate (evL e σ.xs).toNat (byteV 0)) := by
        rw [← times_one]; exact rowOf_more hrow _
      have hrel : All2 (CRel σ ι) (List.replicate (evL e σ.xs).toNat (byteV 0)) (List.replicate (evL e σ.xs).toNat (byteV 0)) := by
        rw [← times_one]; exact times_rel (.cons (.int _ _) .nil) _
      obtain ⟨nn, mm⟩ := h
      obtain ⟨g1, g2⟩ := H.new (rest := []) hset (symD_row0 e) hrel elem
      refine ⟨_, _, .slice (some ⟨w.heap.size, 0, none⟩) (evL e σ.xs).toNat (evL e σ.xs).toNat, .inl ?_, row_tok (Im.up_self _ _ _) h1 (Nat.le_refl _) (by simp only [maxLen]; omega), g1, g2⟩
      have hn : evL e σ.xs = Int.ofNat (evL e σ.xs).toNat := by
        show _ = (((evL e σ.xs).toNat : Nat) : Int); omega
      have hmk := run_mk (P := P) (w := w) (kl := k) (kc := k2) hd hrow2 (Nat.le_refl _) (by omega)
      rw [← hn] at hmk
      rw [hr, el, ec]
      simp only [Sem.run_bind, hmk, Result.andThen_ok, Sem.run_pure, List.append_nil]
    | _ => simp at he
  | _ => simp at he

/-! parts laid over a zero -/
theorem fitV_some {n : Nat} {v u : Value} {l : List Value} (hf : fitV n v = some l) (hv : VRel σ ι v u) : All2 (CRel σ ι) l u.cells.toList ∧ l.length = n := by
  have one : ∀ v, oneV v = true → (match Nat.beq n 1 with | true => some [v] | false => none) = some l → VRel σ ι v u → All2 (CRel σ ι) l u.cells.toList ∧ l.length = n := by
    intro v ho he hv
    cases hb : Nat.beq n 1 with
    | false => rw [hb] at he; simp at he
    | true =>
      rw [hb] at he
      injection he with he
      subst he
      have hc := hv.cellOf ho
      rw [hc.cells.2]
      exact ⟨.cons hc .nil, (Nat.eq_of_beq_eq_true hb).symm⟩
  cases v with
  | agg cs =>
    simp only [fitV] at hf
    obtain ⟨m, hm, rfl⟩ := hv.aggOf
    cases hb : Nat.beq cs.toList.length n with
    | false => rw [hb] at hf; simp at hf
    | true =>
      rw [hb] at hf
      injection hf with hf
      subst hf
      exact ⟨by simpa [Value.cells] using hm, Nat.eq_of_beq_eq_true hb⟩
  | tuple vs => simp [fitV] at hf
  | chan c => simp [fitV] at hf
  | _ => exact one _ rfl hf hv

theorem fill_goes (place : Nat → Option (Nat × Nat)) : ∀ (ps : List (Nat × Value)) (ps' : List (Nat × Value)) (cells cells' r : List Value), fillL place (some cells) ps = some r → All2 (CRel σ ι) cells cells' →
    All2 (fun (p q : Nat × Value) => p.1 = q.1 ∧ VRel σ ι p.2 q.2) ps ps' → ∃ r', Instr.fill place cells'.toArray ps' = some r'.toArray ∧ All2 (CRel σ ι) r r' := by
  intro ps
  induction ps with
  | nil =>
    intro ps' cells cells' r he hc hp
    have e0 := hp.nilL
    subst e0
    simp only [fillL, Option.some.injEq] at he
    subst he
    exact ⟨cells', rfl, hc⟩
  | cons p ps ih =>
    intro ps' cells cells' r he hc hp
    obtain ⟨q, ps', rfl, hpq, hps⟩ := hp.consL
    obtain ⟨i, v⟩ := p
    obtain ⟨j, u⟩ := q
    obtain ⟨e, hv⟩ := hpq
    simp only at e hv
    subst e
    simp only [fillL] at he
    cases hpl : place i with
    | none =>
      rw [hpl] at he
      simp only [fillAt] at he
      cases ps <;> simp [fillL] at he
    | some on =>
      obtain ⟨off, n⟩ := on
      rw [hpl] at he
      simp only [fillAt] at he
      cases hf : fitV n v with
      | none =>
        rw [hf] at he
        simp only [fillPart] at he
        cases ps <;> simp [fillL] at he
      | some l =>
        rw [hf] at he
        simp only [fillPart] at he
        obtain ⟨h1, h2⟩ := fitV_some hf hv
        cases hl : lay cells off l with
        | none =>
          rw [hl] at he
          cases ps <;> simp [fillL] at he
        | some cells2 =>
          rw [hl] at he
          obtain ⟨h3, rfl⟩ := lay_spec _ _ _ _ hl
          have hlen : u.cells.size = n := by rw [← h2, h1.length]; simp
          have hfit : off + u.cells.toList.length ≤ cells'.length := by rw [← h1.length, ← hc.length]; exact h3
          obtain ⟨r', hr1, hr2⟩ := ih ps' _ (cells'.take off ++ (u.cells.toList ++ cells'.drop (off + u.cells.toList.length))) r he
            ((hc.take off).append (h1.append (by rw [h1.length]; exact hc.drop _))) hps
          refine ⟨r', ?_, hr2⟩
          simp only [Instr.fill, hpl]
          have hfit2 : ¬ (cells'.toArray.size < off + u.cells.size) := by simp at hfit ⊢; omega
          simp only [hlen]
          rw [if_neg (by simp only [List.size_toArray] at hfit2 ⊢; simp; rw [← hlen]; omega)]
          rw [← hr1]
          congr 1
          have e1 := zipIdx_layV u.cells.toList cells' off 0
          rw [Nat.add_zero, layV_eq _ _ _ hfit] at e1
          rw [← e1]
          obtain ⟨M, hM⟩ : ∃ M : List Value, u.cells = M.toArray := ⟨u.cells.toList, by simp⟩
          rw [hM]
          simp

theorem partsOf_rel {a : Ac} : ∀ (ps : List (Nat × Operand)), (∀ p ∈ ps, VRel σ ι (Ac.eval a p.2) (ρ p.2)) → All2 (fun (p q : Nat × Value) => p.1 = q.1 ∧ VRel σ ι p.2 q.2) (partsOf (Ac.eval a) ps) (ps.map fun p => (p.1, ρ p.2)) := by
  intro ps
  induction ps with
  | nil => intro _; exact .nil
  | cons p ps ih =>
    intro hp
    obtain ⟨i, x⟩ := p
    exact .cons ⟨rfl, hp (i, x) (List.mem_cons_self ..)⟩ (ih fun q hq => hp q (List.mem_cons_of_mem _ hq))

theorem placesOf_run : ∀ (fs : List Field) (places : List (Nat × Nat)), placesOf P fs = some places → (fs.mapM fun f => (do pure (f.offset, ← sizeOf f.type) : Sem (Nat × Nat))).run P w = .ok places w := by
  intro fs
  induction fs with
  | nil => intro places h; simp only [placesOf, Option.some.injEq] at h; subst h; simp
  | cons f fs ih =>
    intro places h
    simp only [placesOf] at h
    cases hs : sizeOfT P f.type with
    | none => rw [hs] at h; simp at h
    | some n =>
      rw [hs] at h
      cases hp : placesOf P fs with
      | none => rw [hp] at h; simp at h
      | some r =>
        rw [hp] at h
        simp only [Option.some.injEq] at h
        subst h
        simp only [List.mapM_cons, Sem.run_bind, (sizeOfT_some (w := w) hs).1, ih r hp, Result.andThen_ok, Sem.run_pure]

theorem goes_build (H : HRel σ n0 ι h w) {t : TypeId} {ps ps' : List (Nat × Value)} (hps : All2 (fun (p q : Nat × Value) => p.1 = q.1 ∧ VRel σ ι p.2 q.2) ps ps') {out : Out} (he : evalBuild P h t ps = some out)
    (hr : execOp ρ o = (do pure (.value (← Instr.build t ps'.toArray)) : Sem Next)) : OpGoes σ P n0 ι h w ρ o out := by
  unfold evalBuild at he
  cases hz : zeroOf P t with
  | none => rw [hz] at he; simp at he
  | some z =>
    rw [hz] at he
    obtain ⟨z1, z2⟩ := zeroOf_some (w := w) hz
    have hzc : All2 (CRel σ ι) z.cells.toList z.cells.toList := constOk_cells z2
    simp only at he
    cases hd : P.underlying t with
    | none => rw [hd] at he; simp at he
    | some d =>
      rw [hd] at he
      cases d with
      | struct fields =>
        simp only at he
        cases hp : placesOf P fields.toList with
        | none => rw [hp] at he; simp at he
        | some places =>
          rw [hp] at he
          simp only at he
          cases hf : fillL (places[·]?) (some z.cells.toList) ps with
          | none => rw [hf] at he; simp [fillO] at he
          | some r =>
            rw [hf] at he
            simp only [fillO, Option.some.injEq] at he
            subst he
            obtain ⟨r', h1, h2⟩ := fill_goes _ ps ps' _ _ r hf hzc hps
            refine goes_value H ?_ (.agg h2)
            have h3 := placesOf_run (w := w) fields.toList places hp
            have h4 : (fields.mapM fun f => (do pure (f.offset, ← sizeOf f.type) : Sem (Nat × Nat))).run P w = .ok places.toArray w := by
              rw [Array.mapM_eq_mapM_toList, map_eq_pure_bind]
              simp only [Sem.run_bind, h3, Result.andThen_ok, Sem.run_pure]
            rw [hr]
            unfold Instr.build
            have h5 : Instr.fill (fun (x : Nat) => places.toArray[x]?) z.cells ps' = some r'.toArray := by
              have : (fun (x : Nat) => places.toArray[x]?) = (fun (x : Nat) => places[x]?) := by funext x; simp
              rw [this]; simpa using h1
            simp only [Sem.run_bind, z1, Result.andThen_ok, run_under hd, h4, List.toList_toArray, h5, Sem.run_pure]
      | array n elem =>
        simp only at he
        cases hs : sizeOfT P elem with
        | none => rw [hs] at he; simp at he
        | some size =>
          rw [hs] at he
          simp only at he
          cases hf : fillL (fun i => some (Nat.mul i size, size)) (some z.cells.toList) ps with
          | none => rw [hf] at he; simp [fillO] at he
          | some r =>
            rw [hf] at he
            simp only [fillO, Option.some.injEq] at he
            subst he
            obtain ⟨r', h1, h2⟩ := fill_goes _ ps ps' _ _ r hf hzc hps
            refine goes_value H ?_ (.agg h2)
            rw [hr]
            unfold Instr.build
            have h5 : Instr.fill (fun i => some (i * size, size)) z.cells ps' = some r'.toArray := by simpa using h1
            simp only [Sem.run_bind, z1, Result.andThen_ok, run_under hd, (sizeOfT_some (w := w) hs).1, List.toList_toArray, h5, Sem.run_pure]
      | _ => simp at he

theorem goes_buildSlice (H : HRel σ n0 ι h w) {t : TypeId} {len : Nat} {ps ps' : List (Nat × Value)} (hps : All2 (fun (p q : Nat × Value) => p.1 = q.1 ∧ VRel σ ι p.2 q.2) ps ps') {out : Out} (he : evalBuildSlice P h t len ps = some out)
    (hr : execOp ρ o = (do pure (.value (← Instr.buildSlice t len ps'.toArray)) : Sem Next)) : OpGoes σ P n0 ι h w ρ o out := by
  unfold evalBuildSlice at he
  cases hd : P.underlying t with
  | none => rw [hd] at he; simp at he
  | some d =>
    rw [hd] at he
    cases d with
    | slice elem =>
      simp only at he
      cases hs : sizeOfT P elem with
      | none => rw [hs] at he; simp at he
      | some size =>
        cases hrow : rowOf P elem len with
        | none => rw [hs, hrow] at he; simp at he
        | some row =>
          rw [hs, hrow] at he
          simp only at he
          cases hb : (Nat.ble len 4096 && Nat.ble (Nat.mul len size) 1048576) with
          | false => rw [hb] at he; simp at he
          | true =>
            rw [hb] at he
            simp only [Bool.and_eq_true] at hb
            simp only at he
            cases hf : fillL (fun i => some (Nat.mul i size, size)) (some row) ps with
            | none => rw [hf] at he; simp [sliceO] at he
            | some r =>
              rw [hf] at he
              simp only [sliceO] at he
              obtain ⟨i, z, h1, h2, h3, h4, h5, h6, e⟩ := rowOf_some hrow
              obtain ⟨s1, i', s2, s3⟩ := sizeOfT_some (w := w) hs
              rw [h1] at s2
              injection s2 with s2
              subst s2
              have hrel : All2 (CRel σ ι) row row := by rw [e]; exact times_rel (constOk_cells h3) len
              obtain ⟨r', f1, f2⟩ := fill_goes _ ps ps' _ _ r hf hrel hps
              have hlen : len ≤ 4096 := Nat.le_of_ble_eq_true hb.1
              have hcells : len * size ≤ 1048576 := Nat.le_of_ble_eq_true hb.2
              refine goes_new H (l' := r') (rest := []) he (fun _ => f2) elem (g := fun a => .slice (some a) len len) ?_ (fun κ hk => .cell (.slc (o := 0) hk (capRel_exact (by simp [big]; omega))))
              have hz : (zeroValue elem).run P w = .ok z w := by simp [zeroValue, typeInfo, h1, h2]
              have hn : ¬ (2 ^ 24 < len * size) := by omega
              rw [hr]
              have hrows : ∀ z0 : Array Value, z0 = z.cells → (Array.range (len * size)).map (fun j => z0[j % z0.size]!) = row.toArray := fun z0 ez => by
                subst ez; rw [e, ← s3]; exact times_eq _ _ _ h4 h5
              have f3 : Instr.fill (fun i => some (i * size, size)) row.toArray ps' = some r'.toArray := f1
              unfold Instr.buildSlice
              by_cases h0 : len * size = 0
              · have hr0 : row = [] := by
                  have : row.length = 0 := by rw [e, times_length]; simp; rw [h4, s3]; simpa using h0
                  exact List.eq_nil_of_length_eq_zero this
                have hrng : (Array.range (len * size)).map (fun j => (#[] : Array Value)[j % (#[] : Array Value).size]!) = row.toArray := by rw [h0, hr0]; simp [Array.range_zero']
                simp only [Sem.run_bind, run_under hd, Result.andThen_ok, s1, gt_iff_lt, if_neg hn, Sem.run_pure, if_pos h0, hrng, List.toList_toArray, f3, run_newRow, List.append_nil]
              · simp only [Sem.run_bind, run_under hd, Result.andThen_ok, s1, gt_iff_lt, if_neg hn, Sem.run_pure, if_neg h0, hz, hrows _ rfl, List.toList_toArray, f3, run_newRow, List.append_nil]
    | _ => simp at he
end
end Go.Jv
