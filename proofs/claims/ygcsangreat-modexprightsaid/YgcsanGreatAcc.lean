/-
  Package yp: World.account on a list of one account.
-/
import Derived.Test.YgcsanGreatMem
import Derived.Test.YgcsanGreatTx
import Derived.Stop.BytesEq
namespace Go.Proofs.YgcsanGreat
open Go.RowKit
set_option linter.unusedSimpArgs false
set_option linter.unusedVariables false
attribute [-go_sem] loadVar storeVar Instr.build Instr.fill Instr.buildSlice Builtin.append_


/-- an account's cells -/
def acV (A : List Nat) (n b c s : Value) : List Value := byV A ++ [n, b, c, s]

theorem range_all_eq : ∀ (xs ys : List Nat), xs.length = ys.length → ((List.range xs.length).all fun i => xs.getD i 0 == ys.getD i 0) = (xs == ys)
  | [], [], _ => rfl
  | x :: xs, y :: ys, h => by
    have ih := range_all_eq xs ys (by simpa using h)
    rw [List.length_cons, List.range_succ_eq_map, List.all_cons, List.all_map]
    simp only [List.getD_cons_zero, Function.comp_def, List.getD_cons_succ, ih]
    simp [List.cons_beq_cons]
  | [], _ :: _, h => by simp at h
  | _ :: _, [], h => by simp at h

theorem run_equalIn_by {P : Program} (w : World) (d : Nat) (t e : TypeId) (n : Nat) (ht : P.underlying t = some (.array n e)) (he : P.underlying e = some (.int .u8)) (hsz : ∀ w, (sizeOf e).run P w = .ok 1 w)
    (xs ys : List Nat) (hx : xs.length = n) (hy : ys.length = n) :
    (Op.equalIn (d + 2) t (.agg (byV xs).toArray) (.agg (byV ys).toArray)).run P w = .ok (xs == ys) w := by
  rw [← range_all_eq xs ys (hx.trans hy.symm), hx, List.range_eq_range', Op.equalIn]
  simp only [Sem.run_bind, run_underlying ht, Result.andThen_ok, hsz, Std.Legacy.Range.forIn_eq_forIn_range', Std.Legacy.Range.size, Nat.sub_zero, Nat.add_sub_cancel, Nat.div_one]
  have hl : ∀ i ∈ List.range' 0 n 1, i < n := fun i hi => by simpa using (List.mem_range'_1.1 hi).2
  generalize List.range' 0 n 1 = l at hl ⊢
  induction l with
  | nil => simp
  | cons i l ih =>
    have hi : i < n := hl i (by simp)
    have px : (Go.part e (byV xs).toArray (i * 1)).run P w = .ok (.int .u8 ((xs.getD i 0 : Nat) : Int)) w := by
      simp [byV, Go.part, isAgg, run_underlying he, List.getD, List.getElem?_eq_getElem (show i < xs.length by omega)]
    have py : (Go.part e (byV ys).toArray (i * 1)).run P w = .ok (.int .u8 ((ys.getD i 0 : Nat) : Int)) w := by
      simp [byV, Go.part, isAgg, run_underlying he, List.getD, List.getElem?_eq_getElem (show i < ys.length by omega)]
    have pe : (Op.equalIn (d + 1) e (.int .u8 ((xs.getD i 0 : Nat) : Int)) (.int .u8 ((ys.getD i 0 : Nat) : Int))).run P w = .ok (xs.getD i 0 == ys.getD i 0) w := by
      rw [run_equalIn_int w d e .u8 .u8 _ _ he]
      congr 1
      rw [Bool.eq_iff_iff]
      simp
      omega
    simp only [List.forIn_cons, Sem.run_bind, px, py, pe, Result.andThen_ok, List.all_cons]
    cases hb : (xs.getD i 0 == ys.getD i 0)
    · simp
    · simp only [Bool.not_true, Bool.false_eq_true, if_false, Sem.run_pure, Result.andThen_ok, Bool.true_and]
      exact ih fun j hj => hl j (by simp [hj])

theorem eql23 (w : World) (A B : List Nat) (hA : A.length = 20) (hB : B.length = 20) : (binOp .eql 23 (.agg (byV A).toArray) (.agg (byV B).toArray)).run Sang.prog w = .ok (.bool (A == B)) w := by
  rw [run_eql_struct, run_equalIn_by w 9998 23 5 20 und23 Sang.underlying5 (fun w => by simp [sizeOf, typeInfo]; kernel_rfl) A B hA hB]
  rfl


theorem acV_length (A : List Nat) (n b c s : Value) (h : A.length = 20) : (acV A n b c s).length = 24 := by simp [acV, byV, h]
theorem acV_flat (A : List Nat) (n b c s : Value) (h1 : n.oneCell' = true) (h2 : b.oneCell' = true) (h3 : c.oneCell' = true) (h4 : s.oneCell' = true) : Flat (acV A n b c s) :=
  (flat_ints _ _).append (Flat.cons h1 (Flat.cons h2 (Flat.cons h3 (Flat.cons h4 Flat.nil))))
theorem acV_addr (A : List Nat) (n b c s : Value) (h : A.length = 20) : subV (acV A n b c s) 0 20 = byV A := by
  have : (byV A).length = 20 := by simp [byV, h]
  simp [subV, acV, ← this]
theorem acV_all (A : List Nat) (n b c s : Value) (h : A.length = 20) : subV (acV A n b c s) 0 24 = acV A n b c s := by
  have : (acV A n b c s).length = 24 := acV_length A n b c s h
  simp [subV, ← this]
theorem acV_nonce (A : List Nat) (n b c s : Value) (h : A.length = 20) : (acV A n b c s)[20]? = some n := by simp [acV, byV, List.getElem?_append, h]
theorem acV_bal (A : List Nat) (n b c s : Value) (h : A.length = 20) : (acV A n b c s)[21]? = some b := by simp [acV, byV, List.getElem?_append, h]
theorem acV_code (A : List Nat) (n b c s : Value) (h : A.length = 20) : (acV A n b c s)[22]? = some c := by simp [acV, byV, List.getElem?_append, h]
theorem acV_slots (A : List Nat) (n b c s : Value) (h : A.length = 20) : (acV A n b c s)[23]? = some s := by simp [acV, byV, List.getElem?_append, h]
theorem und106 : ∃ fs, Sang.prog.underlying 106 = some (.struct fs) := ⟨_, Sang.underlying106⟩
theorem siz106 : (Sang.prog.info? 106).map (·.size) = some 24 := by kernel_rfl
theorem eqIn23 (w : World) (A B : List Nat) (hA : A.length = 20) (hB : B.length = 20) : (Op.equalIn 10000 23 (.agg (byV A).toArray) (.agg (byV B).toArray)).run Sang.prog w = .ok (A == B) w :=
  run_equalIn_by w 9998 23 5 20 und23 Sang.underlying5 (fun w => by simp [sizeOf, typeInfo]; kernel_rfl) A B hA hB
theorem eqIn26 (w : World) (A B : List Nat) (hA : A.length = 32) (hB : B.length = 32) : (Op.equalIn 10000 26 (.agg (byV A).toArray) (.agg (byV B).toArray)).run Sang.prog w = .ok (A == B) w :=
  run_equalIn_by w 9998 26 5 32 Sang.underlying26 Sang.underlying5 (fun w => by simp [sizeOf, typeInfo]; kernel_rfl) A B hA hB
attribute [go_sem] eqIn23 eqIn26
/-- the zero account -/
def zaV : List Value := zsV 20 ++ [.slice none 0 0, .slice none 0 0, .slice none 0 0, .slice none 0 0]
theorem und106f : ∃ fs, Sang.prog.underlying 106 = some (.struct fs) ∧ fs.all (fun f => (Sang.prog.info? f.type).isSome) = true ∧
    fs.map (gOf Sang.prog) = #[(0, 20), (20, 1), (21, 1), (22, 1), (23, 1)] :=
  ⟨_, Sang.underlying106, by kernel_rfl, by kernel_rfl⟩
theorem zer106 : (Sang.prog.info? 106).map (·.zero) = some (some (.agg zaV.toArray)) := by kernel_rfl
theorem bld106_0 (w : World) (A : List Nat) (h : A.length = 20) : (Instr.build 106 #[(0, .agg (byV A).toArray)]).run Sang.prog w = .ok (.agg (acV A (.slice none 0 0) (.slice none 0 0) (.slice none 0 0) (.slice none 0 0)).toArray) w := by
  obtain ⟨fs, h1, h2, h3⟩ := und106f
  have lB : (byV A).length = 20 := by simp [byV, h]
  refine run_buildP 106 fs _ _ [(0, .agg (byV A).toArray, byV A)] _ h1 h2 h3 zer106 (by intro p hp; simp at hp; subst hp; rfl) ?_ w
  simp only [fillV, List.getElem?_toArray, List.getElem?_cons_zero, lB]
  rw [if_neg (by simp [zaV, zsV]), layV_eq _ _ _ (by rw [lB]; simp [zaV, zsV])]
  simp [lB, zaV, zsV, acV]

set_option maxRecDepth 10000 in
set_option maxHeartbeats 400000 in
theorem account_hit (c : Nat) (t : TypeId) (L LA : List Value) (g cap : Nat) (A : List Nat) (n b cd s : Value) (w : World) (h : VB w c t L) (c0 : L[0]? = some (.slice (some ⟨g, 0, none⟩) 1 cap)) (hA : VB w g 106 LA) (lA : A.length = 20)
    (hs : subV LA 0 24 = acV A n b cd s) (hl : 24 ≤ LA.length) (f1 : n.oneCell' = true) (f2 : b.oneCell' = true) (f3 : cd.oneCell' = true) (f4 : s.oneCell' = true) :
    Calls Sang.prog 72 #[.pointer (some ⟨c, 0, none⟩), .agg (byV A).toArray] w fun e w' => e = .returned (.agg (acV A n b cd s).toArray) ∧ Fr w.heap.size no w w' := by
  have h1 := (h.alloc (.cells (byV A).toArray 23)).alloc (.cells #[Value.int IntKind.u8 0, Value.int IntKind.u8 0, Value.int IntKind.u8 0, Value.int IntKind.u8 0, Value.int IntKind.u8 0, Value.int IntKind.u8 0, Value.int IntKind.u8 0, Value.int IntKind.u8 0, Value.int IntKind.u8 0, Value.int IntKind.u8 0, Value.int IntKind.u8 0, Value.int IntKind.u8 0, Value.int IntKind.u8 0, Value.int IntKind.u8 0, Value.int IntKind.u8 0, Value.int IntKind.u8 0, Value.int IntKind.u8 0, Value.int IntKind.u8 0, Value.int IntKind.u8 0, Value.int IntKind.u8 0, Value.slice none 0 0, Value.slice none 0 0, Value.slice none 0 0, Value.slice none 0 0] 106)
  have hA1 := (hA.alloc (.cells (byV A).toArray 23)).alloc (.cells #[Value.int IntKind.u8 0, Value.int IntKind.u8 0, Value.int IntKind.u8 0, Value.int IntKind.u8 0, Value.int IntKind.u8 0, Value.int IntKind.u8 0, Value.int IntKind.u8 0, Value.int IntKind.u8 0, Value.int IntKind.u8 0, Value.int IntKind.u8 0, Value.int IntKind.u8 0, Value.int IntKind.u8 0, Value.int IntKind.u8 0, Value.int IntKind.u8 0, Value.int IntKind.u8 0, Value.int IntKind.u8 0, Value.int IntKind.u8 0, Value.int IntKind.u8 0, Value.int IntKind.u8 0, Value.int IntKind.u8 0, Value.slice none 0 0, Value.slice none 0 0, Value.slice none 0 0, Value.slice none 0 0] 106)
  have hX1 : VB ((w.alloc (.cells (byV A).toArray 23)).alloc (.cells #[Value.int IntKind.u8 0, Value.int IntKind.u8 0, Value.int IntKind.u8 0, Value.int IntKind.u8 0, Value.int IntKind.u8 0, Value.int IntKind.u8 0, Value.int IntKind.u8 0, Value.int IntKind.u8 0, Value.int IntKind.u8 0, Value.int IntKind.u8 0, Value.int IntKind.u8 0, Value.int IntKind.u8 0, Value.int IntKind.u8 0, Value.int IntKind.u8 0, Value.int IntKind.u8 0, Value.int IntKind.u8 0, Value.int IntKind.u8 0, Value.int IntKind.u8 0, Value.int IntKind.u8 0, Value.int IntKind.u8 0, Value.slice none 0 0, Value.slice none 0 0, Value.slice none 0 0, Value.slice none 0 0] 106)) w.heap.size 23 (byV A) := (VB.new w 23 (byV A)).alloc _
  have hR1 : VB ((w.alloc (.cells (byV A).toArray 23)).alloc (.cells #[Value.int IntKind.u8 0, Value.int IntKind.u8 0, Value.int IntKind.u8 0, Value.int IntKind.u8 0, Value.int IntKind.u8 0, Value.int IntKind.u8 0, Value.int IntKind.u8 0, Value.int IntKind.u8 0, Value.int IntKind.u8 0, Value.int IntKind.u8 0, Value.int IntKind.u8 0, Value.int IntKind.u8 0, Value.int IntKind.u8 0, Value.int IntKind.u8 0, Value.int IntKind.u8 0, Value.int IntKind.u8 0, Value.int IntKind.u8 0, Value.int IntKind.u8 0, Value.int IntKind.u8 0, Value.int IntKind.u8 0, Value.slice none 0 0, Value.slice none 0 0, Value.slice none 0 0, Value.slice none 0 0] 106)) (w.heap.size + 1) 106 zaV := VB.newAt (by simp) (by rfl)
  have hf : Fr w.heap.size no w ((w.alloc (.cells (byV A).toArray 23)).alloc (.cells #[Value.int IntKind.u8 0, Value.int IntKind.u8 0, Value.int IntKind.u8 0, Value.int IntKind.u8 0, Value.int IntKind.u8 0, Value.int IntKind.u8 0, Value.int IntKind.u8 0, Value.int IntKind.u8 0, Value.int IntKind.u8 0, Value.int IntKind.u8 0, Value.int IntKind.u8 0, Value.int IntKind.u8 0, Value.int IntKind.u8 0, Value.int IntKind.u8 0, Value.int IntKind.u8 0, Value.int IntKind.u8 0, Value.int IntKind.u8 0, Value.int IntKind.u8 0, Value.int IntKind.u8 0, Value.int IntKind.u8 0, Value.slice none 0 0, Value.slice none 0 0, Value.slice none 0 0, Value.slice none 0 0] 106)) := ((Fr.refl _ _ _).alloc (Nat.le_refl _) _).alloc (by simp) _
  have hZ : zaV.length = 24 := rfl
  have k0 := h1.cell 0 c0
  have hFl := acV_flat A n b cd s f1 f2 f3 f4
  have hLn := acV_length A n b cd s lA
  have e1 := acV_addr A n b cd s lA
  have e2 := acV_all A n b cd s lA
  generalize acV A n b cd s = M at *
  have lB : (byV A).length = 20 := by simp [byV, lA]
  have eB : subV (byV A) 0 20 = byV A := by simp [subV, ← lB]
  obtain ⟨fs, hu⟩ := und106
  have hi : (Sang.prog.info? 106).map (·.size) = some M.length := by rw [hLn]; exact siz106
  generalize zaV = Z at *
  have la : layV Z 0 M = M := layV_all _ _ (by omega)
  go_enter Sang.func72, Sang.ntmps72
  go_wp2_with fail
  generalize (w.alloc (.cells (byV A).toArray 23)).alloc (.cells #[Value.int IntKind.u8 0, Value.int IntKind.u8 0, Value.int IntKind.u8 0, Value.int IntKind.u8 0, Value.int IntKind.u8 0, Value.int IntKind.u8 0, Value.int IntKind.u8 0, Value.int IntKind.u8 0, Value.int IntKind.u8 0, Value.int IntKind.u8 0, Value.int IntKind.u8 0, Value.int IntKind.u8 0, Value.int IntKind.u8 0, Value.int IntKind.u8 0, Value.int IntKind.u8 0, Value.int IntKind.u8 0, Value.int IntKind.u8 0, Value.int IntKind.u8 0, Value.int IntKind.u8 0, Value.int IntKind.u8 0, Value.slice none 0 0, Value.slice none 0 0, Value.slice none 0 0, Value.slice none 0 0] 106) = w1 at h1 hA1 hX1 hR1 hf k0 ⊢
  go_loopw [12] (fun iv wr => iv = .int .i64 0 ∧ wr = w1) (fun _ _ => 0)
  case atStart => exact ⟨rfl, rfl⟩
  case round =>
    obtain ⟨rfl, rfl⟩ := hrel
    have hN := VB.new wr 106 M
    have hX2 := hX1.alloc (.cells M.toArray 106)
    have hR2 := hR1.alloc (.cells M.toArray 106)
    have qA := hA1.q
    have qN := hN.q
    have qX := hX2.q
    have qR := hR2.q
    go_wp2_with fail
    refine bodyPost_ret (results_cellV Sang.results72 rfl (VB.setV hR2.lt _ _) _ hu rfl hi) rfl ⟨rfl, ?_⟩
    exact (hf.alloc hf.size _).setV (.inl (by omega)) _ _

set_option maxRecDepth 10000 in
set_option maxHeartbeats 400000 in
theorem account_miss (c : Nat) (t : TypeId) (L LA : List Value) (g cap : Nat) (A B : List Nat) (n b cd s : Value) (w : World) (h : VB w c t L) (c0 : L[0]? = some (.slice (some ⟨g, 0, none⟩) 1 cap)) (hA : VB w g 106 LA) (lA : A.length = 20) (lB : B.length = 20) (hAB : (A == B) = false)
    (hs : subV LA 0 24 = acV A n b cd s) (hl : 24 ≤ LA.length) (f1 : n.oneCell' = true) (f2 : b.oneCell' = true) (f3 : cd.oneCell' = true) (f4 : s.oneCell' = true) :
    Calls Sang.prog 72 #[.pointer (some ⟨c, 0, none⟩), .agg (byV B).toArray] w fun e w' => e = .returned (.agg (acV B (.slice none 0 0) (.slice none 0 0) (.slice none 0 0) (.slice none 0 0)).toArray) ∧ Fr w.heap.size no w w' := by
  have h1 := (h.alloc (.cells (byV B).toArray 23)).alloc (.cells #[Value.int IntKind.u8 0, Value.int IntKind.u8 0, Value.int IntKind.u8 0, Value.int IntKind.u8 0, Value.int IntKind.u8 0, Value.int IntKind.u8 0, Value.int IntKind.u8 0, Value.int IntKind.u8 0, Value.int IntKind.u8 0, Value.int IntKind.u8 0, Value.int IntKind.u8 0, Value.int IntKind.u8 0, Value.int IntKind.u8 0, Value.int IntKind.u8 0, Value.int IntKind.u8 0, Value.int IntKind.u8 0, Value.int IntKind.u8 0, Value.int IntKind.u8 0, Value.int IntKind.u8 0, Value.int IntKind.u8 0, Value.slice none 0 0, Value.slice none 0 0, Value.slice none 0 0, Value.slice none 0 0] 106)
  have hA1 := (hA.alloc (.cells (byV B).toArray 23)).alloc (.cells #[Value.int IntKind.u8 0, Value.int IntKind.u8 0, Value.int IntKind.u8 0, Value.int IntKind.u8 0, Value.int IntKind.u8 0, Value.int IntKind.u8 0, Value.int IntKind.u8 0, Value.int IntKind.u8 0, Value.int IntKind.u8 0, Value.int IntKind.u8 0, Value.int IntKind.u8 0, Value.int IntKind.u8 0, Value.int IntKind.u8 0, Value.int IntKind.u8 0, Value.int IntKind.u8 0, Value.int IntKind.u8 0, Value.int IntKind.u8 0, Value.int IntKind.u8 0, Value.int IntKind.u8 0, Value.int IntKind.u8 0, Value.slice none 0 0, Value.slice none 0 0, Value.slice none 0 0, Value.slice none 0 0] 106)
  have hX1 : VB ((w.alloc (.cells (byV B).toArray 23)).alloc (.cells #[Value.int IntKind.u8 0, Value.int IntKind.u8 0, Value.int IntKind.u8 0, Value.int IntKind.u8 0, Value.int IntKind.u8 0, Value.int IntKind.u8 0, Value.int IntKind.u8 0, Value.int IntKind.u8 0, Value.int IntKind.u8 0, Value.int IntKind.u8 0, Value.int IntKind.u8 0, Value.int IntKind.u8 0, Value.int IntKind.u8 0, Value.int IntKind.u8 0, Value.int IntKind.u8 0, Value.int IntKind.u8 0, Value.int IntKind.u8 0, Value.int IntKind.u8 0, Value.int IntKind.u8 0, Value.int IntKind.u8 0, Value.slice none 0 0, Value.slice none 0 0, Value.slice none 0 0, Value.slice none 0 0] 106)) w.heap.size 23 (byV B) := (VB.new w 23 (byV B)).alloc _
  have hR1 : VB ((w.alloc (.cells (byV B).toArray 23)).alloc (.cells #[Value.int IntKind.u8 0, Value.int IntKind.u8 0, Value.int IntKind.u8 0, Value.int IntKind.u8 0, Value.int IntKind.u8 0, Value.int IntKind.u8 0, Value.int IntKind.u8 0, Value.int IntKind.u8 0, Value.int IntKind.u8 0, Value.int IntKind.u8 0, Value.int IntKind.u8 0, Value.int IntKind.u8 0, Value.int IntKind.u8 0, Value.int IntKind.u8 0, Value.int IntKind.u8 0, Value.int IntKind.u8 0, Value.int IntKind.u8 0, Value.int IntKind.u8 0, Value.int IntKind.u8 0, Value.int IntKind.u8 0, Value.slice none 0 0, Value.slice none 0 0, Value.slice none 0 0, Value.slice none 0 0] 106)) (w.heap.size + 1) 106 zaV := VB.newAt (by simp) (by rfl)
  have hf : Fr w.heap.size no w ((w.alloc (.cells (byV B).toArray 23)).alloc (.cells #[Value.int IntKind.u8 0, Value.int IntKind.u8 0, Value.int IntKind.u8 0, Value.int IntKind.u8 0, Value.int IntKind.u8 0, Value.int IntKind.u8 0, Value.int IntKind.u8 0, Value.int IntKind.u8 0, Value.int IntKind.u8 0, Value.int IntKind.u8 0, Value.int IntKind.u8 0, Value.int IntKind.u8 0, Value.int IntKind.u8 0, Value.int IntKind.u8 0, Value.int IntKind.u8 0, Value.int IntKind.u8 0, Value.int IntKind.u8 0, Value.int IntKind.u8 0, Value.int IntKind.u8 0, Value.int IntKind.u8 0, Value.slice none 0 0, Value.slice none 0 0, Value.slice none 0 0, Value.slice none 0 0] 106)) := ((Fr.refl _ _ _).alloc (Nat.le_refl _) _).alloc (by simp) _
  have hZ : zaV.length = 24 := rfl
  have k0 := h1.cell 0 c0
  have hFl := acV_flat A n b cd s f1 f2 f3 f4
  have hLn := acV_length A n b cd s lA
  have e1 := acV_addr A n b cd s lA
  have e2 := acV_all A n b cd s lA
  generalize acV A n b cd s = M at *
  have hbd := fun w => bld106_0 w B lB
  have hFl' := acV_flat B (.slice none 0 0) (.slice none 0 0) (.slice none 0 0) (.slice none 0 0) rfl rfl rfl rfl
  have hLn' := acV_length B (.slice none 0 0) (.slice none 0 0) (.slice none 0 0) (.slice none 0 0) lB
  generalize acV B (.slice none 0 0) (.slice none 0 0) (.slice none 0 0) (.slice none 0 0) = N at *
  have lBv : (byV B).length = 20 := by simp [byV, lB]
  have eB : subV (byV B) 0 20 = byV B := by simp [subV, ← lBv]
  obtain ⟨fs, hu⟩ := und106
  have hi : (Sang.prog.info? 106).map (·.size) = some N.length := by rw [hLn']; exact siz106
  generalize zaV = Z at *
  have la : layV Z 0 N = N := layV_all _ _ (by omega)
  go_enter Sang.func72, Sang.ntmps72
  go_wp2_with fail
  generalize (w.alloc (.cells (byV B).toArray 23)).alloc (.cells #[Value.int IntKind.u8 0, Value.int IntKind.u8 0, Value.int IntKind.u8 0, Value.int IntKind.u8 0, Value.int IntKind.u8 0, Value.int IntKind.u8 0, Value.int IntKind.u8 0, Value.int IntKind.u8 0, Value.int IntKind.u8 0, Value.int IntKind.u8 0, Value.int IntKind.u8 0, Value.int IntKind.u8 0, Value.int IntKind.u8 0, Value.int IntKind.u8 0, Value.int IntKind.u8 0, Value.int IntKind.u8 0, Value.int IntKind.u8 0, Value.int IntKind.u8 0, Value.int IntKind.u8 0, Value.int IntKind.u8 0, Value.slice none 0 0, Value.slice none 0 0, Value.slice none 0 0, Value.slice none 0 0] 106) = w1 at h1 hA1 hX1 hR1 hf k0 ⊢
  go_loopw [12] (fun iv wr => (iv = .int .i64 0 ∧ wr = w1) ∨ (iv = .int .i64 1 ∧ wr = w1.alloc (.cells M.toArray 106))) (fun i _ => 1 - (intOf i).toNat)
  case atStart => exact .inl ⟨rfl, rfl⟩
  case round =>
    rcases hrel with ⟨rfl, rfl⟩ | ⟨rfl, rfl⟩
    · have hN := VB.new wr 106 M
      have hX2 := hX1.alloc (.cells M.toArray 106)
      have qA := hA1.q
      have qN := hN.q
      have qX := hX2.q
      go_wp2_with fail
      refine ⟨.inr ?_, by simp [intOf]⟩
      simp
    · have hX2 := hX1.alloc (.cells M.toArray 106)
      have hR2 := hR1.alloc (.cells M.toArray 106)
      have qX := hX2.q
      have qR := hR2.q
      go_wp2_with fail
      refine bodyPost_ret (results_cellV Sang.results72 rfl (VB.setV hR2.lt _ _) _ hu rfl hi) rfl ⟨rfl, ?_⟩
      exact (hf.alloc hf.size _).setV (.inl (by omega)) _ _
end Go.Proofs.YgcsanGreat
