/-
  Package num: Words, inside, BE64; package u256: FromBytes, Word.U64, Word.Limbs.
-/
import Derived.Test.YgcsanWide
import Derived.Test.YgcsanU256
import Derived.Test.YgcsanEq
import Derived.Laws.Cover3
namespace Go.Proofs.Ygcsan
open Go.RowKit
set_option linter.unusedSimpArgs false
set_option linter.unusedVariables false

set_option maxRecDepth 10000 in
set_option maxHeartbeats 400000 in
theorem numWords_any (n : Nat) (w : World) (hn : n < 4294967296) :
    Calls Sang.prog 44 #[.int .u64 (n : Int)] w fun e w' => e = .returned (.int .u64 ((n + 31) / 32 : Nat)) ∧ w' = w := by
  by_cases h0 : n % 32 = 0
  · have h1 : ((n : Int) % 32 == 0) = true := by simp; omega
    go_enter Sang.func44, Sang.ntmps44
    go_wp2_with fail
    go_ret
    refine ⟨?_, rfl⟩
    show Ending.returned (.int .u64 _) = _
    congr 2
    omega
  · have h1 : ((n : Int) % 32 == 0) = false := by simp; omega
    go_enter Sang.func44, Sang.ntmps44
    go_wp2_with fail
    go_ret
    refine ⟨?_, rfl⟩
    show Ending.returned (.int .u64 _) = _
    congr 2
    omega

set_option maxRecDepth 10000 in
set_option maxHeartbeats 400000 in
theorem inside_any (n off : Nat) (w : World) (hn : n < 4294967296) (ho : off + 8 ≤ n) :
    Calls Sang.prog 89 #[.int .i64 (n : Int), .int .i64 (off : Int)] w fun e w' => e = .returned (.bool true) ∧ w' = w := by
  have h1 : (0 : Int) ≤ (off : Int) := by omega
  have h2 : (8 : Int) ≤ (n : Int) := by omega
  have h3 : (off : Int) ≤ (n : Int) - 8 := by omega
  go_enter Sang.func89, Sang.ntmps89
  go_wp2_with fail
  go_ret
  exact ⟨rfl, rfl⟩

section
variable {P : Program} {ops : Array Oper} {rest : List Oper} {Q : Exit → Act → World → Prop} {a : Act} {w : World} {dst : Option Tmp} {type : TypeId} {pos : String} {after : Array Edge}

/-- a row of n cells from place o on is loaded -/
theorem wl_load_from (ty : TypeId) (x : Operand) (b o : Nat) (k : IntKind) (t : TypeId) (L : List Nat) (n : Nat) (T : List Nat) (hx : a.eval x = .pointer (some ⟨b, o, none⟩)) (h : IB w b k t L)
    (d : TypeDesc) (hd : P.underlying ty = some d) (hagg : rowish d = true) (hn : o + n ≤ L.length) (hi : (P.info? ty).map (·.size) = some n) (hT : (L.drop o).take n = T)
    (hK : wpList P ops Q rest (a.put dst (.agg (ints k T))) w) : wpList P ops Q (⟨dst, .load ty x, type, pos, after, none⟩ :: rest) a w := by
  subst hT
  refine wpList_plain rfl fun K hK' => ?_
  obtain ⟨i, hi1, hi2⟩ := Option.map_eq_some_iff.1 hi
  have hl := run_loadCellsFrom (P := P) w b (ints k L) t (0, 0) h o n 0 #[] (by simp [ints_size]; omega)
  have e : (ints k L).extract (o + 0) (o + 0 + n) = ints k ((L.drop o).take n) := by
    apply Array.ext
    · simp [ints]
      try omega
    · intro j h1 h2
      simp [ints, List.getElem_take, List.getElem_drop]
  rw [e] at hl
  have hl' : (loadCells ⟨b, o, none⟩ n).run P w = .ok (ints k ((L.drop o).take n)) w := by
    unfold loadCells; rw [hl]; simp
  have hr : (loadVar ty ⟨b, o, none⟩).run P w = .ok (.agg (ints k ((L.drop o).take n))) w := by
    cases d <;> simp_all [rowish, loadVar, isAgg, underlying, sizeOf, typeInfo, go_sem]
  unfold Oper.wp execOp
  simp only [hx, Instr.loadAt, Instr.sureAddr, Sem.run_bind, Sem.run_pure, Result.andThen_ok, hr]
  exact hK' _ _ hK

/-- a new variable, and at once a row is stored to it -/
theorem wl_store_fresh (w0 : World) (cs : Array Value) (ty : TypeId) (x y : Operand) (b : Nat) (k : IntKind) (t : TypeId) (L M : List Nat) (hx : a.eval x = .pointer (some ⟨b, 0, none⟩)) (hy : a.eval y = .agg (ints k M)) (hb : b = w0.heap.size) (hc : cs = ints k L)
    (hM : M.length = L.length) (hi : (P.info? ty).map (·.size) = some L.length)
    (hK : wpList P ops Q rest (a.put dst undef) (w0.alloc (.cells (ints k M) t))) : wpList P ops Q (⟨dst, .store ty x y, type, pos, after, none⟩ :: rest) a (w0.alloc (.cells cs t)) := by
  subst hb
  subst hc
  refine wl_store ty x y w0.heap.size k t L M hx hy (IB.new w0 k t L) hM hi ?_
  rw [setRow_alloc]
  exact hK
end

theorem list_eight {l : List Nat} (h : l.length = 8) : ∃ a b c d e f g i, l = [a, b, c, d, e, f, g, i] := by
  match l, h with
  | [a, b, c, d, e, f, g, i], _ => exact ⟨a, b, c, d, e, f, g, i, rfl⟩

theorem und174 : Sang.prog.underlying 174 = some (.array 8 5) := by kernel_rfl
theorem siz174' : (Sang.prog.info? 174).map (·.size) = some 8 := by kernel_rfl

theorem or_byte (x y k K : Nat) (hK : K = 2 ^ k) (hx : x < K) (hy : y < 256) (hk : k ≤ 56) : bits .or .u64 (x : Int) (IntKind.u64.wrap ((y : Int) * (K : Int))) = ((x + y * K : Nat) : Int) := by
  have h256 : K * 256 ≤ W64 := by
    have : K ≤ 2 ^ 56 := by rw [hK]; exact Nat.pow_le_pow_right (by decide) hk
    rw [W64_eq]
    omega
  have h1 : y * K ≤ 255 * K := Nat.mul_le_mul_right _ (by omega)
  have e : IntKind.u64.wrap ((y : Int) * (K : Int)) = ((y * K : Nat) : Int) := by
    rw [← Int.natCast_mul, IntKind.wrap_u64]
    rw [W64_eq] at h256
    omega
  rw [e, u64_or_nat _ _ (by rw [← W64_eq]; omega) (by rw [← W64_eq]; omega)]
  congr 1
  subst hK
  exact or_low x y k hx

theorem or_chain (d0 d1 d2 d3 d4 d5 d6 d7 : Nat) (h : Dg 256 [d0, d1, d2, d3, d4, d5, d6, d7]) :
    (bits .or .u64 (bits .or .u64 (bits .or .u64 (bits .or .u64 (bits .or .u64 (bits .or .u64 (bits .or .u64 (IntKind.u64.wrap (d7 : Int)) (IntKind.u64.wrap (IntKind.u64.wrap (d6 : Int) * 256))) (IntKind.u64.wrap (IntKind.u64.wrap (d5 : Int) * 65536))) (IntKind.u64.wrap (IntKind.u64.wrap (d4 : Int) * 16777216))) (IntKind.u64.wrap (IntKind.u64.wrap (d3 : Int) * 4294967296))) (IntKind.u64.wrap (IntKind.u64.wrap (d2 : Int) * 1099511627776))) (IntKind.u64.wrap (IntKind.u64.wrap (d1 : Int) * 281474976710656))) (IntKind.u64.wrap (IntKind.u64.wrap (d0 : Int) * 72057594037927936))) = ((be [d0, d1, d2, d3, d4, d5, d6, d7] : Nat) : Int) := by
  have h0 : d0 < 256 := h d0 (by simp)
  have h1 : d1 < 256 := h d1 (by simp)
  have h2 : d2 < 256 := h d2 (by simp)
  have h3 : d3 < 256 := h d3 (by simp)
  have h4 : d4 < 256 := h d4 (by simp)
  have h5 : d5 < 256 := h d5 (by simp)
  have h6 : d6 < 256 := h d6 (by simp)
  have h7 : d7 < 256 := h d7 (by simp)
  have e : ∀ d : Nat, d < 256 → IntKind.u64.wrap (d : Int) = (d : Int) := fun d hd => by rw [IntKind.wrap_u64]; omega
  rw [e d0 h0, e d1 h1, e d2 h2, e d3 h3, e d4 h4, e d5 h5, e d6 h6, e d7 h7]
  have s0 : bits .or .u64 ((d7 : Nat) : Int) (IntKind.u64.wrap ((d6 : Int) * 256)) = ((d7 + d6 * 256 : Nat) : Int) := or_byte (d7) d6 8 256 rfl (by omega) h6 (by omega)
  rw [s0]
  have s1 : bits .or .u64 ((d7 + d6 * 256 : Nat) : Int) (IntKind.u64.wrap ((d5 : Int) * 65536)) = ((d7 + d6 * 256 + d5 * 65536 : Nat) : Int) := or_byte (d7 + d6 * 256) d5 16 65536 rfl (by omega) h5 (by omega)
  rw [s1]
  have s2 : bits .or .u64 ((d7 + d6 * 256 + d5 * 65536 : Nat) : Int) (IntKind.u64.wrap ((d4 : Int) * 16777216)) = ((d7 + d6 * 256 + d5 * 65536 + d4 * 16777216 : Nat) : Int) := or_byte (d7 + d6 * 256 + d5 * 65536) d4 24 16777216 rfl (by omega) h4 (by omega)
  rw [s2]
  have s3 : bits .or .u64 ((d7 + d6 * 256 + d5 * 65536 + d4 * 16777216 : Nat) : Int) (IntKind.u64.wrap ((d3 : Int) * 4294967296)) = ((d7 + d6 * 256 + d5 * 65536 + d4 * 16777216 + d3 * 4294967296 : Nat) : Int) := or_byte (d7 + d6 * 256 + d5 * 65536 + d4 * 16777216) d3 32 4294967296 rfl (by omega) h3 (by omega)
  rw [s3]
  have s4 : bits .or .u64 ((d7 + d6 * 256 + d5 * 65536 + d4 * 16777216 + d3 * 4294967296 : Nat) : Int) (IntKind.u64.wrap ((d2 : Int) * 1099511627776)) = ((d7 + d6 * 256 + d5 * 65536 + d4 * 16777216 + d3 * 4294967296 + d2 * 1099511627776 : Nat) : Int) := or_byte (d7 + d6 * 256 + d5 * 65536 + d4 * 16777216 + d3 * 4294967296) d2 40 1099511627776 rfl (by omega) h2 (by omega)
  rw [s4]
  have s5 : bits .or .u64 ((d7 + d6 * 256 + d5 * 65536 + d4 * 16777216 + d3 * 4294967296 + d2 * 1099511627776 : Nat) : Int) (IntKind.u64.wrap ((d1 : Int) * 281474976710656)) = ((d7 + d6 * 256 + d5 * 65536 + d4 * 16777216 + d3 * 4294967296 + d2 * 1099511627776 + d1 * 281474976710656 : Nat) : Int) := or_byte (d7 + d6 * 256 + d5 * 65536 + d4 * 16777216 + d3 * 4294967296 + d2 * 1099511627776) d1 48 281474976710656 rfl (by omega) h1 (by omega)
  rw [s5]
  have s6 : bits .or .u64 ((d7 + d6 * 256 + d5 * 65536 + d4 * 16777216 + d3 * 4294967296 + d2 * 1099511627776 + d1 * 281474976710656 : Nat) : Int) (IntKind.u64.wrap ((d0 : Int) * 72057594037927936)) = ((d7 + d6 * 256 + d5 * 65536 + d4 * 16777216 + d3 * 4294967296 + d2 * 1099511627776 + d1 * 281474976710656 + d0 * 72057594037927936 : Nat) : Int) := or_byte (d7 + d6 * 256 + d5 * 65536 + d4 * 16777216 + d3 * 4294967296 + d2 * 1099511627776 + d1 * 281474976710656) d0 56 72057594037927936 rfl (by omega) h0 (by omega)
  rw [s6]
  congr 1
  simp only [be, List.reverse_cons, List.reverse_nil, List.nil_append, List.cons_append, val]
  omega

set_option maxRecDepth 10000 in
set_option maxHeartbeats 1000000 in
theorem be64_any (b t n off : Nat) (L : List Nat) (w : World) (h : IB w b .u8 t L) (hL : L.length = n) (hd : Dg 256 L) (hn : n ≤ 1024) (ho : off + 8 ≤ n) :
    Calls Sang.prog 83 #[.slice (some ⟨b, 0, none⟩) n n, .int .i64 (off : Int)] w fun e w' => e = .returned (.tuple #[.int .u64 (be ((L.drop off).take 8) : Nat), .bool true]) ∧ Fr w.heap.size no w w' := by
  have hT8 : ((L.drop off).take 8).length = 8 := by simp; omega
  have hTd : Dg 256 ((L.drop off).take 8) := (hd.drop off).take 8
  obtain ⟨d0, d1, d2, d3, d4, d5, d6, d7, HT⟩ := list_eight hT8
  rw [HT] at hTd ⊢
  have H : Hid (IB w b .u8 t L) := h
  have HTT : Hid ((L.drop off).take 8 = [d0, d1, d2, d3, d4, d5, d6, d7]) := HT
  clear h HT hT8
  have HTD : Hid (Dg 256 [d0, d1, d2, d3, d4, d5, d6, d7]) := hTd
  clear hTd hd
  have hi1 : (0 : Int) ≤ (off : Int) := by omega
  have hi2 : (off : Int) ≤ (off : Int) + 8 := by omega
  have hi3 : (off : Int) + 8 ≤ (n : Int) := by omega
  go_enter Sang.func83, Sang.ntmps83
  go_wp2_with fail
  refine (inside_any n off _ (by omega) ho).mono ?_
  rintro e w ⟨rfl, rfl⟩
  have hat := fun (aa : Option Addr) (ll cc : Nat) (w : World) (hl : 8 ≤ ll) => run_arrayAt (P := Sang.prog) w 174 5 8 aa ll cc und174 hl
  have hnew := IB.new w .u8 174 [d0, d1, d2, d3, d4, d5, d6, d7]
  have hc0 := hnew.cell 0 (by simp)
  have hc1 := hnew.cell 1 (by simp)
  have hc2 := hnew.cell 2 (by simp)
  have hc3 := hnew.cell 3 (by simp)
  have hc4 := hnew.cell 4 (by simp)
  have hc5 := hnew.cell 5 (by simp)
  have hc6 := hnew.cell 6 (by simp)
  have hc7 := hnew.cell 7 (by simp)
  have hs174 : (Sang.prog.info? 174).map (·.size) = some [0, 0, 0, 0, 0, 0, 0, 0].length := siz174'
  have hfr : Fr w.heap.size no w (w.alloc (.cells (ints .u8 [d0, d1, d2, d3, d4, d5, d6, d7]) 174)) := (Fr.refl _ _ _).alloc (Nat.le_refl _) _
  have HFR : Hid (Fr w.heap.size no w (w.alloc (.cells (ints .u8 [d0, d1, d2, d3, d4, d5, d6, d7]) 174))) := hfr
  clear hnew hfr
  go_wp2_with (first
    | ((with_reducible refine wl_load_from 174 (.tmp 17) b off .u8 t L 8 [d0, d1, d2, d3, d4, d5, d6, d7] ?_ H.out (.array 8 5) und174 ?_ ?_ siz174' HTT.out ?_); rfl; rfl; omega)
    | ((with_reducible refine wl_store_fresh w #[.int .u8 0, .int .u8 0, .int .u8 0, .int .u8 0, .int .u8 0, .int .u8 0, .int .u8 0, .int .u8 0] 174 (.tmp 6) (.tmp 18) w.heap.size .u8 174 [0, 0, 0, 0, 0, 0, 0, 0] [d0, d1, d2, d3, d4, d5, d6, d7] ?_ ?_ rfl ?_ rfl hs174 ?_); rfl; rfl; rfl))
  go_ret2
  refine ⟨?_, HFR.out⟩
  rw [← or_chain _ _ _ _ _ _ _ _ HTD.out]
  rfl

theorem be_limb {L : List Nat} (n i : Nat) (hL : L.length = 8 * n) (hi : i < n) (hd : Dg 256 L) : (limbs W64 n (be L)).getD i 0 = be ((L.drop (8 * (n - 1 - i))).take 8) := by
  rw [limbs_get W64 n _ i hi]
  have e1 : L = L.take (8 * (n - 1 - i)) ++ ((L.drop (8 * (n - 1 - i))).take 8 ++ (L.drop (8 * (n - 1 - i))).drop 8) := by
    rw [List.take_append_drop, List.take_append_drop]
  have hB : be ((L.drop (8 * (n - 1 - i))).take 8) < W64 := by
    have := be_lt ((hd.drop (8 * (n - 1 - i))).take 8)
    rw [show ((L.drop (8 * (n - 1 - i))).take 8).length = 8 by simp; omega] at this
    exact this
  have lC : ((L.drop (8 * (n - 1 - i))).drop 8).length = 8 * i := by simp; omega
  have hC : be ((L.drop (8 * (n - 1 - i))).drop 8) < W64 ^ i := by
    have := be_lt ((hd.drop (8 * (n - 1 - i))).drop 8)
    rw [lC, Nat.pow_mul] at this
    exact this
  have e2 : be L = (be (L.take (8 * (n - 1 - i))) * W64 + be ((L.drop (8 * (n - 1 - i))).take 8)) * W64 ^ i + be ((L.drop (8 * (n - 1 - i))).drop 8) := by
    conv => lhs; rw [e1]
    rw [be_append, be_append, List.length_append, lC, show ((L.drop (8 * (n - 1 - i))).take 8).length = 8 by simp; omega, Nat.pow_add, Nat.pow_mul 256 8 i, show (256 : Nat) ^ 8 = W64 from rfl, Nat.add_mul, ← Nat.mul_assoc]
    omega
  rw [e2, Nat.mul_comm _ (W64 ^ i), Nat.mul_add_div (Nat.pow_pos W64_pos), Nat.div_eq_of_lt hC, Nat.add_zero, Nat.mul_comm _ W64, Nat.mul_add_mod]
  exact Nat.mod_eq_of_lt hB

theorem list_four {l : List Nat} (h : l.length = 4) : l = [l.getD 0 0, l.getD 1 0, l.getD 2 0, l.getD 3 0] := by
  match l, h with
  | [a, b, c, d], _ => rfl

theorem und113 : Sang.prog.underlying 113 = some (.array 4 24) := by kernel_rfl
theorem siz113 : (Sang.prog.info? 113).map (·.size) = some 4 := by kernel_rfl
theorem und71 : Sang.prog.underlying 71 = some (.array 32 5) := by kernel_rfl
theorem siz71 : (Sang.prog.info? 71).map (·.size) = some 32 := by kernel_rfl

set_option maxRecDepth 10000 in
set_option maxHeartbeats 1000000 in
theorem fromBytes_any (L : List Nat) (w : World) (hL : L.length = 32) (hd : Dg 256 L) :
    Calls Sang.prog 47 #[.agg (ints .u8 L)] w fun e w' => e = .returned (.agg (ints .u64 (limbs W64 4 (be L)))) ∧ Fr w.heap.size no w w' := by
  have HE : Hid (limbs W64 4 (be L) = [be ((L.drop 24).take 8), be ((L.drop 16).take 8), be ((L.drop 8).take 8), be ((L.drop 0).take 8)]) := by
    unfold Hid
    rw [list_four (limbs_length W64 4 (be L)), be_limb 4 0 hL (by omega) hd, be_limb 4 1 hL (by omega) hd, be_limb 4 2 hL (by omega) hd, be_limb 4 3 hL (by omega) hd]
  have HB0 : Hid (∀ (b : Nat) (w : World), IB w b .u8 71 L → Calls Sang.prog 83 #[.slice (some ⟨b, 0, none⟩) 32 32, .int .i64 0] w fun e w' => e = .returned (.tuple #[.int .u64 (be ((L.drop 0).take 8) : Nat), .bool true]) ∧ Fr w.heap.size no w w') :=
    fun b w h => be64_any b 71 32 0 L w h hL hd (by omega) (by omega)
  have HB1 : Hid (∀ (b : Nat) (w : World), IB w b .u8 71 L → Calls Sang.prog 83 #[.slice (some ⟨b, 0, none⟩) 32 32, .int .i64 8] w fun e w' => e = .returned (.tuple #[.int .u64 (be ((L.drop 8).take 8) : Nat), .bool true]) ∧ Fr w.heap.size no w w') :=
    fun b w h => be64_any b 71 32 8 L w h hL hd (by omega) (by omega)
  have HB2 : Hid (∀ (b : Nat) (w : World), IB w b .u8 71 L → Calls Sang.prog 83 #[.slice (some ⟨b, 0, none⟩) 32 32, .int .i64 16] w fun e w' => e = .returned (.tuple #[.int .u64 (be ((L.drop 16).take 8) : Nat), .bool true]) ∧ Fr w.heap.size no w w') :=
    fun b w h => be64_any b 71 32 16 L w h hL hd (by omega) (by omega)
  have HB3 : Hid (∀ (b : Nat) (w : World), IB w b .u8 71 L → Calls Sang.prog 83 #[.slice (some ⟨b, 0, none⟩) 32 32, .int .i64 24] w fun e w' => e = .returned (.tuple #[.int .u64 (be ((L.drop 24).take 8) : Nat), .bool true]) ∧ Fr w.heap.size no w w') :=
    fun b w h => be64_any b 71 32 24 L w h hL hd (by omega) (by omega)
  rw [HE.out]
  clear HE
  generalize be ((L.drop 0).take 8) = x0 at *
  generalize be ((L.drop 8).take 8) = x1 at *
  generalize be ((L.drop 16).take 8) = x2 at *
  generalize be ((L.drop 24).take 8) = x3 at *
  have hs113 : (Sang.prog.info? 113).map (·.size) = some [0, 0, 0, 0].length := siz113
  have hs71 : (Sang.prog.info? 71).map (·.size) = some L.length := by rw [hL]; exact siz71
  go_enter Sang.func47, Sang.ntmps47
  go_wp2_with fail
  have hf0 : Fr w.heap.size no w ((w.alloc (.cells (ints .u8 L) 71)).alloc (.cells #[.int .u64 0, .int .u64 0, .int .u64 0, .int .u64 0] 113)) := ((Fr.refl _ _ _).alloc (Nat.le_refl _) _).alloc (by simp) _
  have hL0 : IB ((w.alloc (.cells (ints .u8 L) 71)).alloc (.cells #[.int .u64 0, .int .u64 0, .int .u64 0, .int .u64 0] 113)) w.heap.size .u8 71 L := (IB.new w .u8 71 L).alloc _
  have hR0 : IB ((w.alloc (.cells (ints .u8 L) 71)).alloc (.cells #[.int .u64 0, .int .u64 0, .int .u64 0, .int .u64 0] 113)) (w.heap.size + 1) .u64 113 [0, 0, 0, 0] := IB.newAt (by simp) rfl
  generalize (w.alloc (.cells (ints .u8 L) 71)).alloc (.cells #[.int .u64 0, .int .u64 0, .int .u64 0, .int .u64 0] 113) = w0 at hf0 hL0 hR0 ⊢
  refine (HB0.out _ w0 hL0).mono ?_
  rintro e w1 ⟨rfl, hf⟩
  replace hL0 := hL0.fr hf hL0.lt (fun x => x)
  replace hR0 := hR0.fr hf hR0.lt (fun x => x)
  replace hf0 := hf0.step hf hf0.size (fun _ _ x => x)
  clear hf
  go_wp2_with fail
  refine (HB1.out _ w1 hL0).mono ?_
  rintro e w2 ⟨rfl, hf⟩
  replace hL0 := hL0.fr hf hL0.lt (fun x => x)
  replace hR0 := hR0.fr hf hR0.lt (fun x => x)
  replace hf0 := hf0.step hf hf0.size (fun _ _ x => x)
  clear hf
  go_wp2_with fail
  refine (HB2.out _ w2 hL0).mono ?_
  rintro e w3 ⟨rfl, hf⟩
  replace hL0 := hL0.fr hf hL0.lt (fun x => x)
  replace hR0 := hR0.fr hf hR0.lt (fun x => x)
  replace hf0 := hf0.step hf hf0.size (fun _ _ x => x)
  clear hf
  go_wp2_with fail
  refine (HB3.out _ w3 hL0).mono ?_
  rintro e w4 ⟨rfl, hf⟩
  replace hL0 := hL0.fr hf hL0.lt (fun x => x)
  replace hR0 := hR0.fr hf hR0.lt (fun x => x)
  replace hf0 := hf0.step hf hf0.size (fun _ _ x => x)
  clear hf
  go_wp2_with ((with_reducible refine wl_store 113 (.tmp 2) (.tmp 35) (w.heap.size + 1) .u64 113 [0, 0, 0, 0] [x3, x2, x1, x0] ?_ ?_ hR0 rfl hs113 ?_); rfl; rfl)
  refine bodyPost_ret (results_cell Sang.results47 rfl (IB.setRow hR0.lt _ _ _) _ und113 rfl siz113) rfl ⟨rfl, ?_⟩
  exact hf0.setRow (.inl (by omega)) _ _ _

theorem or_zero64 (x y : Nat) (hx : x < W64) (hy : y < W64) : bits .or .u64 (x : Int) (y : Int) = ((x ||| y : Nat) : Int) := u64_or_nat _ _ (by rw [← W64_eq]; exact hx) (by rw [← W64_eq]; exact hy)

theorem lim4_small (N : Nat) (hN : N < W64) : limbs W64 4 N = [N, 0, 0, 0] := by
  simp [limbs, Nat.mod_eq_of_lt hN, Nat.div_eq_of_lt hN]

set_option maxRecDepth 10000 in
set_option maxHeartbeats 1000000 in
theorem wordU64_any (N : Nat) (w : World) (hN : N < W64 ^ 4) :
    Calls Sang.prog 82 #[.agg (ints .u64 (limbs W64 4 N))] w fun e w' => e = .returned (.tuple #[.int .u64 ((if N < W64 then N else 0 : Nat) : Int), .bool (decide (N < W64))]) ∧ Fr w.heap.size no w w' := by
  have hd := limbs_dg W64_pos 4 N
  have hl := list_four (limbs_length W64 4 N)
  have hv : val W64 (limbs W64 4 N) = N := by rw [val_limbs, Nat.mod_eq_of_lt hN]
  rw [hl] at hd hv ⊢
  generalize (limbs W64 4 N).getD 0 0 = a at *
  generalize (limbs W64 4 N).getD 1 0 = b at *
  generalize (limbs W64 4 N).getD 2 0 = c at *
  generalize (limbs W64 4 N).getD 3 0 = d at *
  have ha := hd a (by simp)
  have hb := hd b (by simp)
  have hc := hd c (by simp)
  have hdd := hd d (by simp)
  clear hd hl
  have ho1 := or_zero64 b c hb hc
  have hbc : b ||| c < W64 := by
    have := Nat.or_lt_two_pow (n := 64) (show b < 2 ^ 64 from hb) (show c < 2 ^ 64 from hc)
    exact this
  have ho2 := or_zero64 (b ||| c) d hbc hdd
  have H : Hid (a < W64 ∧ b < W64 ∧ c < W64 ∧ d < W64 ∧ val W64 [a, b, c, d] = N) := ⟨ha, hb, hc, hdd, hv⟩
  clear ha hb hc hdd hv hbc hN
  by_cases hz : (b ||| c) ||| d = 0
  · have h1 : (((b ||| c) ||| d : Nat) : Int) = 0 := by rw [hz]; rfl
    rw [h1] at ho2
    have hb0 : b = 0 ∧ c = 0 ∧ d = 0 := by
      rw [Nat.or_eq_zero_iff, Nat.or_eq_zero_iff] at hz
      omega
    have hNa : N = a := by
      rw [← H.out.2.2.2.2, hb0.1, hb0.2.1, hb0.2.2]
      simp [val]
    have hlt : N < W64 := by rw [hNa]; exact H.out.1
    rw [if_pos hlt, show decide (N < W64) = true by simpa using hlt, hNa]
    clear hlt hNa hb0 h1 hz H
    have hnew := IB.new w .u64 113 [a, b, c, d]
    have hc0 := hnew.cell 0 (by simp)
    have hc1 := hnew.cell 1 (by simp)
    have hc2 := hnew.cell 2 (by simp)
    have hc3 := hnew.cell 3 (by simp)
    clear hnew
    go_enter Sang.func82, Sang.ntmps82
    go_wp2_with fail
    go_ret2
    exact ⟨rfl, (Fr.refl _ _ _).alloc (Nat.le_refl _) _⟩
  · have h1 : ((((b ||| c) ||| d : Nat) : Int) == 0) = false := by simpa using hz
    have hge : ¬ N < W64 := by
      intro hlt
      have h2 : N / W64 = 0 := Nat.div_eq_of_lt hlt
      have h3 : N = a + W64 * (b + W64 * (c + W64 * d)) := by
        rw [← H.out.2.2.2.2]; simp [val]
      have h4 : b + W64 * (c + W64 * d) = 0 := by
        rw [h3, Nat.add_mul_div_left _ _ W64_pos, Nat.div_eq_of_lt H.out.1, Nat.zero_add] at h2
        exact h2
      have h5 : b = 0 := by omega
      have h6 : c + W64 * d = 0 := by
        rcases Nat.mul_eq_zero.1 (show W64 * (c + W64 * d) = 0 by omega) with h | h
        · exact absurd h (Nat.ne_of_gt W64_pos)
        · exact h
      have h7 : c = 0 := by omega
      have h8 : d = 0 := by
        rcases Nat.mul_eq_zero.1 (show W64 * d = 0 by omega) with h | h
        · exact absurd h (Nat.ne_of_gt W64_pos)
        · exact h
      exact hz (by rw [h5, h7, h8]; rfl)
    rw [if_neg hge, show decide (N < W64) = false by simpa using hge]
    generalize (b ||| c) ||| d = z at *
    clear hge hz H
    have hnew := IB.new w .u64 113 [a, b, c, d]
    have hc0 := hnew.cell 0 (by simp)
    have hc1 := hnew.cell 1 (by simp)
    have hc2 := hnew.cell 2 (by simp)
    have hc3 := hnew.cell 3 (by simp)
    clear hnew
    go_enter Sang.func82, Sang.ntmps82
    go_wp2_with fail
    go_ret2
    exact ⟨rfl, (Fr.refl _ _ _).alloc (Nat.le_refl _) _⟩

set_option maxRecDepth 10000 in
set_option maxHeartbeats 1000000 in
theorem wordLimbs_any (L : List Nat) (w : World) (hL : L.length = 4) :
    Calls Sang.prog 48 #[.agg (ints .u64 L)] w fun e w' => e = .returned (.int .u8 (lcF L 4 : Nat)) ∧ Fr w.heap.size no w w' := by
  have hs113 : (Sang.prog.info? 113).map (·.size) = some L.length := by rw [hL]; exact siz113
  go_enter Sang.func48, Sang.ntmps48
  go_wp2_with fail
  have hf0 : Fr w.heap.size no w (w.alloc (.cells (ints .u64 L) 113)) := (Fr.refl _ _ _).alloc (Nat.le_refl _) _
  have h := IB.new w .u64 113 L
  generalize w.alloc (.cells (ints .u64 L) 113) = w0 at hf0 h ⊢
  obtain ⟨b, HBS⟩ : ∃ b, Hid (w.heap.size = b) := ⟨_, rfl⟩
  rw [HBS.out] at h ⊢
  go_loop [3] (fun i => ∃ k : Nat, k ≤ 4 ∧ i = .int .u8 k ∧ Hid (lcF L k = lcF L 4)) (fun i => (intOf i).toNat)
  case atStart => exact ⟨4, Nat.le_refl _, rfl, rfl⟩
  case round =>
    obtain ⟨k, hk, rfl, HT⟩ := hrel
    cases k with
    | zero =>
      go_wp2
      go_ret
      refine ⟨?_, hf0⟩
      rw [← HT.out]
      rfl
    | succ k =>
      obtain ⟨d, HD, hcell⟩ : ∃ d : Nat, Hid (L.getD k 0 = d) ∧ w0.cell? ⟨b, k, none⟩ = some (.int .u64 (d : Int)) := ⟨_, rfl, h.cell k (by omega)⟩
      have e1 : IntKind.u8.wrap (((k + 1 : Nat) : Int) - 1) = (k : Int) := by rw [IntKind.wrap_u8]; omega
      by_cases hz : d = 0
      · subst hz
        go_wp2
        refine ⟨⟨k, by omega, rfl, ?_⟩, by simp [intOf]⟩
        unfold Hid
        rw [← HT.out, lcF, if_pos HD.out]
      · have hz' : ((d : Int) == 0) = false := by simpa using hz
        have HZ : Hid (L.getD k 0 ≠ 0) := by unfold Hid; rw [HD.out]; exact hz
        clear hz
        go_wp2
        go_ret
        refine ⟨?_, hf0⟩
        rw [← HT.out, lcF, if_neg HZ.out]
        rfl
end Go.Proofs.Ygcsan
