/-
  The numbers of this seat: math/bits and package num, the contracts over natural numbers.
  (The lines on Mul64 and Len64 are the guide's worked texts, turned to this program.)
-/
import Derived.Test.YgcsanProg
import Derived.Test.YgcsanBase
import Derived.Test.YgcsanPlain
import Derived.Lib.Mul64
import Derived.Lib.BitFns
import Derived.Lib.Small
import Derived.Lib.Walk
import Derived.Laws.Bits64b
namespace Go.Proofs.Ygcsan
open Go.RowKit
set_option linter.unusedSimpArgs false
set_option linter.unusedVariables false


def addLo (x y c : Nat) : Nat := (x + y + c) % W64
def addHi (x y c : Nat) : Nat := (x + y + c) / W64
def subLo (x y b : Nat) : Nat := (x + W64 - y - b) % W64
def subHi (x y b : Nat) : Nat := if x < y + b then 1 else 0
def mulHi (x y : Nat) : Nat := x * y / W64
def mulLo (x y : Nat) : Nat := x * y % W64
def maLo (x y s c : Nat) : Nat := (x * y + s + c) % W64
def maHi (x y s c : Nat) : Nat := (x * y + s + c) / W64

theorem addLo_lt (x y c : Nat) : addLo x y c < W64 := Nat.mod_lt _ (by decide)
theorem mulLo_lt (x y : Nat) : mulLo x y < W64 := Nat.mod_lt _ (by decide)
theorem maLo_lt (x y s c : Nat) : maLo x y s c < W64 := Nat.mod_lt _ (by decide)
theorem subLo_lt (x y b : Nat) : subLo x y b < W64 := Nat.mod_lt _ (by decide)
theorem addHi_le (x y c : Nat) (hx : x < W64) (hy : y < W64) (hc : c ≤ 1) : addHi x y c ≤ 1 := by
  unfold addHi; rw [W64_eq] at *; omega
theorem subHi_le (x y b : Nat) : subHi x y b ≤ 1 := by unfold subHi; split <;> omega
theorem mul_le_W (x y : Nat) (hx : x < W64) (hy : y < W64) : x * y ≤ 340282366920938463426481119284349108225 := by
  rw [W64_eq] at *
  have := Nat.mul_le_mul (show x ≤ 18446744073709551615 by omega) (show y ≤ 18446744073709551615 by omega)
  simpa using this
theorem mulHi_lt (x y : Nat) (hx : x < W64) (hy : y < W64) : mulHi x y < W64 := by
  have := mul_le_W x y hx hy
  unfold mulHi; rw [W64_eq] at *; omega
theorem maHi_lt (x y s c : Nat) (hx : x < W64) (hy : y < W64) (hs : s < W64) (hc : c < W64) : maHi x y s c < W64 := by
  have := mul_le_W x y hx hy
  unfold maHi; rw [W64_eq] at *; omega

theorem run_bitsAdd (x y c : Nat) (hc : c ≤ 1) (w : World) : (callFunc 109 #[.int .u64 (x : Int), .int .u64 (y : Int), .int .u64 (c : Int)]).run Sang.prog w =
    .ok (.value (.tuple #[.int .u64 (addLo x y c : Nat), .int .u64 (addHi x y c : Nat)])) w := by
  rw [run_callFunc_extern Sang.func109 (by kernel_rfl) (by kernel_rfl) (by kernel_rfl) (e := add64Entry) (by kernel_rfl), run_add64 x y c (by omega) (by omega) (by omega) (by omega)]
  simp only [Result.andThen]
  unfold addLo addHi W64
  congr 5 <;> omega

def sub64Row : Array Value → Sem Value := fun args => do
  let (x, y, b) ← Extern.MathBitsCarry.three "Sub64" args
  pure (Extern.MathBitsCarry.pair ((x + Extern.MathBitsCarry.m64 - y - b) % Extern.MathBitsCarry.m64) (if x < y + b then 1 else 0))
theorem run_sub64Row {P : Program} (x y b : Nat) (hb : b ≤ 1) (w : World) :
    (sub64Row #[.int .u64 x, .int .u64 y, .int .u64 b]).run P w = .ok (.tuple #[.int .u64 (subLo x y b : Nat), .int .u64 (subHi x y b : Nat)]) w := by
  have : b = 0 ∨ b = 1 := by omega
  rcases this with rfl | rfl <;> rfl

theorem run_bitsSub (x y c : Nat) (hc : c ≤ 1) (w : World) : (callFunc 135 #[.int .u64 (x : Int), .int .u64 (y : Int), .int .u64 (c : Int)]).run Sang.prog w =
    .ok (.value (.tuple #[.int .u64 (subLo x y c : Nat), .int .u64 (subHi x y c : Nat)])) w := by
  rw [run_callFunc_extern Sang.func135 (by kernel_rfl) (by kernel_rfl) (by kernel_rfl) (e := sub64Row) (by kernel_rfl), run_sub64Row x y c hc]
  rfl

theorem add64_any (x y c : Nat) (hc : c ≤ 1) (w : World) :
    Calls Sang.prog 76 #[.int .u64 (x : Int), .int .u64 (y : Int), .int .u64 (c : Int)] w fun e w' => e = .returned (.tuple #[.int .u64 (addLo x y c : Nat), .int .u64 (addHi x y c : Nat)]) ∧ w' = w := by
  go_enter Sang.func76, Sang.ntmps76
  go_wp2_with (simp only [run_bitsAdd x y c hc])
  go_ret2
  exact ⟨rfl, rfl⟩

theorem sub64_any (x y c : Nat) (hc : c ≤ 1) (w : World) :
    Calls Sang.prog 132 #[.int .u64 (x : Int), .int .u64 (y : Int), .int .u64 (c : Int)] w fun e w' => e = .returned (.tuple #[.int .u64 (subLo x y c : Nat), .int .u64 (subHi x y c : Nat)]) ∧ w' = w := by
  go_enter Sang.func132, Sang.ntmps132
  go_wp2_with (simp only [run_bitsSub x y c hc])
  go_ret2
  exact ⟨rfl, rfl⟩

namespace Mul64
theorem maskN (a : Nat) (ha : a < 18446744073709551616) : bits .and .u64 (a : Int) 4294967295 = ((a % 4294967296 : Nat) : Int) := by
  have h := bits_and_u64_nat a 4294967295 ha (by omega)
  have e : a &&& 4294967295 = a % 4294967296 := Nat.and_two_pow_sub_one_eq_mod a 32
  rw [e] at h
  exact h
theorem divN (a : Nat) : (a : Int) / 4294967296 = ((a / 4294967296 : Nat) : Int) := by omega
theorem mulN (a b : Nat) : (a : Int) * (b : Int) = ((a * b : Nat) : Int) := (Int.natCast_mul a b).symm
theorem addN (a b : Nat) : (a : Int) + (b : Int) = ((a + b : Nat) : Int) := (Int.natCast_add a b).symm
theorem wrapN (a : Nat) (ha : a < 18446744073709551616) : IntKind.u64.wrap (a : Int) = (a : Int) := by rw [IntKind.wrap_u64]; omega
theorem wrapM (a : Nat) : IntKind.u64.wrap (a : Int) = ((a % 18446744073709551616 : Nat) : Int) := by rw [IntKind.wrap_u64]; omega
end Mul64

set_option maxHeartbeats 1000000 in
theorem bitsMul_any (x y : Nat) (hx : x < 18446744073709551616) (hy : y < 18446744073709551616) (w : World) :
    Calls Sang.prog 108 #[.int .u64 x, .int .u64 y] w fun e w' => e = .returned (.tuple #[.int .u64 (mulHi x y : Nat), .int .u64 (mulLo x y : Nat)]) ∧ w' = w := by
  unfold mulHi mulLo W64
  obtain ⟨bd, bt, bw, hhi⟩ := Lib.mul64_hi x y hx hy
  have ba := Lib.half_mul_le (a := x / 4294967296) (b := y / 4294967296) (by omega) (by omega)
  have bb := Lib.half_mul_le (a := x / 4294967296) (b := y % 4294967296) (by omega) (by omega)
  have bc := Lib.half_mul_le (a := x % 4294967296) (b := y / 4294967296) (by omega) (by omega)
  have ba' : x / 4294967296 * (y / 4294967296) < 18446744073709551616 := by omega
  have bb' : x / 4294967296 * (y % 4294967296) < 18446744073709551616 := by omega
  have bc' : x % 4294967296 * (y / 4294967296) < 18446744073709551616 := by omega
  have bh1 : x / 4294967296 * (y / 4294967296) + (x / 4294967296 * (y % 4294967296) + x % 4294967296 * (y % 4294967296) / 4294967296) / 4294967296 < 18446744073709551616 := by omega
  have bh : x / 4294967296 * (y / 4294967296) + (x / 4294967296 * (y % 4294967296) + x % 4294967296 * (y % 4294967296) / 4294967296) / 4294967296 + ((x / 4294967296 * (y % 4294967296) + x % 4294967296 * (y % 4294967296) / 4294967296) % 4294967296 + x % 4294967296 * (y / 4294967296)) / 4294967296 < 18446744073709551616 := by omega
  go_enter Sang.func108, Sang.ntmps108
  go_wp2
  simp only [Mul64.maskN x hx, Mul64.maskN y hy, Mul64.divN, Mul64.mulN, Mul64.addN, Mul64.wrapN _ bd, Mul64.wrapN _ bb', Mul64.wrapN _ bt, Mul64.maskN _ bt, Mul64.wrapN _ bc', Mul64.wrapN _ bw, Mul64.wrapN _ ba', Mul64.wrapN _ bh1, Mul64.wrapN _ bh, Mul64.wrapM (x * y)]
  rw [hhi]
  go_ret2
  exact ⟨rfl, rfl⟩

theorem mul64_any (x y : Nat) (hx : x < W64) (hy : y < W64) (w : World) :
    Calls Sang.prog 75 #[.int .u64 (x : Int), .int .u64 (y : Int)] w fun e w' => e = .returned (.tuple #[.int .u64 (mulHi x y : Nat), .int .u64 (mulLo x y : Nat)]) ∧ w' = w := by
  have H : Hid (x < 18446744073709551616 ∧ y < 18446744073709551616) := ⟨hx, hy⟩
  go_enter Sang.func75, Sang.ntmps75
  go_wp2_with (go_at_call 108; refine (bitsMul_any x y H.out.1 H.out.2 _).mono ?_; rintro e w' ⟨rfl, rfl⟩)
  go_ret2
  exact ⟨rfl, rfl⟩

theorem byteAt_some (s : ByteArray) (i : Nat) (hp : i < s.size) : (((s[i]?).getD 0).toNat : Int) = ((s[i]'hp).toNat : Int) := by
  rw [getElem?_pos s i hp]
  rfl
theorem len8tab_at (y : Int) (h0 : 0 ≤ y) (h1 : y < 256) {hp : y.toNat < Lib.len8tab.size} : (Lib.len8tab[y.toNat]'hp).toNat = Lib.bitLen y.toNat := by
  have h := Lib.len8_of y h0 (by omega)
  unfold Lib.len8 at h
  rw [byteAt_some _ _ hp] at h
  exact Int.ofNat_inj.1 h
theorem wrap64_small (y : Int) (h0 : 0 ≤ y) (h1 : y < 9223372036854775808) : wrap64 y = y := by
  unfold wrap64; omega

set_option maxHeartbeats 4000000 in
set_option maxRecDepth 100000 in
theorem bitsLen_int (x : Int) (w : World) (h0 : 0 ≤ x) (h1 : x ≤ 18446744073709551615) :
    Calls Sang.prog 84 #[.int .u64 x] w fun e w' => e = .returned (.int .i64 (Lib.bitLen x.toNat)) ∧ w' = w := by
  have hsz : Lib.len8tab.size = 256 := by kernel_rfl
  go_enter Sang.func84, Sang.ntmps84
  go_wp2
  all_goals (go_ret; refine ⟨congrArg Ending.returned (congrArg (Value.int IntKind.i64) ?_), rfl⟩)
  all_goals first
    | (rw [len8tab_at (x / 4294967296 / 65536 / 256) (by omega) (by omega)]
       have e : (x / 4294967296 / 65536 / 256).toNat = x.toNat / 72057594037927936 := by omega
       have l := Lib.bitLen_le8' (x / 4294967296 / 65536 / 256) (by omega) (by omega)
       have s := Lib.bitLen_shift56 x.toNat (by omega) (by omega)
       rw [e] at l ⊢
       rw [wrap64_small ((Lib.bitLen (x.toNat / 72057594037927936) : Nat) : Int) (by omega) (by omega), wrap64_small _ (by omega) (by omega)]
       omega)
    | (rw [len8tab_at (x / 4294967296 / 65536) (by omega) (by omega)]
       have e : (x / 4294967296 / 65536).toNat = x.toNat / 281474976710656 := by omega
       have l := Lib.bitLen_le8' (x / 4294967296 / 65536) (by omega) (by omega)
       have s := Lib.bitLen_shift48 x.toNat (by omega) (by omega)
       rw [e] at l ⊢
       rw [wrap64_small ((Lib.bitLen (x.toNat / 281474976710656) : Nat) : Int) (by omega) (by omega), wrap64_small _ (by omega) (by omega)]
       omega)
    | (rw [len8tab_at (x / 4294967296 / 256) (by omega) (by omega)]
       have e : (x / 4294967296 / 256).toNat = x.toNat / 1099511627776 := by omega
       have l := Lib.bitLen_le8' (x / 4294967296 / 256) (by omega) (by omega)
       have s := Lib.bitLen_shift40 x.toNat (by omega) (by omega)
       rw [e] at l ⊢
       rw [wrap64_small ((Lib.bitLen (x.toNat / 1099511627776) : Nat) : Int) (by omega) (by omega), wrap64_small _ (by omega) (by omega)]
       omega)
    | (rw [len8tab_at (x / 4294967296) (by omega) (by omega)]
       have e : (x / 4294967296).toNat = x.toNat / 4294967296 := by omega
       have l := Lib.bitLen_le8' (x / 4294967296) (by omega) (by omega)
       have s := Lib.bitLen_shift32 x.toNat (by omega) (by omega)
       rw [e] at l ⊢
       rw [wrap64_small ((Lib.bitLen (x.toNat / 4294967296) : Nat) : Int) (by omega) (by omega), wrap64_small _ (by omega) (by omega)]
       omega)
    | (rw [len8tab_at (x / 65536 / 256) (by omega) (by omega)]
       have e : (x / 65536 / 256).toNat = x.toNat / 16777216 := by omega
       have l := Lib.bitLen_le8' (x / 65536 / 256) (by omega) (by omega)
       have s := Lib.bitLen_shift24 x.toNat (by omega) (by omega)
       rw [e] at l ⊢
       rw [wrap64_small ((Lib.bitLen (x.toNat / 16777216) : Nat) : Int) (by omega) (by omega), wrap64_small _ (by omega) (by omega)]
       omega)
    | (rw [len8tab_at (x / 65536) (by omega) (by omega)]
       have e : (x / 65536).toNat = x.toNat / 65536 := by omega
       have l := Lib.bitLen_le8' (x / 65536) (by omega) (by omega)
       have s := Lib.bitLen_shift16 x.toNat (by omega) (by omega)
       rw [e] at l ⊢
       rw [wrap64_small ((Lib.bitLen (x.toNat / 65536) : Nat) : Int) (by omega) (by omega), wrap64_small _ (by omega) (by omega)]
       omega)
    | (rw [len8tab_at (x / 256) (by omega) (by omega)]
       have e : (x / 256).toNat = x.toNat / 256 := by omega
       have l := Lib.bitLen_le8' (x / 256) (by omega) (by omega)
       have s := Lib.bitLen_shift8 x.toNat (by omega) (by omega)
       rw [e] at l ⊢
       rw [wrap64_small ((Lib.bitLen (x.toNat / 256) : Nat) : Int) (by omega) (by omega), wrap64_small _ (by omega) (by omega)]
       omega)
    | (rw [len8tab_at x (by omega) (by omega)]
       have l := Lib.bitLen_le8' x (by omega) (by omega)
       rw [wrap64_small ((Lib.bitLen x.toNat : Nat) : Int) (by omega) (by omega), wrap64_small _ (by omega) (by omega)])

theorem add64_0 (x y : Nat) (w : World) :
    Calls Sang.prog 76 #[.int .u64 (x : Int), .int .u64 (y : Int), .int .u64 0] w fun e w' => e = .returned (.tuple #[.int .u64 (addLo x y 0 : Nat), .int .u64 (addHi x y 0 : Nat)]) ∧ w' = w := add64_any x y 0 (by omega) w

theorem mulAdd_plain (x y s c : Nat) (hx : x < W64) (hy : y < W64) (hs : s < W64) (hc : c < W64) :
    addLo (addLo (mulLo x y) s 0) c 0 = maLo x y s c ∧
    IntKind.u64.wrap (IntKind.u64.wrap ((mulHi x y : Nat) + (addHi (mulLo x y) s 0 : Nat)) + (addHi (addLo (mulLo x y) s 0) c 0 : Nat)) = (maHi x y s c : Nat) := by
  have := mul_le_W x y hx hy
  rw [IntKind.wrap_u64, IntKind.wrap_u64]
  unfold addLo addHi mulLo mulHi maLo maHi
  rw [W64_eq] at *
  generalize x * y = p at *
  omega

theorem mulAdd_any (x y s c : Nat) (hx : x < W64) (hy : y < W64) (hs : s < W64) (hc : c < W64) (w : World) :
    Calls Sang.prog 28 #[.int .u64 (x : Int), .int .u64 (y : Int), .int .u64 (s : Int), .int .u64 (c : Int)] w fun e w' => e = .returned (.tuple #[.int .u64 (maLo x y s c : Nat), .int .u64 (maHi x y s c : Nat)]) ∧ w' = w := by
  have H := mulAdd_plain x y s c hx hy hs hc
  have H' : Hid _ := H
  clear H
  go_enter Sang.func28, Sang.ntmps28
  go_wp2_with fail
  refine (mul64_any x y hx hy _).mono ?_
  rintro e w' ⟨rfl, rfl⟩
  go_wp2_with fail
  refine (add64_0 (mulLo x y) s _).mono ?_
  rintro e w' ⟨rfl, rfl⟩
  go_wp2_with fail
  refine (add64_0 (addLo (mulLo x y) s 0) c _).mono ?_
  rintro e w' ⟨rfl, rfl⟩
  go_wp2_with fail
  go_ret2
  refine ⟨?_, rfl⟩
  rw [← H'.out.2, ← H'.out.1]
  rfl

theorem bitsLen_any (x : Nat) (hx : x < W64) (w : World) : Calls Sang.prog 84 #[.int .u64 (x : Int)] w fun e w' => e = .returned (.int .i64 (Lib.bitLen x : Nat)) ∧ w' = w := by
  have := bitsLen_int (x : Int) w (by omega) (by rw [W64_eq] at hx; omega)
  simpa using this

theorem bitLen_le64 (x : Nat) (hx : x < W64) : Lib.bitLen x ≤ 64 := Lib.bitLenAux_le _ x 64 (by rw [W64_eq] at hx; simpa using hx)

theorem len64_any (x : Nat) (hx : x < W64) (w : World) : Calls Sang.prog 49 #[.int .u64 (x : Int)] w fun e w' => e = .returned (.int .i64 (Lib.bitLen x : Nat)) ∧ w' = w := by
  go_enter Sang.func49, Sang.ntmps49
  go_wp2_with fail
  refine (bitsLen_any x hx _).mono ?_
  rintro e w' ⟨rfl, rfl⟩
  go_wp2_with fail
  go_ret
  exact ⟨rfl, rfl⟩

theorem bitsLz_any (x : Nat) (hx : x < W64) (w : World) : Calls Sang.prog 78 #[.int .u64 (x : Int)] w fun e w' => e = .returned (.int .i64 (64 - Lib.bitLen x : Nat)) ∧ w' = w := by
  have hb := bitLen_le64 x hx
  go_enter Sang.func78, Sang.ntmps78
  go_wp2_with fail
  refine (bitsLen_any x hx _).mono ?_
  rintro e w' ⟨rfl, rfl⟩
  go_wp2_with fail
  go_ret
  refine ⟨congrArg Ending.returned (congrArg (Value.int IntKind.i64) ?_), rfl⟩
  omega

theorem lz64_any (x : Nat) (hx : x < W64) (w : World) : Calls Sang.prog 34 #[.int .u64 (x : Int)] w fun e w' => e = .returned (.int .i64 (64 - Lib.bitLen x : Nat)) ∧ w' = w := by
  go_enter Sang.func34, Sang.ntmps34
  go_wp2_with fail
  refine (bitsLz_any x hx _).mono ?_
  rintro e w' ⟨rfl, rfl⟩
  go_wp2_with fail
  go_ret
  exact ⟨rfl, rfl⟩

theorem bitLenAux_spec : ∀ (f x : Nat), x < 2 ^ f → x < 2 ^ Lib.bitLenAux f x ∧ (x ≠ 0 → 2 ^ (Lib.bitLenAux f x - 1) ≤ x)
  | 0, x, h => by simp at h; simp [h, Lib.bitLenAux]
  | f + 1, x, h => by
    unfold Lib.bitLenAux
    by_cases h0 : x = 0
    · simp [h0]
    · rw [if_neg h0]
      have ih := bitLenAux_spec f (x / 2) (by rw [Nat.pow_succ] at h; omega)
      obtain ⟨h1, h2⟩ := ih
      refine ⟨?_, fun _ => ?_⟩
      · rw [Nat.add_comm, Nat.pow_succ]; omega
      · rw [show 1 + Lib.bitLenAux f (x / 2) - 1 = Lib.bitLenAux f (x / 2) by omega]
        by_cases h3 : x / 2 = 0
        · have : Lib.bitLenAux f (x / 2) = 0 := by rw [h3]; cases f <;> simp [Lib.bitLenAux]
          rw [this]; simp; omega
        · have h4 := h2 h3
          cases hb : Lib.bitLenAux f (x / 2) with
          | zero => simp; omega
          | succ n =>
            rw [hb] at h4
            simp only [Nat.add_sub_cancel] at h4
            rw [Nat.pow_succ]; omega

theorem bitLen_spec' (x : Nat) (hx : x < W64) : x < 2 ^ Lib.bitLen x ∧ (x ≠ 0 → 2 ^ (Lib.bitLen x - 1) ≤ x) :=
  bitLenAux_spec 64 x (by rw [W64_eq] at hx; simpa using hx)

end Go.Proofs.Ygcsan
