/-
  law.IdentityRight: the head of its body.
-/
import Derived.Test.YgcsanGreatIvW
import Derived.Test.YgcsanGreatIvQ
import Derived.WalkKit
import Derived.Below
namespace Go.Iv
open Go Go.Proofs Go.RowKit
open Go.Proofs.YgcsanGreat (Sl Dg)
set_option linter.unusedVariables false
set_option linter.unusedSimpArgs false

theorem body4_eq : Sang.f4.body = some (.seq (seqL (bodyOf Sang.f4)) (.seq (seqL (seqR (bodyOf Sang.f4))) (.seq (seqL (seqR (seqR (bodyOf Sang.f4)))) (tailOf Sang.f4)))) := by kernel_rfl

/-- where an operation stands in the text -/
def posAt (c : Code) (i : Nat) : String := match c with
  | .region _ ops _ => match ops[i]? with
    | some o => o.pos
    | none => default
  | _ => default
def condL : Code → Code
  | .cond _ x _ => x
  | c => c

def hdA (fn : Func) : Code := seqL (bodyOf fn)
def hdB (fn : Func) : Code := seqL (seqR (bodyOf fn))
def hdC (fn : Func) : Code := seqL (seqR (seqR (bodyOf fn)))
/-- the frame behind the head -/
def frame4 (k v d t12 t13 t14 t15 t16 t17 t18 : Value) : List Value := [k, v, d, undef, undef, undef, .bool false, undef, undef, undef, undef, undef, t12, t13, t14, t15, t16, t17, t18]
theorem frame4_eq (k v d t12 t13 t14 t15 t16 t17 t18 : Value) : (frame4 k v d t12 t13 t14 t15 t16 t17 t18).toArray ++ Array.replicate (51 - 19) undef =
    #[k, v, d, undef, undef, undef, .bool false, undef, undef, undef, undef, undef, t12, t13, t14, t15, t16, t17, t18, undef, undef, undef, undef, undef, undef, undef, undef, undef, undef, undef, undef, undef, undef, undef, undef, undef, undef, undef, undef, undef, undef, undef, undef, undef, undef, undef, undef, undef, undef, undef, undef] := by kernel_rfl
theorem start4_eq (k v d : Value) : #[k, v, d] ++ Array.replicate (51 - 3) undef = #[k, v, d, undef, undef, undef, undef, undef, undef, undef, undef, undef, undef, undef, undef, undef, undef, undef, undef, undef, undef, undef, undef, undef, undef, undef, undef, undef, undef, undef, undef, undef, undef, undef, undef, undef, undef, undef, undef, undef, undef, undef, undef, undef, undef, undef, undef, undef, undef, undef, undef] := by kernel_rfl

theorem hdA_eq : (hdA Sang.f4) = Code.region 0 #[⟨some 6, .assign (.const (.bool false)), 4, posAt (hdA Sang.f4) 0, #[], none⟩] false := by kernel_rfl
theorem hdB_eq : (hdB Sang.f4) = .seq (Code.region 1 #[⟨some 12, .move (.tmp 2), 27, posAt (seqL (hdB Sang.f4)) 0, #[], none⟩, ⟨some 13, .call ⟨.builtin .len, #[.tmp 12], #[27]⟩, 3, posAt (seqL (hdB Sang.f4)) 1, #[⟨0, .data⟩], none⟩,
      ⟨some 14, .binOp .gtr 3 (.tmp 13) (.const (.int .i64 1024)) 3, 4, posAt (seqL (hdB Sang.f4)) 2, #[⟨1, .data⟩], none⟩] false)
    (.cond (.tmp 14) (Code.region 2 #[⟨some 15, .move (.tmp 2), 27, posAt (condL (seqR (hdB Sang.f4))) 0, #[], none⟩, ⟨some 16, .slice 27 (.tmp 15) none (some (.const (.int .i64 1024))) (some (.const (.int .i64 1024))), 27, posAt (condL (seqR (hdB Sang.f4))) 1, #[⟨0, .data⟩], none⟩,
      ⟨some 2, .assign (.tmp 16), 27, posAt (condL (seqR (hdB Sang.f4))) 2, #[⟨1, .data⟩, ⟨0, .phase⟩, ⟨1, .phase⟩], none⟩] false) .skip) := by kernel_rfl
theorem hdC_eq : (hdC Sang.f4) = Code.region 3 #[⟨some 17, .move (.tmp 0), 5, posAt (hdC Sang.f4) 0, #[], none⟩, ⟨some 18, .binOp .rem 5 (.tmp 17) (.const (.int .u8 5)) 5, 5, posAt (hdC Sang.f4) 1, #[⟨0, .data⟩], none⟩,
      ⟨some 0, .assign (.tmp 18), 5, posAt (hdC Sang.f4) 2, #[⟨1, .data⟩, ⟨0, .phase⟩, ⟨1, .phase⟩], none⟩] false := by kernel_rfl

set_option maxRecDepth 10000 in
set_option maxHeartbeats 400000 in
theorem head4_le (k0 v0 : Nat) (a : Option Addr) (len cap : Nat) (hk : k0 < 256) (hle : (len : Int) ≤ 1024) (X : Code) (Q : Exit → Act → World → Prop) (w : World)
    (hX : ∀ t12 t13 t14 t15 t16 t17 t18, X.wp Sang.prog Q { tmps := (frame4 (.int .u8 ((k0 : Int) % 5)) (.int .u8 (v0 : Int)) (.slice a len cap) t12 t13 t14 t15 t16 t17 t18).toArray ++ Array.replicate (51 - 19) undef, defers := [] } w) :
    (Code.seq (hdA Sang.f4) (.seq (hdB Sang.f4) (.seq (hdC Sang.f4) X))).wp Sang.prog Q { tmps := #[.int .u8 (k0 : Int), .int .u8 (v0 : Int), .slice a len cap] ++ Array.replicate (51 - 3) undef, defers := [] } w := by
  have e0 := hdA_eq
  have e1 := hdB_eq
  have e3 := hdC_eq
  generalize posAt (hdA Sang.f4) 0 = p0 at e0
  generalize posAt (seqL (hdB Sang.f4)) 0 = p1 at e1
  generalize posAt (seqL (hdB Sang.f4)) 1 = p2 at e1
  generalize posAt (seqL (hdB Sang.f4)) 2 = p3 at e1
  generalize posAt (condL (seqR (hdB Sang.f4))) 0 = p4 at e1
  generalize posAt (condL (seqR (hdB Sang.f4))) 1 = p5 at e1
  generalize posAt (condL (seqR (hdB Sang.f4))) 2 = p6 at e1
  generalize posAt (hdC Sang.f4) 0 = p7 at e3
  generalize posAt (hdC Sang.f4) 1 = p8 at e3
  generalize posAt (hdC Sang.f4) 2 = p9 at e3
  rw [e0, e1, e3, start4_eq]
  clear e0 e1 e3
  simp only [frame4_eq] at hX
  have HX : Hid _ := hX
  clear hX
  go_wp2_with fail
  exact HX.out _ _ _ _ _ _ _

set_option maxRecDepth 10000 in
set_option maxHeartbeats 400000 in
theorem head4_gt (k0 v0 : Nat) (b off : Nat) (len cap : Nat) (hk : k0 < 256) (hgt : (1024 : Int) < (len : Int)) (hlc : (len : Int) ≤ (cap : Int)) (hcap : (cap : Int) ≤ 9223372036854775807) (X : Code) (Q : Exit → Act → World → Prop) (w : World)
    (hX : ∀ t12 t13 t14 t15 t16 t17 t18, X.wp Sang.prog Q { tmps := (frame4 (.int .u8 ((k0 : Int) % 5)) (.int .u8 (v0 : Int)) (.slice (some ⟨b, off, none⟩) 1024 1024) t12 t13 t14 t15 t16 t17 t18).toArray ++ Array.replicate (51 - 19) undef, defers := [] } w) :
    (Code.seq (hdA Sang.f4) (.seq (hdB Sang.f4) (.seq (hdC Sang.f4) X))).wp Sang.prog Q { tmps := #[.int .u8 (k0 : Int), .int .u8 (v0 : Int), .slice (some ⟨b, off, none⟩) len cap] ++ Array.replicate (51 - 3) undef, defers := [] } w := by
  have e0 := hdA_eq
  have e1 := hdB_eq
  have e3 := hdC_eq
  generalize posAt (hdA Sang.f4) 0 = p0 at e0
  generalize posAt (seqL (hdB Sang.f4)) 0 = p1 at e1
  generalize posAt (seqL (hdB Sang.f4)) 1 = p2 at e1
  generalize posAt (seqL (hdB Sang.f4)) 2 = p3 at e1
  generalize posAt (condL (seqR (hdB Sang.f4))) 0 = p4 at e1
  generalize posAt (condL (seqR (hdB Sang.f4))) 1 = p5 at e1
  generalize posAt (condL (seqR (hdB Sang.f4))) 2 = p6 at e1
  generalize posAt (hdC Sang.f4) 0 = p7 at e3
  generalize posAt (hdC Sang.f4) 1 = p8 at e3
  generalize posAt (hdC Sang.f4) 2 = p9 at e3
  rw [e0, e1, e3, start4_eq]
  clear e0 e1 e3
  simp only [frame4_eq] at hX
  have HX : Hid _ := hX
  clear hX
  go_wp2_with fail
  exact HX.out _ _ _ _ _ _ _
end Go.Iv
