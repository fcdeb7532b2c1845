-- Go functions as Lean functions, printed by prs.py (this session's program)
import Derived.Test.YtnebpmcmdmpoaaaDoorGX
import Derived.KernelRfl
namespace Go.Proofs.YtnebpmcmdmpoaaaDoor.R
open Go
set_option maxRecDepth 100000
set_option maxHeartbeats 4000000
set_option linter.unusedVariables false
noncomputable section
/-! bourne/group.residue -/
noncomputable def E_group_residue (m : Int) (Ω : Type) : Env Ω := envT T (GL m) [] []
def f_group_residue_b {Ω : Type} (ret : Int × Unit → Option Ω) (k : Nat)  (a0 : Int) (a1 : Int) : Option Ω :=
  bif (a1 == 0) then
    none
  else
  let x1 : Int := (Int.tmod a0 a1)
  bif (decide (x1 < 0)) then
    ret ((IntKind.wrap .i64 (x1 + a1)), ())
  else
  ret (x1, ())
def f_group_residue {Ω : Type} (ret : Int × Unit → Option Ω) (k : Nat) (a0 : Int) (a1 : Int) : Option Ω := f_group_residue_b ret k a0 a1
theorem f_group_residue_run (m : Int) {Ω : Type} (ret : Int × Unit → Option Ω) (k : Nat) (a0 : Int) (a1 : Int) : run (E_group_residue m Ω) [] k Tryd.f40 [.int .i64 a0, .int .i64 a1] [] (resK [.int .i64] ret) = f_group_residue ret k a0 a1 := by
  show _ = f_group_residue_b ret k a0 a1
  kernel_rfl
def F_group_residue (a : Int × Int × Unit) : Option (Int × Unit) := f_group_residue some 0 a.1 a.2.1
theorem f_group_residue_at : Tryd.prog.funcs[40]? = some Tryd.f40 := by kernel_rfl
theorem E_group_residue_ok (m : Int) (Ω : Type) : EnvOk Tryd.prog (E_group_residue m Ω) := envT_ok T_ok (by intro e he; cases he) (by intro e he; cases he)
theorem F_group_residue_ok (a : Tys [.int .i64, .int .i64]) (r : Tys [.int .i64]) (h : F_group_residue a = some r) (m : Int) : PContract Tryd.prog (GL m) 40 (injL [.int .i64, .int .i64] a) (injR [.int .i64] r) := by
  exact PContract.of_run (E := E_group_residue m (Tys [.int .i64])) (un := []) (k := 0) (E_group_residue_ok m _) mixed (callOk_of f_group_residue_at (by kernel_rfl) (by kernel_rfl)) f_group_residue_at ((f_group_residue_run m some 0 a.1 a.2.1).trans h)
/-! math/bits.Mul64 -/
noncomputable def E_math_bits_Mul64 (m : Int) (Ω : Type) : Env Ω := envT T (GL m) [] []
def f_math_bits_Mul64_b {Ω : Type} (ret : Int × Int × Unit → Option Ω) (k : Nat)  (a0 : Int) (a1 : Int) : Option Ω :=
  let x1 : Int := (iand .u64 a0 4294967295)
  let x2 : Int := (shr .u64 a0 32)
  let x3 : Int := (iand .u64 a1 4294967295)
  let x4 : Int := (shr .u64 a1 32)
  let x8 : Int := (IntKind.wrap .u64 ((IntKind.wrap .u64 (x2 * x3)) + (shr .u64 (IntKind.wrap .u64 (x1 * x3)) 32)))
  ret ((IntKind.wrap .u64 ((IntKind.wrap .u64 ((IntKind.wrap .u64 (x2 * x4)) + (shr .u64 x8 32))) + (shr .u64 (IntKind.wrap .u64 ((iand .u64 x8 4294967295) + (IntKind.wrap .u64 (x1 * x4)))) 32))), (IntKind.wrap .u64 (a0 * a1)), ())
def f_math_bits_Mul64 {Ω : Type} (ret : Int × Int × Unit → Option Ω) (k : Nat) (a0 : Int) (a1 : Int) : Option Ω := f_math_bits_Mul64_b ret k a0 a1
theorem f_math_bits_Mul64_run (m : Int) {Ω : Type} (ret : Int × Int × Unit → Option Ω) (k : Nat) (a0 : Int) (a1 : Int) : run (E_math_bits_Mul64 m Ω) [] k Tryd.f50 [.int .u64 a0, .int .u64 a1] [] (resK [.int .u64, .int .u64] ret) = f_math_bits_Mul64 ret k a0 a1 := by
  show _ = f_math_bits_Mul64_b ret k a0 a1
  kernel_rfl
def F_math_bits_Mul64 (a : Int × Int × Unit) : Option (Int × Int × Unit) := f_math_bits_Mul64 some 0 a.1 a.2.1
theorem f_math_bits_Mul64_at : Tryd.prog.funcs[50]? = some Tryd.f50 := by kernel_rfl
theorem E_math_bits_Mul64_ok (m : Int) (Ω : Type) : EnvOk Tryd.prog (E_math_bits_Mul64 m Ω) := envT_ok T_ok (by intro e he; cases he) (by intro e he; cases he)
theorem F_math_bits_Mul64_ok (a : Tys [.int .u64, .int .u64]) (r : Tys [.int .u64, .int .u64]) (h : F_math_bits_Mul64 a = some r) (m : Int) : PContract Tryd.prog (GL m) 50 (injL [.int .u64, .int .u64] a) (injR [.int .u64, .int .u64] r) := by
  exact PContract.of_run (E := E_math_bits_Mul64 m (Tys [.int .u64, .int .u64])) (un := []) (k := 0) (E_math_bits_Mul64_ok m _) mixed (callOk_of f_math_bits_Mul64_at (by kernel_rfl) (by kernel_rfl)) f_math_bits_Mul64_at ((f_math_bits_Mul64_run m some 0 a.1 a.2.1).trans h)
/-! math/bits.Len64 -/
noncomputable def E_math_bits_Len64 (m : Int) (Ω : Type) : Env Ω := envT T (GL m) [] []
def f_math_bits_Len64_b {Ω : Type} (ret : Int × Unit → Option Ω) (k : Nat)  (a0 : Int) : Option Ω :=
  bif (decide (a0 ≥ 4294967296)) then
    let x2 : Int := (shr .u64 a0 32)
    bif (decide (x2 ≥ 65536)) then
      let x4 : Int := (shr .u64 x2 16)
      bif (decide (x4 ≥ 256)) then
        let x7 : Int := (IntKind.wrap .u8 (shr .u64 x4 8))
        bif (inB x7 256) then
        ret ((IntKind.wrap .i64 (56 + (IntKind.wrap .i64 (bt (⟨#[0, 1, 2, 2, 3, 3, 3, 3, 4, 4, 4, 4, 4, 4, 4, 4, 5, 5, 5, 5, 5, 5, 5, 5, 5, 5, 5, 5, 5, 5, 5, 5, 6, 6, 6, 6, 6, 6, 6, 6, 6, 6, 6, 6, 6, 6, 6, 6, 6, 6, 6, 6, 6, 6, 6, 6, 6, 6, 6, 6, 6, 6, 6, 6, 7, 7, 7, 7, 7, 7, 7, 7, 7, 7, 7, 7, 7, 7, 7, 7, 7, 7, 7, 7, 7, 7, 7, 7, 7, 7, 7, 7, 7, 7, 7, 7, 7, 7, 7, 7, 7, 7, 7, 7, 7, 7, 7, 7, 7, 7, 7, 7, 7, 7, 7, 7, 7, 7, 7, 7, 7, 7, 7, 7, 7, 7, 7, 7, 8, 8, 8, 8, 8, 8, 8, 8, 8, 8, 8, 8, 8, 8, 8, 8, 8, 8, 8, 8, 8, 8, 8, 8, 8, 8, 8, 8, 8, 8, 8, 8, 8, 8, 8, 8, 8, 8, 8, 8, 8, 8, 8, 8, 8, 8, 8, 8, 8, 8, 8, 8, 8, 8, 8, 8, 8, 8, 8, 8, 8, 8, 8, 8, 8, 8, 8, 8, 8, 8, 8, 8, 8, 8, 8, 8, 8, 8, 8, 8, 8, 8, 8, 8, 8, 8, 8, 8, 8, 8, 8, 8, 8, 8, 8, 8, 8, 8, 8, 8, 8, 8, 8, 8, 8, 8, 8, 8, 8, 8, 8, 8, 8, 8, 8, 8, 8, 8, 8, 8, 8, 8, 8, 8, 8, 8, 8, 8]⟩ : ByteArray) x7)))), ())
        else none
      else
      let x11 : Int := (IntKind.wrap .u8 x4)
      bif (inB x11 256) then
      ret ((IntKind.wrap .i64 (48 + (IntKind.wrap .i64 (bt (⟨#[0, 1, 2, 2, 3, 3, 3, 3, 4, 4, 4, 4, 4, 4, 4, 4, 5, 5, 5, 5, 5, 5, 5, 5, 5, 5, 5, 5, 5, 5, 5, 5, 6, 6, 6, 6, 6, 6, 6, 6, 6, 6, 6, 6, 6, 6, 6, 6, 6, 6, 6, 6, 6, 6, 6, 6, 6, 6, 6, 6, 6, 6, 6, 6, 7, 7, 7, 7, 7, 7, 7, 7, 7, 7, 7, 7, 7, 7, 7, 7, 7, 7, 7, 7, 7, 7, 7, 7, 7, 7, 7, 7, 7, 7, 7, 7, 7, 7, 7, 7, 7, 7, 7, 7, 7, 7, 7, 7, 7, 7, 7, 7, 7, 7, 7, 7, 7, 7, 7, 7, 7, 7, 7, 7, 7, 7, 7, 7, 8, 8, 8, 8, 8, 8, 8, 8, 8, 8, 8, 8, 8, 8, 8, 8, 8, 8, 8, 8, 8, 8, 8, 8, 8, 8, 8, 8, 8, 8, 8, 8, 8, 8, 8, 8, 8, 8, 8, 8, 8, 8, 8, 8, 8, 8, 8, 8, 8, 8, 8, 8, 8, 8, 8, 8, 8, 8, 8, 8, 8, 8, 8, 8, 8, 8, 8, 8, 8, 8, 8, 8, 8, 8, 8, 8, 8, 8, 8, 8, 8, 8, 8, 8, 8, 8, 8, 8, 8, 8, 8, 8, 8, 8, 8, 8, 8, 8, 8, 8, 8, 8, 8, 8, 8, 8, 8, 8, 8, 8, 8, 8, 8, 8, 8, 8, 8, 8, 8, 8, 8, 8, 8, 8, 8, 8, 8, 8]⟩ : ByteArray) x11)))), ())
      else none
    else
    bif (decide (x2 ≥ 256)) then
      let x17 : Int := (IntKind.wrap .u8 (shr .u64 x2 8))
      bif (inB x17 256) then
      ret ((IntKind.wrap .i64 (40 + (IntKind.wrap .i64 (bt (⟨#[0, 1, 2, 2, 3, 3, 3, 3, 4, 4, 4, 4, 4, 4, 4, 4, 5, 5, 5, 5, 5, 5, 5, 5, 5, 5, 5, 5, 5, 5, 5, 5, 6, 6, 6, 6, 6, 6, 6, 6, 6, 6, 6, 6, 6, 6, 6, 6, 6, 6, 6, 6, 6, 6, 6, 6, 6, 6, 6, 6, 6, 6, 6, 6, 7, 7, 7, 7, 7, 7, 7, 7, 7, 7, 7, 7, 7, 7, 7, 7, 7, 7, 7, 7, 7, 7, 7, 7, 7, 7, 7, 7, 7, 7, 7, 7, 7, 7, 7, 7, 7, 7, 7, 7, 7, 7, 7, 7, 7, 7, 7, 7, 7, 7, 7, 7, 7, 7, 7, 7, 7, 7, 7, 7, 7, 7, 7, 7, 8, 8, 8, 8, 8, 8, 8, 8, 8, 8, 8, 8, 8, 8, 8, 8, 8, 8, 8, 8, 8, 8, 8, 8, 8, 8, 8, 8, 8, 8, 8, 8, 8, 8, 8, 8, 8, 8, 8, 8, 8, 8, 8, 8, 8, 8, 8, 8, 8, 8, 8, 8, 8, 8, 8, 8, 8, 8, 8, 8, 8, 8, 8, 8, 8, 8, 8, 8, 8, 8, 8, 8, 8, 8, 8, 8, 8, 8, 8, 8, 8, 8, 8, 8, 8, 8, 8, 8, 8, 8, 8, 8, 8, 8, 8, 8, 8, 8, 8, 8, 8, 8, 8, 8, 8, 8, 8, 8, 8, 8, 8, 8, 8, 8, 8, 8, 8, 8, 8, 8, 8, 8, 8, 8, 8, 8, 8, 8]⟩ : ByteArray) x17)))), ())
      else none
    else
    let x21 : Int := (IntKind.wrap .u8 x2)
    bif (inB x21 256) then
    ret ((IntKind.wrap .i64 (32 + (IntKind.wrap .i64 (bt (⟨#[0, 1, 2, 2, 3, 3, 3, 3, 4, 4, 4, 4, 4, 4, 4, 4, 5, 5, 5, 5, 5, 5, 5, 5, 5, 5, 5, 5, 5, 5, 5, 5, 6, 6, 6, 6, 6, 6, 6, 6, 6, 6, 6, 6, 6, 6, 6, 6, 6, 6, 6, 6, 6, 6, 6, 6, 6, 6, 6, 6, 6, 6, 6, 6, 7, 7, 7, 7, 7, 7, 7, 7, 7, 7, 7, 7, 7, 7, 7, 7, 7, 7, 7, 7, 7, 7, 7, 7, 7, 7, 7, 7, 7, 7, 7, 7, 7, 7, 7, 7, 7, 7, 7, 7, 7, 7, 7, 7, 7, 7, 7, 7, 7, 7, 7, 7, 7, 7, 7, 7, 7, 7, 7, 7, 7, 7, 7, 7, 8, 8, 8, 8, 8, 8, 8, 8, 8, 8, 8, 8, 8, 8, 8, 8, 8, 8, 8, 8, 8, 8, 8, 8, 8, 8, 8, 8, 8, 8, 8, 8, 8, 8, 8, 8, 8, 8, 8, 8, 8, 8, 8, 8, 8, 8, 8, 8, 8, 8, 8, 8, 8, 8, 8, 8, 8, 8, 8, 8, 8, 8, 8, 8, 8, 8, 8, 8, 8, 8, 8, 8, 8, 8, 8, 8, 8, 8, 8, 8, 8, 8, 8, 8, 8, 8, 8, 8, 8, 8, 8, 8, 8, 8, 8, 8, 8, 8, 8, 8, 8, 8, 8, 8, 8, 8, 8, 8, 8, 8, 8, 8, 8, 8, 8, 8, 8, 8, 8, 8, 8, 8, 8, 8, 8, 8, 8, 8]⟩ : ByteArray) x21)))), ())
    else none
  else
  bif (decide (a0 ≥ 65536)) then
    let x26 : Int := (shr .u64 a0 16)
    bif (decide (x26 ≥ 256)) then
      let x29 : Int := (IntKind.wrap .u8 (shr .u64 x26 8))
      bif (inB x29 256) then
      ret ((IntKind.wrap .i64 (24 + (IntKind.wrap .i64 (bt (⟨#[0, 1, 2, 2, 3, 3, 3, 3, 4, 4, 4, 4, 4, 4, 4, 4, 5, 5, 5, 5, 5, 5, 5, 5, 5, 5, 5, 5, 5, 5, 5, 5, 6, 6, 6, 6, 6, 6, 6, 6, 6, 6, 6, 6, 6, 6, 6, 6, 6, 6, 6, 6, 6, 6, 6, 6, 6, 6, 6, 6, 6, 6, 6, 6, 7, 7, 7, 7, 7, 7, 7, 7, 7, 7, 7, 7, 7, 7, 7, 7, 7, 7, 7, 7, 7, 7, 7, 7, 7, 7, 7, 7, 7, 7, 7, 7, 7, 7, 7, 7, 7, 7, 7, 7, 7, 7, 7, 7, 7, 7, 7, 7, 7, 7, 7, 7, 7, 7, 7, 7, 7, 7, 7, 7, 7, 7, 7, 7, 8, 8, 8, 8, 8, 8, 8, 8, 8, 8, 8, 8, 8, 8, 8, 8, 8, 8, 8, 8, 8, 8, 8, 8, 8, 8, 8, 8, 8, 8, 8, 8, 8, 8, 8, 8, 8, 8, 8, 8, 8, 8, 8, 8, 8, 8, 8, 8, 8, 8, 8, 8, 8, 8, 8, 8, 8, 8, 8, 8, 8, 8, 8, 8, 8, 8, 8, 8, 8, 8, 8, 8, 8, 8, 8, 8, 8, 8, 8, 8, 8, 8, 8, 8, 8, 8, 8, 8, 8, 8, 8, 8, 8, 8, 8, 8, 8, 8, 8, 8, 8, 8, 8, 8, 8, 8, 8, 8, 8, 8, 8, 8, 8, 8, 8, 8, 8, 8, 8, 8, 8, 8, 8, 8, 8, 8, 8, 8]⟩ : ByteArray) x29)))), ())
      else none
    else
    let x33 : Int := (IntKind.wrap .u8 x26)
    bif (inB x33 256) then
    ret ((IntKind.wrap .i64 (16 + (IntKind.wrap .i64 (bt (⟨#[0, 1, 2, 2, 3, 3, 3, 3, 4, 4, 4, 4, 4, 4, 4, 4, 5, 5, 5, 5, 5, 5, 5, 5, 5, 5, 5, 5, 5, 5, 5, 5, 6, 6, 6, 6, 6, 6, 6, 6, 6, 6, 6, 6, 6, 6, 6, 6, 6, 6, 6, 6, 6, 6, 6, 6, 6, 6, 6, 6, 6, 6, 6, 6, 7, 7, 7, 7, 7, 7, 7, 7, 7, 7, 7, 7, 7, 7, 7, 7, 7, 7, 7, 7, 7, 7, 7, 7, 7, 7, 7, 7, 7, 7, 7, 7, 7, 7, 7, 7, 7, 7, 7, 7, 7, 7, 7, 7, 7, 7, 7, 7, 7, 7, 7, 7, 7, 7, 7, 7, 7, 7, 7, 7, 7, 7, 7, 7, 8, 8, 8, 8, 8, 8, 8, 8, 8, 8, 8, 8, 8, 8, 8, 8, 8, 8, 8, 8, 8, 8, 8, 8, 8, 8, 8, 8, 8, 8, 8, 8, 8, 8, 8, 8, 8, 8, 8, 8, 8, 8, 8, 8, 8, 8, 8, 8, 8, 8, 8, 8, 8, 8, 8, 8, 8, 8, 8, 8, 8, 8, 8, 8, 8, 8, 8, 8, 8, 8, 8, 8, 8, 8, 8, 8, 8, 8, 8, 8, 8, 8, 8, 8, 8, 8, 8, 8, 8, 8, 8, 8, 8, 8, 8, 8, 8, 8, 8, 8, 8, 8, 8, 8, 8, 8, 8, 8, 8, 8, 8, 8, 8, 8, 8, 8, 8, 8, 8, 8, 8, 8, 8, 8, 8, 8, 8, 8]⟩ : ByteArray) x33)))), ())
    else none
  else
  bif (decide (a0 ≥ 256)) then
    let x39 : Int := (IntKind.wrap .u8 (shr .u64 a0 8))
    bif (inB x39 256) then
    ret ((IntKind.wrap .i64 (8 + (IntKind.wrap .i64 (bt (⟨#[0, 1, 2, 2, 3, 3, 3, 3, 4, 4, 4, 4, 4, 4, 4, 4, 5, 5, 5, 5, 5, 5, 5, 5, 5, 5, 5, 5, 5, 5, 5, 5, 6, 6, 6, 6, 6, 6, 6, 6, 6, 6, 6, 6, 6, 6, 6, 6, 6, 6, 6, 6, 6, 6, 6, 6, 6, 6, 6, 6, 6, 6, 6, 6, 7, 7, 7, 7, 7, 7, 7, 7, 7, 7, 7, 7, 7, 7, 7, 7, 7, 7, 7, 7, 7, 7, 7, 7, 7, 7, 7, 7, 7, 7, 7, 7, 7, 7, 7, 7, 7, 7, 7, 7, 7, 7, 7, 7, 7, 7, 7, 7, 7, 7, 7, 7, 7, 7, 7, 7, 7, 7, 7, 7, 7, 7, 7, 7, 8, 8, 8, 8, 8, 8, 8, 8, 8, 8, 8, 8, 8, 8, 8, 8, 8, 8, 8, 8, 8, 8, 8, 8, 8, 8, 8, 8, 8, 8, 8, 8, 8, 8, 8, 8, 8, 8, 8, 8, 8, 8, 8, 8, 8, 8, 8, 8, 8, 8, 8, 8, 8, 8, 8, 8, 8, 8, 8, 8, 8, 8, 8, 8, 8, 8, 8, 8, 8, 8, 8, 8, 8, 8, 8, 8, 8, 8, 8, 8, 8, 8, 8, 8, 8, 8, 8, 8, 8, 8, 8, 8, 8, 8, 8, 8, 8, 8, 8, 8, 8, 8, 8, 8, 8, 8, 8, 8, 8, 8, 8, 8, 8, 8, 8, 8, 8, 8, 8, 8, 8, 8, 8, 8, 8, 8, 8, 8]⟩ : ByteArray) x39)))), ())
    else none
  else
  let x43 : Int := (IntKind.wrap .u8 a0)
  bif (inB x43 256) then
  ret ((IntKind.wrap .i64 (0 + (IntKind.wrap .i64 (bt (⟨#[0, 1, 2, 2, 3, 3, 3, 3, 4, 4, 4, 4, 4, 4, 4, 4, 5, 5, 5, 5, 5, 5, 5, 5, 5, 5, 5, 5, 5, 5, 5, 5, 6, 6, 6, 6, 6, 6, 6, 6, 6, 6, 6, 6, 6, 6, 6, 6, 6, 6, 6, 6, 6, 6, 6, 6, 6, 6, 6, 6, 6, 6, 6, 6, 7, 7, 7, 7, 7, 7, 7, 7, 7, 7, 7, 7, 7, 7, 7, 7, 7, 7, 7, 7, 7, 7, 7, 7, 7, 7, 7, 7, 7, 7, 7, 7, 7, 7, 7, 7, 7, 7, 7, 7, 7, 7, 7, 7, 7, 7, 7, 7, 7, 7, 7, 7, 7, 7, 7, 7, 7, 7, 7, 7, 7, 7, 7, 7, 8, 8, 8, 8, 8, 8, 8, 8, 8, 8, 8, 8, 8, 8, 8, 8, 8, 8, 8, 8, 8, 8, 8, 8, 8, 8, 8, 8, 8, 8, 8, 8, 8, 8, 8, 8, 8, 8, 8, 8, 8, 8, 8, 8, 8, 8, 8, 8, 8, 8, 8, 8, 8, 8, 8, 8, 8, 8, 8, 8, 8, 8, 8, 8, 8, 8, 8, 8, 8, 8, 8, 8, 8, 8, 8, 8, 8, 8, 8, 8, 8, 8, 8, 8, 8, 8, 8, 8, 8, 8, 8, 8, 8, 8, 8, 8, 8, 8, 8, 8, 8, 8, 8, 8, 8, 8, 8, 8, 8, 8, 8, 8, 8, 8, 8, 8, 8, 8, 8, 8, 8, 8, 8, 8, 8, 8, 8, 8]⟩ : ByteArray) x43)))), ())
  else none
def f_math_bits_Len64 {Ω : Type} (ret : Int × Unit → Option Ω) (k : Nat) (a0 : Int) : Option Ω := f_math_bits_Len64_b ret k a0
theorem f_math_bits_Len64_run (m : Int) {Ω : Type} (ret : Int × Unit → Option Ω) (k : Nat) (a0 : Int) : run (E_math_bits_Len64 m Ω) [] k Tryd.f70 [.int .u64 a0] [] (resK [.int .i64] ret) = f_math_bits_Len64 ret k a0 := by
  show _ = f_math_bits_Len64_b ret k a0
  kernel_rfl
def F_math_bits_Len64 (a : Int × Unit) : Option (Int × Unit) := f_math_bits_Len64 some 0 a.1
theorem f_math_bits_Len64_at : Tryd.prog.funcs[70]? = some Tryd.f70 := by kernel_rfl
theorem E_math_bits_Len64_ok (m : Int) (Ω : Type) : EnvOk Tryd.prog (E_math_bits_Len64 m Ω) := envT_ok T_ok (by intro e he; cases he) (by intro e he; cases he)
theorem F_math_bits_Len64_ok (a : Tys [.int .u64]) (r : Tys [.int .i64]) (h : F_math_bits_Len64 a = some r) (m : Int) : PContract Tryd.prog (GL m) 70 (injL [.int .u64] a) (injR [.int .i64] r) := by
  exact PContract.of_run (E := E_math_bits_Len64 m (Tys [.int .i64])) (un := []) (k := 0) (E_math_bits_Len64_ok m _) mixed (callOk_of f_math_bits_Len64_at (by kernel_rfl) (by kernel_rfl)) f_math_bits_Len64_at ((f_math_bits_Len64_run m some 0 a.1).trans h)
/-! math/bits.LeadingZeros64 -/
noncomputable def E_math_bits_LeadingZeros64 (m : Int) (Ω : Type) : Env Ω := envT T (GL m) [(70, true, ent [.int .u64] [.int .i64] F_math_bits_Len64)] []
def f_math_bits_LeadingZeros64_b {Ω : Type} (ret : Int × Unit → Option Ω) (k : Nat)  (a0 : Int) : Option Ω :=
  andK (F_math_bits_Len64 (a0, ())) fun (r1 : Int × Unit) =>
  ret ((IntKind.wrap .i64 (64 - r1.1)), ())
def f_math_bits_LeadingZeros64 {Ω : Type} (ret : Int × Unit → Option Ω) (k : Nat) (a0 : Int) : Option Ω := f_math_bits_LeadingZeros64_b ret k a0
theorem f_math_bits_LeadingZeros64_run (m : Int) {Ω : Type} (ret : Int × Unit → Option Ω) (k : Nat) (a0 : Int) : run (E_math_bits_LeadingZeros64 m Ω) [] k Tryd.f71 [.int .u64 a0] [] (resK [.int .i64] ret) = f_math_bits_LeadingZeros64 ret k a0 := by
  show _ = f_math_bits_LeadingZeros64_b ret k a0
  kernel_rfl
def F_math_bits_LeadingZeros64 (a : Int × Unit) : Option (Int × Unit) := f_math_bits_LeadingZeros64 some 0 a.1
theorem f_math_bits_LeadingZeros64_at : Tryd.prog.funcs[71]? = some Tryd.f71 := by kernel_rfl
theorem E_math_bits_LeadingZeros64_ok (m : Int) (Ω : Type) : EnvOk Tryd.prog (E_math_bits_LeadingZeros64 m Ω) := envT_ok T_ok (by
  intro e he
  simp only [List.mem_cons, List.not_mem_nil, or_false] at he
  rcases he with rfl
  · exact ent_ok fun a r h => F_math_bits_Len64_ok a r h m) (by intro e he; cases he)
theorem F_math_bits_LeadingZeros64_ok (a : Tys [.int .u64]) (r : Tys [.int .i64]) (h : F_math_bits_LeadingZeros64 a = some r) (m : Int) : PContract Tryd.prog (GL m) 71 (injL [.int .u64] a) (injR [.int .i64] r) := by
  exact PContract.of_run (E := E_math_bits_LeadingZeros64 m (Tys [.int .i64])) (un := []) (k := 0) (E_math_bits_LeadingZeros64_ok m _) mixed (callOk_of f_math_bits_LeadingZeros64_at (by kernel_rfl) (by kernel_rfl)) f_math_bits_LeadingZeros64_at ((f_math_bits_LeadingZeros64_run m some 0 a.1).trans h)
/-! math/bits.Div64 -/
noncomputable def E_math_bits_Div64 (m : Int) (Ω : Type) : Env Ω := envT T (GL m) [(71, true, ent [.int .u64] [.int .i64] F_math_bits_LeadingZeros64)] []
def S_math_bits_Div64_0 (t2 : Int) (t8 : Int) (t9 : Int) (t10 : Int) (t14 : Int) (t15 : Int) (t16 : Int) (t17 : Int) (t18 : Int) : St := ⟨[.undef, .undef, .int .u64 t2, .undef, .undef, .undef, .undef, .undef, .int .u64 t8, .int .u64 t9, .int .u64 t10, .undef, .undef, .undef, .int .u64 t14, .int .u64 t15, .int .u64 t16, .int .u64 t17, .int .u64 t18, .undef, .undef, .undef, .undef, .undef, .undef, .undef, .undef, .undef, .undef, .undef, .undef, .undef, .undef, .undef, .undef, .undef, .undef, .undef, .undef, .undef, .undef, .undef, .undef, .undef, .undef, .undef, .undef, .undef, .undef, .undef, .undef, .undef, .undef, .undef, .undef, .undef, .undef, .undef, .undef, .undef, .undef, .undef, .undef, .undef, .undef, .undef, .undef, .undef, .undef, .undef, .undef, .undef, .undef, .undef, .undef, .undef, .undef, .undef, .undef, .undef, .undef, .undef, .undef, .undef, .undef, .undef, .undef, .undef, .undef, .undef, .undef, .undef, .undef, .undef, .undef, .undef, .undef, .undef, .undef, .undef, .undef, .undef, .undef, .undef, .undef, .undef, .undef, .undef, .undef, .undef, .undef, .undef, .undef, .undef, .undef, .undef, .undef, .undef, .undef, .undef, .undef, .undef, .undef, .undef, .undef, .undef, .undef, .undef, .undef, .undef, .undef, .undef, .undef, .undef, .undef], []⟩
def S_math_bits_Div64_1 (t2 : Int) (t8 : Int) (t9 : Int) (t10 : Int) (t11 : Int) (t13 : Int) (t14 : Int) (t15 : Int) (t16 : Int) : St := ⟨[.undef, .undef, .int .u64 t2, .undef, .undef, .undef, .undef, .undef, .int .u64 t8, .int .u64 t9, .int .u64 t10, .int .u64 t11, .undef, .int .u64 t13, .int .u64 t14, .int .u64 t15, .int .u64 t16, .undef, .undef, .undef, .undef, .undef, .undef, .undef, .undef, .undef, .undef, .undef, .undef, .undef, .undef, .undef, .undef, .undef, .undef, .undef, .undef, .undef, .undef, .undef, .undef, .undef, .undef, .undef, .undef, .undef, .undef, .undef, .undef, .undef, .undef, .undef, .undef, .undef, .undef, .undef, .undef, .undef, .undef, .undef, .undef, .undef, .undef, .undef, .undef, .undef, .undef, .undef, .undef, .undef, .undef, .undef, .undef, .undef, .undef, .undef, .undef, .undef, .undef, .undef, .undef, .undef, .undef, .undef, .undef, .undef, .undef, .undef, .undef, .undef, .undef, .undef, .undef, .undef, .undef, .undef, .undef, .undef, .undef, .undef, .undef, .undef, .undef, .undef, .undef, .undef, .undef, .undef, .undef, .undef, .undef, .undef, .undef, .undef, .undef, .undef, .undef, .undef, .undef, .undef, .undef, .undef, .undef, .undef, .undef, .undef, .undef, .undef, .undef, .undef, .undef, .undef, .undef, .undef, .undef], []⟩
def f_math_bits_Div64_l0s {Ω : Type} (ret : Int × Int × Unit → Option Ω) (k : Nat)  (c0 : Int → Int → Int → Int → Int → Int → Int → Int → Int → Option Ω)  (t2 : Int) (t8 : Int) (t9 : Int) (t10 : Int) (t14 : Int) (t15 : Int) (t16 : Int) (t17 : Int) (t18 : Int) : Option Ω :=
  bif (decide (t18 ≥ 4294967296)) then
    let x33 : Int := (IntKind.wrap .u64 (t18 - 1))
    let x34 : Int := (IntKind.wrap .u64 (t16 + t9))
    bif (decide (x34 ≥ 4294967296)) then
      bif (decide (t8 < 0)) then
        none
      else
      ret ((IntKind.wrap .u64 ((IntKind.wrap .u64 (t15 * 4294967296)) + x33)), (shr .u64 (IntKind.wrap .u64 ((IntKind.wrap .u64 ((IntKind.wrap .u64 (t17 * 4294967296)) + t14)) - (IntKind.wrap .u64 (x33 * t2)))) t8), ())
    else
    c0 t2 t8 t9 t10 t14 t15 x34 t17 x33
  else
  bif (decide ((IntKind.wrap .u64 (t18 * t10)) > (IntKind.wrap .u64 ((IntKind.wrap .u64 (4294967296 * t16)) + t14)))) then
    let x47 : Int := (IntKind.wrap .u64 (t18 - 1))
    let x48 : Int := (IntKind.wrap .u64 (t16 + t9))
    bif (decide (x48 ≥ 4294967296)) then
      bif (decide (t8 < 0)) then
        none
      else
      ret ((IntKind.wrap .u64 ((IntKind.wrap .u64 (t15 * 4294967296)) + x47)), (shr .u64 (IntKind.wrap .u64 ((IntKind.wrap .u64 ((IntKind.wrap .u64 (t17 * 4294967296)) + t14)) - (IntKind.wrap .u64 (x47 * t2)))) t8), ())
    else
    c0 t2 t8 t9 t10 t14 t15 x48 t17 x47
  else
  bif (decide (t8 < 0)) then
    none
  else
  ret ((IntKind.wrap .u64 ((IntKind.wrap .u64 (t15 * 4294967296)) + t18)), (shr .u64 (IntKind.wrap .u64 ((IntKind.wrap .u64 ((IntKind.wrap .u64 (t17 * 4294967296)) + t14)) - (IntKind.wrap .u64 (t18 * t2)))) t8), ())
def f_math_bits_Div64_l0 {Ω : Type} (ret : Int × Int × Unit → Option Ω) (k : Nat)  : Nat → Int → Int → Int → Int → Int → Int → Int → Int → Int → Option Ω
  | 0 => fun _ _ _ _ _ _ _ _ _ => none
  | n + 1 => f_math_bits_Div64_l0s ret k (f_math_bits_Div64_l0 ret k n)
def f_math_bits_Div64_l1s {Ω : Type} (ret : Int × Int × Unit → Option Ω) (k : Nat)  (c1 : Int → Int → Int → Int → Int → Int → Int → Int → Int → Option Ω) (l0 : Nat → Int → Int → Int → Int → Int → Int → Int → Int → Int → Option Ω) (t2 : Int) (t8 : Int) (t9 : Int) (t10 : Int) (t11 : Int) (t13 : Int) (t14 : Int) (t15 : Int) (t16 : Int) : Option Ω :=
  bif (decide (t15 ≥ 4294967296)) then
    let x22 : Int := (IntKind.wrap .u64 (t15 - 1))
    let x23 : Int := (IntKind.wrap .u64 (t16 + t9))
    bif (decide (x23 ≥ 4294967296)) then
      let x28 : Int := (IntKind.wrap .u64 ((IntKind.wrap .u64 ((IntKind.wrap .u64 (t11 * 4294967296)) + t13)) - (IntKind.wrap .u64 (x22 * t2))))
      bif (t9 == 0) then
        none
      else
      let x29 : Int := (IntKind.wrap .u64 (Int.tdiv x28 t9))
      l0 k t2 t8 t9 t10 t14 x22 (IntKind.wrap .u64 (x28 - (IntKind.wrap .u64 (x29 * t9)))) x28 x29
    else
    c1 t2 t8 t9 t10 t11 t13 t14 x22 x23
  else
  bif (decide ((IntKind.wrap .u64 (t15 * t10)) > (IntKind.wrap .u64 ((IntKind.wrap .u64 (4294967296 * t16)) + t13)))) then
    let x68 : Int := (IntKind.wrap .u64 (t15 - 1))
    let x69 : Int := (IntKind.wrap .u64 (t16 + t9))
    bif (decide (x69 ≥ 4294967296)) then
      let x74 : Int := (IntKind.wrap .u64 ((IntKind.wrap .u64 ((IntKind.wrap .u64 (t11 * 4294967296)) + t13)) - (IntKind.wrap .u64 (x68 * t2))))
      bif (t9 == 0) then
        none
      else
      let x75 : Int := (IntKind.wrap .u64 (Int.tdiv x74 t9))
      l0 k t2 t8 t9 t10 t14 x68 (IntKind.wrap .u64 (x74 - (IntKind.wrap .u64 (x75 * t9)))) x74 x75
    else
    c1 t2 t8 t9 t10 t11 t13 t14 x68 x69
  else
  let x81 : Int := (IntKind.wrap .u64 ((IntKind.wrap .u64 ((IntKind.wrap .u64 (t11 * 4294967296)) + t13)) - (IntKind.wrap .u64 (t15 * t2))))
  bif (t9 == 0) then
    none
  else
  let x82 : Int := (IntKind.wrap .u64 (Int.tdiv x81 t9))
  l0 k t2 t8 t9 t10 t14 t15 (IntKind.wrap .u64 (x81 - (IntKind.wrap .u64 (x82 * t9)))) x81 x82
def f_math_bits_Div64_l1 {Ω : Type} (ret : Int × Int × Unit → Option Ω) (k : Nat)  : Nat → Int → Int → Int → Int → Int → Int → Int → Int → Int → Option Ω
  | 0 => fun _ _ _ _ _ _ _ _ _ => none
  | n + 1 => f_math_bits_Div64_l1s ret k (f_math_bits_Div64_l1 ret k n) (f_math_bits_Div64_l0 ret k)
def f_math_bits_Div64_b {Ω : Type} (ret : Int × Int × Unit → Option Ω) (k : Nat) (l1 : Nat → Int → Int → Int → Int → Int → Int → Int → Int → Int → Option Ω) (a0 : Int) (a1 : Int) (a2 : Int) : Option Ω :=
  bif (a2 == 0) then
    none
  else
  bif (decide (a2 ≤ a0)) then
    none
  else
  bif (a0 == 0) then
    bif (a2 == 0) then
      none
    else
    bif (a2 == 0) then
      none
    else
    ret ((IntKind.wrap .u64 (Int.tdiv a1 a2)), (Int.tmod a1 a2), ())
  else
  andK (F_math_bits_LeadingZeros64 (a2, ())) fun (r6 : Int × Unit) =>
  let x7 : Int := (IntKind.wrap .u64 r6.1)
  bif (decide (x7 < 0)) then
    none
  else
  let x8 : Int := (shl .u64 a2 x7)
  let x9 : Int := (shr .u64 x8 32)
  bif (decide (x7 < 0)) then
    none
  else
  let x12 : Int := (IntKind.wrap .u64 (64 - x7))
  bif (decide (x12 < 0)) then
    none
  else
  let x14 : Int := (ior .u64 (shl .u64 a0 x7) (shr .u64 a1 x12))
  bif (decide (x7 < 0)) then
    none
  else
  let x15 : Int := (shl .u64 a1 x7)
  bif (x9 == 0) then
    none
  else
  let x18 : Int := (IntKind.wrap .u64 (Int.tdiv x14 x9))
  l1 k x8 x7 x9 (iand .u64 x8 4294967295) x14 (shr .u64 x15 32) (iand .u64 x15 4294967295) x18 (IntKind.wrap .u64 (x14 - (IntKind.wrap .u64 (x18 * x9))))
def f_math_bits_Div64 {Ω : Type} (ret : Int × Int × Unit → Option Ω) (k : Nat) (a0 : Int) (a1 : Int) (a2 : Int) : Option Ω := f_math_bits_Div64_b ret k (f_math_bits_Div64_l1 ret k) a0 a1 a2
theorem f_math_bits_Div64_l0_eq (m : Int) {Ω : Type} (ret : Int × Int × Unit → Option Ω) (k : Nat)  : ∀ (n : Nat) (t2 : Int) (t8 : Int) (t9 : Int) (t10 : Int) (t14 : Int) (t15 : Int) (t16 : Int) (t17 : Int) (t18 : Int), loopAt (E_math_bits_Div64 m Ω) (resLive Tryd.f59.results.toList) [] k (spotF (E_math_bits_Div64 m Ω) [] k Tryd.f59 [] [true, true, true, true, true, true, true, true, true, true, true, true, true, true, true, true, true, true, false, false] (resK [.int .u64, .int .u64] ret)) n (S_math_bits_Div64_0 t2 t8 t9 t10 t14 t15 t16 t17 t18) = f_math_bits_Div64_l0 ret k n t2 t8 t9 t10 t14 t15 t16 t17 t18 := by
  intro n
  induction n with
  | zero => intros; rw [loopAt_zero]; rfl
  | succ n ih =>
    intros t2 t8 t9 t10 t14 t15 t16 t17 t18
    rw [loopAt_succ]
    have e : f_math_bits_Div64_l0 ret k n = fun t2 t8 t9 t10 t14 t15 t16 t17 t18 => loopAt (E_math_bits_Div64 m Ω) (resLive Tryd.f59.results.toList) [] k (spotF (E_math_bits_Div64 m Ω) [] k Tryd.f59 [] [true, true, true, true, true, true, true, true, true, true, true, true, true, true, true, true, true, true, false, false] (resK [.int .u64, .int .u64] ret)) n (S_math_bits_Div64_0 t2 t8 t9 t10 t14 t15 t16 t17 t18) := by funext t2 t8 t9 t10 t14 t15 t16 t17 t18; exact (ih t2 t8 t9 t10 t14 t15 t16 t17 t18).symm
    show _ = f_math_bits_Div64_l0s ret k (f_math_bits_Div64_l0 ret k n) t2 t8 t9 t10 t14 t15 t16 t17 t18
    rw [e]
    kernel_rfl
theorem f_math_bits_Div64_l1_eq (m : Int) {Ω : Type} (ret : Int × Int × Unit → Option Ω) (k : Nat)  : ∀ (n : Nat) (t2 : Int) (t8 : Int) (t9 : Int) (t10 : Int) (t11 : Int) (t13 : Int) (t14 : Int) (t15 : Int) (t16 : Int), loopAt (E_math_bits_Div64 m Ω) (resLive Tryd.f59.results.toList) [] k (spotF (E_math_bits_Div64 m Ω) [] k Tryd.f59 [] [true, true, true, true, true, true, true, true, true, true, true, true, true, true, false, false] (resK [.int .u64, .int .u64] ret)) n (S_math_bits_Div64_1 t2 t8 t9 t10 t11 t13 t14 t15 t16) = f_math_bits_Div64_l1 ret k n t2 t8 t9 t10 t11 t13 t14 t15 t16 := by
  intro n
  induction n with
  | zero => intros; rw [loopAt_zero]; rfl
  | succ n ih =>
    intros t2 t8 t9 t10 t11 t13 t14 t15 t16
    rw [loopAt_succ]
    have e : f_math_bits_Div64_l1 ret k n = fun t2 t8 t9 t10 t11 t13 t14 t15 t16 => loopAt (E_math_bits_Div64 m Ω) (resLive Tryd.f59.results.toList) [] k (spotF (E_math_bits_Div64 m Ω) [] k Tryd.f59 [] [true, true, true, true, true, true, true, true, true, true, true, true, true, true, false, false] (resK [.int .u64, .int .u64] ret)) n (S_math_bits_Div64_1 t2 t8 t9 t10 t11 t13 t14 t15 t16) := by funext t2 t8 t9 t10 t11 t13 t14 t15 t16; exact (ih t2 t8 t9 t10 t11 t13 t14 t15 t16).symm
    have e0 : f_math_bits_Div64_l0 ret k = fun m_ t2_ t8_ t9_ t10_ t14_ t15_ t16_ t17_ t18_ => loopAt (E_math_bits_Div64 m Ω) (resLive Tryd.f59.results.toList) [] k (spotF (E_math_bits_Div64 m Ω) [] k Tryd.f59 [] [true, true, true, true, true, true, true, true, true, true, true, true, true, true, true, true, true, true, false, false] (resK [.int .u64, .int .u64] ret)) m_ (S_math_bits_Div64_0 t2_ t8_ t9_ t10_ t14_ t15_ t16_ t17_ t18_) := by funext m_ t2_ t8_ t9_ t10_ t14_ t15_ t16_ t17_ t18_; exact (f_math_bits_Div64_l0_eq m ret k m_ t2_ t8_ t9_ t10_ t14_ t15_ t16_ t17_ t18_).symm
    show _ = f_math_bits_Div64_l1s ret k (f_math_bits_Div64_l1 ret k n) (f_math_bits_Div64_l0 ret k) t2 t8 t9 t10 t11 t13 t14 t15 t16
    rw [e, e0]
    kernel_rfl
theorem f_math_bits_Div64_run (m : Int) {Ω : Type} (ret : Int × Int × Unit → Option Ω) (k : Nat) (a0 : Int) (a1 : Int) (a2 : Int) : run (E_math_bits_Div64 m Ω) [] k Tryd.f59 [.int .u64 a0, .int .u64 a1, .int .u64 a2] [] (resK [.int .u64, .int .u64] ret) = f_math_bits_Div64 ret k a0 a1 a2 := by
  have e1 : f_math_bits_Div64_l1 ret k = fun m_ t2_ t8_ t9_ t10_ t11_ t13_ t14_ t15_ t16_ => loopAt (E_math_bits_Div64 m Ω) (resLive Tryd.f59.results.toList) [] k (spotF (E_math_bits_Div64 m Ω) [] k Tryd.f59 [] [true, true, true, true, true, true, true, true, true, true, true, true, true, true, false, false] (resK [.int .u64, .int .u64] ret)) m_ (S_math_bits_Div64_1 t2_ t8_ t9_ t10_ t11_ t13_ t14_ t15_ t16_) := by funext m_ t2_ t8_ t9_ t10_ t11_ t13_ t14_ t15_ t16_; exact (f_math_bits_Div64_l1_eq m ret k m_ t2_ t8_ t9_ t10_ t11_ t13_ t14_ t15_ t16_).symm
  show _ = f_math_bits_Div64_b ret k (f_math_bits_Div64_l1 ret k) a0 a1 a2
  rw [e1]
  kernel_rfl
def F_math_bits_Div64 (a : Int × Int × Int × Unit) : Option (Int × Int × Unit) := ends fun k => f_math_bits_Div64 some k a.1 a.2.1 a.2.2.1
theorem f_math_bits_Div64_at : Tryd.prog.funcs[59]? = some Tryd.f59 := by kernel_rfl
theorem E_math_bits_Div64_ok (m : Int) (Ω : Type) : EnvOk Tryd.prog (E_math_bits_Div64 m Ω) := envT_ok T_ok (by
  intro e he
  simp only [List.mem_cons, List.not_mem_nil, or_false] at he
  rcases he with rfl
  · exact ent_ok fun a r h => F_math_bits_LeadingZeros64_ok a r h m) (by intro e he; cases he)
theorem F_math_bits_Div64_ok (a : Tys [.int .u64, .int .u64, .int .u64]) (r : Tys [.int .u64, .int .u64]) (h : F_math_bits_Div64 a = some r) (m : Int) : PContract Tryd.prog (GL m) 59 (injL [.int .u64, .int .u64, .int .u64] a) (injR [.int .u64, .int .u64] r) := by
  obtain ⟨k, h⟩ := ends_some h
  exact PContract.of_run (E := E_math_bits_Div64 m (Tys [.int .u64, .int .u64])) (un := []) (k := k) (E_math_bits_Div64_ok m _) mixed (callOk_of f_math_bits_Div64_at (by kernel_rfl) (by kernel_rfl)) f_math_bits_Div64_at ((f_math_bits_Div64_run m some k a.1 a.2.1 a.2.2.1).trans h)
/-! math/bits.Rem64 -/
noncomputable def E_math_bits_Rem64 (m : Int) (Ω : Type) : Env Ω := envT T (GL m) [(59, true, ent [.int .u64, .int .u64, .int .u64] [.int .u64, .int .u64] F_math_bits_Div64)] []
def f_math_bits_Rem64_b {Ω : Type} (ret : Int × Unit → Option Ω) (k : Nat)  (a0 : Int) (a1 : Int) (a2 : Int) : Option Ω :=
  bif (a2 == 0) then
    none
  else
  andK (F_math_bits_Div64 ((Int.tmod a0 a2), a1, a2, ())) fun (r2 : Int × Int × Unit) =>
  ret ((r2.2.1 : Int), ())
def f_math_bits_Rem64 {Ω : Type} (ret : Int × Unit → Option Ω) (k : Nat) (a0 : Int) (a1 : Int) (a2 : Int) : Option Ω := f_math_bits_Rem64_b ret k a0 a1 a2
theorem f_math_bits_Rem64_run (m : Int) {Ω : Type} (ret : Int × Unit → Option Ω) (k : Nat) (a0 : Int) (a1 : Int) (a2 : Int) : run (E_math_bits_Rem64 m Ω) [] k Tryd.f51 [.int .u64 a0, .int .u64 a1, .int .u64 a2] [] (resK [.int .u64] ret) = f_math_bits_Rem64 ret k a0 a1 a2 := by
  show _ = f_math_bits_Rem64_b ret k a0 a1 a2
  kernel_rfl
def F_math_bits_Rem64 (a : Int × Int × Int × Unit) : Option (Int × Unit) := f_math_bits_Rem64 some 0 a.1 a.2.1 a.2.2.1
theorem f_math_bits_Rem64_at : Tryd.prog.funcs[51]? = some Tryd.f51 := by kernel_rfl
theorem E_math_bits_Rem64_ok (m : Int) (Ω : Type) : EnvOk Tryd.prog (E_math_bits_Rem64 m Ω) := envT_ok T_ok (by
  intro e he
  simp only [List.mem_cons, List.not_mem_nil, or_false] at he
  rcases he with rfl
  · exact ent_ok fun a r h => F_math_bits_Div64_ok a r h m) (by intro e he; cases he)
theorem F_math_bits_Rem64_ok (a : Tys [.int .u64, .int .u64, .int .u64]) (r : Tys [.int .u64]) (h : F_math_bits_Rem64 a = some r) (m : Int) : PContract Tryd.prog (GL m) 51 (injL [.int .u64, .int .u64, .int .u64] a) (injR [.int .u64] r) := by
  exact PContract.of_run (E := E_math_bits_Rem64 m (Tys [.int .u64])) (un := []) (k := 0) (E_math_bits_Rem64_ok m _) mixed (callOk_of f_math_bits_Rem64_at (by kernel_rfl) (by kernel_rfl)) f_math_bits_Rem64_at ((f_math_bits_Rem64_run m some 0 a.1 a.2.1 a.2.2.1).trans h)
/-! bourne/group.product -/
noncomputable def E_group_product (m : Int) (Ω : Type) : Env Ω := envT T (GL m) [(50, true, ent [.int .u64, .int .u64] [.int .u64, .int .u64] F_math_bits_Mul64), (51, true, ent [.int .u64, .int .u64, .int .u64] [.int .u64] F_math_bits_Rem64)] []
def f_group_product_b {Ω : Type} (ret : Int × Unit → Option Ω) (k : Nat)  (a0 : Int) (a1 : Int) (a2 : Int) : Option Ω :=
  andK (F_math_bits_Mul64 ((IntKind.wrap .u64 a0), (IntKind.wrap .u64 a1), ())) fun (r3 : Int × Int × Unit) =>
  andK (F_math_bits_Rem64 ((r3.1 : Int), (r3.2.1 : Int), (IntKind.wrap .u64 a2), ())) fun (r5 : Int × Unit) =>
  ret ((IntKind.wrap .i64 r5.1), ())
def f_group_product {Ω : Type} (ret : Int × Unit → Option Ω) (k : Nat) (a0 : Int) (a1 : Int) (a2 : Int) : Option Ω := f_group_product_b ret k a0 a1 a2
theorem f_group_product_run (m : Int) {Ω : Type} (ret : Int × Unit → Option Ω) (k : Nat) (a0 : Int) (a1 : Int) (a2 : Int) : run (E_group_product m Ω) [] k Tryd.f41 [.int .i64 a0, .int .i64 a1, .int .i64 a2] [] (resK [.int .i64] ret) = f_group_product ret k a0 a1 a2 := by
  show _ = f_group_product_b ret k a0 a1 a2
  kernel_rfl
def F_group_product (a : Int × Int × Int × Unit) : Option (Int × Unit) := f_group_product some 0 a.1 a.2.1 a.2.2.1
theorem f_group_product_at : Tryd.prog.funcs[41]? = some Tryd.f41 := by kernel_rfl
theorem E_group_product_ok (m : Int) (Ω : Type) : EnvOk Tryd.prog (E_group_product m Ω) := envT_ok T_ok (by
  intro e he
  simp only [List.mem_cons, List.not_mem_nil, or_false] at he
  rcases he with rfl | rfl
  · exact ent_ok fun a r h => F_math_bits_Mul64_ok a r h m
  · exact ent_ok fun a r h => F_math_bits_Rem64_ok a r h m) (by intro e he; cases he)
theorem F_group_product_ok (a : Tys [.int .i64, .int .i64, .int .i64]) (r : Tys [.int .i64]) (h : F_group_product a = some r) (m : Int) : PContract Tryd.prog (GL m) 41 (injL [.int .i64, .int .i64, .int .i64] a) (injR [.int .i64] r) := by
  exact PContract.of_run (E := E_group_product m (Tys [.int .i64])) (un := []) (k := 0) (E_group_product_ok m _) mixed (callOk_of f_group_product_at (by kernel_rfl) (by kernel_rfl)) f_group_product_at ((f_group_product_run m some 0 a.1 a.2.1 a.2.2.1).trans h)
/-! bourne/group.Exp -/
noncomputable def E_group_Exp (m : Int) (Ω : Type) : Env Ω := envT T (GL m) [(40, true, ent [.int .i64, .int .i64] [.int .i64] F_group_residue), (41, true, ent [.int .i64, .int .i64, .int .i64] [.int .i64] F_group_product)] []
def S_group_Exp_0 (t0 : Int) (t1 : Int) (t5 : Int) (t13 : Int) : St := ⟨[.int .i64 t0, .int .i64 t1, .undef, .undef, .undef, .int .i64 t5, .undef, .undef, .undef, .undef, .undef, .undef, .undef, .int .i64 t13, .undef, .undef, .undef, .undef, .undef, .undef, .undef, .undef, .undef, .undef, .undef, .undef, .undef, .undef, .undef, .undef], []⟩
def f_group_Exp_l0s {Ω : Type} (ret : Int × Unit → Option Ω) (k : Nat)  (c0 : Int → Int → Int → Int → Option Ω)  (t0 : Int) (t1 : Int) (t5 : Int) (t13 : Int) : Option Ω :=
  bif (decide (t13 < 63)) then
    andK (F_group_product (t5, t5, (2305843009213691579 : Int), ())) fun (r5 : Int × Unit) =>
    let x6 : Int := (IntKind.wrap .i64 (62 - t13))
    bif (decide (x6 < 0)) then
      none
    else
    bif ((iand .i64 (shr .i64 t1 x6) 1) == 1) then
      andK (F_group_product ((r5.1 : Int), t0, (2305843009213691579 : Int), ())) fun (r10 : Int × Unit) =>
      c0 t0 t1 r10.1 (IntKind.wrap .i64 (t13 + 1))
    else
    c0 t0 t1 r5.1 (IntKind.wrap .i64 (t13 + 1))
  else
  ret (t5, ())
def f_group_Exp_l0 {Ω : Type} (ret : Int × Unit → Option Ω) (k : Nat)  : Nat → Int → Int → Int → Int → Option Ω
  | 0 => fun _ _ _ _ => none
  | n + 1 => f_group_Exp_l0s ret k (f_group_Exp_l0 ret k n)
def f_group_Exp_b {Ω : Type} (ret : Int × Unit → Option Ω) (k : Nat) (l0 : Nat → Int → Int → Int → Int → Option Ω) (a0 : Int) (a1 : Int) : Option Ω :=
  bif (decide (a1 < 0)) then
    andK (F_group_residue (a1, (1152921504606845789 : Int), ())) fun (r2 : Int × Unit) =>
    andK (F_group_residue (a0, (2305843009213691579 : Int), ())) fun (r3 : Int × Unit) =>
    l0 k r3.1 r2.1 (1 : Int) (0 : Int)
  else
  andK (F_group_residue (a0, (2305843009213691579 : Int), ())) fun (r13 : Int × Unit) =>
  l0 k r13.1 a1 (1 : Int) (0 : Int)
def f_group_Exp {Ω : Type} (ret : Int × Unit → Option Ω) (k : Nat) (a0 : Int) (a1 : Int) : Option Ω := f_group_Exp_b ret k (f_group_Exp_l0 ret k) a0 a1
theorem f_group_Exp_l0_eq (m : Int) {Ω : Type} (ret : Int × Unit → Option Ω) (k : Nat)  : ∀ (n : Nat) (t0 : Int) (t1 : Int) (t5 : Int) (t13 : Int), loopAt (E_group_Exp m Ω) (resLive Tryd.f24.results.toList) [] k (spotF (E_group_Exp m Ω) [] k Tryd.f24 [] [true, true, true, true, false, true, false] (resK [.int .i64] ret)) n (S_group_Exp_0 t0 t1 t5 t13) = f_group_Exp_l0 ret k n t0 t1 t5 t13 := by
  intro n
  induction n with
  | zero => intros; rw [loopAt_zero]; rfl
  | succ n ih =>
    intros t0 t1 t5 t13
    rw [loopAt_succ]
    have e : f_group_Exp_l0 ret k n = fun t0 t1 t5 t13 => loopAt (E_group_Exp m Ω) (resLive Tryd.f24.results.toList) [] k (spotF (E_group_Exp m Ω) [] k Tryd.f24 [] [true, true, true, true, false, true, false] (resK [.int .i64] ret)) n (S_group_Exp_0 t0 t1 t5 t13) := by funext t0 t1 t5 t13; exact (ih t0 t1 t5 t13).symm
    show _ = f_group_Exp_l0s ret k (f_group_Exp_l0 ret k n) t0 t1 t5 t13
    rw [e]
    kernel_rfl
theorem f_group_Exp_run (m : Int) {Ω : Type} (ret : Int × Unit → Option Ω) (k : Nat) (a0 : Int) (a1 : Int) : run (E_group_Exp m Ω) [] k Tryd.f24 [.int .i64 a0, .int .i64 a1] [] (resK [.int .i64] ret) = f_group_Exp ret k a0 a1 := by
  have e0 : f_group_Exp_l0 ret k = fun m_ t0_ t1_ t5_ t13_ => loopAt (E_group_Exp m Ω) (resLive Tryd.f24.results.toList) [] k (spotF (E_group_Exp m Ω) [] k Tryd.f24 [] [true, true, true, true, false, true, false] (resK [.int .i64] ret)) m_ (S_group_Exp_0 t0_ t1_ t5_ t13_) := by funext m_ t0_ t1_ t5_ t13_; exact (f_group_Exp_l0_eq m ret k m_ t0_ t1_ t5_ t13_).symm
  show _ = f_group_Exp_b ret k (f_group_Exp_l0 ret k) a0 a1
  rw [e0]
  kernel_rfl
def F_group_Exp (a : Int × Int × Unit) : Option (Int × Unit) := ends fun k => f_group_Exp some k a.1 a.2.1
theorem f_group_Exp_at : Tryd.prog.funcs[24]? = some Tryd.f24 := by kernel_rfl
theorem E_group_Exp_ok (m : Int) (Ω : Type) : EnvOk Tryd.prog (E_group_Exp m Ω) := envT_ok T_ok (by
  intro e he
  simp only [List.mem_cons, List.not_mem_nil, or_false] at he
  rcases he with rfl | rfl
  · exact ent_ok fun a r h => F_group_residue_ok a r h m
  · exact ent_ok fun a r h => F_group_product_ok a r h m) (by intro e he; cases he)
theorem F_group_Exp_ok (a : Tys [.int .i64, .int .i64]) (r : Tys [.int .i64]) (h : F_group_Exp a = some r) (m : Int) : PContract Tryd.prog (GL m) 24 (injL [.int .i64, .int .i64] a) (injR [.int .i64] r) := by
  obtain ⟨k, h⟩ := ends_some h
  exact PContract.of_run (E := E_group_Exp m (Tys [.int .i64])) (un := []) (k := k) (E_group_Exp_ok m _) mixed (callOk_of f_group_Exp_at (by kernel_rfl) (by kernel_rfl)) f_group_Exp_at ((f_group_Exp_run m some k a.1 a.2.1).trans h)
/-! bourne/sign.Of -/
noncomputable def E_sign_Of (m : Int) (Ω : Type) : Env Ω := envT T (GL m) [(24, true, ent [.int .i64, .int .i64] [.int .i64] F_group_Exp)] []
def f_sign_Of_b {Ω : Type} (ret : (Int × Int) × Unit → Option Ω) (k : Nat)  (a0 : Int) : Option Ω :=
  bif (decide (a0 < 1)) then
    ret (((0, 0) : Int × Int), ())
  else
  bif (decide (a0 ≥ 1152921504606845789)) then
    ret (((0, 0) : Int × Int), ())
  else
  andK (F_group_Exp ((4 : Int), a0, ())) fun (r3 : Int × Unit) =>
  ret (((a0, r3.1) : Int × Int), ())
def f_sign_Of {Ω : Type} (ret : (Int × Int) × Unit → Option Ω) (k : Nat) (a0 : Int) : Option Ω := f_sign_Of_b ret k a0
theorem f_sign_Of_run (m : Int) {Ω : Type} (ret : (Int × Int) × Unit → Option Ω) (k : Nat) (a0 : Int) : run (E_sign_Of m Ω) [] k Tryd.f12 [.int .i64 a0] [] (resK [.pair (.int .i64) (.int .i64)] ret) = f_sign_Of ret k a0 := by
  show _ = f_sign_Of_b ret k a0
  kernel_rfl
def F_sign_Of (a : Int × Unit) : Option ((Int × Int) × Unit) := f_sign_Of some 0 a.1
theorem f_sign_Of_at : Tryd.prog.funcs[12]? = some Tryd.f12 := by kernel_rfl
theorem E_sign_Of_ok (m : Int) (Ω : Type) : EnvOk Tryd.prog (E_sign_Of m Ω) := envT_ok T_ok (by
  intro e he
  simp only [List.mem_cons, List.not_mem_nil, or_false] at he
  rcases he with rfl
  · exact ent_ok fun a r h => F_group_Exp_ok a r h m) (by intro e he; cases he)
theorem F_sign_Of_ok (a : Tys [.int .i64]) (r : Tys [.pair (.int .i64) (.int .i64)]) (h : F_sign_Of a = some r) (m : Int) : PContract Tryd.prog (GL m) 12 (injL [.int .i64] a) (injR [.pair (.int .i64) (.int .i64)] r) := by
  exact PContract.of_run (E := E_sign_Of m (Tys [.pair (.int .i64) (.int .i64)])) (un := []) (k := 0) (E_sign_Of_ok m _) mixed (callOk_of f_sign_Of_at (by kernel_rfl) (by kernel_rfl)) f_sign_Of_at ((f_sign_Of_run m some 0 a.1).trans h)
/-! (*strings.Builder).String: walked where it is called -/
noncomputable def E_strings_Builder_String (m : Int) (Ω : Type) : Env Ω := envT T (GL m) [] []
theorem f_strings_Builder_String_at : Tryd.prog.funcs[63]? = some Tryd.f63 := by kernel_rfl
theorem E_strings_Builder_String_ok (m : Int) (Ω : Type) : EnvOk Tryd.prog (E_strings_Builder_String m Ω) := envT_ok T_ok (by intro e he; cases he) (by intro e he; cases he)
theorem I_strings_Builder_String_ok (m : Int) (Ω : Type) (xs : List V) (h : Heap) : OneW (inl (E_strings_Builder_String m Ω) [] 0 Tryd.f63 xs h) (Contract Tryd.prog (GL m) 63 xs h) := inl_ok (E_strings_Builder_String_ok m Ω) mixed (callOk_of f_strings_Builder_String_at (by kernel_rfl) (by kernel_rfl)) f_strings_Builder_String_at [] 0 xs h
/-! bourne/digest.words -/
noncomputable def E_digest_words (m : Int) (Ω : Type) : Env Ω := envT T (GL m) [] []
def S_digest_words_0 (t0 : ByteArray) (t6 : Int) (t7 : Int) (b1 : List Int) : St := ⟨[.str t0, .undef, .eptr 0 0 0, .eptr 1 0 0, .undef, .undef, .int .i64 t6, .int .i64 t7, .undef, .undef, .undef, .undef, .undef, .undef, .undef, .undef, .undef, .undef, .undef, .undef, .undef, .undef, .undef, .undef, .undef, .undef], [.arr (.int .u32) 16 ([0, 0, 0, 0, 0, 0, 0, 0, 0, 0, 0, 0, 0, 0, 0, 0] : List Int), .arr (.int .u32) 16 (b1 : List Int)]⟩
def f_digest_words_l0s {Ω : Type} (ret : (Int × (Int × (Int × (Int × (Int × (Int × (Int × (Int × (Int × (Int × (Int × (Int × (Int × (Int × (Int × (Int × Unit)))))))))))))))) × Unit → Option Ω) (k : Nat)  (c0 : ByteArray → Int → Int → (List Int) → Option Ω)  (t0 : ByteArray) (t6 : Int) (t7 : Int) (b1 : List Int) : Option Ω :=
  bif (decide (t7 < t6)) then
    let x2 : Int := (IntKind.wrap .i64 (Int.tdiv t7 4))
    bif (inB x2 16) then
    bif (inB t7 (t0.size : Int)) then
    let x7 : Int := (IntKind.wrap .i64 (8 * (Int.tmod t7 4)))
    bif (decide (x7 < 0)) then
      none
    else
    bif (inB x2 16) then
    c0 t0 t6 (IntKind.wrap .i64 (t7 + 1)) (b1.set (Int.toNat x2) (ior .u32 (b1.getD (Int.toNat x2) (0 : Int)) (shl .u32 (IntKind.wrap .u32 (bt t0 t7)) x7)))
    else none
    else none
    else none
  else
  ret ((((b1.getD 0 (0 : Int)), ((b1.getD 1 (0 : Int)), ((b1.getD 2 (0 : Int)), ((b1.getD 3 (0 : Int)), ((b1.getD 4 (0 : Int)), ((b1.getD 5 (0 : Int)), ((b1.getD 6 (0 : Int)), ((b1.getD 7 (0 : Int)), ((b1.getD 8 (0 : Int)), ((b1.getD 9 (0 : Int)), ((b1.getD 10 (0 : Int)), ((b1.getD 11 (0 : Int)), ((b1.getD 12 (0 : Int)), ((b1.getD 13 (0 : Int)), ((b1.getD 14 (0 : Int)), ((b1.getD 15 (0 : Int)), ())))))))))))))))) : Int × (Int × (Int × (Int × (Int × (Int × (Int × (Int × (Int × (Int × (Int × (Int × (Int × (Int × (Int × (Int × Unit)))))))))))))))), ())
def f_digest_words_l0 {Ω : Type} (ret : (Int × (Int × (Int × (Int × (Int × (Int × (Int × (Int × (Int × (Int × (Int × (Int × (Int × (Int × (Int × (Int × Unit)))))))))))))))) × Unit → Option Ω) (k : Nat)  : Nat → ByteArray → Int → Int → (List Int) → Option Ω
  | 0 => fun _ _ _ _ => none
  | n + 1 => f_digest_words_l0s ret k (f_digest_words_l0 ret k n)
def f_digest_words_b {Ω : Type} (ret : (Int × (Int × (Int × (Int × (Int × (Int × (Int × (Int × (Int × (Int × (Int × (Int × (Int × (Int × (Int × (Int × Unit)))))))))))))))) × Unit → Option Ω) (k : Nat) (l0 : Nat → ByteArray → Int → Int → (List Int) → Option Ω) (a0 : ByteArray) : Option Ω :=
  l0 k a0 (a0.size : Int) (0 : Int) ([0, 0, 0, 0, 0, 0, 0, 0, 0, 0, 0, 0, 0, 0, 0, 0] : List Int)
def f_digest_words {Ω : Type} (ret : (Int × (Int × (Int × (Int × (Int × (Int × (Int × (Int × (Int × (Int × (Int × (Int × (Int × (Int × (Int × (Int × Unit)))))))))))))))) × Unit → Option Ω) (k : Nat) (a0 : ByteArray) : Option Ω := f_digest_words_b ret k (f_digest_words_l0 ret k) a0
theorem f_digest_words_l0_eq (m : Int) {Ω : Type} (ret : (Int × (Int × (Int × (Int × (Int × (Int × (Int × (Int × (Int × (Int × (Int × (Int × (Int × (Int × (Int × (Int × Unit)))))))))))))))) × Unit → Option Ω) (k : Nat)  : ∀ (n : Nat) (t0 : ByteArray) (t6 : Int) (t7 : Int) (b1 : List Int), loopAt (E_digest_words m Ω) (resLive Tryd.f81.results.toList) [] k (spotF (E_digest_words m Ω) [] k Tryd.f81 [] [true, true, false, true, false] (resK [.pair (.int .u32) (.pair (.int .u32) (.pair (.int .u32) (.pair (.int .u32) (.pair (.int .u32) (.pair (.int .u32) (.pair (.int .u32) (.pair (.int .u32) (.pair (.int .u32) (.pair (.int .u32) (.pair (.int .u32) (.pair (.int .u32) (.pair (.int .u32) (.pair (.int .u32) (.pair (.int .u32) (.pair (.int .u32) .unit)))))))))))))))] ret)) n (S_digest_words_0 t0 t6 t7 b1) = f_digest_words_l0 ret k n t0 t6 t7 b1 := by
  intro n
  induction n with
  | zero => intros; rw [loopAt_zero]; rfl
  | succ n ih =>
    intros t0 t6 t7 b1
    rw [loopAt_succ]
    have e : f_digest_words_l0 ret k n = fun t0 t6 t7 b1 => loopAt (E_digest_words m Ω) (resLive Tryd.f81.results.toList) [] k (spotF (E_digest_words m Ω) [] k Tryd.f81 [] [true, true, false, true, false] (resK [.pair (.int .u32) (.pair (.int .u32) (.pair (.int .u32) (.pair (.int .u32) (.pair (.int .u32) (.pair (.int .u32) (.pair (.int .u32) (.pair (.int .u32) (.pair (.int .u32) (.pair (.int .u32) (.pair (.int .u32) (.pair (.int .u32) (.pair (.int .u32) (.pair (.int .u32) (.pair (.int .u32) (.pair (.int .u32) .unit)))))))))))))))] ret)) n (S_digest_words_0 t0 t6 t7 b1) := by funext t0 t6 t7 b1; exact (ih t0 t6 t7 b1).symm
    show _ = f_digest_words_l0s ret k (f_digest_words_l0 ret k n) t0 t6 t7 b1
    rw [e]
    kernel_rfl
theorem f_digest_words_run (m : Int) {Ω : Type} (ret : (Int × (Int × (Int × (Int × (Int × (Int × (Int × (Int × (Int × (Int × (Int × (Int × (Int × (Int × (Int × (Int × Unit)))))))))))))))) × Unit → Option Ω) (k : Nat) (a0 : ByteArray) : run (E_digest_words m Ω) [] k Tryd.f81 [.str a0] [] (resK [.pair (.int .u32) (.pair (.int .u32) (.pair (.int .u32) (.pair (.int .u32) (.pair (.int .u32) (.pair (.int .u32) (.pair (.int .u32) (.pair (.int .u32) (.pair (.int .u32) (.pair (.int .u32) (.pair (.int .u32) (.pair (.int .u32) (.pair (.int .u32) (.pair (.int .u32) (.pair (.int .u32) (.pair (.int .u32) .unit)))))))))))))))] ret) = f_digest_words ret k a0 := by
  have e0 : f_digest_words_l0 ret k = fun m_ t0_ t6_ t7_ b1_ => loopAt (E_digest_words m Ω) (resLive Tryd.f81.results.toList) [] k (spotF (E_digest_words m Ω) [] k Tryd.f81 [] [true, true, false, true, false] (resK [.pair (.int .u32) (.pair (.int .u32) (.pair (.int .u32) (.pair (.int .u32) (.pair (.int .u32) (.pair (.int .u32) (.pair (.int .u32) (.pair (.int .u32) (.pair (.int .u32) (.pair (.int .u32) (.pair (.int .u32) (.pair (.int .u32) (.pair (.int .u32) (.pair (.int .u32) (.pair (.int .u32) (.pair (.int .u32) .unit)))))))))))))))] ret)) m_ (S_digest_words_0 t0_ t6_ t7_ b1_) := by funext m_ t0_ t6_ t7_ b1_; exact (f_digest_words_l0_eq m ret k m_ t0_ t6_ t7_ b1_).symm
  show _ = f_digest_words_b ret k (f_digest_words_l0 ret k) a0
  rw [e0]
  kernel_rfl
def F_digest_words (a : ByteArray × Unit) : Option ((Int × (Int × (Int × (Int × (Int × (Int × (Int × (Int × (Int × (Int × (Int × (Int × (Int × (Int × (Int × (Int × Unit)))))))))))))))) × Unit) := ends fun k => f_digest_words some k a.1
theorem f_digest_words_at : Tryd.prog.funcs[81]? = some Tryd.f81 := by kernel_rfl
theorem E_digest_words_ok (m : Int) (Ω : Type) : EnvOk Tryd.prog (E_digest_words m Ω) := envT_ok T_ok (by intro e he; cases he) (by intro e he; cases he)
theorem F_digest_words_ok (a : Tys [.str]) (r : Tys [.pair (.int .u32) (.pair (.int .u32) (.pair (.int .u32) (.pair (.int .u32) (.pair (.int .u32) (.pair (.int .u32) (.pair (.int .u32) (.pair (.int .u32) (.pair (.int .u32) (.pair (.int .u32) (.pair (.int .u32) (.pair (.int .u32) (.pair (.int .u32) (.pair (.int .u32) (.pair (.int .u32) (.pair (.int .u32) .unit)))))))))))))))]) (h : F_digest_words a = some r) (m : Int) : PContract Tryd.prog (GL m) 81 (injL [.str] a) (injR [.pair (.int .u32) (.pair (.int .u32) (.pair (.int .u32) (.pair (.int .u32) (.pair (.int .u32) (.pair (.int .u32) (.pair (.int .u32) (.pair (.int .u32) (.pair (.int .u32) (.pair (.int .u32) (.pair (.int .u32) (.pair (.int .u32) (.pair (.int .u32) (.pair (.int .u32) (.pair (.int .u32) (.pair (.int .u32) .unit)))))))))))))))] r) := by
  obtain ⟨k, h⟩ := ends_some h
  exact PContract.of_run (E := E_digest_words m (Tys [.pair (.int .u32) (.pair (.int .u32) (.pair (.int .u32) (.pair (.int .u32) (.pair (.int .u32) (.pair (.int .u32) (.pair (.int .u32) (.pair (.int .u32) (.pair (.int .u32) (.pair (.int .u32) (.pair (.int .u32) (.pair (.int .u32) (.pair (.int .u32) (.pair (.int .u32) (.pair (.int .u32) (.pair (.int .u32) .unit)))))))))))))))])) (un := []) (k := k) (E_digest_words_ok m _) mixed (callOk_of f_digest_words_at (by kernel_rfl) (by kernel_rfl)) f_digest_words_at ((f_digest_words_run m some k a.1).trans h)
/-! math/bits.RotateLeft32 -/
noncomputable def E_math_bits_RotateLeft32 (m : Int) (Ω : Type) : Env Ω := envT T (GL m) [] []
def f_math_bits_RotateLeft32_b {Ω : Type} (ret : Int × Unit → Option Ω) (k : Nat)  (a0 : Int) (a1 : Int) : Option Ω :=
  let x2 : Int := (iand .u64 (IntKind.wrap .u64 a1) 31)
  bif (decide (x2 < 0)) then
    none
  else
  let x4 : Int := (IntKind.wrap .u64 (32 - x2))
  bif (decide (x4 < 0)) then
    none
  else
  ret ((ior .u32 (shl .u32 a0 x2) (shr .u32 a0 x4)), ())
def f_math_bits_RotateLeft32 {Ω : Type} (ret : Int × Unit → Option Ω) (k : Nat) (a0 : Int) (a1 : Int) : Option Ω := f_math_bits_RotateLeft32_b ret k a0 a1
theorem f_math_bits_RotateLeft32_run (m : Int) {Ω : Type} (ret : Int × Unit → Option Ω) (k : Nat) (a0 : Int) (a1 : Int) : run (E_math_bits_RotateLeft32 m Ω) [] k Tryd.f89 [.int .u32 a0, .int .i64 a1] [] (resK [.int .u32] ret) = f_math_bits_RotateLeft32 ret k a0 a1 := by
  show _ = f_math_bits_RotateLeft32_b ret k a0 a1
  kernel_rfl
def F_math_bits_RotateLeft32 (a : Int × Int × Unit) : Option (Int × Unit) := f_math_bits_RotateLeft32 some 0 a.1 a.2.1
theorem f_math_bits_RotateLeft32_at : Tryd.prog.funcs[89]? = some Tryd.f89 := by kernel_rfl
theorem E_math_bits_RotateLeft32_ok (m : Int) (Ω : Type) : EnvOk Tryd.prog (E_math_bits_RotateLeft32 m Ω) := envT_ok T_ok (by intro e he; cases he) (by intro e he; cases he)
theorem F_math_bits_RotateLeft32_ok (a : Tys [.int .u32, .int .i64]) (r : Tys [.int .u32]) (h : F_math_bits_RotateLeft32 a = some r) (m : Int) : PContract Tryd.prog (GL m) 89 (injL [.int .u32, .int .i64] a) (injR [.int .u32] r) := by
  exact PContract.of_run (E := E_math_bits_RotateLeft32 m (Tys [.int .u32])) (un := []) (k := 0) (E_math_bits_RotateLeft32_ok m _) mixed (callOk_of f_math_bits_RotateLeft32_at (by kernel_rfl) (by kernel_rfl)) f_math_bits_RotateLeft32_at ((f_math_bits_RotateLeft32_run m some 0 a.1 a.2.1).trans h)
/-! bourne/digest.mix: walked where it is called -/
noncomputable def E_digest_mix (m : Int) (Ω : Type) : Env Ω := envT T (GL m) [(89, true, ent [.int .u32, .int .i64] [.int .u32] F_math_bits_RotateLeft32)] []
theorem f_digest_mix_at : Tryd.prog.funcs[82]? = some Tryd.f82 := by kernel_rfl
theorem E_digest_mix_ok (m : Int) (Ω : Type) : EnvOk Tryd.prog (E_digest_mix m Ω) := envT_ok T_ok (by
  intro e he
  simp only [List.mem_cons, List.not_mem_nil, or_false] at he
  rcases he with rfl
  · exact ent_ok fun a r h => F_math_bits_RotateLeft32_ok a r h m) (by intro e he; cases he)
theorem I_digest_mix_ok (m : Int) (Ω : Type) (xs : List V) (h : Heap) : OneW (inl (E_digest_mix m Ω) [] 0 Tryd.f82 xs h) (Contract Tryd.prog (GL m) 82 xs h) := inl_ok (E_digest_mix_ok m Ω) mixed (callOk_of f_digest_mix_at (by kernel_rfl) (by kernel_rfl)) f_digest_mix_at [] 0 xs h
end
end Go.Proofs.YtnebpmcmdmpoaaaDoor.R
