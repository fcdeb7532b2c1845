-- Go functions as Lean functions, printed by prs.py (this session's program)
import Derived.Test.YtnebpmcmdmpoaaaDoorG5
import Derived.KernelRfl
namespace Go.Proofs.YtnebpmcmdmpoaaaDoor.R
open Go
set_option maxRecDepth 100000
set_option maxHeartbeats 4000000
set_option linter.unusedVariables false
noncomputable section
/-! bourne/bournelaw05.SignEquation -/
noncomputable def E_bournelaw05_SignEquation (m : Int) (Ω : Type) : Env Ω := envT T (GL m) [(8, true, ent [] [.bool] F_bournelaw05_small), (9, true, ent [.str, .str, .str] [.bool] F_bournelaw05_short), (18, true, ent [.int .i64, .str, .str, .pair (.int .i64) (.int .i64)] [.bool] F_sign_Verify), (21, true, ent [.int .i64, .int .i64, .str, .str] [.int .i64] F_bourneref05_Challenge), (22, true, ent [.int .i64] [.bool] F_group_In), (23, true, ent [.int .i64] [.int .i64, .bool] F_group_Inv), (24, true, ent [.int .i64, .int .i64] [.int .i64] F_group_Exp), (25, true, ent [.int .i64, .int .i64] [.int .i64] F_group_Mul)] []
def f_bournelaw05_SignEquation_b {Ω : Type} (ret : Bool × Unit → Option Ω) (k : Nat)  (a0 : Int) (a1 : ByteArray) (a2 : ByteArray) (a3 : Int × Int) : Option Ω :=
  andK (F_bournelaw05_small (())) fun (r1 : Bool × Unit) =>
  andK (F_bournelaw05_short (((⟨#[]⟩ : ByteArray) : ByteArray), a1, a2, ())) fun (r2 : Bool × Unit) =>
  bif (!r2.1) then
    ret ((r1.1 : Bool), ())
  else
  andK (F_sign_Verify (a0, a1, a2, a3, ())) fun (r4 : Bool × Unit) =>
  bif (!r4.1) then
    ret ((r1.1 : Bool), ())
  else
  andK (F_group_In (a0, ())) fun (r6 : Bool × Unit) =>
  bif (!r6.1) then
    ret (false, ())
  else
  bif (a0 == 1) then
    ret (false, ())
  else
  bif (decide (a3.1 < 0)) then
    ret (false, ())
  else
  bif (decide (a3.1 ≥ 1152921504606845789)) then
    ret (false, ())
  else
  bif (decide (a3.2 < 0)) then
    ret (false, ())
  else
  bif (decide (a3.2 ≥ 1152921504606845789)) then
    ret (false, ())
  else
  andK (F_group_Exp (a0, (a3.1 : Int), ())) fun (r13 : Int × Unit) =>
  andK (F_group_Inv ((r13.1 : Int), ())) fun (r14 : Int × Bool × Unit) =>
  andK (F_group_Exp ((4 : Int), (a3.2 : Int), ())) fun (r15 : Int × Unit) =>
  andK (F_group_Mul ((r15.1 : Int), (r14.1 : Int), ())) fun (r16 : Int × Unit) =>
  bif r1.1 then
    bif r14.2.1 then
      andK (F_group_In ((r16.1 : Int), ())) fun (r17 : Bool × Unit) =>
      bif r17.1 then
        andK (F_bourneref05_Challenge ((r16.1 : Int), a0, a1, a2, ())) fun (r18 : Int × Unit) =>
        bif (r18.1 == a3.1) then
          andK (F_group_Exp ((4 : Int), (a3.2 : Int), ())) fun (r20 : Int × Unit) =>
          andK (F_group_Exp (a0, (a3.1 : Int), ())) fun (r21 : Int × Unit) =>
          andK (F_group_Mul ((r16.1 : Int), (r21.1 : Int), ())) fun (r22 : Int × Unit) =>
          ret ((r20.1 == r22.1), ())
        else
        ret (false, ())
      else
      ret (false, ())
    else
    ret (false, ())
  else
  ret (false, ())
def f_bournelaw05_SignEquation {Ω : Type} (ret : Bool × Unit → Option Ω) (k : Nat) (a0 : Int) (a1 : ByteArray) (a2 : ByteArray) (a3 : Int × Int) : Option Ω := f_bournelaw05_SignEquation_b ret k a0 a1 a2 a3
theorem f_bournelaw05_SignEquation_run (m : Int) {Ω : Type} (ret : Bool × Unit → Option Ω) (k : Nat) (a0 : Int) (a1 : ByteArray) (a2 : ByteArray) (a3 : Int × Int) : run (E_bournelaw05_SignEquation m Ω) [] k Tryd.f7 [.int .i64 a0, .str a1, .str a2, .agg [.int .i64 a3.1, .int .i64 a3.2]] [] (resK [.bool] ret) = f_bournelaw05_SignEquation ret k a0 a1 a2 a3 := by
  show _ = f_bournelaw05_SignEquation_b ret k a0 a1 a2 a3
  kernel_rfl
def F_bournelaw05_SignEquation (a : Int × ByteArray × ByteArray × (Int × Int) × Unit) : Option (Bool × Unit) := f_bournelaw05_SignEquation some 0 a.1 a.2.1 a.2.2.1 a.2.2.2.1
theorem f_bournelaw05_SignEquation_at : Tryd.prog.funcs[7]? = some Tryd.f7 := by kernel_rfl
theorem E_bournelaw05_SignEquation_ok (m : Int) (Ω : Type) : EnvOk Tryd.prog (E_bournelaw05_SignEquation m Ω) := envT_ok T_ok (by
  intro e he
  simp only [List.mem_cons, List.not_mem_nil, or_false] at he
  rcases he with rfl | rfl | rfl | rfl | rfl | rfl | rfl | rfl
  · exact ent_ok fun a r h => F_bournelaw05_small_ok a r h m
  · exact ent_ok fun a r h => F_bournelaw05_short_ok a r h m
  · exact ent_ok fun a r h => F_sign_Verify_ok a r h m
  · exact ent_ok fun a r h => F_bourneref05_Challenge_ok a r h m
  · exact ent_ok fun a r h => F_group_In_ok a r h m
  · exact ent_ok fun a r h => F_group_Inv_ok a r h m
  · exact ent_ok fun a r h => F_group_Exp_ok a r h m
  · exact ent_ok fun a r h => F_group_Mul_ok a r h m) (by intro e he; cases he)
theorem F_bournelaw05_SignEquation_ok (a : Tys [.int .i64, .str, .str, .pair (.int .i64) (.int .i64)]) (r : Tys [.bool]) (h : F_bournelaw05_SignEquation a = some r) (m : Int) : PContract Tryd.prog (GL m) 7 (injL [.int .i64, .str, .str, .pair (.int .i64) (.int .i64)] a) (injR [.bool] r) := by
  exact PContract.of_run (E := E_bournelaw05_SignEquation m (Tys [.bool])) (un := []) (k := 0) (E_bournelaw05_SignEquation_ok m _) mixed (callOk_of f_bournelaw05_SignEquation_at (by kernel_rfl) (by kernel_rfl)) f_bournelaw05_SignEquation_at ((f_bournelaw05_SignEquation_run m some 0 a.1 a.2.1 a.2.2.1 a.2.2.2.1).trans h)
end
end Go.Proofs.YtnebpmcmdmpoaaaDoor.R
