-- Go functions as Lean functions, printed by prs.py (this session's program)
import Derived.Test.YtnebpmcmdmpoaaaDoorG4
import Derived.KernelRfl
namespace Go.Proofs.YtnebpmcmdmpoaaaDoor.R
open Go
set_option maxRecDepth 100000
set_option maxHeartbeats 4000000
set_option linter.unusedVariables false
noncomputable section
/-! bourne/bourneref05.Right -/
noncomputable def E_bourneref05_Right (m : Int) (Ω : Type) : Env Ω := envT T (GL m) [(13, true, ent [.int .i64] [.pair (.int .i64) (.int .i64)] F_bourneref05_Of)] []
def f_bourneref05_Right_b {Ω : Type} (ret : Bool × Unit → Option Ω) (k : Nat)  (a0 : Int × Int) : Option Ω :=
  bif (decide (a0.1 ≥ 1)) then
    andK (F_bourneref05_Of ((a0.1 : Int), ())) fun (r2 : (Int × Int) × Unit) =>
    ret (((a0.1 == r2.1.1) && ((a0.2 == r2.1.2) && true)), ())
  else
  ret (false, ())
def f_bourneref05_Right {Ω : Type} (ret : Bool × Unit → Option Ω) (k : Nat) (a0 : Int × Int) : Option Ω := f_bourneref05_Right_b ret k a0
theorem f_bourneref05_Right_run (m : Int) {Ω : Type} (ret : Bool × Unit → Option Ω) (k : Nat) (a0 : Int × Int) : run (E_bourneref05_Right m Ω) [] k Tryd.f15 [.agg [.int .i64 a0.1, .int .i64 a0.2]] [] (resK [.bool] ret) = f_bourneref05_Right ret k a0 := by
  show _ = f_bourneref05_Right_b ret k a0
  kernel_rfl
def F_bourneref05_Right (a : (Int × Int) × Unit) : Option (Bool × Unit) := f_bourneref05_Right some 0 a.1
theorem f_bourneref05_Right_at : Tryd.prog.funcs[15]? = some Tryd.f15 := by kernel_rfl
theorem E_bourneref05_Right_ok (m : Int) (Ω : Type) : EnvOk Tryd.prog (E_bourneref05_Right m Ω) := envT_ok T_ok (by
  intro e he
  simp only [List.mem_cons, List.not_mem_nil, or_false] at he
  rcases he with rfl
  · exact ent_ok fun a r h => F_bourneref05_Of_ok a r h m) (by intro e he; cases he)
theorem F_bourneref05_Right_ok (a : Tys [.pair (.int .i64) (.int .i64)]) (r : Tys [.bool]) (h : F_bourneref05_Right a = some r) (m : Int) : PContract Tryd.prog (GL m) 15 (injL [.pair (.int .i64) (.int .i64)] a) (injR [.bool] r) := by
  exact PContract.of_run (E := E_bourneref05_Right m (Tys [.bool])) (un := []) (k := 0) (E_bourneref05_Right_ok m _) mixed (callOk_of f_bourneref05_Right_at (by kernel_rfl) (by kernel_rfl)) f_bourneref05_Right_at ((f_bourneref05_Right_run m some 0 a.1).trans h)
/-! bourne/bourneref02.digits -/
noncomputable def E_bourneref02_digits (m : Int) (Ω : Type) : Env Ω := envT T (GL m) [] []
def S_bourneref02_digits_0 (t0 : Int) (b0 : Sl Int) : St := ⟨[.int .u64 t0, .undef, .undef, .own 0, .undef, .undef, .undef, .undef, .undef, .undef, .undef, .undef, .undef, .undef, .undef], [.rows (.int .u8) b0]⟩
def f_bourneref02_digits_l0s {Ω : Type} (ret : (Sl Int) × Unit → Option Ω) (k : Nat)  (c0 : Int → (Sl Int) → Option Ω)  (t0 : Int) (b0 : Sl Int) : Option Ω :=
  bif (decide (t0 > 0)) then
    bif (room ((1 : Int) + (b0.l.length : Int)) 1) then
    c0 (IntKind.wrap .u64 (Int.tdiv t0 256)) (⟨false, ([(IntKind.wrap .u8 (Int.tmod t0 256))] ++ b0.l)⟩ : Sl Int)
    else none
  else
  ret (b0, ())
def f_bourneref02_digits_l0 {Ω : Type} (ret : (Sl Int) × Unit → Option Ω) (k : Nat)  : Nat → Int → (Sl Int) → Option Ω
  | 0 => fun _ _ => none
  | n + 1 => f_bourneref02_digits_l0s ret k (f_bourneref02_digits_l0 ret k n)
def f_bourneref02_digits_b {Ω : Type} (ret : (Sl Int) × Unit → Option Ω) (k : Nat) (l0 : Nat → Int → (Sl Int) → Option Ω) (a0 : Int) : Option Ω :=
  l0 k a0 (⟨true, []⟩ : Sl Int)
def f_bourneref02_digits {Ω : Type} (ret : (Sl Int) × Unit → Option Ω) (k : Nat) (a0 : Int) : Option Ω := f_bourneref02_digits_b ret k (f_bourneref02_digits_l0 ret k) a0
theorem f_bourneref02_digits_l0_eq (m : Int) {Ω : Type} (ret : (Sl Int) × Unit → Option Ω) (k : Nat)  : ∀ (n : Nat) (t0 : Int) (b0 : Sl Int), loopAt (E_bourneref02_digits m Ω) (resLive Tryd.f58.results.toList) [] k (spotF (E_bourneref02_digits m Ω) [] k Tryd.f58 [] [true, true, false, false] (resK [.sl (.int .u8)] ret)) n (S_bourneref02_digits_0 t0 b0) = f_bourneref02_digits_l0 ret k n t0 b0 := by
  intro n
  induction n with
  | zero => intros; rw [loopAt_zero]; rfl
  | succ n ih =>
    intros t0 b0
    rw [loopAt_succ]
    have e : f_bourneref02_digits_l0 ret k n = fun t0 b0 => loopAt (E_bourneref02_digits m Ω) (resLive Tryd.f58.results.toList) [] k (spotF (E_bourneref02_digits m Ω) [] k Tryd.f58 [] [true, true, false, false] (resK [.sl (.int .u8)] ret)) n (S_bourneref02_digits_0 t0 b0) := by funext t0 b0; exact (ih t0 b0).symm
    show _ = f_bourneref02_digits_l0s ret k (f_bourneref02_digits_l0 ret k n) t0 b0
    rw [e]
    kernel_rfl
theorem f_bourneref02_digits_run (m : Int) {Ω : Type} (ret : (Sl Int) × Unit → Option Ω) (k : Nat) (a0 : Int) : run (E_bourneref02_digits m Ω) [] k Tryd.f58 [.int .u64 a0] [] (resK [.sl (.int .u8)] ret) = f_bourneref02_digits ret k a0 := by
  have e0 : f_bourneref02_digits_l0 ret k = fun m_ t0_ b0_ => loopAt (E_bourneref02_digits m Ω) (resLive Tryd.f58.results.toList) [] k (spotF (E_bourneref02_digits m Ω) [] k Tryd.f58 [] [true, true, false, false] (resK [.sl (.int .u8)] ret)) m_ (S_bourneref02_digits_0 t0_ b0_) := by funext m_ t0_ b0_; exact (f_bourneref02_digits_l0_eq m ret k m_ t0_ b0_).symm
  show _ = f_bourneref02_digits_b ret k (f_bourneref02_digits_l0 ret k) a0
  rw [e0]
  kernel_rfl
def F_bourneref02_digits (a : Int × Unit) : Option ((Sl Int) × Unit) := ends fun k => f_bourneref02_digits some k a.1
theorem f_bourneref02_digits_at : Tryd.prog.funcs[58]? = some Tryd.f58 := by kernel_rfl
theorem E_bourneref02_digits_ok (m : Int) (Ω : Type) : EnvOk Tryd.prog (E_bourneref02_digits m Ω) := envT_ok T_ok (by intro e he; cases he) (by intro e he; cases he)
theorem F_bourneref02_digits_ok (a : Tys [.int .u64]) (r : Tys [.sl (.int .u8)]) (h : F_bourneref02_digits a = some r) (m : Int) : PContract Tryd.prog (GL m) 58 (injL [.int .u64] a) (injR [.sl (.int .u8)] r) := by
  obtain ⟨k, h⟩ := ends_some h
  exact PContract.of_run (E := E_bourneref02_digits m (Tys [.sl (.int .u8)])) (un := []) (k := k) (E_bourneref02_digits_ok m _) mixed (callOk_of f_bourneref02_digits_at (by kernel_rfl) (by kernel_rfl)) f_bourneref02_digits_at ((f_bourneref02_digits_run m some k a.1).trans h)
/-! bourne/bourneref02.Int -/
noncomputable def E_bourneref02_Int (m : Int) (Ω : Type) : Env Ω := envT T (GL m) [(58, false, ent [.int .u64] [.sl (.int .u8)] F_bourneref02_digits)] []
def S_bourneref02_Int_0 (t4 : Sl Int) (t6 : Int) (b0 : Sl Int) : St := ⟨[.undef, .undef, .undef, .undef, .sl (.int .u8) false t4, .own 0, .int .i64 t6, .undef, .undef, .undef, .undef, .undef, .undef, .undef, .undef, .undef, .undef, .undef, .undef, .undef, .undef, .undef, .undef, .undef, .undef, .undef, .undef, .undef, .undef, .undef, .undef, .undef, .undef, .undef, .undef, .undef, .undef, .undef, .undef, .undef, .undef, .undef, .undef, .undef, .undef, .undef], [.rows (.int .u8) b0]⟩
def f_bourneref02_Int_l0s {Ω : Type} (ret : ByteArray × Unit → Option Ω) (k : Nat)  (c0 : (Sl Int) → Int → (Sl Int) → Option Ω)  (t4 : Sl Int) (t6 : Int) (b0 : Sl Int) : Option Ω :=
  bif (decide (t6 < (t4.l.length : Int))) then
    bif (inB t6 (t4.l.length : Int)) then
    bif (room ((b0.l.length : Int) + 1) 1) then
    c0 t4 (IntKind.wrap .i64 (t6 + 1)) (⟨(b0.nl && false), (b0.l ++ [(IntKind.wrap .u8 (255 - (t4.l.getD (Int.toNat t6) (0 : Int))))])⟩ : Sl Int)
    else none
    else none
  else
  ret ((strOf b0.l), ())
def f_bourneref02_Int_l0 {Ω : Type} (ret : ByteArray × Unit → Option Ω) (k : Nat)  : Nat → (Sl Int) → Int → (Sl Int) → Option Ω
  | 0 => fun _ _ _ => none
  | n + 1 => f_bourneref02_Int_l0s ret k (f_bourneref02_Int_l0 ret k n)
def f_bourneref02_Int_b {Ω : Type} (ret : ByteArray × Unit → Option Ω) (k : Nat) (l0 : Nat → (Sl Int) → Int → (Sl Int) → Option Ω) (a0 : Int) : Option Ω :=
  bif (decide (a0 ≥ 0)) then
    andK (F_bourneref02_digits ((IntKind.wrap .u64 a0), ())) fun (r3 : (Sl Int) × Unit) =>
    bif (room ((1 : Int) + (r3.1.l.length : Int)) 1) then
    ret ((strOf ([(IntKind.wrap .u8 (IntKind.wrap .i64 (128 + (r3.1.l.length : Int))))] ++ r3.1.l)), ())
    else none
  else
  andK (F_bourneref02_digits ((IntKind.wrap .u64 (IntKind.wrap .i64 (0 - (IntKind.wrap .i64 (a0 + 1))))), ())) fun (r12 : (Sl Int) × Unit) =>
  l0 k r12.1 (0 : Int) (⟨false, [(IntKind.wrap .u8 (IntKind.wrap .i64 (127 - (r12.1.l.length : Int))))]⟩ : Sl Int)
def f_bourneref02_Int {Ω : Type} (ret : ByteArray × Unit → Option Ω) (k : Nat) (a0 : Int) : Option Ω := f_bourneref02_Int_b ret k (f_bourneref02_Int_l0 ret k) a0
theorem f_bourneref02_Int_l0_eq (m : Int) {Ω : Type} (ret : ByteArray × Unit → Option Ω) (k : Nat)  : ∀ (n : Nat) (t4 : Sl Int) (t6 : Int) (b0 : Sl Int), loopAt (E_bourneref02_Int m Ω) (resLive Tryd.f48.results.toList) [] k (spotF (E_bourneref02_Int m Ω) [] k Tryd.f48 [] [true, true, true, true, false, true, false] (resK [.str] ret)) n (S_bourneref02_Int_0 t4 t6 b0) = f_bourneref02_Int_l0 ret k n t4 t6 b0 := by
  intro n
  induction n with
  | zero => intros; rw [loopAt_zero]; rfl
  | succ n ih =>
    intros t4 t6 b0
    rw [loopAt_succ]
    have e : f_bourneref02_Int_l0 ret k n = fun t4 t6 b0 => loopAt (E_bourneref02_Int m Ω) (resLive Tryd.f48.results.toList) [] k (spotF (E_bourneref02_Int m Ω) [] k Tryd.f48 [] [true, true, true, true, false, true, false] (resK [.str] ret)) n (S_bourneref02_Int_0 t4 t6 b0) := by funext t4 t6 b0; exact (ih t4 t6 b0).symm
    show _ = f_bourneref02_Int_l0s ret k (f_bourneref02_Int_l0 ret k n) t4 t6 b0
    rw [e]
    kernel_rfl
theorem f_bourneref02_Int_run (m : Int) {Ω : Type} (ret : ByteArray × Unit → Option Ω) (k : Nat) (a0 : Int) : run (E_bourneref02_Int m Ω) [] k Tryd.f48 [.int .i64 a0] [] (resK [.str] ret) = f_bourneref02_Int ret k a0 := by
  have e0 : f_bourneref02_Int_l0 ret k = fun m_ t4_ t6_ b0_ => loopAt (E_bourneref02_Int m Ω) (resLive Tryd.f48.results.toList) [] k (spotF (E_bourneref02_Int m Ω) [] k Tryd.f48 [] [true, true, true, true, false, true, false] (resK [.str] ret)) m_ (S_bourneref02_Int_0 t4_ t6_ b0_) := by funext m_ t4_ t6_ b0_; exact (f_bourneref02_Int_l0_eq m ret k m_ t4_ t6_ b0_).symm
  show _ = f_bourneref02_Int_b ret k (f_bourneref02_Int_l0 ret k) a0
  rw [e0]
  kernel_rfl
def F_bourneref02_Int (a : Int × Unit) : Option (ByteArray × Unit) := ends fun k => f_bourneref02_Int some k a.1
theorem f_bourneref02_Int_at : Tryd.prog.funcs[48]? = some Tryd.f48 := by kernel_rfl
theorem E_bourneref02_Int_ok (m : Int) (Ω : Type) : EnvOk Tryd.prog (E_bourneref02_Int m Ω) := envT_ok T_ok (by
  intro e he
  simp only [List.mem_cons, List.not_mem_nil, or_false] at he
  rcases he with rfl
  · exact ent_ok fun a r h => F_bourneref02_digits_ok a r h m) (by intro e he; cases he)
theorem F_bourneref02_Int_ok (a : Tys [.int .i64]) (r : Tys [.str]) (h : F_bourneref02_Int a = some r) (m : Int) : PContract Tryd.prog (GL m) 48 (injL [.int .i64] a) (injR [.str] r) := by
  obtain ⟨k, h⟩ := ends_some h
  exact PContract.of_run (E := E_bourneref02_Int m (Tys [.str])) (un := []) (k := k) (E_bourneref02_Int_ok m _) mixed (callOk_of f_bourneref02_Int_at (by kernel_rfl) (by kernel_rfl)) f_bourneref02_Int_at ((f_bourneref02_Int_run m some k a.1).trans h)
/-! bourne/bourneref02.Num -/
noncomputable def E_bourneref02_Num (m : Int) (Ω : Type) : Env Ω := envT T (GL m) [(48, true, ent [.int .i64] [.str] F_bourneref02_Int)] []
def f_bourneref02_Num_b {Ω : Type} (ret : ByteArray × Unit → Option Ω) (k : Nat)  (a0 : Int) : Option Ω :=
  bif (decide (a0 < 0)) then
    ret (((⟨#[]⟩ : ByteArray) : ByteArray), ())
  else
  andK (F_bourneref02_Int (a0, ())) fun (r2 : ByteArray × Unit) =>
  ret ((r2.1 : ByteArray), ())
def f_bourneref02_Num {Ω : Type} (ret : ByteArray × Unit → Option Ω) (k : Nat) (a0 : Int) : Option Ω := f_bourneref02_Num_b ret k a0
theorem f_bourneref02_Num_run (m : Int) {Ω : Type} (ret : ByteArray × Unit → Option Ω) (k : Nat) (a0 : Int) : run (E_bourneref02_Num m Ω) [] k Tryd.f35 [.int .i64 a0] [] (resK [.str] ret) = f_bourneref02_Num ret k a0 := by
  show _ = f_bourneref02_Num_b ret k a0
  kernel_rfl
def F_bourneref02_Num (a : Int × Unit) : Option (ByteArray × Unit) := f_bourneref02_Num some 0 a.1
theorem f_bourneref02_Num_at : Tryd.prog.funcs[35]? = some Tryd.f35 := by kernel_rfl
theorem E_bourneref02_Num_ok (m : Int) (Ω : Type) : EnvOk Tryd.prog (E_bourneref02_Num m Ω) := envT_ok T_ok (by
  intro e he
  simp only [List.mem_cons, List.not_mem_nil, or_false] at he
  rcases he with rfl
  · exact ent_ok fun a r h => F_bourneref02_Int_ok a r h m) (by intro e he; cases he)
theorem F_bourneref02_Num_ok (a : Tys [.int .i64]) (r : Tys [.str]) (h : F_bourneref02_Num a = some r) (m : Int) : PContract Tryd.prog (GL m) 35 (injL [.int .i64] a) (injR [.str] r) := by
  exact PContract.of_run (E := E_bourneref02_Num m (Tys [.str])) (un := []) (k := 0) (E_bourneref02_Num_ok m _) mixed (callOk_of f_bourneref02_Num_at (by kernel_rfl) (by kernel_rfl)) f_bourneref02_Num_at ((f_bourneref02_Num_run m some 0 a.1).trans h)
/-! bourne/bourneref05.Challenge -/
noncomputable def E_bourneref05_Challenge (m : Int) (Ω : Type) : Env Ω := envT T (GL m) [(28, true, ent [.str] [.int .i64] F_bourneref03_Short), (29, true, ent [.str] [.str] F_bourneref02_Text), (35, true, ent [.int .i64] [.str] F_bourneref02_Num)] []
def f_bourneref05_Challenge_b {Ω : Type} (ret : Int × Unit → Option Ω) (k : Nat)  (a0 : Int) (a1 : Int) (a2 : ByteArray) (a3 : ByteArray) : Option Ω :=
  andK (F_bourneref02_Text (((⟨#[115, 105, 103, 110]⟩ : ByteArray) : ByteArray), ())) fun (r1 : ByteArray × Unit) =>
  andK (F_bourneref02_Num (a0, ())) fun (r2 : ByteArray × Unit) =>
  bif (decide (r1.1.size + r2.1.size ≤ 9223372036854775807)) then
  andK (F_bourneref02_Num (a1, ())) fun (r4 : ByteArray × Unit) =>
  bif (decide ((r1.1 ++ r2.1).size + r4.1.size ≤ 9223372036854775807)) then
  let x5 : ByteArray := ((r1.1 ++ r2.1) ++ r4.1)
  andK (F_bourneref02_Text (a2, ())) fun (r6 : ByteArray × Unit) =>
  bif (decide (x5.size + r6.1.size ≤ 9223372036854775807)) then
  andK (F_bourneref02_Text (a3, ())) fun (r8 : ByteArray × Unit) =>
  bif (decide ((x5 ++ r6.1).size + r8.1.size ≤ 9223372036854775807)) then
  andK (F_bourneref03_Short (((x5 ++ r6.1) ++ r8.1), ())) fun (r10 : Int × Unit) =>
  ret ((Int.tmod r10.1 1152921504606845789), ())
  else none
  else none
  else none
  else none
def f_bourneref05_Challenge {Ω : Type} (ret : Int × Unit → Option Ω) (k : Nat) (a0 : Int) (a1 : Int) (a2 : ByteArray) (a3 : ByteArray) : Option Ω := f_bourneref05_Challenge_b ret k a0 a1 a2 a3
theorem f_bourneref05_Challenge_run (m : Int) {Ω : Type} (ret : Int × Unit → Option Ω) (k : Nat) (a0 : Int) (a1 : Int) (a2 : ByteArray) (a3 : ByteArray) : run (E_bourneref05_Challenge m Ω) [] k Tryd.f21 [.int .i64 a0, .int .i64 a1, .str a2, .str a3] [] (resK [.int .i64] ret) = f_bourneref05_Challenge ret k a0 a1 a2 a3 := by
  show _ = f_bourneref05_Challenge_b ret k a0 a1 a2 a3
  kernel_rfl
def F_bourneref05_Challenge (a : Int × Int × ByteArray × ByteArray × Unit) : Option (Int × Unit) := f_bourneref05_Challenge some 0 a.1 a.2.1 a.2.2.1 a.2.2.2.1
theorem f_bourneref05_Challenge_at : Tryd.prog.funcs[21]? = some Tryd.f21 := by kernel_rfl
theorem E_bourneref05_Challenge_ok (m : Int) (Ω : Type) : EnvOk Tryd.prog (E_bourneref05_Challenge m Ω) := envT_ok T_ok (by
  intro e he
  simp only [List.mem_cons, List.not_mem_nil, or_false] at he
  rcases he with rfl | rfl | rfl
  · exact ent_ok fun a r h => F_bourneref03_Short_ok a r h m
  · exact ent_ok fun a r h => F_bourneref02_Text_ok a r h m
  · exact ent_ok fun a r h => F_bourneref02_Num_ok a r h m) (by intro e he; cases he)
theorem F_bourneref05_Challenge_ok (a : Tys [.int .i64, .int .i64, .str, .str]) (r : Tys [.int .i64]) (h : F_bourneref05_Challenge a = some r) (m : Int) : PContract Tryd.prog (GL m) 21 (injL [.int .i64, .int .i64, .str, .str] a) (injR [.int .i64] r) := by
  exact PContract.of_run (E := E_bourneref05_Challenge m (Tys [.int .i64])) (un := []) (k := 0) (E_bourneref05_Challenge_ok m _) mixed (callOk_of f_bourneref05_Challenge_at (by kernel_rfl) (by kernel_rfl)) f_bourneref05_Challenge_at ((f_bourneref05_Challenge_run m some 0 a.1 a.2.1 a.2.2.1 a.2.2.2.1).trans h)
/-! bourne/bourneref04.AddQ -/
noncomputable def E_bourneref04_AddQ (m : Int) (Ω : Type) : Env Ω := envT T (GL m) [(45, true, ent [.int .i64, .int .i64] [.int .i64] F_bourneref04_Mod)] []
def f_bourneref04_AddQ_b {Ω : Type} (ret : Int × Unit → Option Ω) (k : Nat)  (a0 : Int) (a1 : Int) : Option Ω :=
  andK (F_bourneref04_Mod (a0, (1152921504606845789 : Int), ())) fun (r1 : Int × Unit) =>
  andK (F_bourneref04_Mod (a1, (1152921504606845789 : Int), ())) fun (r2 : Int × Unit) =>
  andK (F_bourneref04_Mod ((IntKind.wrap .i64 (r1.1 + r2.1)), (1152921504606845789 : Int), ())) fun (r4 : Int × Unit) =>
  ret ((r4.1 : Int), ())
def f_bourneref04_AddQ {Ω : Type} (ret : Int × Unit → Option Ω) (k : Nat) (a0 : Int) (a1 : Int) : Option Ω := f_bourneref04_AddQ_b ret k a0 a1
theorem f_bourneref04_AddQ_run (m : Int) {Ω : Type} (ret : Int × Unit → Option Ω) (k : Nat) (a0 : Int) (a1 : Int) : run (E_bourneref04_AddQ m Ω) [] k Tryd.f36 [.int .i64 a0, .int .i64 a1] [] (resK [.int .i64] ret) = f_bourneref04_AddQ ret k a0 a1 := by
  show _ = f_bourneref04_AddQ_b ret k a0 a1
  kernel_rfl
def F_bourneref04_AddQ (a : Int × Int × Unit) : Option (Int × Unit) := f_bourneref04_AddQ some 0 a.1 a.2.1
theorem f_bourneref04_AddQ_at : Tryd.prog.funcs[36]? = some Tryd.f36 := by kernel_rfl
theorem E_bourneref04_AddQ_ok (m : Int) (Ω : Type) : EnvOk Tryd.prog (E_bourneref04_AddQ m Ω) := envT_ok T_ok (by
  intro e he
  simp only [List.mem_cons, List.not_mem_nil, or_false] at he
  rcases he with rfl
  · exact ent_ok fun a r h => F_bourneref04_Mod_ok a r h m) (by intro e he; cases he)
theorem F_bourneref04_AddQ_ok (a : Tys [.int .i64, .int .i64]) (r : Tys [.int .i64]) (h : F_bourneref04_AddQ a = some r) (m : Int) : PContract Tryd.prog (GL m) 36 (injL [.int .i64, .int .i64] a) (injR [.int .i64] r) := by
  exact PContract.of_run (E := E_bourneref04_AddQ m (Tys [.int .i64])) (un := []) (k := 0) (E_bourneref04_AddQ_ok m _) mixed (callOk_of f_bourneref04_AddQ_at (by kernel_rfl) (by kernel_rfl)) f_bourneref04_AddQ_at ((f_bourneref04_AddQ_run m some 0 a.1 a.2.1).trans h)
/-! bourne/bourneref04.MulQ -/
noncomputable def E_bourneref04_MulQ (m : Int) (Ω : Type) : Env Ω := envT T (GL m) [(45, true, ent [.int .i64, .int .i64] [.int .i64] F_bourneref04_Mod), (46, true, ent [.int .i64, .int .i64, .int .i64] [.int .i64] F_bourneref04_times)] []
def f_bourneref04_MulQ_b {Ω : Type} (ret : Int × Unit → Option Ω) (k : Nat)  (a0 : Int) (a1 : Int) : Option Ω :=
  andK (F_bourneref04_Mod (a0, (1152921504606845789 : Int), ())) fun (r1 : Int × Unit) =>
  andK (F_bourneref04_Mod (a1, (1152921504606845789 : Int), ())) fun (r2 : Int × Unit) =>
  andK (F_bourneref04_times ((r1.1 : Int), (r2.1 : Int), (1152921504606845789 : Int), ())) fun (r3 : Int × Unit) =>
  ret ((r3.1 : Int), ())
def f_bourneref04_MulQ {Ω : Type} (ret : Int × Unit → Option Ω) (k : Nat) (a0 : Int) (a1 : Int) : Option Ω := f_bourneref04_MulQ_b ret k a0 a1
theorem f_bourneref04_MulQ_run (m : Int) {Ω : Type} (ret : Int × Unit → Option Ω) (k : Nat) (a0 : Int) (a1 : Int) : run (E_bourneref04_MulQ m Ω) [] k Tryd.f37 [.int .i64 a0, .int .i64 a1] [] (resK [.int .i64] ret) = f_bourneref04_MulQ ret k a0 a1 := by
  show _ = f_bourneref04_MulQ_b ret k a0 a1
  kernel_rfl
def F_bourneref04_MulQ (a : Int × Int × Unit) : Option (Int × Unit) := f_bourneref04_MulQ some 0 a.1 a.2.1
theorem f_bourneref04_MulQ_at : Tryd.prog.funcs[37]? = some Tryd.f37 := by kernel_rfl
theorem E_bourneref04_MulQ_ok (m : Int) (Ω : Type) : EnvOk Tryd.prog (E_bourneref04_MulQ m Ω) := envT_ok T_ok (by
  intro e he
  simp only [List.mem_cons, List.not_mem_nil, or_false] at he
  rcases he with rfl | rfl
  · exact ent_ok fun a r h => F_bourneref04_Mod_ok a r h m
  · exact ent_ok fun a r h => F_bourneref04_times_ok a r h m) (by intro e he; cases he)
theorem F_bourneref04_MulQ_ok (a : Tys [.int .i64, .int .i64]) (r : Tys [.int .i64]) (h : F_bourneref04_MulQ a = some r) (m : Int) : PContract Tryd.prog (GL m) 37 (injL [.int .i64, .int .i64] a) (injR [.int .i64] r) := by
  exact PContract.of_run (E := E_bourneref04_MulQ m (Tys [.int .i64])) (un := []) (k := 0) (E_bourneref04_MulQ_ok m _) mixed (callOk_of f_bourneref04_MulQ_at (by kernel_rfl) (by kernel_rfl)) f_bourneref04_MulQ_at ((f_bourneref04_MulQ_run m some 0 a.1 a.2.1).trans h)
/-! bourne/bourneref05.Sign -/
noncomputable def E_bourneref05_Sign (m : Int) (Ω : Type) : Env Ω := envT T (GL m) [(15, true, ent [.pair (.int .i64) (.int .i64)] [.bool] F_bourneref05_Right), (21, true, ent [.int .i64, .int .i64, .str, .str] [.int .i64] F_bourneref05_Challenge), (28, true, ent [.str] [.int .i64] F_bourneref03_Short), (29, true, ent [.str] [.str] F_bourneref02_Text), (30, true, ent [.int .i64, .int .i64] [.int .i64] F_bourneref04_Exp), (35, true, ent [.int .i64] [.str] F_bourneref02_Num), (36, true, ent [.int .i64, .int .i64] [.int .i64] F_bourneref04_AddQ), (37, true, ent [.int .i64, .int .i64] [.int .i64] F_bourneref04_MulQ)] []
def f_bourneref05_Sign_b {Ω : Type} (ret : (Int × Int) × Unit → Option Ω) (k : Nat)  (a0 : Int × Int) (a1 : ByteArray) (a2 : ByteArray) : Option Ω :=
  andK (F_bourneref05_Right (a0, ())) fun (r1 : Bool × Unit) =>
  bif (!r1.1) then
    ret (((0, 0) : Int × Int), ())
  else
  andK (F_bourneref02_Text (((⟨#[110, 111, 110, 99, 101]⟩ : ByteArray) : ByteArray), ())) fun (r3 : ByteArray × Unit) =>
  andK (F_bourneref02_Num ((a0.1 : Int), ())) fun (r4 : ByteArray × Unit) =>
  bif (decide (r3.1.size + r4.1.size ≤ 9223372036854775807)) then
  andK (F_bourneref02_Text (a1, ())) fun (r6 : ByteArray × Unit) =>
  bif (decide ((r3.1 ++ r4.1).size + r6.1.size ≤ 9223372036854775807)) then
  let x7 : ByteArray := ((r3.1 ++ r4.1) ++ r6.1)
  andK (F_bourneref02_Text (a2, ())) fun (r8 : ByteArray × Unit) =>
  bif (decide (x7.size + r8.1.size ≤ 9223372036854775807)) then
  andK (F_bourneref03_Short ((x7 ++ r8.1), ())) fun (r10 : Int × Unit) =>
  let x12 : Int := (IntKind.wrap .i64 (1 + (Int.tmod r10.1 1152921504606845788)))
  andK (F_bourneref04_Exp ((4 : Int), x12, ())) fun (r13 : Int × Unit) =>
  andK (F_bourneref05_Challenge ((r13.1 : Int), (a0.2 : Int), a1, a2, ())) fun (r14 : Int × Unit) =>
  andK (F_bourneref04_MulQ ((r14.1 : Int), (a0.1 : Int), ())) fun (r15 : Int × Unit) =>
  andK (F_bourneref04_AddQ (x12, (r15.1 : Int), ())) fun (r16 : Int × Unit) =>
  ret (((r14.1, r16.1) : Int × Int), ())
  else none
  else none
  else none
def f_bourneref05_Sign {Ω : Type} (ret : (Int × Int) × Unit → Option Ω) (k : Nat) (a0 : Int × Int) (a1 : ByteArray) (a2 : ByteArray) : Option Ω := f_bourneref05_Sign_b ret k a0 a1 a2
theorem f_bourneref05_Sign_run (m : Int) {Ω : Type} (ret : (Int × Int) × Unit → Option Ω) (k : Nat) (a0 : Int × Int) (a1 : ByteArray) (a2 : ByteArray) : run (E_bourneref05_Sign m Ω) [] k Tryd.f17 [.agg [.int .i64 a0.1, .int .i64 a0.2], .str a1, .str a2] [] (resK [.pair (.int .i64) (.int .i64)] ret) = f_bourneref05_Sign ret k a0 a1 a2 := by
  show _ = f_bourneref05_Sign_b ret k a0 a1 a2
  kernel_rfl
def F_bourneref05_Sign (a : (Int × Int) × ByteArray × ByteArray × Unit) : Option ((Int × Int) × Unit) := f_bourneref05_Sign some 0 a.1 a.2.1 a.2.2.1
theorem f_bourneref05_Sign_at : Tryd.prog.funcs[17]? = some Tryd.f17 := by kernel_rfl
theorem E_bourneref05_Sign_ok (m : Int) (Ω : Type) : EnvOk Tryd.prog (E_bourneref05_Sign m Ω) := envT_ok T_ok (by
  intro e he
  simp only [List.mem_cons, List.not_mem_nil, or_false] at he
  rcases he with rfl | rfl | rfl | rfl | rfl | rfl | rfl | rfl
  · exact ent_ok fun a r h => F_bourneref05_Right_ok a r h m
  · exact ent_ok fun a r h => F_bourneref05_Challenge_ok a r h m
  · exact ent_ok fun a r h => F_bourneref03_Short_ok a r h m
  · exact ent_ok fun a r h => F_bourneref02_Text_ok a r h m
  · exact ent_ok fun a r h => F_bourneref04_Exp_ok a r h m
  · exact ent_ok fun a r h => F_bourneref02_Num_ok a r h m
  · exact ent_ok fun a r h => F_bourneref04_AddQ_ok a r h m
  · exact ent_ok fun a r h => F_bourneref04_MulQ_ok a r h m) (by intro e he; cases he)
theorem F_bourneref05_Sign_ok (a : Tys [.pair (.int .i64) (.int .i64), .str, .str]) (r : Tys [.pair (.int .i64) (.int .i64)]) (h : F_bourneref05_Sign a = some r) (m : Int) : PContract Tryd.prog (GL m) 17 (injL [.pair (.int .i64) (.int .i64), .str, .str] a) (injR [.pair (.int .i64) (.int .i64)] r) := by
  exact PContract.of_run (E := E_bourneref05_Sign m (Tys [.pair (.int .i64) (.int .i64)])) (un := []) (k := 0) (E_bourneref05_Sign_ok m _) mixed (callOk_of f_bourneref05_Sign_at (by kernel_rfl) (by kernel_rfl)) f_bourneref05_Sign_at ((f_bourneref05_Sign_run m some 0 a.1 a.2.1 a.2.2.1).trans h)
/-! bourne/bourneref04.Mul -/
noncomputable def E_bourneref04_Mul (m : Int) (Ω : Type) : Env Ω := envT T (GL m) [(45, true, ent [.int .i64, .int .i64] [.int .i64] F_bourneref04_Mod), (46, true, ent [.int .i64, .int .i64, .int .i64] [.int .i64] F_bourneref04_times)] []
def f_bourneref04_Mul_b {Ω : Type} (ret : Int × Unit → Option Ω) (k : Nat)  (a0 : Int) (a1 : Int) : Option Ω :=
  andK (F_bourneref04_Mod (a0, (2305843009213691579 : Int), ())) fun (r1 : Int × Unit) =>
  andK (F_bourneref04_Mod (a1, (2305843009213691579 : Int), ())) fun (r2 : Int × Unit) =>
  andK (F_bourneref04_times ((r1.1 : Int), (r2.1 : Int), (2305843009213691579 : Int), ())) fun (r3 : Int × Unit) =>
  ret ((r3.1 : Int), ())
def f_bourneref04_Mul {Ω : Type} (ret : Int × Unit → Option Ω) (k : Nat) (a0 : Int) (a1 : Int) : Option Ω := f_bourneref04_Mul_b ret k a0 a1
theorem f_bourneref04_Mul_run (m : Int) {Ω : Type} (ret : Int × Unit → Option Ω) (k : Nat) (a0 : Int) (a1 : Int) : run (E_bourneref04_Mul m Ω) [] k Tryd.f39 [.int .i64 a0, .int .i64 a1] [] (resK [.int .i64] ret) = f_bourneref04_Mul ret k a0 a1 := by
  show _ = f_bourneref04_Mul_b ret k a0 a1
  kernel_rfl
def F_bourneref04_Mul (a : Int × Int × Unit) : Option (Int × Unit) := f_bourneref04_Mul some 0 a.1 a.2.1
theorem f_bourneref04_Mul_at : Tryd.prog.funcs[39]? = some Tryd.f39 := by kernel_rfl
theorem E_bourneref04_Mul_ok (m : Int) (Ω : Type) : EnvOk Tryd.prog (E_bourneref04_Mul m Ω) := envT_ok T_ok (by
  intro e he
  simp only [List.mem_cons, List.not_mem_nil, or_false] at he
  rcases he with rfl | rfl
  · exact ent_ok fun a r h => F_bourneref04_Mod_ok a r h m
  · exact ent_ok fun a r h => F_bourneref04_times_ok a r h m) (by intro e he; cases he)
theorem F_bourneref04_Mul_ok (a : Tys [.int .i64, .int .i64]) (r : Tys [.int .i64]) (h : F_bourneref04_Mul a = some r) (m : Int) : PContract Tryd.prog (GL m) 39 (injL [.int .i64, .int .i64] a) (injR [.int .i64] r) := by
  exact PContract.of_run (E := E_bourneref04_Mul m (Tys [.int .i64])) (un := []) (k := 0) (E_bourneref04_Mul_ok m _) mixed (callOk_of f_bourneref04_Mul_at (by kernel_rfl) (by kernel_rfl)) f_bourneref04_Mul_at ((f_bourneref04_Mul_run m some 0 a.1 a.2.1).trans h)
/-! bourne/bourneref05.Element -/
noncomputable def E_bourneref05_Element (m : Int) (Ω : Type) : Env Ω := envT T (GL m) [(30, true, ent [.int .i64, .int .i64] [.int .i64] F_bourneref04_Exp), (39, true, ent [.int .i64, .int .i64] [.int .i64] F_bourneref04_Mul)] []
def f_bourneref05_Element_b {Ω : Type} (ret : Int × Unit → Option Ω) (k : Nat)  (a0 : Int) (a1 : Int × Int) : Option Ω :=
  andK (F_bourneref04_Exp ((4 : Int), (a1.2 : Int), ())) fun (r1 : Int × Unit) =>
  andK (F_bourneref04_Exp (a0, (IntKind.wrap .i64 (1152921504606845789 - a1.1)), ())) fun (r3 : Int × Unit) =>
  andK (F_bourneref04_Mul ((r1.1 : Int), (r3.1 : Int), ())) fun (r4 : Int × Unit) =>
  ret ((r4.1 : Int), ())
def f_bourneref05_Element {Ω : Type} (ret : Int × Unit → Option Ω) (k : Nat) (a0 : Int) (a1 : Int × Int) : Option Ω := f_bourneref05_Element_b ret k a0 a1
theorem f_bourneref05_Element_run (m : Int) {Ω : Type} (ret : Int × Unit → Option Ω) (k : Nat) (a0 : Int) (a1 : Int × Int) : run (E_bourneref05_Element m Ω) [] k Tryd.f20 [.int .i64 a0, .agg [.int .i64 a1.1, .int .i64 a1.2]] [] (resK [.int .i64] ret) = f_bourneref05_Element ret k a0 a1 := by
  show _ = f_bourneref05_Element_b ret k a0 a1
  kernel_rfl
def F_bourneref05_Element (a : Int × (Int × Int) × Unit) : Option (Int × Unit) := f_bourneref05_Element some 0 a.1 a.2.1
theorem f_bourneref05_Element_at : Tryd.prog.funcs[20]? = some Tryd.f20 := by kernel_rfl
theorem E_bourneref05_Element_ok (m : Int) (Ω : Type) : EnvOk Tryd.prog (E_bourneref05_Element m Ω) := envT_ok T_ok (by
  intro e he
  simp only [List.mem_cons, List.not_mem_nil, or_false] at he
  rcases he with rfl | rfl
  · exact ent_ok fun a r h => F_bourneref04_Exp_ok a r h m
  · exact ent_ok fun a r h => F_bourneref04_Mul_ok a r h m) (by intro e he; cases he)
theorem F_bourneref05_Element_ok (a : Tys [.int .i64, .pair (.int .i64) (.int .i64)]) (r : Tys [.int .i64]) (h : F_bourneref05_Element a = some r) (m : Int) : PContract Tryd.prog (GL m) 20 (injL [.int .i64, .pair (.int .i64) (.int .i64)] a) (injR [.int .i64] r) := by
  exact PContract.of_run (E := E_bourneref05_Element m (Tys [.int .i64])) (un := []) (k := 0) (E_bourneref05_Element_ok m _) mixed (callOk_of f_bourneref05_Element_at (by kernel_rfl) (by kernel_rfl)) f_bourneref05_Element_at ((f_bourneref05_Element_run m some 0 a.1 a.2.1).trans h)
/-! bourne/bourneref04.In -/
noncomputable def E_bourneref04_In (m : Int) (Ω : Type) : Env Ω := envT T (GL m) [(30, true, ent [.int .i64, .int .i64] [.int .i64] F_bourneref04_Exp)] []
def f_bourneref04_In_b {Ω : Type} (ret : Bool × Unit → Option Ω) (k : Nat)  (a0 : Int) : Option Ω :=
  bif (decide (a0 ≥ 1)) then
    bif (decide (a0 < 2305843009213691579)) then
      andK (F_bourneref04_Exp (a0, (1152921504606845789 : Int), ())) fun (r3 : Int × Unit) =>
      ret ((r3.1 == 1), ())
    else
    ret (false, ())
  else
  ret (false, ())
def f_bourneref04_In {Ω : Type} (ret : Bool × Unit → Option Ω) (k : Nat) (a0 : Int) : Option Ω := f_bourneref04_In_b ret k a0
theorem f_bourneref04_In_run (m : Int) {Ω : Type} (ret : Bool × Unit → Option Ω) (k : Nat) (a0 : Int) : run (E_bourneref04_In m Ω) [] k Tryd.f49 [.int .i64 a0] [] (resK [.bool] ret) = f_bourneref04_In ret k a0 := by
  show _ = f_bourneref04_In_b ret k a0
  kernel_rfl
def F_bourneref04_In (a : Int × Unit) : Option (Bool × Unit) := f_bourneref04_In some 0 a.1
theorem f_bourneref04_In_at : Tryd.prog.funcs[49]? = some Tryd.f49 := by kernel_rfl
theorem E_bourneref04_In_ok (m : Int) (Ω : Type) : EnvOk Tryd.prog (E_bourneref04_In m Ω) := envT_ok T_ok (by
  intro e he
  simp only [List.mem_cons, List.not_mem_nil, or_false] at he
  rcases he with rfl
  · exact ent_ok fun a r h => F_bourneref04_Exp_ok a r h m) (by intro e he; cases he)
theorem F_bourneref04_In_ok (a : Tys [.int .i64]) (r : Tys [.bool]) (h : F_bourneref04_In a = some r) (m : Int) : PContract Tryd.prog (GL m) 49 (injL [.int .i64] a) (injR [.bool] r) := by
  exact PContract.of_run (E := E_bourneref04_In m (Tys [.bool])) (un := []) (k := 0) (E_bourneref04_In_ok m _) mixed (callOk_of f_bourneref04_In_at (by kernel_rfl) (by kernel_rfl)) f_bourneref04_In_at ((f_bourneref04_In_run m some 0 a.1).trans h)
/-! bourne/bourneref05.Ranges -/
noncomputable def E_bourneref05_Ranges (m : Int) (Ω : Type) : Env Ω := envT T (GL m) [(49, true, ent [.int .i64] [.bool] F_bourneref04_In)] []
def f_bourneref05_Ranges_b {Ω : Type} (ret : Bool × Unit → Option Ω) (k : Nat)  (a0 : Int) (a1 : Int × Int) : Option Ω :=
  andK (F_bourneref04_In (a0, ())) fun (r1 : Bool × Unit) =>
  bif r1.1 then
    bif (a0 != 1) then
      bif (decide (a1.1 ≥ 0)) then
        bif (decide (a1.1 < 1152921504606845789)) then
          bif (decide (a1.2 ≥ 0)) then
            ret ((decide (a1.2 < 1152921504606845789)), ())
          else
          ret (false, ())
        else
        ret (false, ())
      else
      ret (false, ())
    else
    ret (false, ())
  else
  ret (false, ())
def f_bourneref05_Ranges {Ω : Type} (ret : Bool × Unit → Option Ω) (k : Nat) (a0 : Int) (a1 : Int × Int) : Option Ω := f_bourneref05_Ranges_b ret k a0 a1
theorem f_bourneref05_Ranges_run (m : Int) {Ω : Type} (ret : Bool × Unit → Option Ω) (k : Nat) (a0 : Int) (a1 : Int × Int) : run (E_bourneref05_Ranges m Ω) [] k Tryd.f38 [.int .i64 a0, .agg [.int .i64 a1.1, .int .i64 a1.2]] [] (resK [.bool] ret) = f_bourneref05_Ranges ret k a0 a1 := by
  show _ = f_bourneref05_Ranges_b ret k a0 a1
  kernel_rfl
def F_bourneref05_Ranges (a : Int × (Int × Int) × Unit) : Option (Bool × Unit) := f_bourneref05_Ranges some 0 a.1 a.2.1
theorem f_bourneref05_Ranges_at : Tryd.prog.funcs[38]? = some Tryd.f38 := by kernel_rfl
theorem E_bourneref05_Ranges_ok (m : Int) (Ω : Type) : EnvOk Tryd.prog (E_bourneref05_Ranges m Ω) := envT_ok T_ok (by
  intro e he
  simp only [List.mem_cons, List.not_mem_nil, or_false] at he
  rcases he with rfl
  · exact ent_ok fun a r h => F_bourneref04_In_ok a r h m) (by intro e he; cases he)
theorem F_bourneref05_Ranges_ok (a : Tys [.int .i64, .pair (.int .i64) (.int .i64)]) (r : Tys [.bool]) (h : F_bourneref05_Ranges a = some r) (m : Int) : PContract Tryd.prog (GL m) 38 (injL [.int .i64, .pair (.int .i64) (.int .i64)] a) (injR [.bool] r) := by
  exact PContract.of_run (E := E_bourneref05_Ranges m (Tys [.bool])) (un := []) (k := 0) (E_bourneref05_Ranges_ok m _) mixed (callOk_of f_bourneref05_Ranges_at (by kernel_rfl) (by kernel_rfl)) f_bourneref05_Ranges_at ((f_bourneref05_Ranges_run m some 0 a.1 a.2.1).trans h)
/-! bourne/bourneref05.Verify -/
noncomputable def E_bourneref05_Verify (m : Int) (Ω : Type) : Env Ω := envT T (GL m) [(20, true, ent [.int .i64, .pair (.int .i64) (.int .i64)] [.int .i64] F_bourneref05_Element), (21, true, ent [.int .i64, .int .i64, .str, .str] [.int .i64] F_bourneref05_Challenge), (38, true, ent [.int .i64, .pair (.int .i64) (.int .i64)] [.bool] F_bourneref05_Ranges)] []
def f_bourneref05_Verify_b {Ω : Type} (ret : Bool × Unit → Option Ω) (k : Nat)  (a0 : Int) (a1 : ByteArray) (a2 : ByteArray) (a3 : Int × Int) : Option Ω :=
  andK (F_bourneref05_Ranges (a0, a3, ())) fun (r1 : Bool × Unit) =>
  bif r1.1 then
    andK (F_bourneref05_Element (a0, a3, ())) fun (r2 : Int × Unit) =>
    andK (F_bourneref05_Challenge ((r2.1 : Int), a0, a1, a2, ())) fun (r3 : Int × Unit) =>
    ret ((r3.1 == a3.1), ())
  else
  ret (false, ())
def f_bourneref05_Verify {Ω : Type} (ret : Bool × Unit → Option Ω) (k : Nat) (a0 : Int) (a1 : ByteArray) (a2 : ByteArray) (a3 : Int × Int) : Option Ω := f_bourneref05_Verify_b ret k a0 a1 a2 a3
theorem f_bourneref05_Verify_run (m : Int) {Ω : Type} (ret : Bool × Unit → Option Ω) (k : Nat) (a0 : Int) (a1 : ByteArray) (a2 : ByteArray) (a3 : Int × Int) : run (E_bourneref05_Verify m Ω) [] k Tryd.f19 [.int .i64 a0, .str a1, .str a2, .agg [.int .i64 a3.1, .int .i64 a3.2]] [] (resK [.bool] ret) = f_bourneref05_Verify ret k a0 a1 a2 a3 := by
  show _ = f_bourneref05_Verify_b ret k a0 a1 a2 a3
  kernel_rfl
def F_bourneref05_Verify (a : Int × ByteArray × ByteArray × (Int × Int) × Unit) : Option (Bool × Unit) := f_bourneref05_Verify some 0 a.1 a.2.1 a.2.2.1 a.2.2.2.1
theorem f_bourneref05_Verify_at : Tryd.prog.funcs[19]? = some Tryd.f19 := by kernel_rfl
theorem E_bourneref05_Verify_ok (m : Int) (Ω : Type) : EnvOk Tryd.prog (E_bourneref05_Verify m Ω) := envT_ok T_ok (by
  intro e he
  simp only [List.mem_cons, List.not_mem_nil, or_false] at he
  rcases he with rfl | rfl | rfl
  · exact ent_ok fun a r h => F_bourneref05_Element_ok a r h m
  · exact ent_ok fun a r h => F_bourneref05_Challenge_ok a r h m
  · exact ent_ok fun a r h => F_bourneref05_Ranges_ok a r h m) (by intro e he; cases he)
theorem F_bourneref05_Verify_ok (a : Tys [.int .i64, .str, .str, .pair (.int .i64) (.int .i64)]) (r : Tys [.bool]) (h : F_bourneref05_Verify a = some r) (m : Int) : PContract Tryd.prog (GL m) 19 (injL [.int .i64, .str, .str, .pair (.int .i64) (.int .i64)] a) (injR [.bool] r) := by
  exact PContract.of_run (E := E_bourneref05_Verify m (Tys [.bool])) (un := []) (k := 0) (E_bourneref05_Verify_ok m _) mixed (callOk_of f_bourneref05_Verify_at (by kernel_rfl) (by kernel_rfl)) f_bourneref05_Verify_at ((f_bourneref05_Verify_run m some 0 a.1 a.2.1 a.2.2.1 a.2.2.2.1).trans h)
/-! bourne/bournelaw05.SignTells -/
noncomputable def E_bournelaw05_SignTells (m : Int) (Ω : Type) : Env Ω := envT T (GL m) [(8, true, ent [] [.bool] F_bournelaw05_small), (9, true, ent [.str, .str, .str] [.bool] F_bournelaw05_short), (10, true, ent [.str] [.pair (.int .i64) (.int .i64)] F_sign_Key), (11, true, ent [.str] [.pair (.int .i64) (.int .i64)] F_bourneref05_Key), (12, true, ent [.int .i64] [.pair (.int .i64) (.int .i64)] F_sign_Of), (13, true, ent [.int .i64] [.pair (.int .i64) (.int .i64)] F_bourneref05_Of), (14, true, ent [.pair (.int .i64) (.int .i64)] [.bool] F_sign_Right), (15, true, ent [.pair (.int .i64) (.int .i64)] [.bool] F_bourneref05_Right), (16, true, ent [.pair (.int .i64) (.int .i64), .str, .str] [.pair (.int .i64) (.int .i64)] F_sign_Sign), (17, true, ent [.pair (.int .i64) (.int .i64), .str, .str] [.pair (.int .i64) (.int .i64)] F_bourneref05_Sign), (18, true, ent [.int .i64, .str, .str, .pair (.int .i64) (.int .i64)] [.bool] F_sign_Verify), (19, true, ent [.int .i64, .str, .str, .pair (.int .i64) (.int .i64)] [.bool] F_bourneref05_Verify)] []
def f_bournelaw05_SignTells_b {Ω : Type} (ret : Bool × Unit → Option Ω) (k : Nat)  (a0 : ByteArray) (a1 : ByteArray) (a2 : ByteArray) (a3 : Int × Int) (a4 : Int) (a5 : Int × Int) : Option Ω :=
  andK (F_bournelaw05_small (())) fun (r1 : Bool × Unit) =>
  andK (F_bournelaw05_short (a0, a1, a2, ())) fun (r2 : Bool × Unit) =>
  bif (!r2.1) then
    ret ((r1.1 : Bool), ())
  else
  andK (F_sign_Key (a0, ())) fun (r4 : (Int × Int) × Unit) =>
  andK (F_bourneref05_Key (a0, ())) fun (r5 : (Int × Int) × Unit) =>
  bif (!((r4.1.1 == r5.1.1) && ((r4.1.2 == r5.1.2) && true))) then
    ret (false, ())
  else
  andK (F_sign_Of ((a3.1 : Int), ())) fun (r7 : (Int × Int) × Unit) =>
  andK (F_bourneref05_Of ((a3.1 : Int), ())) fun (r8 : (Int × Int) × Unit) =>
  bif (!((r7.1.1 == r8.1.1) && ((r7.1.2 == r8.1.2) && true))) then
    ret (false, ())
  else
  andK (F_sign_Right (a3, ())) fun (r10 : Bool × Unit) =>
  andK (F_bourneref05_Right (a3, ())) fun (r11 : Bool × Unit) =>
  bif (!(r10.1 == r11.1)) then
    ret (false, ())
  else
  bif r1.1 then
    andK (F_sign_Sign (a3, a1, a2, ())) fun (r13 : (Int × Int) × Unit) =>
    andK (F_bourneref05_Sign (a3, a1, a2, ())) fun (r14 : (Int × Int) × Unit) =>
    bif ((r13.1.1 == r14.1.1) && ((r13.1.2 == r14.1.2) && true)) then
      andK (F_sign_Verify (a4, a1, a2, a5, ())) fun (r16 : Bool × Unit) =>
      andK (F_bourneref05_Verify (a4, a1, a2, a5, ())) fun (r17 : Bool × Unit) =>
      ret ((r16.1 == r17.1), ())
    else
    ret (false, ())
  else
  ret (false, ())
def f_bournelaw05_SignTells {Ω : Type} (ret : Bool × Unit → Option Ω) (k : Nat) (a0 : ByteArray) (a1 : ByteArray) (a2 : ByteArray) (a3 : Int × Int) (a4 : Int) (a5 : Int × Int) : Option Ω := f_bournelaw05_SignTells_b ret k a0 a1 a2 a3 a4 a5
theorem f_bournelaw05_SignTells_run (m : Int) {Ω : Type} (ret : Bool × Unit → Option Ω) (k : Nat) (a0 : ByteArray) (a1 : ByteArray) (a2 : ByteArray) (a3 : Int × Int) (a4 : Int) (a5 : Int × Int) : run (E_bournelaw05_SignTells m Ω) [] k Tryd.f3 [.str a0, .str a1, .str a2, .agg [.int .i64 a3.1, .int .i64 a3.2], .int .i64 a4, .agg [.int .i64 a5.1, .int .i64 a5.2]] [] (resK [.bool] ret) = f_bournelaw05_SignTells ret k a0 a1 a2 a3 a4 a5 := by
  show _ = f_bournelaw05_SignTells_b ret k a0 a1 a2 a3 a4 a5
  kernel_rfl
def F_bournelaw05_SignTells (a : ByteArray × ByteArray × ByteArray × (Int × Int) × Int × (Int × Int) × Unit) : Option (Bool × Unit) := f_bournelaw05_SignTells some 0 a.1 a.2.1 a.2.2.1 a.2.2.2.1 a.2.2.2.2.1 a.2.2.2.2.2.1
theorem f_bournelaw05_SignTells_at : Tryd.prog.funcs[3]? = some Tryd.f3 := by kernel_rfl
theorem E_bournelaw05_SignTells_ok (m : Int) (Ω : Type) : EnvOk Tryd.prog (E_bournelaw05_SignTells m Ω) := envT_ok T_ok (by
  intro e he
  simp only [List.mem_cons, List.not_mem_nil, or_false] at he
  rcases he with rfl | rfl | rfl | rfl | rfl | rfl | rfl | rfl | rfl | rfl | rfl | rfl
  · exact ent_ok fun a r h => F_bournelaw05_small_ok a r h m
  · exact ent_ok fun a r h => F_bournelaw05_short_ok a r h m
  · exact ent_ok fun a r h => F_sign_Key_ok a r h m
  · exact ent_ok fun a r h => F_bourneref05_Key_ok a r h m
  · exact ent_ok fun a r h => F_sign_Of_ok a r h m
  · exact ent_ok fun a r h => F_bourneref05_Of_ok a r h m
  · exact ent_ok fun a r h => F_sign_Right_ok a r h m
  · exact ent_ok fun a r h => F_bourneref05_Right_ok a r h m
  · exact ent_ok fun a r h => F_sign_Sign_ok a r h m
  · exact ent_ok fun a r h => F_bourneref05_Sign_ok a r h m
  · exact ent_ok fun a r h => F_sign_Verify_ok a r h m
  · exact ent_ok fun a r h => F_bourneref05_Verify_ok a r h m) (by intro e he; cases he)
theorem F_bournelaw05_SignTells_ok (a : Tys [.str, .str, .str, .pair (.int .i64) (.int .i64), .int .i64, .pair (.int .i64) (.int .i64)]) (r : Tys [.bool]) (h : F_bournelaw05_SignTells a = some r) (m : Int) : PContract Tryd.prog (GL m) 3 (injL [.str, .str, .str, .pair (.int .i64) (.int .i64), .int .i64, .pair (.int .i64) (.int .i64)] a) (injR [.bool] r) := by
  exact PContract.of_run (E := E_bournelaw05_SignTells m (Tys [.bool])) (un := []) (k := 0) (E_bournelaw05_SignTells_ok m _) mixed (callOk_of f_bournelaw05_SignTells_at (by kernel_rfl) (by kernel_rfl)) f_bournelaw05_SignTells_at ((f_bournelaw05_SignTells_run m some 0 a.1 a.2.1 a.2.2.1 a.2.2.2.1 a.2.2.2.2.1 a.2.2.2.2.2.1).trans h)
/-! bourne/bournelaw05.SignHolds -/
noncomputable def E_bournelaw05_SignHolds (m : Int) (Ω : Type) : Env Ω := envT T (GL m) [(8, true, ent [] [.bool] F_bournelaw05_small), (9, true, ent [.str, .str, .str] [.bool] F_bournelaw05_short), (10, true, ent [.str] [.pair (.int .i64) (.int .i64)] F_sign_Key), (12, true, ent [.int .i64] [.pair (.int .i64) (.int .i64)] F_sign_Of), (14, true, ent [.pair (.int .i64) (.int .i64)] [.bool] F_sign_Right), (16, true, ent [.pair (.int .i64) (.int .i64), .str, .str] [.pair (.int .i64) (.int .i64)] F_sign_Sign), (18, true, ent [.int .i64, .str, .str, .pair (.int .i64) (.int .i64)] [.bool] F_sign_Verify)] []
def f_bournelaw05_SignHolds_b {Ω : Type} (ret : Bool × Unit → Option Ω) (k : Nat)  (a0 : ByteArray) (a1 : Int) (a2 : ByteArray) (a3 : ByteArray) : Option Ω :=
  andK (F_bournelaw05_small (())) fun (r1 : Bool × Unit) =>
  andK (F_bournelaw05_short (a0, a2, a3, ())) fun (r2 : Bool × Unit) =>
  bif (!r2.1) then
    ret ((r1.1 : Bool), ())
  else
  andK (F_sign_Key (a0, ())) fun (r4 : (Int × Int) × Unit) =>
  andK (F_sign_Of (a1, ())) fun (r5 : (Int × Int) × Unit) =>
  bif (decide (a1 ≥ 1)) then
    andK (F_sign_Right ((r5.1 : Int × Int), ())) fun (r8 : Bool × Unit) =>
    bif (!((decide (a1 < 1152921504606845789)) == r8.1)) then
      ret (false, ())
    else
    andK (F_sign_Right ((r4.1 : Int × Int), ())) fun (r10 : Bool × Unit) =>
    bif (!r10.1) then
      ret (false, ())
    else
    andK (F_sign_Sign ((r4.1 : Int × Int), a2, a3, ())) fun (r12 : (Int × Int) × Unit) =>
    andK (F_sign_Verify ((r4.1.2 : Int), a2, a3, (r12.1 : Int × Int), ())) fun (r13 : Bool × Unit) =>
    bif (!r13.1) then
      ret (false, ())
    else
    andK (F_sign_Sign ((r4.1 : Int × Int), a2, a3, ())) fun (r15 : (Int × Int) × Unit) =>
    bif (!((r12.1.1 == r15.1.1) && ((r12.1.2 == r15.1.2) && true))) then
      ret (false, ())
    else
    bif (decide (r12.1.1 < 0)) then
      ret (false, ())
    else
    bif (decide (r12.1.1 ≥ 1152921504606845789)) then
      ret (false, ())
    else
    bif (decide (r12.1.2 < 0)) then
      ret (false, ())
    else
    bif (decide (r12.1.2 ≥ 1152921504606845789)) then
      ret (false, ())
    else
    andK (F_sign_Sign ((r5.1 : Int × Int), a2, a3, ())) fun (r21 : (Int × Int) × Unit) =>
    andK (F_sign_Right ((r5.1 : Int × Int), ())) fun (r22 : Bool × Unit) =>
    bif (!r22.1) then
      bif r1.1 then
        ret (((r21.1.1 == 0) && ((r21.1.2 == 0) && true)), ())
      else
      ret (false, ())
    else
    bif r1.1 then
      andK (F_sign_Verify ((r5.1.2 : Int), a2, a3, (r21.1 : Int × Int), ())) fun (r25 : Bool × Unit) =>
      ret ((r25.1 : Bool), ())
    else
    ret (false, ())
  else
  andK (F_sign_Right ((r5.1 : Int × Int), ())) fun (r26 : Bool × Unit) =>
  bif (!(false == r26.1)) then
    ret (false, ())
  else
  andK (F_sign_Right ((r4.1 : Int × Int), ())) fun (r28 : Bool × Unit) =>
  bif (!r28.1) then
    ret (false, ())
  else
  andK (F_sign_Sign ((r4.1 : Int × Int), a2, a3, ())) fun (r30 : (Int × Int) × Unit) =>
  andK (F_sign_Verify ((r4.1.2 : Int), a2, a3, (r30.1 : Int × Int), ())) fun (r31 : Bool × Unit) =>
  bif (!r31.1) then
    ret (false, ())
  else
  andK (F_sign_Sign ((r4.1 : Int × Int), a2, a3, ())) fun (r33 : (Int × Int) × Unit) =>
  bif (!((r30.1.1 == r33.1.1) && ((r30.1.2 == r33.1.2) && true))) then
    ret (false, ())
  else
  bif (decide (r30.1.1 < 0)) then
    ret (false, ())
  else
  bif (decide (r30.1.1 ≥ 1152921504606845789)) then
    ret (false, ())
  else
  bif (decide (r30.1.2 < 0)) then
    ret (false, ())
  else
  bif (decide (r30.1.2 ≥ 1152921504606845789)) then
    ret (false, ())
  else
  andK (F_sign_Sign ((r5.1 : Int × Int), a2, a3, ())) fun (r39 : (Int × Int) × Unit) =>
  andK (F_sign_Right ((r5.1 : Int × Int), ())) fun (r40 : Bool × Unit) =>
  bif (!r40.1) then
    bif r1.1 then
      ret (((r39.1.1 == 0) && ((r39.1.2 == 0) && true)), ())
    else
    ret (false, ())
  else
  bif r1.1 then
    andK (F_sign_Verify ((r5.1.2 : Int), a2, a3, (r39.1 : Int × Int), ())) fun (r43 : Bool × Unit) =>
    ret ((r43.1 : Bool), ())
  else
  ret (false, ())
def f_bournelaw05_SignHolds {Ω : Type} (ret : Bool × Unit → Option Ω) (k : Nat) (a0 : ByteArray) (a1 : Int) (a2 : ByteArray) (a3 : ByteArray) : Option Ω := f_bournelaw05_SignHolds_b ret k a0 a1 a2 a3
theorem f_bournelaw05_SignHolds_run (m : Int) {Ω : Type} (ret : Bool × Unit → Option Ω) (k : Nat) (a0 : ByteArray) (a1 : Int) (a2 : ByteArray) (a3 : ByteArray) : run (E_bournelaw05_SignHolds m Ω) [] k Tryd.f4 [.str a0, .int .i64 a1, .str a2, .str a3] [] (resK [.bool] ret) = f_bournelaw05_SignHolds ret k a0 a1 a2 a3 := by
  show _ = f_bournelaw05_SignHolds_b ret k a0 a1 a2 a3
  kernel_rfl
def F_bournelaw05_SignHolds (a : ByteArray × Int × ByteArray × ByteArray × Unit) : Option (Bool × Unit) := f_bournelaw05_SignHolds some 0 a.1 a.2.1 a.2.2.1 a.2.2.2.1
theorem f_bournelaw05_SignHolds_at : Tryd.prog.funcs[4]? = some Tryd.f4 := by kernel_rfl
theorem E_bournelaw05_SignHolds_ok (m : Int) (Ω : Type) : EnvOk Tryd.prog (E_bournelaw05_SignHolds m Ω) := envT_ok T_ok (by
  intro e he
  simp only [List.mem_cons, List.not_mem_nil, or_false] at he
  rcases he with rfl | rfl | rfl | rfl | rfl | rfl | rfl
  · exact ent_ok fun a r h => F_bournelaw05_small_ok a r h m
  · exact ent_ok fun a r h => F_bournelaw05_short_ok a r h m
  · exact ent_ok fun a r h => F_sign_Key_ok a r h m
  · exact ent_ok fun a r h => F_sign_Of_ok a r h m
  · exact ent_ok fun a r h => F_sign_Right_ok a r h m
  · exact ent_ok fun a r h => F_sign_Sign_ok a r h m
  · exact ent_ok fun a r h => F_sign_Verify_ok a r h m) (by intro e he; cases he)
theorem F_bournelaw05_SignHolds_ok (a : Tys [.str, .int .i64, .str, .str]) (r : Tys [.bool]) (h : F_bournelaw05_SignHolds a = some r) (m : Int) : PContract Tryd.prog (GL m) 4 (injL [.str, .int .i64, .str, .str] a) (injR [.bool] r) := by
  exact PContract.of_run (E := E_bournelaw05_SignHolds m (Tys [.bool])) (un := []) (k := 0) (E_bournelaw05_SignHolds_ok m _) mixed (callOk_of f_bournelaw05_SignHolds_at (by kernel_rfl) (by kernel_rfl)) f_bournelaw05_SignHolds_at ((f_bournelaw05_SignHolds_run m some 0 a.1 a.2.1 a.2.2.1 a.2.2.2.1).trans h)
/-! bourne/bournelaw05.SignBinds -/
noncomputable def E_bournelaw05_SignBinds (m : Int) (Ω : Type) : Env Ω := envT T (GL m) [(8, true, ent [] [.bool] F_bournelaw05_small), (9, true, ent [.str, .str, .str] [.bool] F_bournelaw05_short), (10, true, ent [.str] [.pair (.int .i64) (.int .i64)] F_sign_Key), (16, true, ent [.pair (.int .i64) (.int .i64), .str, .str] [.pair (.int .i64) (.int .i64)] F_sign_Sign), (18, true, ent [.int .i64, .str, .str, .pair (.int .i64) (.int .i64)] [.bool] F_sign_Verify), (20, true, ent [.int .i64, .pair (.int .i64) (.int .i64)] [.int .i64] F_bourneref05_Element), (21, true, ent [.int .i64, .int .i64, .str, .str] [.int .i64] F_bourneref05_Challenge)] []
def f_bournelaw05_SignBinds_b {Ω : Type} (ret : Bool × Unit → Option Ω) (k : Nat)  (a0 : ByteArray) (a1 : ByteArray) (a2 : ByteArray) (a3 : ByteArray) (a4 : ByteArray) : Option Ω :=
  andK (F_bournelaw05_small (())) fun (r1 : Bool × Unit) =>
  andK (F_bournelaw05_short (a0, a1, a2, ())) fun (r2 : Bool × Unit) =>
  andK (F_bournelaw05_short (a3, a4, ((⟨#[]⟩ : ByteArray) : ByteArray), ())) fun (r3 : Bool × Unit) =>
  bif (!r2.1) then
    ret ((r1.1 : Bool), ())
  else
  bif (!r3.1) then
    ret ((r1.1 : Bool), ())
  else
  andK (F_sign_Key (a0, ())) fun (r6 : (Int × Int) × Unit) =>
  andK (F_sign_Sign ((r6.1 : Int × Int), a1, a2, ())) fun (r7 : (Int × Int) × Unit) =>
  andK (F_bourneref05_Element ((r6.1.2 : Int), (r7.1 : Int × Int), ())) fun (r8 : Int × Unit) =>
  andK (F_bourneref05_Challenge ((r8.1 : Int), (r6.1.2 : Int), a3, a4, ())) fun (r9 : Int × Unit) =>
  bif r1.1 then
    andK (F_sign_Verify ((r6.1.2 : Int), a3, a4, (r7.1 : Int × Int), ())) fun (r11 : Bool × Unit) =>
    ret ((r11.1 == (r9.1 == r7.1.1)), ())
  else
  ret (false, ())
def f_bournelaw05_SignBinds {Ω : Type} (ret : Bool × Unit → Option Ω) (k : Nat) (a0 : ByteArray) (a1 : ByteArray) (a2 : ByteArray) (a3 : ByteArray) (a4 : ByteArray) : Option Ω := f_bournelaw05_SignBinds_b ret k a0 a1 a2 a3 a4
theorem f_bournelaw05_SignBinds_run (m : Int) {Ω : Type} (ret : Bool × Unit → Option Ω) (k : Nat) (a0 : ByteArray) (a1 : ByteArray) (a2 : ByteArray) (a3 : ByteArray) (a4 : ByteArray) : run (E_bournelaw05_SignBinds m Ω) [] k Tryd.f5 [.str a0, .str a1, .str a2, .str a3, .str a4] [] (resK [.bool] ret) = f_bournelaw05_SignBinds ret k a0 a1 a2 a3 a4 := by
  show _ = f_bournelaw05_SignBinds_b ret k a0 a1 a2 a3 a4
  kernel_rfl
def F_bournelaw05_SignBinds (a : ByteArray × ByteArray × ByteArray × ByteArray × ByteArray × Unit) : Option (Bool × Unit) := f_bournelaw05_SignBinds some 0 a.1 a.2.1 a.2.2.1 a.2.2.2.1 a.2.2.2.2.1
theorem f_bournelaw05_SignBinds_at : Tryd.prog.funcs[5]? = some Tryd.f5 := by kernel_rfl
theorem E_bournelaw05_SignBinds_ok (m : Int) (Ω : Type) : EnvOk Tryd.prog (E_bournelaw05_SignBinds m Ω) := envT_ok T_ok (by
  intro e he
  simp only [List.mem_cons, List.not_mem_nil, or_false] at he
  rcases he with rfl | rfl | rfl | rfl | rfl | rfl | rfl
  · exact ent_ok fun a r h => F_bournelaw05_small_ok a r h m
  · exact ent_ok fun a r h => F_bournelaw05_short_ok a r h m
  · exact ent_ok fun a r h => F_sign_Key_ok a r h m
  · exact ent_ok fun a r h => F_sign_Sign_ok a r h m
  · exact ent_ok fun a r h => F_sign_Verify_ok a r h m
  · exact ent_ok fun a r h => F_bourneref05_Element_ok a r h m
  · exact ent_ok fun a r h => F_bourneref05_Challenge_ok a r h m) (by intro e he; cases he)
theorem F_bournelaw05_SignBinds_ok (a : Tys [.str, .str, .str, .str, .str]) (r : Tys [.bool]) (h : F_bournelaw05_SignBinds a = some r) (m : Int) : PContract Tryd.prog (GL m) 5 (injL [.str, .str, .str, .str, .str] a) (injR [.bool] r) := by
  exact PContract.of_run (E := E_bournelaw05_SignBinds m (Tys [.bool])) (un := []) (k := 0) (E_bournelaw05_SignBinds_ok m _) mixed (callOk_of f_bournelaw05_SignBinds_at (by kernel_rfl) (by kernel_rfl)) f_bournelaw05_SignBinds_at ((f_bournelaw05_SignBinds_run m some 0 a.1 a.2.1 a.2.2.1 a.2.2.2.1 a.2.2.2.2.1).trans h)
/-! bourne/bournelaw05.SignRanges -/
noncomputable def E_bournelaw05_SignRanges (m : Int) (Ω : Type) : Env Ω := envT T (GL m) [(8, true, ent [] [.bool] F_bournelaw05_small), (9, true, ent [.str, .str, .str] [.bool] F_bournelaw05_short), (10, true, ent [.str] [.pair (.int .i64) (.int .i64)] F_sign_Key), (16, true, ent [.pair (.int .i64) (.int .i64), .str, .str] [.pair (.int .i64) (.int .i64)] F_sign_Sign), (18, true, ent [.int .i64, .str, .str, .pair (.int .i64) (.int .i64)] [.bool] F_sign_Verify)] []
def f_bournelaw05_SignRanges_b {Ω : Type} (ret : Bool × Unit → Option Ω) (k : Nat)  (a0 : ByteArray) (a1 : ByteArray) (a2 : ByteArray) (a3 : Int) : Option Ω :=
  andK (F_bournelaw05_small (())) fun (r1 : Bool × Unit) =>
  andK (F_bournelaw05_short (a0, a1, a2, ())) fun (r2 : Bool × Unit) =>
  bif (!r2.1) then
    ret ((r1.1 : Bool), ())
  else
  bif (a3 == 0) then
    ret ((r1.1 : Bool), ())
  else
  bif (decide (a3 < (-3))) then
    ret ((r1.1 : Bool), ())
  else
  bif (decide (a3 > 3)) then
    ret ((r1.1 : Bool), ())
  else
  andK (F_sign_Key (a0, ())) fun (r7 : (Int × Int) × Unit) =>
  andK (F_sign_Sign ((r7.1 : Int × Int), a1, a2, ())) fun (r8 : (Int × Int) × Unit) =>
  andK (F_sign_Verify ((r7.1.2 : Int), a1, a2, (((IntKind.wrap .i64 (r8.1.1 + (IntKind.wrap .i64 (a3 * 1152921504606845789)))), r8.1.2) : Int × Int), ())) fun (r11 : Bool × Unit) =>
  andK (F_sign_Verify ((r7.1.2 : Int), a1, a2, ((r8.1.1, (IntKind.wrap .i64 (r8.1.2 + (IntKind.wrap .i64 (a3 * 1152921504606845789))))) : Int × Int), ())) fun (r14 : Bool × Unit) =>
  bif (decide (a3 < 0)) then
    andK (F_sign_Verify ((IntKind.wrap .i64 (r7.1.2 + (IntKind.wrap .i64 (a3 * 2305843009213691579)))), a1, a2, (r8.1 : Int × Int), ())) fun (r18 : Bool × Unit) =>
    andK (F_sign_Verify ((IntKind.wrap .i64 (2305843009213691579 - r7.1.2)), a1, a2, (r8.1 : Int × Int), ())) fun (r20 : Bool × Unit) =>
    bif r1.1 then
      bif (!r11.1) then
        bif (!r14.1) then
          bif (!r18.1) then
            ret ((!r20.1), ())
          else
          ret (false, ())
        else
        ret (false, ())
      else
      ret (false, ())
    else
    ret (false, ())
  else
  andK (F_sign_Verify ((IntKind.wrap .i64 (2305843009213691579 - r7.1.2)), a1, a2, (r8.1 : Int × Int), ())) fun (r26 : Bool × Unit) =>
  bif r1.1 then
    bif (!r11.1) then
      bif (!r14.1) then
        ret ((!r26.1), ())
      else
      ret (false, ())
    else
    ret (false, ())
  else
  ret (false, ())
def f_bournelaw05_SignRanges {Ω : Type} (ret : Bool × Unit → Option Ω) (k : Nat) (a0 : ByteArray) (a1 : ByteArray) (a2 : ByteArray) (a3 : Int) : Option Ω := f_bournelaw05_SignRanges_b ret k a0 a1 a2 a3
theorem f_bournelaw05_SignRanges_run (m : Int) {Ω : Type} (ret : Bool × Unit → Option Ω) (k : Nat) (a0 : ByteArray) (a1 : ByteArray) (a2 : ByteArray) (a3 : Int) : run (E_bournelaw05_SignRanges m Ω) [] k Tryd.f6 [.str a0, .str a1, .str a2, .int .i64 a3] [] (resK [.bool] ret) = f_bournelaw05_SignRanges ret k a0 a1 a2 a3 := by
  show _ = f_bournelaw05_SignRanges_b ret k a0 a1 a2 a3
  kernel_rfl
def F_bournelaw05_SignRanges (a : ByteArray × ByteArray × ByteArray × Int × Unit) : Option (Bool × Unit) := f_bournelaw05_SignRanges some 0 a.1 a.2.1 a.2.2.1 a.2.2.2.1
theorem f_bournelaw05_SignRanges_at : Tryd.prog.funcs[6]? = some Tryd.f6 := by kernel_rfl
theorem E_bournelaw05_SignRanges_ok (m : Int) (Ω : Type) : EnvOk Tryd.prog (E_bournelaw05_SignRanges m Ω) := envT_ok T_ok (by
  intro e he
  simp only [List.mem_cons, List.not_mem_nil, or_false] at he
  rcases he with rfl | rfl | rfl | rfl | rfl
  · exact ent_ok fun a r h => F_bournelaw05_small_ok a r h m
  · exact ent_ok fun a r h => F_bournelaw05_short_ok a r h m
  · exact ent_ok fun a r h => F_sign_Key_ok a r h m
  · exact ent_ok fun a r h => F_sign_Sign_ok a r h m
  · exact ent_ok fun a r h => F_sign_Verify_ok a r h m) (by intro e he; cases he)
theorem F_bournelaw05_SignRanges_ok (a : Tys [.str, .str, .str, .int .i64]) (r : Tys [.bool]) (h : F_bournelaw05_SignRanges a = some r) (m : Int) : PContract Tryd.prog (GL m) 6 (injL [.str, .str, .str, .int .i64] a) (injR [.bool] r) := by
  exact PContract.of_run (E := E_bournelaw05_SignRanges m (Tys [.bool])) (un := []) (k := 0) (E_bournelaw05_SignRanges_ok m _) mixed (callOk_of f_bournelaw05_SignRanges_at (by kernel_rfl) (by kernel_rfl)) f_bournelaw05_SignRanges_at ((f_bournelaw05_SignRanges_run m some 0 a.1 a.2.1 a.2.2.1 a.2.2.2.1).trans h)
/-! bourne/group.Inv -/
noncomputable def E_group_Inv (m : Int) (Ω : Type) : Env Ω := envT T (GL m) [(24, true, ent [.int .i64, .int .i64] [.int .i64] F_group_Exp), (40, true, ent [.int .i64, .int .i64] [.int .i64] F_group_residue)] []
def f_group_Inv_b {Ω : Type} (ret : Int × Bool × Unit → Option Ω) (k : Nat)  (a0 : Int) : Option Ω :=
  andK (F_group_residue (a0, (2305843009213691579 : Int), ())) fun (r1 : Int × Unit) =>
  bif (r1.1 == 0) then
    ret ((0 : Int), false, ())
  else
  andK (F_group_Exp (a0, (2305843009213691577 : Int), ())) fun (r3 : Int × Unit) =>
  ret ((r3.1 : Int), true, ())
def f_group_Inv {Ω : Type} (ret : Int × Bool × Unit → Option Ω) (k : Nat) (a0 : Int) : Option Ω := f_group_Inv_b ret k a0
theorem f_group_Inv_run (m : Int) {Ω : Type} (ret : Int × Bool × Unit → Option Ω) (k : Nat) (a0 : Int) : run (E_group_Inv m Ω) [] k Tryd.f23 [.int .i64 a0] [] (resK [.int .i64, .bool] ret) = f_group_Inv ret k a0 := by
  show _ = f_group_Inv_b ret k a0
  kernel_rfl
def F_group_Inv (a : Int × Unit) : Option (Int × Bool × Unit) := f_group_Inv some 0 a.1
theorem f_group_Inv_at : Tryd.prog.funcs[23]? = some Tryd.f23 := by kernel_rfl
theorem E_group_Inv_ok (m : Int) (Ω : Type) : EnvOk Tryd.prog (E_group_Inv m Ω) := envT_ok T_ok (by
  intro e he
  simp only [List.mem_cons, List.not_mem_nil, or_false] at he
  rcases he with rfl | rfl
  · exact ent_ok fun a r h => F_group_Exp_ok a r h m
  · exact ent_ok fun a r h => F_group_residue_ok a r h m) (by intro e he; cases he)
theorem F_group_Inv_ok (a : Tys [.int .i64]) (r : Tys [.int .i64, .bool]) (h : F_group_Inv a = some r) (m : Int) : PContract Tryd.prog (GL m) 23 (injL [.int .i64] a) (injR [.int .i64, .bool] r) := by
  exact PContract.of_run (E := E_group_Inv m (Tys [.int .i64, .bool])) (un := []) (k := 0) (E_group_Inv_ok m _) mixed (callOk_of f_group_Inv_at (by kernel_rfl) (by kernel_rfl)) f_group_Inv_at ((f_group_Inv_run m some 0 a.1).trans h)
end
end Go.Proofs.YtnebpmcmdmpoaaaDoor.R
