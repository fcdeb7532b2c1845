-- Go functions as Lean functions, printed by prs.py (this session's program)
import Derived.Test.YtnebpmcmdmpoaaaDoorG2
import Derived.KernelRfl
namespace Go.Proofs.YtnebpmcmdmpoaaaDoor.R
open Go
set_option maxRecDepth 100000
set_option maxHeartbeats 4000000
set_option linter.unusedVariables false
noncomputable section
/-! bourne/sign.Key -/
noncomputable def E_sign_Key (m : Int) (Ω : Type) : Env Ω := envT T (GL m) [(12, true, ent [.int .i64] [.pair (.int .i64) (.int .i64)] F_sign_Of), (26, true, ent [.sl .str] [.int .i64] F_sign_secret), (27, true, ent [.str] [.str] F_wire_Text)] []
def f_sign_Key_b {Ω : Type} (ret : (Int × Int) × Unit → Option Ω) (k : Nat)  (a0 : ByteArray) : Option Ω :=
  andK (F_wire_Text (((⟨#[107, 101, 121]⟩ : ByteArray) : ByteArray), ())) fun (r1 : ByteArray × Unit) =>
  andK (F_wire_Text (a0, ())) fun (r2 : ByteArray × Unit) =>
  andK (F_sign_secret (((⟨false, [r1.1, r2.1]⟩ : Sl ByteArray) : Sl ByteArray), ())) fun (r3 : Int × Unit) =>
  andK (F_sign_Of ((r3.1 : Int), ())) fun (r4 : (Int × Int) × Unit) =>
  ret ((r4.1 : Int × Int), ())
def f_sign_Key {Ω : Type} (ret : (Int × Int) × Unit → Option Ω) (k : Nat) (a0 : ByteArray) : Option Ω := f_sign_Key_b ret k a0
theorem f_sign_Key_run (m : Int) {Ω : Type} (ret : (Int × Int) × Unit → Option Ω) (k : Nat) (a0 : ByteArray) : run (E_sign_Key m Ω) [] k Tryd.f10 [.str a0] [] (resK [.pair (.int .i64) (.int .i64)] ret) = f_sign_Key ret k a0 := by
  show _ = f_sign_Key_b ret k a0
  kernel_rfl
def F_sign_Key (a : ByteArray × Unit) : Option ((Int × Int) × Unit) := f_sign_Key some 0 a.1
theorem f_sign_Key_at : Tryd.prog.funcs[10]? = some Tryd.f10 := by kernel_rfl
theorem E_sign_Key_ok (m : Int) (Ω : Type) : EnvOk Tryd.prog (E_sign_Key m Ω) := envT_ok T_ok (by
  intro e he
  simp only [List.mem_cons, List.not_mem_nil, or_false] at he
  rcases he with rfl | rfl | rfl
  · exact ent_ok fun a r h => F_sign_Of_ok a r h m
  · exact ent_ok fun a r h => F_sign_secret_ok a r h m
  · exact ent_ok fun a r h => F_wire_Text_ok a r h m) (by intro e he; cases he)
theorem F_sign_Key_ok (a : Tys [.str]) (r : Tys [.pair (.int .i64) (.int .i64)]) (h : F_sign_Key a = some r) (m : Int) : PContract Tryd.prog (GL m) 10 (injL [.str] a) (injR [.pair (.int .i64) (.int .i64)] r) := by
  exact PContract.of_run (E := E_sign_Key m (Tys [.pair (.int .i64) (.int .i64)])) (un := []) (k := 0) (E_sign_Key_ok m _) mixed (callOk_of f_sign_Key_at (by kernel_rfl) (by kernel_rfl)) f_sign_Key_at ((f_sign_Key_run m some 0 a.1).trans h)
/-! bourne/sign.Right -/
noncomputable def E_sign_Right (m : Int) (Ω : Type) : Env Ω := envT T (GL m) [(12, true, ent [.int .i64] [.pair (.int .i64) (.int .i64)] F_sign_Of)] []
def f_sign_Right_b {Ω : Type} (ret : Bool × Unit → Option Ω) (k : Nat)  (a0 : Int × Int) : Option Ω :=
  bif (decide (a0.1 > 0)) then
    andK (F_sign_Of ((a0.1 : Int), ())) fun (r2 : (Int × Int) × Unit) =>
    ret (((a0.1 == r2.1.1) && ((a0.2 == r2.1.2) && true)), ())
  else
  ret (false, ())
def f_sign_Right {Ω : Type} (ret : Bool × Unit → Option Ω) (k : Nat) (a0 : Int × Int) : Option Ω := f_sign_Right_b ret k a0
theorem f_sign_Right_run (m : Int) {Ω : Type} (ret : Bool × Unit → Option Ω) (k : Nat) (a0 : Int × Int) : run (E_sign_Right m Ω) [] k Tryd.f14 [.agg [.int .i64 a0.1, .int .i64 a0.2]] [] (resK [.bool] ret) = f_sign_Right ret k a0 := by
  show _ = f_sign_Right_b ret k a0
  kernel_rfl
def F_sign_Right (a : (Int × Int) × Unit) : Option (Bool × Unit) := f_sign_Right some 0 a.1
theorem f_sign_Right_at : Tryd.prog.funcs[14]? = some Tryd.f14 := by kernel_rfl
theorem E_sign_Right_ok (m : Int) (Ω : Type) : EnvOk Tryd.prog (E_sign_Right m Ω) := envT_ok T_ok (by
  intro e he
  simp only [List.mem_cons, List.not_mem_nil, or_false] at he
  rcases he with rfl
  · exact ent_ok fun a r h => F_sign_Of_ok a r h m) (by intro e he; cases he)
theorem F_sign_Right_ok (a : Tys [.pair (.int .i64) (.int .i64)]) (r : Tys [.bool]) (h : F_sign_Right a = some r) (m : Int) : PContract Tryd.prog (GL m) 14 (injL [.pair (.int .i64) (.int .i64)] a) (injR [.bool] r) := by
  exact PContract.of_run (E := E_sign_Right m (Tys [.bool])) (un := []) (k := 0) (E_sign_Right_ok m _) mixed (callOk_of f_sign_Right_at (by kernel_rfl) (by kernel_rfl)) f_sign_Right_at ((f_sign_Right_run m some 0 a.1).trans h)
/-! bourne/wire.size -/
noncomputable def E_wire_size (m : Int) (Ω : Type) : Env Ω := envT T (GL m) [(70, true, ent [.int .u64] [.int .i64] F_math_bits_Len64)] []
def f_wire_size_b {Ω : Type} (ret : Int × Unit → Option Ω) (k : Nat)  (a0 : Int) : Option Ω :=
  andK (F_math_bits_Len64 (a0, ())) fun (r1 : Int × Unit) =>
  ret ((IntKind.wrap .i64 (Int.tdiv (IntKind.wrap .i64 (r1.1 + 7)) 8)), ())
def f_wire_size {Ω : Type} (ret : Int × Unit → Option Ω) (k : Nat) (a0 : Int) : Option Ω := f_wire_size_b ret k a0
theorem f_wire_size_run (m : Int) {Ω : Type} (ret : Int × Unit → Option Ω) (k : Nat) (a0 : Int) : run (E_wire_size m Ω) [] k Tryd.f57 [.int .u64 a0] [] (resK [.int .i64] ret) = f_wire_size ret k a0 := by
  show _ = f_wire_size_b ret k a0
  kernel_rfl
def F_wire_size (a : Int × Unit) : Option (Int × Unit) := f_wire_size some 0 a.1
theorem f_wire_size_at : Tryd.prog.funcs[57]? = some Tryd.f57 := by kernel_rfl
theorem E_wire_size_ok (m : Int) (Ω : Type) : EnvOk Tryd.prog (E_wire_size m Ω) := envT_ok T_ok (by
  intro e he
  simp only [List.mem_cons, List.not_mem_nil, or_false] at he
  rcases he with rfl
  · exact ent_ok fun a r h => F_math_bits_Len64_ok a r h m) (by intro e he; cases he)
theorem F_wire_size_ok (a : Tys [.int .u64]) (r : Tys [.int .i64]) (h : F_wire_size a = some r) (m : Int) : PContract Tryd.prog (GL m) 57 (injL [.int .u64] a) (injR [.int .i64] r) := by
  exact PContract.of_run (E := E_wire_size m (Tys [.int .i64])) (un := []) (k := 0) (E_wire_size_ok m _) mixed (callOk_of f_wire_size_at (by kernel_rfl) (by kernel_rfl)) f_wire_size_at ((f_wire_size_run m some 0 a.1).trans h)
/-! bourne/wire.Int -/
noncomputable def E_wire_Int (m : Int) (Ω : Type) : Env Ω := envT T (GL m) [(57, true, ent [.int .u64] [.int .i64] F_wire_size)] []
def S_wire_Int_0 (t3 : Int) (t4 : Int) (t8 : Int) (b0 : Sl Int) : St := ⟨[.undef, .undef, .undef, .int .u64 t3, .int .u8 t4, .undef, .undef, .own 0, .int .i64 t8, .undef, .undef, .undef, .undef, .undef, .undef, .undef, .undef, .undef, .undef, .undef, .undef, .undef, .undef, .undef, .undef, .undef, .undef, .undef, .undef, .undef, .undef, .undef, .undef, .undef, .undef, .undef, .undef, .undef, .undef, .undef, .undef, .undef, .undef, .undef, .undef], [.rows (.int .u8) b0]⟩
def f_wire_Int_l0s {Ω : Type} (ret : ByteArray × Unit → Option Ω) (k : Nat)  (c0 : Int → Int → Int → (Sl Int) → Option Ω)  (t3 : Int) (t4 : Int) (t8 : Int) (b0 : Sl Int) : Option Ω :=
  bif (decide (t8 ≥ 0)) then
    let x12 : Int := (IntKind.wrap .i64 (8 * t8))
    bif (decide (x12 < 0)) then
      none
    else
    bif (room ((b0.l.length : Int) + 1) 1) then
    c0 t3 t4 (IntKind.wrap .i64 (t8 - 1)) (⟨(b0.nl && false), (b0.l ++ [(ixor .u8 (IntKind.wrap .u8 (shr .u64 t3 x12)) t4)])⟩ : Sl Int)
    else none
  else
  ret ((strOf b0.l), ())
def f_wire_Int_l0 {Ω : Type} (ret : ByteArray × Unit → Option Ω) (k : Nat)  : Nat → Int → Int → Int → (Sl Int) → Option Ω
  | 0 => fun _ _ _ _ => none
  | n + 1 => f_wire_Int_l0s ret k (f_wire_Int_l0 ret k n)
def f_wire_Int_b {Ω : Type} (ret : ByteArray × Unit → Option Ω) (k : Nat) (l0 : Nat → Int → Int → Int → (Sl Int) → Option Ω) (a0 : Int) : Option Ω :=
  let x1 : Int := (IntKind.wrap .u64 a0)
  bif (decide (a0 < 0)) then
    andK (F_wire_size ((inot .u64 x1), ())) fun (r4 : Int × Unit) =>
    bif (decide (a0 < 0)) then
      l0 k (inot .u64 x1) (255 : Int) (IntKind.wrap .i64 (r4.1 - 1)) (⟨false, [(IntKind.wrap .u8 (IntKind.wrap .i64 (127 - r4.1)))]⟩ : Sl Int)
    else
    l0 k (inot .u64 x1) (255 : Int) (IntKind.wrap .i64 (r4.1 - 1)) (⟨false, [(IntKind.wrap .u8 (IntKind.wrap .i64 (128 + r4.1)))]⟩ : Sl Int)
  else
  andK (F_wire_size (x1, ())) fun (r20 : Int × Unit) =>
  bif (decide (a0 < 0)) then
    l0 k x1 (0 : Int) (IntKind.wrap .i64 (r20.1 - 1)) (⟨false, [(IntKind.wrap .u8 (IntKind.wrap .i64 (127 - r20.1)))]⟩ : Sl Int)
  else
  l0 k x1 (0 : Int) (IntKind.wrap .i64 (r20.1 - 1)) (⟨false, [(IntKind.wrap .u8 (IntKind.wrap .i64 (128 + r20.1)))]⟩ : Sl Int)
def f_wire_Int {Ω : Type} (ret : ByteArray × Unit → Option Ω) (k : Nat) (a0 : Int) : Option Ω := f_wire_Int_b ret k (f_wire_Int_l0 ret k) a0
theorem f_wire_Int_l0_eq (m : Int) {Ω : Type} (ret : ByteArray × Unit → Option Ω) (k : Nat)  : ∀ (n : Nat) (t3 : Int) (t4 : Int) (t8 : Int) (b0 : Sl Int), loopAt (E_wire_Int m Ω) (resLive Tryd.f47.results.toList) [] k (spotF (E_wire_Int m Ω) [] k Tryd.f47 [] [true, true, true, true, true, true, true, false, true, false] (resK [.str] ret)) n (S_wire_Int_0 t3 t4 t8 b0) = f_wire_Int_l0 ret k n t3 t4 t8 b0 := by
  intro n
  induction n with
  | zero => intros; rw [loopAt_zero]; rfl
  | succ n ih =>
    intros t3 t4 t8 b0
    rw [loopAt_succ]
    have e : f_wire_Int_l0 ret k n = fun t3 t4 t8 b0 => loopAt (E_wire_Int m Ω) (resLive Tryd.f47.results.toList) [] k (spotF (E_wire_Int m Ω) [] k Tryd.f47 [] [true, true, true, true, true, true, true, false, true, false] (resK [.str] ret)) n (S_wire_Int_0 t3 t4 t8 b0) := by funext t3 t4 t8 b0; exact (ih t3 t4 t8 b0).symm
    show _ = f_wire_Int_l0s ret k (f_wire_Int_l0 ret k n) t3 t4 t8 b0
    rw [e]
    kernel_rfl
theorem f_wire_Int_run (m : Int) {Ω : Type} (ret : ByteArray × Unit → Option Ω) (k : Nat) (a0 : Int) : run (E_wire_Int m Ω) [] k Tryd.f47 [.int .i64 a0] [] (resK [.str] ret) = f_wire_Int ret k a0 := by
  have e0 : f_wire_Int_l0 ret k = fun m_ t3_ t4_ t8_ b0_ => loopAt (E_wire_Int m Ω) (resLive Tryd.f47.results.toList) [] k (spotF (E_wire_Int m Ω) [] k Tryd.f47 [] [true, true, true, true, true, true, true, false, true, false] (resK [.str] ret)) m_ (S_wire_Int_0 t3_ t4_ t8_ b0_) := by funext m_ t3_ t4_ t8_ b0_; exact (f_wire_Int_l0_eq m ret k m_ t3_ t4_ t8_ b0_).symm
  show _ = f_wire_Int_b ret k (f_wire_Int_l0 ret k) a0
  rw [e0]
  kernel_rfl
def F_wire_Int (a : Int × Unit) : Option (ByteArray × Unit) := ends fun k => f_wire_Int some k a.1
theorem f_wire_Int_at : Tryd.prog.funcs[47]? = some Tryd.f47 := by kernel_rfl
theorem E_wire_Int_ok (m : Int) (Ω : Type) : EnvOk Tryd.prog (E_wire_Int m Ω) := envT_ok T_ok (by
  intro e he
  simp only [List.mem_cons, List.not_mem_nil, or_false] at he
  rcases he with rfl
  · exact ent_ok fun a r h => F_wire_size_ok a r h m) (by intro e he; cases he)
theorem F_wire_Int_ok (a : Tys [.int .i64]) (r : Tys [.str]) (h : F_wire_Int a = some r) (m : Int) : PContract Tryd.prog (GL m) 47 (injL [.int .i64] a) (injR [.str] r) := by
  obtain ⟨k, h⟩ := ends_some h
  exact PContract.of_run (E := E_wire_Int m (Tys [.str])) (un := []) (k := k) (E_wire_Int_ok m _) mixed (callOk_of f_wire_Int_at (by kernel_rfl) (by kernel_rfl)) f_wire_Int_at ((f_wire_Int_run m some k a.1).trans h)
/-! bourne/wire.Num -/
noncomputable def E_wire_Num (m : Int) (Ω : Type) : Env Ω := envT T (GL m) [(47, true, ent [.int .i64] [.str] F_wire_Int)] []
def f_wire_Num_b {Ω : Type} (ret : ByteArray × Unit → Option Ω) (k : Nat)  (a0 : Int) : Option Ω :=
  bif (decide (a0 < 0)) then
    ret (((⟨#[]⟩ : ByteArray) : ByteArray), ())
  else
  andK (F_wire_Int (a0, ())) fun (r2 : ByteArray × Unit) =>
  ret ((r2.1 : ByteArray), ())
def f_wire_Num {Ω : Type} (ret : ByteArray × Unit → Option Ω) (k : Nat) (a0 : Int) : Option Ω := f_wire_Num_b ret k a0
theorem f_wire_Num_run (m : Int) {Ω : Type} (ret : ByteArray × Unit → Option Ω) (k : Nat) (a0 : Int) : run (E_wire_Num m Ω) [] k Tryd.f31 [.int .i64 a0] [] (resK [.str] ret) = f_wire_Num ret k a0 := by
  show _ = f_wire_Num_b ret k a0
  kernel_rfl
def F_wire_Num (a : Int × Unit) : Option (ByteArray × Unit) := f_wire_Num some 0 a.1
theorem f_wire_Num_at : Tryd.prog.funcs[31]? = some Tryd.f31 := by kernel_rfl
theorem E_wire_Num_ok (m : Int) (Ω : Type) : EnvOk Tryd.prog (E_wire_Num m Ω) := envT_ok T_ok (by
  intro e he
  simp only [List.mem_cons, List.not_mem_nil, or_false] at he
  rcases he with rfl
  · exact ent_ok fun a r h => F_wire_Int_ok a r h m) (by intro e he; cases he)
theorem F_wire_Num_ok (a : Tys [.int .i64]) (r : Tys [.str]) (h : F_wire_Num a = some r) (m : Int) : PContract Tryd.prog (GL m) 31 (injL [.int .i64] a) (injR [.str] r) := by
  exact PContract.of_run (E := E_wire_Num m (Tys [.str])) (un := []) (k := 0) (E_wire_Num_ok m _) mixed (callOk_of f_wire_Num_at (by kernel_rfl) (by kernel_rfl)) f_wire_Num_at ((f_wire_Num_run m some 0 a.1).trans h)
/-! bourne/sign.challenge -/
noncomputable def E_sign_challenge (m : Int) (Ω : Type) : Env Ω := envT T (GL m) [(27, true, ent [.str] [.str] F_wire_Text), (31, true, ent [.int .i64] [.str] F_wire_Num), (42, true, ent [.sl .str] [.int .i64] F_sign_hash)] []
def f_sign_challenge_b {Ω : Type} (ret : Int × Unit → Option Ω) (k : Nat)  (a0 : Int) (a1 : Int) (a2 : ByteArray) (a3 : ByteArray) : Option Ω :=
  andK (F_wire_Text (((⟨#[115, 105, 103, 110]⟩ : ByteArray) : ByteArray), ())) fun (r1 : ByteArray × Unit) =>
  andK (F_wire_Num (a0, ())) fun (r2 : ByteArray × Unit) =>
  andK (F_wire_Num (a1, ())) fun (r3 : ByteArray × Unit) =>
  andK (F_wire_Text (a2, ())) fun (r4 : ByteArray × Unit) =>
  andK (F_wire_Text (a3, ())) fun (r5 : ByteArray × Unit) =>
  andK (F_sign_hash (((⟨false, [r1.1, r2.1, r3.1, r4.1, r5.1]⟩ : Sl ByteArray) : Sl ByteArray), ())) fun (r6 : Int × Unit) =>
  ret ((Int.tmod r6.1 1152921504606845789), ())
def f_sign_challenge {Ω : Type} (ret : Int × Unit → Option Ω) (k : Nat) (a0 : Int) (a1 : Int) (a2 : ByteArray) (a3 : ByteArray) : Option Ω := f_sign_challenge_b ret k a0 a1 a2 a3
theorem f_sign_challenge_run (m : Int) {Ω : Type} (ret : Int × Unit → Option Ω) (k : Nat) (a0 : Int) (a1 : Int) (a2 : ByteArray) (a3 : ByteArray) : run (E_sign_challenge m Ω) [] k Tryd.f32 [.int .i64 a0, .int .i64 a1, .str a2, .str a3] [] (resK [.int .i64] ret) = f_sign_challenge ret k a0 a1 a2 a3 := by
  show _ = f_sign_challenge_b ret k a0 a1 a2 a3
  kernel_rfl
def F_sign_challenge (a : Int × Int × ByteArray × ByteArray × Unit) : Option (Int × Unit) := f_sign_challenge some 0 a.1 a.2.1 a.2.2.1 a.2.2.2.1
theorem f_sign_challenge_at : Tryd.prog.funcs[32]? = some Tryd.f32 := by kernel_rfl
theorem E_sign_challenge_ok (m : Int) (Ω : Type) : EnvOk Tryd.prog (E_sign_challenge m Ω) := envT_ok T_ok (by
  intro e he
  simp only [List.mem_cons, List.not_mem_nil, or_false] at he
  rcases he with rfl | rfl | rfl
  · exact ent_ok fun a r h => F_wire_Text_ok a r h m
  · exact ent_ok fun a r h => F_wire_Num_ok a r h m
  · exact ent_ok fun a r h => F_sign_hash_ok a r h m) (by intro e he; cases he)
theorem F_sign_challenge_ok (a : Tys [.int .i64, .int .i64, .str, .str]) (r : Tys [.int .i64]) (h : F_sign_challenge a = some r) (m : Int) : PContract Tryd.prog (GL m) 32 (injL [.int .i64, .int .i64, .str, .str] a) (injR [.int .i64] r) := by
  exact PContract.of_run (E := E_sign_challenge m (Tys [.int .i64])) (un := []) (k := 0) (E_sign_challenge_ok m _) mixed (callOk_of f_sign_challenge_at (by kernel_rfl) (by kernel_rfl)) f_sign_challenge_at ((f_sign_challenge_run m some 0 a.1 a.2.1 a.2.2.1 a.2.2.2.1).trans h)
/-! bourne/group.AddQ -/
noncomputable def E_group_AddQ (m : Int) (Ω : Type) : Env Ω := envT T (GL m) [(40, true, ent [.int .i64, .int .i64] [.int .i64] F_group_residue)] []
def f_group_AddQ_b {Ω : Type} (ret : Int × Unit → Option Ω) (k : Nat)  (a0 : Int) (a1 : Int) : Option Ω :=
  andK (F_group_residue (a0, (1152921504606845789 : Int), ())) fun (r1 : Int × Unit) =>
  andK (F_group_residue (a1, (1152921504606845789 : Int), ())) fun (r2 : Int × Unit) =>
  andK (F_group_residue ((IntKind.wrap .i64 (r1.1 + r2.1)), (1152921504606845789 : Int), ())) fun (r4 : Int × Unit) =>
  ret ((r4.1 : Int), ())
def f_group_AddQ {Ω : Type} (ret : Int × Unit → Option Ω) (k : Nat) (a0 : Int) (a1 : Int) : Option Ω := f_group_AddQ_b ret k a0 a1
theorem f_group_AddQ_run (m : Int) {Ω : Type} (ret : Int × Unit → Option Ω) (k : Nat) (a0 : Int) (a1 : Int) : run (E_group_AddQ m Ω) [] k Tryd.f33 [.int .i64 a0, .int .i64 a1] [] (resK [.int .i64] ret) = f_group_AddQ ret k a0 a1 := by
  show _ = f_group_AddQ_b ret k a0 a1
  kernel_rfl
def F_group_AddQ (a : Int × Int × Unit) : Option (Int × Unit) := f_group_AddQ some 0 a.1 a.2.1
theorem f_group_AddQ_at : Tryd.prog.funcs[33]? = some Tryd.f33 := by kernel_rfl
theorem E_group_AddQ_ok (m : Int) (Ω : Type) : EnvOk Tryd.prog (E_group_AddQ m Ω) := envT_ok T_ok (by
  intro e he
  simp only [List.mem_cons, List.not_mem_nil, or_false] at he
  rcases he with rfl
  · exact ent_ok fun a r h => F_group_residue_ok a r h m) (by intro e he; cases he)
theorem F_group_AddQ_ok (a : Tys [.int .i64, .int .i64]) (r : Tys [.int .i64]) (h : F_group_AddQ a = some r) (m : Int) : PContract Tryd.prog (GL m) 33 (injL [.int .i64, .int .i64] a) (injR [.int .i64] r) := by
  exact PContract.of_run (E := E_group_AddQ m (Tys [.int .i64])) (un := []) (k := 0) (E_group_AddQ_ok m _) mixed (callOk_of f_group_AddQ_at (by kernel_rfl) (by kernel_rfl)) f_group_AddQ_at ((f_group_AddQ_run m some 0 a.1 a.2.1).trans h)
/-! bourne/group.MulQ -/
noncomputable def E_group_MulQ (m : Int) (Ω : Type) : Env Ω := envT T (GL m) [(40, true, ent [.int .i64, .int .i64] [.int .i64] F_group_residue), (41, true, ent [.int .i64, .int .i64, .int .i64] [.int .i64] F_group_product)] []
def f_group_MulQ_b {Ω : Type} (ret : Int × Unit → Option Ω) (k : Nat)  (a0 : Int) (a1 : Int) : Option Ω :=
  andK (F_group_residue (a0, (1152921504606845789 : Int), ())) fun (r1 : Int × Unit) =>
  andK (F_group_residue (a1, (1152921504606845789 : Int), ())) fun (r2 : Int × Unit) =>
  andK (F_group_product ((r1.1 : Int), (r2.1 : Int), (1152921504606845789 : Int), ())) fun (r3 : Int × Unit) =>
  ret ((r3.1 : Int), ())
def f_group_MulQ {Ω : Type} (ret : Int × Unit → Option Ω) (k : Nat) (a0 : Int) (a1 : Int) : Option Ω := f_group_MulQ_b ret k a0 a1
theorem f_group_MulQ_run (m : Int) {Ω : Type} (ret : Int × Unit → Option Ω) (k : Nat) (a0 : Int) (a1 : Int) : run (E_group_MulQ m Ω) [] k Tryd.f34 [.int .i64 a0, .int .i64 a1] [] (resK [.int .i64] ret) = f_group_MulQ ret k a0 a1 := by
  show _ = f_group_MulQ_b ret k a0 a1
  kernel_rfl
def F_group_MulQ (a : Int × Int × Unit) : Option (Int × Unit) := f_group_MulQ some 0 a.1 a.2.1
theorem f_group_MulQ_at : Tryd.prog.funcs[34]? = some Tryd.f34 := by kernel_rfl
theorem E_group_MulQ_ok (m : Int) (Ω : Type) : EnvOk Tryd.prog (E_group_MulQ m Ω) := envT_ok T_ok (by
  intro e he
  simp only [List.mem_cons, List.not_mem_nil, or_false] at he
  rcases he with rfl | rfl
  · exact ent_ok fun a r h => F_group_residue_ok a r h m
  · exact ent_ok fun a r h => F_group_product_ok a r h m) (by intro e he; cases he)
theorem F_group_MulQ_ok (a : Tys [.int .i64, .int .i64]) (r : Tys [.int .i64]) (h : F_group_MulQ a = some r) (m : Int) : PContract Tryd.prog (GL m) 34 (injL [.int .i64, .int .i64] a) (injR [.int .i64] r) := by
  exact PContract.of_run (E := E_group_MulQ m (Tys [.int .i64])) (un := []) (k := 0) (E_group_MulQ_ok m _) mixed (callOk_of f_group_MulQ_at (by kernel_rfl) (by kernel_rfl)) f_group_MulQ_at ((f_group_MulQ_run m some 0 a.1 a.2.1).trans h)
/-! bourne/sign.Sign -/
noncomputable def E_sign_Sign (m : Int) (Ω : Type) : Env Ω := envT T (GL m) [(14, true, ent [.pair (.int .i64) (.int .i64)] [.bool] F_sign_Right), (24, true, ent [.int .i64, .int .i64] [.int .i64] F_group_Exp), (26, true, ent [.sl .str] [.int .i64] F_sign_secret), (27, true, ent [.str] [.str] F_wire_Text), (31, true, ent [.int .i64] [.str] F_wire_Num), (32, true, ent [.int .i64, .int .i64, .str, .str] [.int .i64] F_sign_challenge), (33, true, ent [.int .i64, .int .i64] [.int .i64] F_group_AddQ), (34, true, ent [.int .i64, .int .i64] [.int .i64] F_group_MulQ)] []
def f_sign_Sign_b {Ω : Type} (ret : (Int × Int) × Unit → Option Ω) (k : Nat)  (a0 : Int × Int) (a1 : ByteArray) (a2 : ByteArray) : Option Ω :=
  andK (F_sign_Right (a0, ())) fun (r1 : Bool × Unit) =>
  bif (!r1.1) then
    ret (((0, 0) : Int × Int), ())
  else
  andK (F_wire_Text (((⟨#[110, 111, 110, 99, 101]⟩ : ByteArray) : ByteArray), ())) fun (r3 : ByteArray × Unit) =>
  andK (F_wire_Num ((a0.1 : Int), ())) fun (r4 : ByteArray × Unit) =>
  andK (F_wire_Text (a1, ())) fun (r5 : ByteArray × Unit) =>
  andK (F_wire_Text (a2, ())) fun (r6 : ByteArray × Unit) =>
  andK (F_sign_secret (((⟨false, [r3.1, r4.1, r5.1, r6.1]⟩ : Sl ByteArray) : Sl ByteArray), ())) fun (r7 : Int × Unit) =>
  andK (F_group_Exp ((4 : Int), (r7.1 : Int), ())) fun (r8 : Int × Unit) =>
  andK (F_sign_challenge ((r8.1 : Int), (a0.2 : Int), a1, a2, ())) fun (r9 : Int × Unit) =>
  andK (F_group_MulQ ((r9.1 : Int), (a0.1 : Int), ())) fun (r10 : Int × Unit) =>
  andK (F_group_AddQ ((r7.1 : Int), (r10.1 : Int), ())) fun (r11 : Int × Unit) =>
  ret (((r9.1, r11.1) : Int × Int), ())
def f_sign_Sign {Ω : Type} (ret : (Int × Int) × Unit → Option Ω) (k : Nat) (a0 : Int × Int) (a1 : ByteArray) (a2 : ByteArray) : Option Ω := f_sign_Sign_b ret k a0 a1 a2
theorem f_sign_Sign_run (m : Int) {Ω : Type} (ret : (Int × Int) × Unit → Option Ω) (k : Nat) (a0 : Int × Int) (a1 : ByteArray) (a2 : ByteArray) : run (E_sign_Sign m Ω) [] k Tryd.f16 [.agg [.int .i64 a0.1, .int .i64 a0.2], .str a1, .str a2] [] (resK [.pair (.int .i64) (.int .i64)] ret) = f_sign_Sign ret k a0 a1 a2 := by
  show _ = f_sign_Sign_b ret k a0 a1 a2
  kernel_rfl
def F_sign_Sign (a : (Int × Int) × ByteArray × ByteArray × Unit) : Option ((Int × Int) × Unit) := f_sign_Sign some 0 a.1 a.2.1 a.2.2.1
theorem f_sign_Sign_at : Tryd.prog.funcs[16]? = some Tryd.f16 := by kernel_rfl
theorem E_sign_Sign_ok (m : Int) (Ω : Type) : EnvOk Tryd.prog (E_sign_Sign m Ω) := envT_ok T_ok (by
  intro e he
  simp only [List.mem_cons, List.not_mem_nil, or_false] at he
  rcases he with rfl | rfl | rfl | rfl | rfl | rfl | rfl | rfl
  · exact ent_ok fun a r h => F_sign_Right_ok a r h m
  · exact ent_ok fun a r h => F_group_Exp_ok a r h m
  · exact ent_ok fun a r h => F_sign_secret_ok a r h m
  · exact ent_ok fun a r h => F_wire_Text_ok a r h m
  · exact ent_ok fun a r h => F_wire_Num_ok a r h m
  · exact ent_ok fun a r h => F_sign_challenge_ok a r h m
  · exact ent_ok fun a r h => F_group_AddQ_ok a r h m
  · exact ent_ok fun a r h => F_group_MulQ_ok a r h m) (by intro e he; cases he)
theorem F_sign_Sign_ok (a : Tys [.pair (.int .i64) (.int .i64), .str, .str]) (r : Tys [.pair (.int .i64) (.int .i64)]) (h : F_sign_Sign a = some r) (m : Int) : PContract Tryd.prog (GL m) 16 (injL [.pair (.int .i64) (.int .i64), .str, .str] a) (injR [.pair (.int .i64) (.int .i64)] r) := by
  exact PContract.of_run (E := E_sign_Sign m (Tys [.pair (.int .i64) (.int .i64)])) (un := []) (k := 0) (E_sign_Sign_ok m _) mixed (callOk_of f_sign_Sign_at (by kernel_rfl) (by kernel_rfl)) f_sign_Sign_at ((f_sign_Sign_run m some 0 a.1 a.2.1 a.2.2.1).trans h)
/-! bourne/group.In -/
noncomputable def E_group_In (m : Int) (Ω : Type) : Env Ω := envT T (GL m) [(24, true, ent [.int .i64, .int .i64] [.int .i64] F_group_Exp)] []
def f_group_In_b {Ω : Type} (ret : Bool × Unit → Option Ω) (k : Nat)  (a0 : Int) : Option Ω :=
  bif (decide (a0 > 0)) then
    bif (decide (a0 < 2305843009213691579)) then
      andK (F_group_Exp (a0, (1152921504606845789 : Int), ())) fun (r3 : Int × Unit) =>
      ret ((r3.1 == 1), ())
    else
    ret (false, ())
  else
  ret (false, ())
def f_group_In {Ω : Type} (ret : Bool × Unit → Option Ω) (k : Nat) (a0 : Int) : Option Ω := f_group_In_b ret k a0
theorem f_group_In_run (m : Int) {Ω : Type} (ret : Bool × Unit → Option Ω) (k : Nat) (a0 : Int) : run (E_group_In m Ω) [] k Tryd.f22 [.int .i64 a0] [] (resK [.bool] ret) = f_group_In ret k a0 := by
  show _ = f_group_In_b ret k a0
  kernel_rfl
def F_group_In (a : Int × Unit) : Option (Bool × Unit) := f_group_In some 0 a.1
theorem f_group_In_at : Tryd.prog.funcs[22]? = some Tryd.f22 := by kernel_rfl
theorem E_group_In_ok (m : Int) (Ω : Type) : EnvOk Tryd.prog (E_group_In m Ω) := envT_ok T_ok (by
  intro e he
  simp only [List.mem_cons, List.not_mem_nil, or_false] at he
  rcases he with rfl
  · exact ent_ok fun a r h => F_group_Exp_ok a r h m) (by intro e he; cases he)
theorem F_group_In_ok (a : Tys [.int .i64]) (r : Tys [.bool]) (h : F_group_In a = some r) (m : Int) : PContract Tryd.prog (GL m) 22 (injL [.int .i64] a) (injR [.bool] r) := by
  exact PContract.of_run (E := E_group_In m (Tys [.bool])) (un := []) (k := 0) (E_group_In_ok m _) mixed (callOk_of f_group_In_at (by kernel_rfl) (by kernel_rfl)) f_group_In_at ((f_group_In_run m some 0 a.1).trans h)
/-! bourne/group.Mul -/
noncomputable def E_group_Mul (m : Int) (Ω : Type) : Env Ω := envT T (GL m) [(40, true, ent [.int .i64, .int .i64] [.int .i64] F_group_residue), (41, true, ent [.int .i64, .int .i64, .int .i64] [.int .i64] F_group_product)] []
def f_group_Mul_b {Ω : Type} (ret : Int × Unit → Option Ω) (k : Nat)  (a0 : Int) (a1 : Int) : Option Ω :=
  andK (F_group_residue (a0, (2305843009213691579 : Int), ())) fun (r1 : Int × Unit) =>
  andK (F_group_residue (a1, (2305843009213691579 : Int), ())) fun (r2 : Int × Unit) =>
  andK (F_group_product ((r1.1 : Int), (r2.1 : Int), (2305843009213691579 : Int), ())) fun (r3 : Int × Unit) =>
  ret ((r3.1 : Int), ())
def f_group_Mul {Ω : Type} (ret : Int × Unit → Option Ω) (k : Nat) (a0 : Int) (a1 : Int) : Option Ω := f_group_Mul_b ret k a0 a1
theorem f_group_Mul_run (m : Int) {Ω : Type} (ret : Int × Unit → Option Ω) (k : Nat) (a0 : Int) (a1 : Int) : run (E_group_Mul m Ω) [] k Tryd.f25 [.int .i64 a0, .int .i64 a1] [] (resK [.int .i64] ret) = f_group_Mul ret k a0 a1 := by
  show _ = f_group_Mul_b ret k a0 a1
  kernel_rfl
def F_group_Mul (a : Int × Int × Unit) : Option (Int × Unit) := f_group_Mul some 0 a.1 a.2.1
theorem f_group_Mul_at : Tryd.prog.funcs[25]? = some Tryd.f25 := by kernel_rfl
theorem E_group_Mul_ok (m : Int) (Ω : Type) : EnvOk Tryd.prog (E_group_Mul m Ω) := envT_ok T_ok (by
  intro e he
  simp only [List.mem_cons, List.not_mem_nil, or_false] at he
  rcases he with rfl | rfl
  · exact ent_ok fun a r h => F_group_residue_ok a r h m
  · exact ent_ok fun a r h => F_group_product_ok a r h m) (by intro e he; cases he)
theorem F_group_Mul_ok (a : Tys [.int .i64, .int .i64]) (r : Tys [.int .i64]) (h : F_group_Mul a = some r) (m : Int) : PContract Tryd.prog (GL m) 25 (injL [.int .i64, .int .i64] a) (injR [.int .i64] r) := by
  exact PContract.of_run (E := E_group_Mul m (Tys [.int .i64])) (un := []) (k := 0) (E_group_Mul_ok m _) mixed (callOk_of f_group_Mul_at (by kernel_rfl) (by kernel_rfl)) f_group_Mul_at ((f_group_Mul_run m some 0 a.1 a.2.1).trans h)
/-! bourne/sign.Verify -/
noncomputable def E_sign_Verify (m : Int) (Ω : Type) : Env Ω := envT T (GL m) [(22, true, ent [.int .i64] [.bool] F_group_In), (24, true, ent [.int .i64, .int .i64] [.int .i64] F_group_Exp), (25, true, ent [.int .i64, .int .i64] [.int .i64] F_group_Mul), (32, true, ent [.int .i64, .int .i64, .str, .str] [.int .i64] F_sign_challenge)] []
def f_sign_Verify_b {Ω : Type} (ret : Bool × Unit → Option Ω) (k : Nat)  (a0 : Int) (a1 : ByteArray) (a2 : ByteArray) (a3 : Int × Int) : Option Ω :=
  bif (a0 == 1) then
    ret (false, ())
  else
  andK (F_group_In (a0, ())) fun (r2 : Bool × Unit) =>
  bif (!r2.1) then
    ret (false, ())
  else
  bif (decide (a3.1 < 0)) then
    ret (false, ())
  else
  bif (decide (a3.1 ≥ 1152921504606845789)) then
    ret (false, ())
  else
  bif (decide (a3.2 < 0)) then
    ret (false, ())
  else
  bif (decide (a3.2 ≥ 1152921504606845789)) then
    ret (false, ())
  else
  andK (F_group_Exp ((4 : Int), (a3.2 : Int), ())) fun (r8 : Int × Unit) =>
  andK (F_group_Exp (a0, (IntKind.wrap .i64 (1152921504606845789 - a3.1)), ())) fun (r10 : Int × Unit) =>
  andK (F_group_Mul ((r8.1 : Int), (r10.1 : Int), ())) fun (r11 : Int × Unit) =>
  andK (F_sign_challenge ((r11.1 : Int), a0, a1, a2, ())) fun (r12 : Int × Unit) =>
  ret ((r12.1 == a3.1), ())
def f_sign_Verify {Ω : Type} (ret : Bool × Unit → Option Ω) (k : Nat) (a0 : Int) (a1 : ByteArray) (a2 : ByteArray) (a3 : Int × Int) : Option Ω := f_sign_Verify_b ret k a0 a1 a2 a3
theorem f_sign_Verify_run (m : Int) {Ω : Type} (ret : Bool × Unit → Option Ω) (k : Nat) (a0 : Int) (a1 : ByteArray) (a2 : ByteArray) (a3 : Int × Int) : run (E_sign_Verify m Ω) [] k Tryd.f18 [.int .i64 a0, .str a1, .str a2, .agg [.int .i64 a3.1, .int .i64 a3.2]] [] (resK [.bool] ret) = f_sign_Verify ret k a0 a1 a2 a3 := by
  show _ = f_sign_Verify_b ret k a0 a1 a2 a3
  kernel_rfl
def F_sign_Verify (a : Int × ByteArray × ByteArray × (Int × Int) × Unit) : Option (Bool × Unit) := f_sign_Verify some 0 a.1 a.2.1 a.2.2.1 a.2.2.2.1
theorem f_sign_Verify_at : Tryd.prog.funcs[18]? = some Tryd.f18 := by kernel_rfl
theorem E_sign_Verify_ok (m : Int) (Ω : Type) : EnvOk Tryd.prog (E_sign_Verify m Ω) := envT_ok T_ok (by
  intro e he
  simp only [List.mem_cons, List.not_mem_nil, or_false] at he
  rcases he with rfl | rfl | rfl | rfl
  · exact ent_ok fun a r h => F_group_In_ok a r h m
  · exact ent_ok fun a r h => F_group_Exp_ok a r h m
  · exact ent_ok fun a r h => F_group_Mul_ok a r h m
  · exact ent_ok fun a r h => F_sign_challenge_ok a r h m) (by intro e he; cases he)
theorem F_sign_Verify_ok (a : Tys [.int .i64, .str, .str, .pair (.int .i64) (.int .i64)]) (r : Tys [.bool]) (h : F_sign_Verify a = some r) (m : Int) : PContract Tryd.prog (GL m) 18 (injL [.int .i64, .str, .str, .pair (.int .i64) (.int .i64)] a) (injR [.bool] r) := by
  exact PContract.of_run (E := E_sign_Verify m (Tys [.bool])) (un := []) (k := 0) (E_sign_Verify_ok m _) mixed (callOk_of f_sign_Verify_at (by kernel_rfl) (by kernel_rfl)) f_sign_Verify_at ((f_sign_Verify_run m some 0 a.1 a.2.1 a.2.2.1 a.2.2.2.1).trans h)
/-! bourne/bournelaw05.small -/
noncomputable def E_bournelaw05_small (m : Int) (Ω : Type) : Env Ω := envT T (GL m) [(10, true, ent [.str] [.pair (.int .i64) (.int .i64)] F_sign_Key), (12, true, ent [.int .i64] [.pair (.int .i64) (.int .i64)] F_sign_Of), (14, true, ent [.pair (.int .i64) (.int .i64)] [.bool] F_sign_Right), (16, true, ent [.pair (.int .i64) (.int .i64), .str, .str] [.pair (.int .i64) (.int .i64)] F_sign_Sign), (18, true, ent [.int .i64, .str, .str, .pair (.int .i64) (.int .i64)] [.bool] F_sign_Verify)] []
def f_bournelaw05_small_b {Ω : Type} (ret : Bool × Unit → Option Ω) (k : Nat)   : Option Ω :=
  andK (F_sign_Key (((⟨#[97]⟩ : ByteArray) : ByteArray), ())) fun (r1 : (Int × Int) × Unit) =>
  andK (F_sign_Sign ((r1.1 : Int × Int), ((⟨#[99]⟩ : ByteArray) : ByteArray), ((⟨#[109]⟩ : ByteArray) : ByteArray), ())) fun (r2 : (Int × Int) × Unit) =>
  andK (F_sign_Of ((1 : Int), ())) fun (r3 : (Int × Int) × Unit) =>
  bif ((r3.1.1 == 1) && ((r3.1.2 == 4) && true)) then
    andK (F_sign_Of ((0 : Int), ())) fun (r5 : (Int × Int) × Unit) =>
    bif ((r5.1.1 == 0) && ((r5.1.2 == 0) && true)) then
      andK (F_sign_Right ((r1.1 : Int × Int), ())) fun (r7 : Bool × Unit) =>
      bif r7.1 then
        andK (F_sign_Verify ((r1.1.2 : Int), ((⟨#[99]⟩ : ByteArray) : ByteArray), ((⟨#[109]⟩ : ByteArray) : ByteArray), (r2.1 : Int × Int), ())) fun (r8 : Bool × Unit) =>
        bif r8.1 then
          andK (F_sign_Verify ((r1.1.2 : Int), ((⟨#[99]⟩ : ByteArray) : ByteArray), ((⟨#[110]⟩ : ByteArray) : ByteArray), (r2.1 : Int × Int), ())) fun (r9 : Bool × Unit) =>
          bif (!r9.1) then
            andK (F_sign_Verify ((1 : Int), ((⟨#[99]⟩ : ByteArray) : ByteArray), ((⟨#[109]⟩ : ByteArray) : ByteArray), (r2.1 : Int × Int), ())) fun (r11 : Bool × Unit) =>
            ret ((!r11.1), ())
          else
          ret (false, ())
        else
        ret (false, ())
      else
      ret (false, ())
    else
    ret (false, ())
  else
  ret (false, ())
def f_bournelaw05_small {Ω : Type} (ret : Bool × Unit → Option Ω) (k : Nat)  : Option Ω := f_bournelaw05_small_b ret k
theorem f_bournelaw05_small_run (m : Int) {Ω : Type} (ret : Bool × Unit → Option Ω) (k : Nat)  : run (E_bournelaw05_small m Ω) [] k Tryd.f8 [] [] (resK [.bool] ret) = f_bournelaw05_small ret k := by
  show _ = f_bournelaw05_small_b ret k
  kernel_rfl
def F_bournelaw05_small (a : Unit) : Option (Bool × Unit) := f_bournelaw05_small some 0
theorem f_bournelaw05_small_at : Tryd.prog.funcs[8]? = some Tryd.f8 := by kernel_rfl
theorem E_bournelaw05_small_ok (m : Int) (Ω : Type) : EnvOk Tryd.prog (E_bournelaw05_small m Ω) := envT_ok T_ok (by
  intro e he
  simp only [List.mem_cons, List.not_mem_nil, or_false] at he
  rcases he with rfl | rfl | rfl | rfl | rfl
  · exact ent_ok fun a r h => F_sign_Key_ok a r h m
  · exact ent_ok fun a r h => F_sign_Of_ok a r h m
  · exact ent_ok fun a r h => F_sign_Right_ok a r h m
  · exact ent_ok fun a r h => F_sign_Sign_ok a r h m
  · exact ent_ok fun a r h => F_sign_Verify_ok a r h m) (by intro e he; cases he)
theorem F_bournelaw05_small_ok (a : Tys []) (r : Tys [.bool]) (h : F_bournelaw05_small a = some r) (m : Int) : PContract Tryd.prog (GL m) 8 (injL [] a) (injR [.bool] r) := by
  exact PContract.of_run (E := E_bournelaw05_small m (Tys [.bool])) (un := []) (k := 0) (E_bournelaw05_small_ok m _) mixed (callOk_of f_bournelaw05_small_at (by kernel_rfl) (by kernel_rfl)) f_bournelaw05_small_at ((f_bournelaw05_small_run m some 0).trans h)
/-! bourne/bournelaw05.short -/
noncomputable def E_bournelaw05_short (m : Int) (Ω : Type) : Env Ω := envT T (GL m) [] []
def f_bournelaw05_short_b {Ω : Type} (ret : Bool × Unit → Option Ω) (k : Nat)  (a0 : ByteArray) (a1 : ByteArray) (a2 : ByteArray) : Option Ω :=
  ret ((decide ((IntKind.wrap .i64 ((IntKind.wrap .i64 ((a0.size : Int) + (a1.size : Int))) + (a2.size : Int))) ≤ 2000)), ())
def f_bournelaw05_short {Ω : Type} (ret : Bool × Unit → Option Ω) (k : Nat) (a0 : ByteArray) (a1 : ByteArray) (a2 : ByteArray) : Option Ω := f_bournelaw05_short_b ret k a0 a1 a2
theorem f_bournelaw05_short_run (m : Int) {Ω : Type} (ret : Bool × Unit → Option Ω) (k : Nat) (a0 : ByteArray) (a1 : ByteArray) (a2 : ByteArray) : run (E_bournelaw05_short m Ω) [] k Tryd.f9 [.str a0, .str a1, .str a2] [] (resK [.bool] ret) = f_bournelaw05_short ret k a0 a1 a2 := by
  show _ = f_bournelaw05_short_b ret k a0 a1 a2
  kernel_rfl
def F_bournelaw05_short (a : ByteArray × ByteArray × ByteArray × Unit) : Option (Bool × Unit) := f_bournelaw05_short some 0 a.1 a.2.1 a.2.2.1
theorem f_bournelaw05_short_at : Tryd.prog.funcs[9]? = some Tryd.f9 := by kernel_rfl
theorem E_bournelaw05_short_ok (m : Int) (Ω : Type) : EnvOk Tryd.prog (E_bournelaw05_short m Ω) := envT_ok T_ok (by intro e he; cases he) (by intro e he; cases he)
theorem F_bournelaw05_short_ok (a : Tys [.str, .str, .str]) (r : Tys [.bool]) (h : F_bournelaw05_short a = some r) (m : Int) : PContract Tryd.prog (GL m) 9 (injL [.str, .str, .str] a) (injR [.bool] r) := by
  exact PContract.of_run (E := E_bournelaw05_short m (Tys [.bool])) (un := []) (k := 0) (E_bournelaw05_short_ok m _) mixed (callOk_of f_bournelaw05_short_at (by kernel_rfl) (by kernel_rfl)) f_bournelaw05_short_at ((f_bournelaw05_short_run m some 0 a.1 a.2.1 a.2.2.1).trans h)
/-! bourne/bourneref04.Mod -/
noncomputable def E_bourneref04_Mod (m : Int) (Ω : Type) : Env Ω := envT T (GL m) [] []
def f_bourneref04_Mod_b {Ω : Type} (ret : Int × Unit → Option Ω) (k : Nat)  (a0 : Int) (a1 : Int) : Option Ω :=
  bif (a1 == 0) then
    none
  else
  let x1 : Int := (Int.tmod a0 a1)
  bif (decide (x1 < 0)) then
    ret ((IntKind.wrap .i64 (x1 + a1)), ())
  else
  ret (x1, ())
def f_bourneref04_Mod {Ω : Type} (ret : Int × Unit → Option Ω) (k : Nat) (a0 : Int) (a1 : Int) : Option Ω := f_bourneref04_Mod_b ret k a0 a1
theorem f_bourneref04_Mod_run (m : Int) {Ω : Type} (ret : Int × Unit → Option Ω) (k : Nat) (a0 : Int) (a1 : Int) : run (E_bourneref04_Mod m Ω) [] k Tryd.f45 [.int .i64 a0, .int .i64 a1] [] (resK [.int .i64] ret) = f_bourneref04_Mod ret k a0 a1 := by
  show _ = f_bourneref04_Mod_b ret k a0 a1
  kernel_rfl
def F_bourneref04_Mod (a : Int × Int × Unit) : Option (Int × Unit) := f_bourneref04_Mod some 0 a.1 a.2.1
theorem f_bourneref04_Mod_at : Tryd.prog.funcs[45]? = some Tryd.f45 := by kernel_rfl
theorem E_bourneref04_Mod_ok (m : Int) (Ω : Type) : EnvOk Tryd.prog (E_bourneref04_Mod m Ω) := envT_ok T_ok (by intro e he; cases he) (by intro e he; cases he)
theorem F_bourneref04_Mod_ok (a : Tys [.int .i64, .int .i64]) (r : Tys [.int .i64]) (h : F_bourneref04_Mod a = some r) (m : Int) : PContract Tryd.prog (GL m) 45 (injL [.int .i64, .int .i64] a) (injR [.int .i64] r) := by
  exact PContract.of_run (E := E_bourneref04_Mod m (Tys [.int .i64])) (un := []) (k := 0) (E_bourneref04_Mod_ok m _) mixed (callOk_of f_bourneref04_Mod_at (by kernel_rfl) (by kernel_rfl)) f_bourneref04_Mod_at ((f_bourneref04_Mod_run m some 0 a.1 a.2.1).trans h)
/-! bourne/bourneref04.times -/
noncomputable def E_bourneref04_times (m : Int) (Ω : Type) : Env Ω := envT T (GL m) [] []
def S_bourneref04_times_0 (t0 : Int) (t1 : Int) (t2 : Int) (t7 : Int) : St := ⟨[.int .i64 t0, .int .i64 t1, .int .i64 t2, .undef, .undef, .undef, .undef, .int .i64 t7, .undef, .undef, .undef, .undef, .undef, .undef, .undef, .undef, .undef, .undef, .undef, .undef, .undef, .undef, .undef, .undef, .undef, .undef, .undef, .undef, .undef, .undef, .undef, .undef, .undef, .undef], []⟩
def f_bourneref04_times_l0s {Ω : Type} (ret : Int × Unit → Option Ω) (k : Nat)  (c0 : Int → Int → Int → Int → Option Ω)  (t0 : Int) (t1 : Int) (t2 : Int) (t7 : Int) : Option Ω :=
  bif (decide (t1 > 0)) then
    bif ((iand .i64 t1 1) == 1) then
      let x4 : Int := (IntKind.wrap .i64 (t7 + t0))
      bif (decide (x4 ≥ t2)) then
        let x6 : Int := (IntKind.wrap .i64 (x4 - t2))
        let x7 : Int := (IntKind.wrap .i64 (t0 + t0))
        bif (decide (x7 ≥ t2)) then
          c0 (IntKind.wrap .i64 (x7 - t2)) (shr .i64 t1 1) t2 x6
        else
        c0 x7 (shr .i64 t1 1) t2 x6
      else
      let x12 : Int := (IntKind.wrap .i64 (t0 + t0))
      bif (decide (x12 ≥ t2)) then
        c0 (IntKind.wrap .i64 (x12 - t2)) (shr .i64 t1 1) t2 x4
      else
      c0 x12 (shr .i64 t1 1) t2 x4
    else
    let x17 : Int := (IntKind.wrap .i64 (t0 + t0))
    bif (decide (x17 ≥ t2)) then
      c0 (IntKind.wrap .i64 (x17 - t2)) (shr .i64 t1 1) t2 t7
    else
    c0 x17 (shr .i64 t1 1) t2 t7
  else
  ret (t7, ())
def f_bourneref04_times_l0 {Ω : Type} (ret : Int × Unit → Option Ω) (k : Nat)  : Nat → Int → Int → Int → Int → Option Ω
  | 0 => fun _ _ _ _ => none
  | n + 1 => f_bourneref04_times_l0s ret k (f_bourneref04_times_l0 ret k n)
def f_bourneref04_times_b {Ω : Type} (ret : Int × Unit → Option Ω) (k : Nat) (l0 : Nat → Int → Int → Int → Int → Option Ω) (a0 : Int) (a1 : Int) (a2 : Int) : Option Ω :=
  l0 k a0 a1 a2 (0 : Int)
def f_bourneref04_times {Ω : Type} (ret : Int × Unit → Option Ω) (k : Nat) (a0 : Int) (a1 : Int) (a2 : Int) : Option Ω := f_bourneref04_times_b ret k (f_bourneref04_times_l0 ret k) a0 a1 a2
theorem f_bourneref04_times_l0_eq (m : Int) {Ω : Type} (ret : Int × Unit → Option Ω) (k : Nat)  : ∀ (n : Nat) (t0 : Int) (t1 : Int) (t2 : Int) (t7 : Int), loopAt (E_bourneref04_times m Ω) (resLive Tryd.f46.results.toList) [] k (spotF (E_bourneref04_times m Ω) [] k Tryd.f46 [] [true, true, false, false] (resK [.int .i64] ret)) n (S_bourneref04_times_0 t0 t1 t2 t7) = f_bourneref04_times_l0 ret k n t0 t1 t2 t7 := by
  intro n
  induction n with
  | zero => intros; rw [loopAt_zero]; rfl
  | succ n ih =>
    intros t0 t1 t2 t7
    rw [loopAt_succ]
    have e : f_bourneref04_times_l0 ret k n = fun t0 t1 t2 t7 => loopAt (E_bourneref04_times m Ω) (resLive Tryd.f46.results.toList) [] k (spotF (E_bourneref04_times m Ω) [] k Tryd.f46 [] [true, true, false, false] (resK [.int .i64] ret)) n (S_bourneref04_times_0 t0 t1 t2 t7) := by funext t0 t1 t2 t7; exact (ih t0 t1 t2 t7).symm
    show _ = f_bourneref04_times_l0s ret k (f_bourneref04_times_l0 ret k n) t0 t1 t2 t7
    rw [e]
    kernel_rfl
theorem f_bourneref04_times_run (m : Int) {Ω : Type} (ret : Int × Unit → Option Ω) (k : Nat) (a0 : Int) (a1 : Int) (a2 : Int) : run (E_bourneref04_times m Ω) [] k Tryd.f46 [.int .i64 a0, .int .i64 a1, .int .i64 a2] [] (resK [.int .i64] ret) = f_bourneref04_times ret k a0 a1 a2 := by
  have e0 : f_bourneref04_times_l0 ret k = fun m_ t0_ t1_ t2_ t7_ => loopAt (E_bourneref04_times m Ω) (resLive Tryd.f46.results.toList) [] k (spotF (E_bourneref04_times m Ω) [] k Tryd.f46 [] [true, true, false, false] (resK [.int .i64] ret)) m_ (S_bourneref04_times_0 t0_ t1_ t2_ t7_) := by funext m_ t0_ t1_ t2_ t7_; exact (f_bourneref04_times_l0_eq m ret k m_ t0_ t1_ t2_ t7_).symm
  show _ = f_bourneref04_times_b ret k (f_bourneref04_times_l0 ret k) a0 a1 a2
  rw [e0]
  kernel_rfl
def F_bourneref04_times (a : Int × Int × Int × Unit) : Option (Int × Unit) := ends fun k => f_bourneref04_times some k a.1 a.2.1 a.2.2.1
theorem f_bourneref04_times_at : Tryd.prog.funcs[46]? = some Tryd.f46 := by kernel_rfl
theorem E_bourneref04_times_ok (m : Int) (Ω : Type) : EnvOk Tryd.prog (E_bourneref04_times m Ω) := envT_ok T_ok (by intro e he; cases he) (by intro e he; cases he)
theorem F_bourneref04_times_ok (a : Tys [.int .i64, .int .i64, .int .i64]) (r : Tys [.int .i64]) (h : F_bourneref04_times a = some r) (m : Int) : PContract Tryd.prog (GL m) 46 (injL [.int .i64, .int .i64, .int .i64] a) (injR [.int .i64] r) := by
  obtain ⟨k, h⟩ := ends_some h
  exact PContract.of_run (E := E_bourneref04_times m (Tys [.int .i64])) (un := []) (k := k) (E_bourneref04_times_ok m _) mixed (callOk_of f_bourneref04_times_at (by kernel_rfl) (by kernel_rfl)) f_bourneref04_times_at ((f_bourneref04_times_run m some k a.1 a.2.1 a.2.2.1).trans h)
/-! bourne/bourneref04.Exp -/
noncomputable def E_bourneref04_Exp (m : Int) (Ω : Type) : Env Ω := envT T (GL m) [(45, true, ent [.int .i64, .int .i64] [.int .i64] F_bourneref04_Mod), (46, true, ent [.int .i64, .int .i64, .int .i64] [.int .i64] F_bourneref04_times)] []
def S_bourneref04_Exp_0 (t1 : Int) (t5 : Int) (t6 : Int) : St := ⟨[.undef, .int .i64 t1, .undef, .undef, .undef, .int .i64 t5, .int .i64 t6, .undef, .undef, .undef, .undef, .undef, .undef, .undef, .undef, .undef, .undef, .undef, .undef, .undef, .undef, .undef, .undef, .undef, .undef, .undef, .undef], []⟩
def f_bourneref04_Exp_l0s {Ω : Type} (ret : Int × Unit → Option Ω) (k : Nat)  (c0 : Int → Int → Int → Option Ω)  (t1 : Int) (t5 : Int) (t6 : Int) : Option Ω :=
  bif (decide (t1 > 0)) then
    bif ((Int.tmod t1 2) == 1) then
      andK (F_bourneref04_times (t5, t6, (2305843009213691579 : Int), ())) fun (r7 : Int × Unit) =>
      andK (F_bourneref04_times (t6, t6, (2305843009213691579 : Int), ())) fun (r8 : Int × Unit) =>
      c0 (IntKind.wrap .i64 (Int.tdiv t1 2)) r7.1 r8.1
    else
    andK (F_bourneref04_times (t6, t6, (2305843009213691579 : Int), ())) fun (r10 : Int × Unit) =>
    c0 (IntKind.wrap .i64 (Int.tdiv t1 2)) t5 r10.1
  else
  ret (t5, ())
def f_bourneref04_Exp_l0 {Ω : Type} (ret : Int × Unit → Option Ω) (k : Nat)  : Nat → Int → Int → Int → Option Ω
  | 0 => fun _ _ _ => none
  | n + 1 => f_bourneref04_Exp_l0s ret k (f_bourneref04_Exp_l0 ret k n)
def f_bourneref04_Exp_b {Ω : Type} (ret : Int × Unit → Option Ω) (k : Nat) (l0 : Nat → Int → Int → Int → Option Ω) (a0 : Int) (a1 : Int) : Option Ω :=
  bif (decide (a1 < 0)) then
    andK (F_bourneref04_Mod (a1, (1152921504606845789 : Int), ())) fun (r2 : Int × Unit) =>
    andK (F_bourneref04_Mod (a0, (2305843009213691579 : Int), ())) fun (r3 : Int × Unit) =>
    l0 k r2.1 (1 : Int) r3.1
  else
  andK (F_bourneref04_Mod (a0, (2305843009213691579 : Int), ())) fun (r12 : Int × Unit) =>
  l0 k a1 (1 : Int) r12.1
def f_bourneref04_Exp {Ω : Type} (ret : Int × Unit → Option Ω) (k : Nat) (a0 : Int) (a1 : Int) : Option Ω := f_bourneref04_Exp_b ret k (f_bourneref04_Exp_l0 ret k) a0 a1
theorem f_bourneref04_Exp_l0_eq (m : Int) {Ω : Type} (ret : Int × Unit → Option Ω) (k : Nat)  : ∀ (n : Nat) (t1 : Int) (t5 : Int) (t6 : Int), loopAt (E_bourneref04_Exp m Ω) (resLive Tryd.f30.results.toList) [] k (spotF (E_bourneref04_Exp m Ω) [] k Tryd.f30 [] [true, true, true, true, false, false] (resK [.int .i64] ret)) n (S_bourneref04_Exp_0 t1 t5 t6) = f_bourneref04_Exp_l0 ret k n t1 t5 t6 := by
  intro n
  induction n with
  | zero => intros; rw [loopAt_zero]; rfl
  | succ n ih =>
    intros t1 t5 t6
    rw [loopAt_succ]
    have e : f_bourneref04_Exp_l0 ret k n = fun t1 t5 t6 => loopAt (E_bourneref04_Exp m Ω) (resLive Tryd.f30.results.toList) [] k (spotF (E_bourneref04_Exp m Ω) [] k Tryd.f30 [] [true, true, true, true, false, false] (resK [.int .i64] ret)) n (S_bourneref04_Exp_0 t1 t5 t6) := by funext t1 t5 t6; exact (ih t1 t5 t6).symm
    show _ = f_bourneref04_Exp_l0s ret k (f_bourneref04_Exp_l0 ret k n) t1 t5 t6
    rw [e]
    kernel_rfl
theorem f_bourneref04_Exp_run (m : Int) {Ω : Type} (ret : Int × Unit → Option Ω) (k : Nat) (a0 : Int) (a1 : Int) : run (E_bourneref04_Exp m Ω) [] k Tryd.f30 [.int .i64 a0, .int .i64 a1] [] (resK [.int .i64] ret) = f_bourneref04_Exp ret k a0 a1 := by
  have e0 : f_bourneref04_Exp_l0 ret k = fun m_ t1_ t5_ t6_ => loopAt (E_bourneref04_Exp m Ω) (resLive Tryd.f30.results.toList) [] k (spotF (E_bourneref04_Exp m Ω) [] k Tryd.f30 [] [true, true, true, true, false, false] (resK [.int .i64] ret)) m_ (S_bourneref04_Exp_0 t1_ t5_ t6_) := by funext m_ t1_ t5_ t6_; exact (f_bourneref04_Exp_l0_eq m ret k m_ t1_ t5_ t6_).symm
  show _ = f_bourneref04_Exp_b ret k (f_bourneref04_Exp_l0 ret k) a0 a1
  rw [e0]
  kernel_rfl
def F_bourneref04_Exp (a : Int × Int × Unit) : Option (Int × Unit) := ends fun k => f_bourneref04_Exp some k a.1 a.2.1
theorem f_bourneref04_Exp_at : Tryd.prog.funcs[30]? = some Tryd.f30 := by kernel_rfl
theorem E_bourneref04_Exp_ok (m : Int) (Ω : Type) : EnvOk Tryd.prog (E_bourneref04_Exp m Ω) := envT_ok T_ok (by
  intro e he
  simp only [List.mem_cons, List.not_mem_nil, or_false] at he
  rcases he with rfl | rfl
  · exact ent_ok fun a r h => F_bourneref04_Mod_ok a r h m
  · exact ent_ok fun a r h => F_bourneref04_times_ok a r h m) (by intro e he; cases he)
theorem F_bourneref04_Exp_ok (a : Tys [.int .i64, .int .i64]) (r : Tys [.int .i64]) (h : F_bourneref04_Exp a = some r) (m : Int) : PContract Tryd.prog (GL m) 30 (injL [.int .i64, .int .i64] a) (injR [.int .i64] r) := by
  obtain ⟨k, h⟩ := ends_some h
  exact PContract.of_run (E := E_bourneref04_Exp m (Tys [.int .i64])) (un := []) (k := k) (E_bourneref04_Exp_ok m _) mixed (callOk_of f_bourneref04_Exp_at (by kernel_rfl) (by kernel_rfl)) f_bourneref04_Exp_at ((f_bourneref04_Exp_run m some k a.1 a.2.1).trans h)
/-! bourne/bourneref05.Of -/
noncomputable def E_bourneref05_Of (m : Int) (Ω : Type) : Env Ω := envT T (GL m) [(30, true, ent [.int .i64, .int .i64] [.int .i64] F_bourneref04_Exp)] []
def f_bourneref05_Of_b {Ω : Type} (ret : (Int × Int) × Unit → Option Ω) (k : Nat)  (a0 : Int) : Option Ω :=
  bif (decide (a0 < 1)) then
    ret (((0, 0) : Int × Int), ())
  else
  bif (decide (a0 ≥ 1152921504606845789)) then
    ret (((0, 0) : Int × Int), ())
  else
  andK (F_bourneref04_Exp ((4 : Int), a0, ())) fun (r3 : Int × Unit) =>
  ret (((a0, r3.1) : Int × Int), ())
def f_bourneref05_Of {Ω : Type} (ret : (Int × Int) × Unit → Option Ω) (k : Nat) (a0 : Int) : Option Ω := f_bourneref05_Of_b ret k a0
theorem f_bourneref05_Of_run (m : Int) {Ω : Type} (ret : (Int × Int) × Unit → Option Ω) (k : Nat) (a0 : Int) : run (E_bourneref05_Of m Ω) [] k Tryd.f13 [.int .i64 a0] [] (resK [.pair (.int .i64) (.int .i64)] ret) = f_bourneref05_Of ret k a0 := by
  show _ = f_bourneref05_Of_b ret k a0
  kernel_rfl
def F_bourneref05_Of (a : Int × Unit) : Option ((Int × Int) × Unit) := f_bourneref05_Of some 0 a.1
theorem f_bourneref05_Of_at : Tryd.prog.funcs[13]? = some Tryd.f13 := by kernel_rfl
theorem E_bourneref05_Of_ok (m : Int) (Ω : Type) : EnvOk Tryd.prog (E_bourneref05_Of m Ω) := envT_ok T_ok (by
  intro e he
  simp only [List.mem_cons, List.not_mem_nil, or_false] at he
  rcases he with rfl
  · exact ent_ok fun a r h => F_bourneref04_Exp_ok a r h m) (by intro e he; cases he)
theorem F_bourneref05_Of_ok (a : Tys [.int .i64]) (r : Tys [.pair (.int .i64) (.int .i64)]) (h : F_bourneref05_Of a = some r) (m : Int) : PContract Tryd.prog (GL m) 13 (injL [.int .i64] a) (injR [.pair (.int .i64) (.int .i64)] r) := by
  exact PContract.of_run (E := E_bourneref05_Of m (Tys [.pair (.int .i64) (.int .i64)])) (un := []) (k := 0) (E_bourneref05_Of_ok m _) mixed (callOk_of f_bourneref05_Of_at (by kernel_rfl) (by kernel_rfl)) f_bourneref05_Of_at ((f_bourneref05_Of_run m some 0 a.1).trans h)
/-! bourne/bourneref03.constants: walked where it is called -/
noncomputable def E_bourneref03_constants (m : Int) (Ω : Type) : Env Ω := envT T (GL m) [] []
theorem f_bourneref03_constants_at : Tryd.prog.funcs[55]? = some Tryd.f55 := by kernel_rfl
theorem E_bourneref03_constants_ok (m : Int) (Ω : Type) : EnvOk Tryd.prog (E_bourneref03_constants m Ω) := envT_ok T_ok (by intro e he; cases he) (by intro e he; cases he)
theorem I_bourneref03_constants_ok (m : Int) (Ω : Type) (xs : List V) (h : Heap) : OneW (inl (E_bourneref03_constants m Ω) [] 0 Tryd.f55 xs h) (Contract Tryd.prog (GL m) 55 xs h) := inl_ok (E_bourneref03_constants_ok m Ω) mixed (callOk_of f_bourneref03_constants_at (by kernel_rfl) (by kernel_rfl)) f_bourneref03_constants_at [] 0 xs h
/-! bourne/bourneref03.word -/
noncomputable def E_bourneref03_word (m : Int) (Ω : Type) : Env Ω := envT T (GL m) [] []
def S_bourneref03_word_0 (t0 : ByteArray) (t1 : Int) (t5 : Int) (t6 : Int) : St := ⟨[.str t0, .int .i64 t1, .undef, .undef, .undef, .int .u32 t5, .int .i64 t6, .undef, .undef, .undef, .undef, .undef, .undef, .undef, .undef, .undef, .undef, .undef, .undef, .undef, .undef, .undef, .undef, .undef, .undef, .undef, .undef, .undef], []⟩
def f_bourneref03_word_l0s {Ω : Type} (ret : Int × Unit → Option Ω) (k : Nat)  (c0 : ByteArray → Int → Int → Int → Option Ω)  (t0 : ByteArray) (t1 : Int) (t5 : Int) (t6 : Int) : Option Ω :=
  bif (decide (t6 ≥ 0)) then
    let x2 : Int := (shl .u32 t5 8)
    bif (decide ((IntKind.wrap .i64 (t1 + t6)) < (t0.size : Int))) then
      let x5 : Int := (IntKind.wrap .i64 (t1 + t6))
      bif (inB x5 (t0.size : Int)) then
      c0 t0 t1 (ior .u32 x2 (IntKind.wrap .u32 (bt t0 x5))) (IntKind.wrap .i64 (t6 - 1))
      else none
    else
    c0 t0 t1 x2 (IntKind.wrap .i64 (t6 - 1))
  else
  ret (t5, ())
def f_bourneref03_word_l0 {Ω : Type} (ret : Int × Unit → Option Ω) (k : Nat)  : Nat → ByteArray → Int → Int → Int → Option Ω
  | 0 => fun _ _ _ _ => none
  | n + 1 => f_bourneref03_word_l0s ret k (f_bourneref03_word_l0 ret k n)
def f_bourneref03_word_b {Ω : Type} (ret : Int × Unit → Option Ω) (k : Nat) (l0 : Nat → ByteArray → Int → Int → Int → Option Ω) (a0 : ByteArray) (a1 : Int) : Option Ω :=
  l0 k a0 a1 (0 : Int) (3 : Int)
def f_bourneref03_word {Ω : Type} (ret : Int × Unit → Option Ω) (k : Nat) (a0 : ByteArray) (a1 : Int) : Option Ω := f_bourneref03_word_b ret k (f_bourneref03_word_l0 ret k) a0 a1
theorem f_bourneref03_word_l0_eq (m : Int) {Ω : Type} (ret : Int × Unit → Option Ω) (k : Nat)  : ∀ (n : Nat) (t0 : ByteArray) (t1 : Int) (t5 : Int) (t6 : Int), loopAt (E_bourneref03_word m Ω) (resLive Tryd.f67.results.toList) [] k (spotF (E_bourneref03_word m Ω) [] k Tryd.f67 [] [true, true, false, true, false] (resK [.int .u32] ret)) n (S_bourneref03_word_0 t0 t1 t5 t6) = f_bourneref03_word_l0 ret k n t0 t1 t5 t6 := by
  intro n
  induction n with
  | zero => intros; rw [loopAt_zero]; rfl
  | succ n ih =>
    intros t0 t1 t5 t6
    rw [loopAt_succ]
    have e : f_bourneref03_word_l0 ret k n = fun t0 t1 t5 t6 => loopAt (E_bourneref03_word m Ω) (resLive Tryd.f67.results.toList) [] k (spotF (E_bourneref03_word m Ω) [] k Tryd.f67 [] [true, true, false, true, false] (resK [.int .u32] ret)) n (S_bourneref03_word_0 t0 t1 t5 t6) := by funext t0 t1 t5 t6; exact (ih t0 t1 t5 t6).symm
    show _ = f_bourneref03_word_l0s ret k (f_bourneref03_word_l0 ret k n) t0 t1 t5 t6
    rw [e]
    kernel_rfl
theorem f_bourneref03_word_run (m : Int) {Ω : Type} (ret : Int × Unit → Option Ω) (k : Nat) (a0 : ByteArray) (a1 : Int) : run (E_bourneref03_word m Ω) [] k Tryd.f67 [.str a0, .int .i64 a1] [] (resK [.int .u32] ret) = f_bourneref03_word ret k a0 a1 := by
  have e0 : f_bourneref03_word_l0 ret k = fun m_ t0_ t1_ t5_ t6_ => loopAt (E_bourneref03_word m Ω) (resLive Tryd.f67.results.toList) [] k (spotF (E_bourneref03_word m Ω) [] k Tryd.f67 [] [true, true, false, true, false] (resK [.int .u32] ret)) m_ (S_bourneref03_word_0 t0_ t1_ t5_ t6_) := by funext m_ t0_ t1_ t5_ t6_; exact (f_bourneref03_word_l0_eq m ret k m_ t0_ t1_ t5_ t6_).symm
  show _ = f_bourneref03_word_b ret k (f_bourneref03_word_l0 ret k) a0 a1
  rw [e0]
  kernel_rfl
def F_bourneref03_word (a : ByteArray × Int × Unit) : Option (Int × Unit) := ends fun k => f_bourneref03_word some k a.1 a.2.1
theorem f_bourneref03_word_at : Tryd.prog.funcs[67]? = some Tryd.f67 := by kernel_rfl
theorem E_bourneref03_word_ok (m : Int) (Ω : Type) : EnvOk Tryd.prog (E_bourneref03_word m Ω) := envT_ok T_ok (by intro e he; cases he) (by intro e he; cases he)
theorem F_bourneref03_word_ok (a : Tys [.str, .int .i64]) (r : Tys [.int .u32]) (h : F_bourneref03_word a = some r) (m : Int) : PContract Tryd.prog (GL m) 67 (injL [.str, .int .i64] a) (injR [.int .u32] r) := by
  obtain ⟨k, h⟩ := ends_some h
  exact PContract.of_run (E := E_bourneref03_word m (Tys [.int .u32])) (un := []) (k := k) (E_bourneref03_word_ok m _) mixed (callOk_of f_bourneref03_word_at (by kernel_rfl) (by kernel_rfl)) f_bourneref03_word_at ((f_bourneref03_word_run m some k a.1 a.2.1).trans h)
/-! bourne/bourneref03.order -/
noncomputable def E_bourneref03_order (m : Int) (Ω : Type) : Env Ω := envT T (GL m) [] []
def f_bourneref03_order_b {Ω : Type} (ret : (Sl Int) × Unit → Option Ω) (k : Nat)  (a0 : Int) : Option Ω :=
  bif (a0 == 0) then
    ret (((⟨false, [0, 1, 2, 3, 4, 5, 6, 7, 8, 9, 10, 11, 12, 13, 14, 15]⟩ : Sl Int) : Sl Int), ())
  else
  bif (a0 == 1) then
    ret (((⟨false, [14, 10, 4, 8, 9, 15, 13, 6, 1, 12, 0, 2, 11, 7, 5, 3]⟩ : Sl Int) : Sl Int), ())
  else
  bif (a0 == 2) then
    ret (((⟨false, [11, 8, 12, 0, 5, 2, 15, 13, 10, 14, 3, 6, 7, 1, 9, 4]⟩ : Sl Int) : Sl Int), ())
  else
  bif (a0 == 3) then
    ret (((⟨false, [7, 9, 3, 1, 13, 12, 11, 14, 2, 6, 5, 10, 4, 0, 15, 8]⟩ : Sl Int) : Sl Int), ())
  else
  bif (a0 == 4) then
    ret (((⟨false, [9, 0, 5, 7, 2, 4, 10, 15, 14, 1, 11, 12, 6, 8, 3, 13]⟩ : Sl Int) : Sl Int), ())
  else
  bif (a0 == 5) then
    ret (((⟨false, [2, 12, 6, 10, 0, 11, 8, 3, 4, 13, 7, 5, 15, 14, 1, 9]⟩ : Sl Int) : Sl Int), ())
  else
  bif (a0 == 6) then
    ret (((⟨false, [12, 5, 1, 15, 14, 13, 4, 10, 0, 7, 6, 3, 9, 2, 8, 11]⟩ : Sl Int) : Sl Int), ())
  else
  bif (a0 == 7) then
    ret (((⟨false, [13, 11, 7, 14, 12, 1, 3, 9, 5, 0, 15, 4, 8, 6, 2, 10]⟩ : Sl Int) : Sl Int), ())
  else
  bif (a0 == 8) then
    ret (((⟨false, [6, 15, 14, 9, 11, 3, 0, 8, 12, 2, 13, 7, 1, 4, 10, 5]⟩ : Sl Int) : Sl Int), ())
  else
  ret (((⟨false, [10, 2, 8, 4, 7, 6, 1, 5, 15, 11, 9, 14, 3, 12, 13, 0]⟩ : Sl Int) : Sl Int), ())
def f_bourneref03_order {Ω : Type} (ret : (Sl Int) × Unit → Option Ω) (k : Nat) (a0 : Int) : Option Ω := f_bourneref03_order_b ret k a0
theorem f_bourneref03_order_run (m : Int) {Ω : Type} (ret : (Sl Int) × Unit → Option Ω) (k : Nat) (a0 : Int) : run (E_bourneref03_order m Ω) [] k Tryd.f68 [.int .i64 a0] [] (resK [.sl (.int .i64)] ret) = f_bourneref03_order ret k a0 := by
  show _ = f_bourneref03_order_b ret k a0
  kernel_rfl
def F_bourneref03_order (a : Int × Unit) : Option ((Sl Int) × Unit) := f_bourneref03_order some 0 a.1
theorem f_bourneref03_order_at : Tryd.prog.funcs[68]? = some Tryd.f68 := by kernel_rfl
theorem E_bourneref03_order_ok (m : Int) (Ω : Type) : EnvOk Tryd.prog (E_bourneref03_order m Ω) := envT_ok T_ok (by intro e he; cases he) (by intro e he; cases he)
theorem F_bourneref03_order_ok (a : Tys [.int .i64]) (r : Tys [.sl (.int .i64)]) (h : F_bourneref03_order a = some r) (m : Int) : PContract Tryd.prog (GL m) 68 (injL [.int .i64] a) (injR [.sl (.int .i64)] r) := by
  exact PContract.of_run (E := E_bourneref03_order m (Tys [.sl (.int .i64)])) (un := []) (k := 0) (E_bourneref03_order_ok m _) mixed (callOk_of f_bourneref03_order_at (by kernel_rfl) (by kernel_rfl)) f_bourneref03_order_at ((f_bourneref03_order_run m some 0 a.1).trans h)
/-! bourne/bourneref03.right -/
noncomputable def E_bourneref03_right (m : Int) (Ω : Type) : Env Ω := envT T (GL m) [] []
def f_bourneref03_right_b {Ω : Type} (ret : Int × Unit → Option Ω) (k : Nat)  (a0 : Int) (a1 : Int) : Option Ω :=
  bif (decide (a1 < 0)) then
    none
  else
  let x2 : Int := (IntKind.wrap .u32 (32 - a1))
  bif (decide (x2 < 0)) then
    none
  else
  ret ((ior .u32 (shr .u32 a0 a1) (shl .u32 a0 x2)), ())
def f_bourneref03_right {Ω : Type} (ret : Int × Unit → Option Ω) (k : Nat) (a0 : Int) (a1 : Int) : Option Ω := f_bourneref03_right_b ret k a0 a1
theorem f_bourneref03_right_run (m : Int) {Ω : Type} (ret : Int × Unit → Option Ω) (k : Nat) (a0 : Int) (a1 : Int) : run (E_bourneref03_right m Ω) [] k Tryd.f80 [.int .u32 a0, .int .u32 a1] [] (resK [.int .u32] ret) = f_bourneref03_right ret k a0 a1 := by
  show _ = f_bourneref03_right_b ret k a0 a1
  kernel_rfl
def F_bourneref03_right (a : Int × Int × Unit) : Option (Int × Unit) := f_bourneref03_right some 0 a.1 a.2.1
theorem f_bourneref03_right_at : Tryd.prog.funcs[80]? = some Tryd.f80 := by kernel_rfl
theorem E_bourneref03_right_ok (m : Int) (Ω : Type) : EnvOk Tryd.prog (E_bourneref03_right m Ω) := envT_ok T_ok (by intro e he; cases he) (by intro e he; cases he)
theorem F_bourneref03_right_ok (a : Tys [.int .u32, .int .u32]) (r : Tys [.int .u32]) (h : F_bourneref03_right a = some r) (m : Int) : PContract Tryd.prog (GL m) 80 (injL [.int .u32, .int .u32] a) (injR [.int .u32] r) := by
  exact PContract.of_run (E := E_bourneref03_right m (Tys [.int .u32])) (un := []) (k := 0) (E_bourneref03_right_ok m _) mixed (callOk_of f_bourneref03_right_at (by kernel_rfl) (by kernel_rfl)) f_bourneref03_right_at ((f_bourneref03_right_run m some 0 a.1 a.2.1).trans h)
/-! bourne/bourneref03.g: walked where it is called -/
noncomputable def E_bourneref03_g (m : Int) (Ω : Type) : Env Ω := envT T (GL m) [(80, true, ent [.int .u32, .int .u32] [.int .u32] F_bourneref03_right)] []
theorem f_bourneref03_g_at : Tryd.prog.funcs[69]? = some Tryd.f69 := by kernel_rfl
theorem E_bourneref03_g_ok (m : Int) (Ω : Type) : EnvOk Tryd.prog (E_bourneref03_g m Ω) := envT_ok T_ok (by
  intro e he
  simp only [List.mem_cons, List.not_mem_nil, or_false] at he
  rcases he with rfl
  · exact ent_ok fun a r h => F_bourneref03_right_ok a r h m) (by intro e he; cases he)
theorem I_bourneref03_g_ok (m : Int) (Ω : Type) (xs : List V) (h : Heap) : OneW (inl (E_bourneref03_g m Ω) [] 0 Tryd.f69 xs h) (Contract Tryd.prog (GL m) 69 xs h) := inl_ok (E_bourneref03_g_ok m Ω) mixed (callOk_of f_bourneref03_g_at (by kernel_rfl) (by kernel_rfl)) f_bourneref03_g_at [] 0 xs h
end
end Go.Proofs.YtnebpmcmdmpoaaaDoor.R
