-- Go functions as Lean functions, printed by prs.py (this session's program)
import Derived.Test.YtnebpmcmdmpoaaaDoorG3
import Derived.KernelRfl
namespace Go.Proofs.YtnebpmcmdmpoaaaDoor.R
open Go
set_option maxRecDepth 100000
set_option maxHeartbeats 4000000
set_option linter.unusedVariables false
noncomputable section
/-! bourne/bourneref03.compress -/
noncomputable def E_bourneref03_compress (m : Int) (Ω : Type) : Env Ω := envT T (GL m) [(67, true, ent [.str, .int .i64] [.int .u32] F_bourneref03_word), (68, false, ent [.int .i64] [.sl (.int .i64)] F_bourneref03_order), (80, true, ent [.int .u32, .int .u32] [.int .u32] F_bourneref03_right)] [(55, inl (E_bourneref03_constants m Ω) [] 0 Tryd.f55), (69, inl (E_bourneref03_g m Ω) [] 0 Tryd.f69)]
def S_bourneref03_compress_0 (t0 : Sl Int) (t14 : Int) (b0 : Sl Int) (b1 : Sl Int) : St := ⟨[.sl (.int .u32) false t0, .undef, .undef, .undef, .undef, .undef, .undef, .undef, .undef, .own 0, .undef, .undef, .undef, .own 1, .int .i64 t14, .undef, .undef, .undef, .undef, .undef, .undef, .undef, .undef, .undef, .undef, .undef, .undef, .undef, .undef, .undef, .undef, .undef, .undef, .undef, .undef, .undef, .undef, .undef, .undef, .undef, .undef, .undef, .undef, .undef, .undef, .undef, .undef, .undef, .undef, .undef, .undef, .undef, .undef, .undef, .undef, .undef, .undef, .undef, .undef, .undef, .undef, .undef, .undef, .undef, .undef, .undef, .undef, .undef, .undef, .undef, .undef, .undef, .undef, .undef, .undef, .undef, .undef, .undef, .undef, .undef, .undef, .undef, .undef, .undef, .undef, .undef, .undef, .undef, .undef, .undef, .undef, .undef, .undef, .undef, .undef, .undef, .undef, .undef, .undef, .undef, .undef, .undef, .undef, .undef, .undef, .undef, .undef, .undef, .undef, .undef, .undef, .undef, .undef, .undef, .undef, .undef, .undef, .undef, .undef, .undef, .undef, .undef, .undef, .undef, .undef, .undef, .undef, .undef, .undef, .undef, .undef, .undef, .undef, .undef, .undef, .undef, .undef, .undef, .undef, .undef, .undef, .undef, .undef, .undef, .undef, .undef, .undef, .undef, .undef, .undef, .undef, .undef, .undef, .undef, .undef, .undef, .undef, .undef, .undef, .undef, .undef, .undef, .undef, .undef, .undef, .undef, .undef, .undef, .undef, .undef, .undef, .undef, .undef, .undef, .undef, .undef, .undef, .undef, .undef, .undef, .undef, .undef, .undef, .undef, .undef, .undef, .undef, .undef, .undef, .undef, .undef, .undef, .undef, .undef, .undef, .undef, .undef, .undef, .undef, .undef, .undef, .undef, .undef, .undef, .undef, .undef, .undef, .undef], [.rows (.int .u32) b0, .rows (.int .u32) b1]⟩
def S_bourneref03_compress_1 (t0 : Sl Int) (t11 : Int) (b0 : Sl Int) (b1 : Sl Int) : St := ⟨[.sl (.int .u32) false t0, .undef, .undef, .undef, .undef, .undef, .undef, .own 0, .undef, .own 1, .undef, .int .i64 t11, .undef, .undef, .undef, .undef, .undef, .undef, .undef, .undef, .undef, .undef, .undef, .undef, .undef, .undef, .undef, .undef, .undef, .undef, .undef, .undef, .undef, .undef, .undef, .undef, .undef, .undef, .undef, .undef, .undef, .undef, .undef, .undef, .undef, .undef, .undef, .undef, .undef, .undef, .undef, .undef, .undef, .undef, .undef, .undef, .undef, .undef, .undef, .undef, .undef, .undef, .undef, .undef, .undef, .undef, .undef, .undef, .undef, .undef, .undef, .undef, .undef, .undef, .undef, .undef, .undef, .undef, .undef, .undef, .undef, .undef, .undef, .undef, .undef, .undef, .undef, .undef, .undef, .undef, .undef, .undef, .undef, .undef, .undef, .undef, .undef, .undef, .undef, .undef, .undef, .undef, .undef, .undef, .undef, .undef, .undef, .undef, .undef, .undef, .undef, .undef, .undef, .undef, .undef, .undef, .undef, .undef, .undef, .undef, .undef, .undef, .undef, .undef, .undef, .undef, .undef, .undef, .undef, .undef, .undef, .undef, .undef, .undef, .undef, .undef, .undef, .undef, .undef, .undef, .undef, .undef, .undef, .undef, .undef, .undef, .undef, .undef, .undef, .undef, .undef, .undef, .undef, .undef, .undef, .undef, .undef, .undef, .undef, .undef, .undef, .undef, .undef, .undef, .undef, .undef, .undef, .undef, .undef, .undef, .undef, .undef, .undef, .undef, .undef, .undef, .undef, .undef, .undef, .undef, .undef, .undef, .undef, .undef, .undef, .undef, .undef, .undef, .undef, .undef, .undef, .undef, .undef, .undef, .undef, .undef, .undef, .undef, .undef, .undef, .undef, .undef, .undef, .undef, .undef, .undef, .undef, .undef], [.rows (.int .u32) b0, .rows (.int .u32) b1]⟩
def S_bourneref03_compress_2 (t0 : Sl Int) (t1 : ByteArray) (t2 : Int) (t8 : Int) (b0 : Sl Int) : St := ⟨[.sl (.int .u32) false t0, .str t1, .int .i64 t2, .undef, .undef, .undef, .undef, .own 0, .int .i64 t8, .undef, .undef, .undef, .undef, .undef, .undef, .undef, .undef, .undef, .undef, .undef, .undef, .undef, .undef, .undef, .undef, .undef, .undef, .undef, .undef, .undef, .undef, .undef, .undef, .undef, .undef, .undef, .undef, .undef, .undef, .undef, .undef, .undef, .undef, .undef, .undef, .undef, .undef, .undef, .undef, .undef, .undef, .undef, .undef, .undef, .undef, .undef, .undef, .undef, .undef, .undef, .undef, .undef, .undef, .undef, .undef, .undef, .undef, .undef, .undef, .undef, .undef, .undef, .undef, .undef, .undef, .undef, .undef, .undef, .undef, .undef, .undef, .undef, .undef, .undef, .undef, .undef, .undef, .undef, .undef, .undef, .undef, .undef, .undef, .undef, .undef, .undef, .undef, .undef, .undef, .undef, .undef, .undef, .undef, .undef, .undef, .undef, .undef, .undef, .undef, .undef, .undef, .undef, .undef, .undef, .undef, .undef, .undef, .undef, .undef, .undef, .undef, .undef, .undef, .undef, .undef, .undef, .undef, .undef, .undef, .undef, .undef, .undef, .undef, .undef, .undef, .undef, .undef, .undef, .undef, .undef, .undef, .undef, .undef, .undef, .undef, .undef, .undef, .undef, .undef, .undef, .undef, .undef, .undef, .undef, .undef, .undef, .undef, .undef, .undef, .undef, .undef, .undef, .undef, .undef, .undef, .undef, .undef, .undef, .undef, .undef, .undef, .undef, .undef, .undef, .undef, .undef, .undef, .undef, .undef, .undef, .undef, .undef, .undef, .undef, .undef, .undef, .undef, .undef, .undef, .undef, .undef, .undef, .undef, .undef, .undef, .undef, .undef, .undef, .undef, .undef, .undef, .undef, .undef, .undef, .undef, .undef, .undef, .undef], [.rows (.int .u32) b0]⟩
def f_bourneref03_compress_l0s {Ω : Type} (ret : (Sl Int) × Unit → Option Ω) (k : Nat)  (c0 : (Sl Int) → Int → (Sl Int) → (Sl Int) → Option Ω)  (t0 : Sl Int) (t14 : Int) (b0 : Sl Int) (b1 : Sl Int) : Option Ω :=
  bif (decide (t14 < 8)) then
    bif (inB t14 (t0.l.length : Int)) then
    bif (inB t14 (b0.l.length : Int)) then
    let x368 : Int := (IntKind.wrap .i64 (t14 + 8))
    bif (inB x368 (b0.l.length : Int)) then
    bif (room ((b1.l.length : Int) + 1) 4) then
    c0 t0 (IntKind.wrap .i64 (t14 + 1)) b0 (⟨(b1.nl && false), (b1.l ++ [(ixor .u32 (ixor .u32 (t0.l.getD (Int.toNat t14) (0 : Int)) (b0.l.getD (Int.toNat t14) (0 : Int))) (b0.l.getD (Int.toNat x368) (0 : Int)))])⟩ : Sl Int)
    else none
    else none
    else none
    else none
  else
  ret (b1, ())
def f_bourneref03_compress_l0 {Ω : Type} (ret : (Sl Int) × Unit → Option Ω) (k : Nat)  : Nat → (Sl Int) → Int → (Sl Int) → (Sl Int) → Option Ω
  | 0 => fun _ _ _ _ => none
  | n + 1 => f_bourneref03_compress_l0s ret k (f_bourneref03_compress_l0 ret k n)
def f_bourneref03_compress_l1s {Ω : Type} (ret : (Sl Int) × Unit → Option Ω) (k : Nat)  (c1 : (Sl Int) → Int → (Sl Int) → (Sl Int) → Option Ω) (l0 : Nat → (Sl Int) → Int → (Sl Int) → (Sl Int) → Option Ω) (t0 : Sl Int) (t11 : Int) (b0 : Sl Int) (b1 : Sl Int) : Option Ω :=
  bif (decide (t11 < 10)) then
    andK (F_bourneref03_order (t11, ())) fun (r26 : (Sl Int) × Unit) =>
    bif (inB 0 (r26.1.l.length : Int)) then
    let x27 : Int := (r26.1.l.getD 0 (0 : Int))
    bif (inB x27 (b0.l.length : Int)) then
    bif (inB 1 (r26.1.l.length : Int)) then
    let x29 : Int := (r26.1.l.getD 1 (0 : Int))
    bif (inB x29 (b0.l.length : Int)) then
    bif (inB 0 (b1.l.length : Int)) then
    bif (inB 4 (b1.l.length : Int)) then
    bif (inB 0 (b1.l.length : Int)) then
    let x35 : List Int := (b1.l.set 0 (IntKind.wrap .u32 ((IntKind.wrap .u32 ((b1.l.getD 0 (0 : Int)) + (b1.l.getD 4 (0 : Int)))) + (b0.l.getD (Int.toNat x27) (0 : Int)))))
    bif (inB 12 (x35.length : Int)) then
    bif (inB 0 (x35.length : Int)) then
    andK (F_bourneref03_right ((ixor .u32 (x35.getD 12 (0 : Int)) (x35.getD 0 (0 : Int))), (16 : Int), ())) fun (r39 : Int × Unit) =>
    bif (inB 12 (x35.length : Int)) then
    let x40 : List Int := (x35.set 12 r39.1)
    bif (inB 8 (x40.length : Int)) then
    bif (inB 12 (x40.length : Int)) then
    bif (inB 8 (x40.length : Int)) then
    let x44 : List Int := (x40.set 8 (IntKind.wrap .u32 ((x40.getD 8 (0 : Int)) + (x40.getD 12 (0 : Int)))))
    bif (inB 4 (x44.length : Int)) then
    bif (inB 8 (x44.length : Int)) then
    andK (F_bourneref03_right ((ixor .u32 (x44.getD 4 (0 : Int)) (x44.getD 8 (0 : Int))), (12 : Int), ())) fun (r48 : Int × Unit) =>
    bif (inB 4 (x44.length : Int)) then
    let x49 : List Int := (x44.set 4 r48.1)
    bif (inB 0 (x49.length : Int)) then
    bif (inB 4 (x49.length : Int)) then
    bif (inB 0 (x49.length : Int)) then
    let x54 : List Int := (x49.set 0 (IntKind.wrap .u32 ((IntKind.wrap .u32 ((x49.getD 0 (0 : Int)) + (x49.getD 4 (0 : Int)))) + (b0.l.getD (Int.toNat x29) (0 : Int)))))
    bif (inB 12 (x54.length : Int)) then
    bif (inB 0 (x54.length : Int)) then
    andK (F_bourneref03_right ((ixor .u32 (x54.getD 12 (0 : Int)) (x54.getD 0 (0 : Int))), (8 : Int), ())) fun (r58 : Int × Unit) =>
    bif (inB 12 (x54.length : Int)) then
    let x59 : List Int := (x54.set 12 r58.1)
    bif (inB 8 (x59.length : Int)) then
    bif (inB 12 (x59.length : Int)) then
    bif (inB 8 (x59.length : Int)) then
    let x63 : List Int := (x59.set 8 (IntKind.wrap .u32 ((x59.getD 8 (0 : Int)) + (x59.getD 12 (0 : Int)))))
    bif (inB 4 (x63.length : Int)) then
    bif (inB 8 (x63.length : Int)) then
    andK (F_bourneref03_right ((ixor .u32 (x63.getD 4 (0 : Int)) (x63.getD 8 (0 : Int))), (7 : Int), ())) fun (r67 : Int × Unit) =>
    bif (inB 4 (x63.length : Int)) then
    let x68 : List Int := (x63.set 4 r67.1)
    bif (inB 2 (r26.1.l.length : Int)) then
    let x69 : Int := (r26.1.l.getD 2 (0 : Int))
    bif (inB x69 (b0.l.length : Int)) then
    bif (inB 3 (r26.1.l.length : Int)) then
    let x71 : Int := (r26.1.l.getD 3 (0 : Int))
    bif (inB x71 (b0.l.length : Int)) then
    bif (inB 1 (x68.length : Int)) then
    bif (inB 5 (x68.length : Int)) then
    bif (inB 1 (x68.length : Int)) then
    let x77 : List Int := (x68.set 1 (IntKind.wrap .u32 ((IntKind.wrap .u32 ((x68.getD 1 (0 : Int)) + (x68.getD 5 (0 : Int)))) + (b0.l.getD (Int.toNat x69) (0 : Int)))))
    bif (inB 13 (x77.length : Int)) then
    bif (inB 1 (x77.length : Int)) then
    andK (F_bourneref03_right ((ixor .u32 (x77.getD 13 (0 : Int)) (x77.getD 1 (0 : Int))), (16 : Int), ())) fun (r81 : Int × Unit) =>
    bif (inB 13 (x77.length : Int)) then
    let x82 : List Int := (x77.set 13 r81.1)
    bif (inB 9 (x82.length : Int)) then
    bif (inB 13 (x82.length : Int)) then
    bif (inB 9 (x82.length : Int)) then
    let x86 : List Int := (x82.set 9 (IntKind.wrap .u32 ((x82.getD 9 (0 : Int)) + (x82.getD 13 (0 : Int)))))
    bif (inB 5 (x86.length : Int)) then
    bif (inB 9 (x86.length : Int)) then
    andK (F_bourneref03_right ((ixor .u32 (x86.getD 5 (0 : Int)) (x86.getD 9 (0 : Int))), (12 : Int), ())) fun (r90 : Int × Unit) =>
    bif (inB 5 (x86.length : Int)) then
    let x91 : List Int := (x86.set 5 r90.1)
    bif (inB 1 (x91.length : Int)) then
    bif (inB 5 (x91.length : Int)) then
    bif (inB 1 (x91.length : Int)) then
    let x96 : List Int := (x91.set 1 (IntKind.wrap .u32 ((IntKind.wrap .u32 ((x91.getD 1 (0 : Int)) + (x91.getD 5 (0 : Int)))) + (b0.l.getD (Int.toNat x71) (0 : Int)))))
    bif (inB 13 (x96.length : Int)) then
    bif (inB 1 (x96.length : Int)) then
    andK (F_bourneref03_right ((ixor .u32 (x96.getD 13 (0 : Int)) (x96.getD 1 (0 : Int))), (8 : Int), ())) fun (r100 : Int × Unit) =>
    bif (inB 13 (x96.length : Int)) then
    let x101 : List Int := (x96.set 13 r100.1)
    bif (inB 9 (x101.length : Int)) then
    bif (inB 13 (x101.length : Int)) then
    bif (inB 9 (x101.length : Int)) then
    let x105 : List Int := (x101.set 9 (IntKind.wrap .u32 ((x101.getD 9 (0 : Int)) + (x101.getD 13 (0 : Int)))))
    bif (inB 5 (x105.length : Int)) then
    bif (inB 9 (x105.length : Int)) then
    andK (F_bourneref03_right ((ixor .u32 (x105.getD 5 (0 : Int)) (x105.getD 9 (0 : Int))), (7 : Int), ())) fun (r109 : Int × Unit) =>
    bif (inB 5 (x105.length : Int)) then
    let x110 : List Int := (x105.set 5 r109.1)
    bif (inB 4 (r26.1.l.length : Int)) then
    let x111 : Int := (r26.1.l.getD 4 (0 : Int))
    bif (inB x111 (b0.l.length : Int)) then
    bif (inB 5 (r26.1.l.length : Int)) then
    let x113 : Int := (r26.1.l.getD 5 (0 : Int))
    bif (inB x113 (b0.l.length : Int)) then
    bif (inB 2 (x110.length : Int)) then
    bif (inB 6 (x110.length : Int)) then
    bif (inB 2 (x110.length : Int)) then
    let x119 : List Int := (x110.set 2 (IntKind.wrap .u32 ((IntKind.wrap .u32 ((x110.getD 2 (0 : Int)) + (x110.getD 6 (0 : Int)))) + (b0.l.getD (Int.toNat x111) (0 : Int)))))
    bif (inB 14 (x119.length : Int)) then
    bif (inB 2 (x119.length : Int)) then
    andK (F_bourneref03_right ((ixor .u32 (x119.getD 14 (0 : Int)) (x119.getD 2 (0 : Int))), (16 : Int), ())) fun (r123 : Int × Unit) =>
    bif (inB 14 (x119.length : Int)) then
    let x124 : List Int := (x119.set 14 r123.1)
    bif (inB 10 (x124.length : Int)) then
    bif (inB 14 (x124.length : Int)) then
    bif (inB 10 (x124.length : Int)) then
    let x128 : List Int := (x124.set 10 (IntKind.wrap .u32 ((x124.getD 10 (0 : Int)) + (x124.getD 14 (0 : Int)))))
    bif (inB 6 (x128.length : Int)) then
    bif (inB 10 (x128.length : Int)) then
    andK (F_bourneref03_right ((ixor .u32 (x128.getD 6 (0 : Int)) (x128.getD 10 (0 : Int))), (12 : Int), ())) fun (r132 : Int × Unit) =>
    bif (inB 6 (x128.length : Int)) then
    let x133 : List Int := (x128.set 6 r132.1)
    bif (inB 2 (x133.length : Int)) then
    bif (inB 6 (x133.length : Int)) then
    bif (inB 2 (x133.length : Int)) then
    let x138 : List Int := (x133.set 2 (IntKind.wrap .u32 ((IntKind.wrap .u32 ((x133.getD 2 (0 : Int)) + (x133.getD 6 (0 : Int)))) + (b0.l.getD (Int.toNat x113) (0 : Int)))))
    bif (inB 14 (x138.length : Int)) then
    bif (inB 2 (x138.length : Int)) then
    andK (F_bourneref03_right ((ixor .u32 (x138.getD 14 (0 : Int)) (x138.getD 2 (0 : Int))), (8 : Int), ())) fun (r142 : Int × Unit) =>
    bif (inB 14 (x138.length : Int)) then
    let x143 : List Int := (x138.set 14 r142.1)
    bif (inB 10 (x143.length : Int)) then
    bif (inB 14 (x143.length : Int)) then
    bif (inB 10 (x143.length : Int)) then
    let x147 : List Int := (x143.set 10 (IntKind.wrap .u32 ((x143.getD 10 (0 : Int)) + (x143.getD 14 (0 : Int)))))
    bif (inB 6 (x147.length : Int)) then
    bif (inB 10 (x147.length : Int)) then
    andK (F_bourneref03_right ((ixor .u32 (x147.getD 6 (0 : Int)) (x147.getD 10 (0 : Int))), (7 : Int), ())) fun (r151 : Int × Unit) =>
    bif (inB 6 (x147.length : Int)) then
    let x152 : List Int := (x147.set 6 r151.1)
    bif (inB 6 (r26.1.l.length : Int)) then
    let x153 : Int := (r26.1.l.getD 6 (0 : Int))
    bif (inB x153 (b0.l.length : Int)) then
    bif (inB 7 (r26.1.l.length : Int)) then
    let x155 : Int := (r26.1.l.getD 7 (0 : Int))
    bif (inB x155 (b0.l.length : Int)) then
    bif (inB 3 (x152.length : Int)) then
    bif (inB 7 (x152.length : Int)) then
    bif (inB 3 (x152.length : Int)) then
    let x161 : List Int := (x152.set 3 (IntKind.wrap .u32 ((IntKind.wrap .u32 ((x152.getD 3 (0 : Int)) + (x152.getD 7 (0 : Int)))) + (b0.l.getD (Int.toNat x153) (0 : Int)))))
    bif (inB 15 (x161.length : Int)) then
    bif (inB 3 (x161.length : Int)) then
    andK (F_bourneref03_right ((ixor .u32 (x161.getD 15 (0 : Int)) (x161.getD 3 (0 : Int))), (16 : Int), ())) fun (r165 : Int × Unit) =>
    bif (inB 15 (x161.length : Int)) then
    let x166 : List Int := (x161.set 15 r165.1)
    bif (inB 11 (x166.length : Int)) then
    bif (inB 15 (x166.length : Int)) then
    bif (inB 11 (x166.length : Int)) then
    let x170 : List Int := (x166.set 11 (IntKind.wrap .u32 ((x166.getD 11 (0 : Int)) + (x166.getD 15 (0 : Int)))))
    bif (inB 7 (x170.length : Int)) then
    bif (inB 11 (x170.length : Int)) then
    andK (F_bourneref03_right ((ixor .u32 (x170.getD 7 (0 : Int)) (x170.getD 11 (0 : Int))), (12 : Int), ())) fun (r174 : Int × Unit) =>
    bif (inB 7 (x170.length : Int)) then
    let x175 : List Int := (x170.set 7 r174.1)
    bif (inB 3 (x175.length : Int)) then
    bif (inB 7 (x175.length : Int)) then
    bif (inB 3 (x175.length : Int)) then
    let x180 : List Int := (x175.set 3 (IntKind.wrap .u32 ((IntKind.wrap .u32 ((x175.getD 3 (0 : Int)) + (x175.getD 7 (0 : Int)))) + (b0.l.getD (Int.toNat x155) (0 : Int)))))
    bif (inB 15 (x180.length : Int)) then
    bif (inB 3 (x180.length : Int)) then
    andK (F_bourneref03_right ((ixor .u32 (x180.getD 15 (0 : Int)) (x180.getD 3 (0 : Int))), (8 : Int), ())) fun (r184 : Int × Unit) =>
    bif (inB 15 (x180.length : Int)) then
    let x185 : List Int := (x180.set 15 r184.1)
    bif (inB 11 (x185.length : Int)) then
    bif (inB 15 (x185.length : Int)) then
    bif (inB 11 (x185.length : Int)) then
    let x189 : List Int := (x185.set 11 (IntKind.wrap .u32 ((x185.getD 11 (0 : Int)) + (x185.getD 15 (0 : Int)))))
    bif (inB 7 (x189.length : Int)) then
    bif (inB 11 (x189.length : Int)) then
    andK (F_bourneref03_right ((ixor .u32 (x189.getD 7 (0 : Int)) (x189.getD 11 (0 : Int))), (7 : Int), ())) fun (r193 : Int × Unit) =>
    bif (inB 7 (x189.length : Int)) then
    let x194 : List Int := (x189.set 7 r193.1)
    bif (inB 8 (r26.1.l.length : Int)) then
    let x195 : Int := (r26.1.l.getD 8 (0 : Int))
    bif (inB x195 (b0.l.length : Int)) then
    bif (inB 9 (r26.1.l.length : Int)) then
    let x197 : Int := (r26.1.l.getD 9 (0 : Int))
    bif (inB x197 (b0.l.length : Int)) then
    bif (inB 0 (x194.length : Int)) then
    bif (inB 5 (x194.length : Int)) then
    bif (inB 0 (x194.length : Int)) then
    let x203 : List Int := (x194.set 0 (IntKind.wrap .u32 ((IntKind.wrap .u32 ((x194.getD 0 (0 : Int)) + (x194.getD 5 (0 : Int)))) + (b0.l.getD (Int.toNat x195) (0 : Int)))))
    bif (inB 15 (x203.length : Int)) then
    bif (inB 0 (x203.length : Int)) then
    andK (F_bourneref03_right ((ixor .u32 (x203.getD 15 (0 : Int)) (x203.getD 0 (0 : Int))), (16 : Int), ())) fun (r207 : Int × Unit) =>
    bif (inB 15 (x203.length : Int)) then
    let x208 : List Int := (x203.set 15 r207.1)
    bif (inB 10 (x208.length : Int)) then
    bif (inB 15 (x208.length : Int)) then
    bif (inB 10 (x208.length : Int)) then
    let x212 : List Int := (x208.set 10 (IntKind.wrap .u32 ((x208.getD 10 (0 : Int)) + (x208.getD 15 (0 : Int)))))
    bif (inB 5 (x212.length : Int)) then
    bif (inB 10 (x212.length : Int)) then
    andK (F_bourneref03_right ((ixor .u32 (x212.getD 5 (0 : Int)) (x212.getD 10 (0 : Int))), (12 : Int), ())) fun (r216 : Int × Unit) =>
    bif (inB 5 (x212.length : Int)) then
    let x217 : List Int := (x212.set 5 r216.1)
    bif (inB 0 (x217.length : Int)) then
    bif (inB 5 (x217.length : Int)) then
    bif (inB 0 (x217.length : Int)) then
    let x222 : List Int := (x217.set 0 (IntKind.wrap .u32 ((IntKind.wrap .u32 ((x217.getD 0 (0 : Int)) + (x217.getD 5 (0 : Int)))) + (b0.l.getD (Int.toNat x197) (0 : Int)))))
    bif (inB 15 (x222.length : Int)) then
    bif (inB 0 (x222.length : Int)) then
    andK (F_bourneref03_right ((ixor .u32 (x222.getD 15 (0 : Int)) (x222.getD 0 (0 : Int))), (8 : Int), ())) fun (r226 : Int × Unit) =>
    bif (inB 15 (x222.length : Int)) then
    let x227 : List Int := (x222.set 15 r226.1)
    bif (inB 10 (x227.length : Int)) then
    bif (inB 15 (x227.length : Int)) then
    bif (inB 10 (x227.length : Int)) then
    let x231 : List Int := (x227.set 10 (IntKind.wrap .u32 ((x227.getD 10 (0 : Int)) + (x227.getD 15 (0 : Int)))))
    bif (inB 5 (x231.length : Int)) then
    bif (inB 10 (x231.length : Int)) then
    andK (F_bourneref03_right ((ixor .u32 (x231.getD 5 (0 : Int)) (x231.getD 10 (0 : Int))), (7 : Int), ())) fun (r235 : Int × Unit) =>
    bif (inB 5 (x231.length : Int)) then
    let x236 : List Int := (x231.set 5 r235.1)
    bif (inB 10 (r26.1.l.length : Int)) then
    let x237 : Int := (r26.1.l.getD 10 (0 : Int))
    bif (inB x237 (b0.l.length : Int)) then
    bif (inB 11 (r26.1.l.length : Int)) then
    let x239 : Int := (r26.1.l.getD 11 (0 : Int))
    bif (inB x239 (b0.l.length : Int)) then
    bif (inB 1 (x236.length : Int)) then
    bif (inB 6 (x236.length : Int)) then
    bif (inB 1 (x236.length : Int)) then
    let x245 : List Int := (x236.set 1 (IntKind.wrap .u32 ((IntKind.wrap .u32 ((x236.getD 1 (0 : Int)) + (x236.getD 6 (0 : Int)))) + (b0.l.getD (Int.toNat x237) (0 : Int)))))
    bif (inB 12 (x245.length : Int)) then
    bif (inB 1 (x245.length : Int)) then
    andK (F_bourneref03_right ((ixor .u32 (x245.getD 12 (0 : Int)) (x245.getD 1 (0 : Int))), (16 : Int), ())) fun (r249 : Int × Unit) =>
    bif (inB 12 (x245.length : Int)) then
    let x250 : List Int := (x245.set 12 r249.1)
    bif (inB 11 (x250.length : Int)) then
    bif (inB 12 (x250.length : Int)) then
    bif (inB 11 (x250.length : Int)) then
    let x254 : List Int := (x250.set 11 (IntKind.wrap .u32 ((x250.getD 11 (0 : Int)) + (x250.getD 12 (0 : Int)))))
    bif (inB 6 (x254.length : Int)) then
    bif (inB 11 (x254.length : Int)) then
    andK (F_bourneref03_right ((ixor .u32 (x254.getD 6 (0 : Int)) (x254.getD 11 (0 : Int))), (12 : Int), ())) fun (r258 : Int × Unit) =>
    bif (inB 6 (x254.length : Int)) then
    let x259 : List Int := (x254.set 6 r258.1)
    bif (inB 1 (x259.length : Int)) then
    bif (inB 6 (x259.length : Int)) then
    bif (inB 1 (x259.length : Int)) then
    let x264 : List Int := (x259.set 1 (IntKind.wrap .u32 ((IntKind.wrap .u32 ((x259.getD 1 (0 : Int)) + (x259.getD 6 (0 : Int)))) + (b0.l.getD (Int.toNat x239) (0 : Int)))))
    bif (inB 12 (x264.length : Int)) then
    bif (inB 1 (x264.length : Int)) then
    andK (F_bourneref03_right ((ixor .u32 (x264.getD 12 (0 : Int)) (x264.getD 1 (0 : Int))), (8 : Int), ())) fun (r268 : Int × Unit) =>
    bif (inB 12 (x264.length : Int)) then
    let x269 : List Int := (x264.set 12 r268.1)
    bif (inB 11 (x269.length : Int)) then
    bif (inB 12 (x269.length : Int)) then
    bif (inB 11 (x269.length : Int)) then
    let x273 : List Int := (x269.set 11 (IntKind.wrap .u32 ((x269.getD 11 (0 : Int)) + (x269.getD 12 (0 : Int)))))
    bif (inB 6 (x273.length : Int)) then
    bif (inB 11 (x273.length : Int)) then
    andK (F_bourneref03_right ((ixor .u32 (x273.getD 6 (0 : Int)) (x273.getD 11 (0 : Int))), (7 : Int), ())) fun (r277 : Int × Unit) =>
    bif (inB 6 (x273.length : Int)) then
    let x278 : List Int := (x273.set 6 r277.1)
    bif (inB 12 (r26.1.l.length : Int)) then
    let x279 : Int := (r26.1.l.getD 12 (0 : Int))
    bif (inB x279 (b0.l.length : Int)) then
    bif (inB 13 (r26.1.l.length : Int)) then
    let x281 : Int := (r26.1.l.getD 13 (0 : Int))
    bif (inB x281 (b0.l.length : Int)) then
    bif (inB 2 (x278.length : Int)) then
    bif (inB 7 (x278.length : Int)) then
    bif (inB 2 (x278.length : Int)) then
    let x287 : List Int := (x278.set 2 (IntKind.wrap .u32 ((IntKind.wrap .u32 ((x278.getD 2 (0 : Int)) + (x278.getD 7 (0 : Int)))) + (b0.l.getD (Int.toNat x279) (0 : Int)))))
    bif (inB 13 (x287.length : Int)) then
    bif (inB 2 (x287.length : Int)) then
    andK (F_bourneref03_right ((ixor .u32 (x287.getD 13 (0 : Int)) (x287.getD 2 (0 : Int))), (16 : Int), ())) fun (r291 : Int × Unit) =>
    bif (inB 13 (x287.length : Int)) then
    let x292 : List Int := (x287.set 13 r291.1)
    bif (inB 8 (x292.length : Int)) then
    bif (inB 13 (x292.length : Int)) then
    bif (inB 8 (x292.length : Int)) then
    let x296 : List Int := (x292.set 8 (IntKind.wrap .u32 ((x292.getD 8 (0 : Int)) + (x292.getD 13 (0 : Int)))))
    bif (inB 7 (x296.length : Int)) then
    bif (inB 8 (x296.length : Int)) then
    andK (F_bourneref03_right ((ixor .u32 (x296.getD 7 (0 : Int)) (x296.getD 8 (0 : Int))), (12 : Int), ())) fun (r300 : Int × Unit) =>
    bif (inB 7 (x296.length : Int)) then
    let x301 : List Int := (x296.set 7 r300.1)
    bif (inB 2 (x301.length : Int)) then
    bif (inB 7 (x301.length : Int)) then
    bif (inB 2 (x301.length : Int)) then
    let x306 : List Int := (x301.set 2 (IntKind.wrap .u32 ((IntKind.wrap .u32 ((x301.getD 2 (0 : Int)) + (x301.getD 7 (0 : Int)))) + (b0.l.getD (Int.toNat x281) (0 : Int)))))
    bif (inB 13 (x306.length : Int)) then
    bif (inB 2 (x306.length : Int)) then
    andK (F_bourneref03_right ((ixor .u32 (x306.getD 13 (0 : Int)) (x306.getD 2 (0 : Int))), (8 : Int), ())) fun (r310 : Int × Unit) =>
    bif (inB 13 (x306.length : Int)) then
    let x311 : List Int := (x306.set 13 r310.1)
    bif (inB 8 (x311.length : Int)) then
    bif (inB 13 (x311.length : Int)) then
    bif (inB 8 (x311.length : Int)) then
    let x315 : List Int := (x311.set 8 (IntKind.wrap .u32 ((x311.getD 8 (0 : Int)) + (x311.getD 13 (0 : Int)))))
    bif (inB 7 (x315.length : Int)) then
    bif (inB 8 (x315.length : Int)) then
    andK (F_bourneref03_right ((ixor .u32 (x315.getD 7 (0 : Int)) (x315.getD 8 (0 : Int))), (7 : Int), ())) fun (r319 : Int × Unit) =>
    bif (inB 7 (x315.length : Int)) then
    let x320 : List Int := (x315.set 7 r319.1)
    bif (inB 14 (r26.1.l.length : Int)) then
    let x321 : Int := (r26.1.l.getD 14 (0 : Int))
    bif (inB x321 (b0.l.length : Int)) then
    bif (inB 15 (r26.1.l.length : Int)) then
    let x323 : Int := (r26.1.l.getD 15 (0 : Int))
    bif (inB x323 (b0.l.length : Int)) then
    bif (inB 3 (x320.length : Int)) then
    bif (inB 4 (x320.length : Int)) then
    bif (inB 3 (x320.length : Int)) then
    let x329 : List Int := (x320.set 3 (IntKind.wrap .u32 ((IntKind.wrap .u32 ((x320.getD 3 (0 : Int)) + (x320.getD 4 (0 : Int)))) + (b0.l.getD (Int.toNat x321) (0 : Int)))))
    bif (inB 14 (x329.length : Int)) then
    bif (inB 3 (x329.length : Int)) then
    andK (F_bourneref03_right ((ixor .u32 (x329.getD 14 (0 : Int)) (x329.getD 3 (0 : Int))), (16 : Int), ())) fun (r333 : Int × Unit) =>
    bif (inB 14 (x329.length : Int)) then
    let x334 : List Int := (x329.set 14 r333.1)
    bif (inB 9 (x334.length : Int)) then
    bif (inB 14 (x334.length : Int)) then
    bif (inB 9 (x334.length : Int)) then
    let x338 : List Int := (x334.set 9 (IntKind.wrap .u32 ((x334.getD 9 (0 : Int)) + (x334.getD 14 (0 : Int)))))
    bif (inB 4 (x338.length : Int)) then
    bif (inB 9 (x338.length : Int)) then
    andK (F_bourneref03_right ((ixor .u32 (x338.getD 4 (0 : Int)) (x338.getD 9 (0 : Int))), (12 : Int), ())) fun (r342 : Int × Unit) =>
    bif (inB 4 (x338.length : Int)) then
    let x343 : List Int := (x338.set 4 r342.1)
    bif (inB 3 (x343.length : Int)) then
    bif (inB 4 (x343.length : Int)) then
    bif (inB 3 (x343.length : Int)) then
    let x348 : List Int := (x343.set 3 (IntKind.wrap .u32 ((IntKind.wrap .u32 ((x343.getD 3 (0 : Int)) + (x343.getD 4 (0 : Int)))) + (b0.l.getD (Int.toNat x323) (0 : Int)))))
    bif (inB 14 (x348.length : Int)) then
    bif (inB 3 (x348.length : Int)) then
    andK (F_bourneref03_right ((ixor .u32 (x348.getD 14 (0 : Int)) (x348.getD 3 (0 : Int))), (8 : Int), ())) fun (r352 : Int × Unit) =>
    bif (inB 14 (x348.length : Int)) then
    let x353 : List Int := (x348.set 14 r352.1)
    bif (inB 9 (x353.length : Int)) then
    bif (inB 14 (x353.length : Int)) then
    bif (inB 9 (x353.length : Int)) then
    let x357 : List Int := (x353.set 9 (IntKind.wrap .u32 ((x353.getD 9 (0 : Int)) + (x353.getD 14 (0 : Int)))))
    bif (inB 4 (x357.length : Int)) then
    bif (inB 9 (x357.length : Int)) then
    andK (F_bourneref03_right ((ixor .u32 (x357.getD 4 (0 : Int)) (x357.getD 9 (0 : Int))), (7 : Int), ())) fun (r361 : Int × Unit) =>
    bif (inB 4 (x357.length : Int)) then
    c1 t0 (IntKind.wrap .i64 (t11 + 1)) b0 (⟨b1.nl, (x357.set 4 r361.1)⟩ : Sl Int)
    else none
    else none
    else none
    else none
    else none
    else none
    else none
    else none
    else none
    else none
    else none
    else none
    else none
    else none
    else none
    else none
    else none
    else none
    else none
    else none
    else none
    else none
    else none
    else none
    else none
    else none
    else none
    else none
    else none
    else none
    else none
    else none
    else none
    else none
    else none
    else none
    else none
    else none
    else none
    else none
    else none
    else none
    else none
    else none
    else none
    else none
    else none
    else none
    else none
    else none
    else none
    else none
    else none
    else none
    else none
    else none
    else none
    else none
    else none
    else none
    else none
    else none
    else none
    else none
    else none
    else none
    else none
    else none
    else none
    else none
    else none
    else none
    else none
    else none
    else none
    else none
    else none
    else none
    else none
    else none
    else none
    else none
    else none
    else none
    else none
    else none
    else none
    else none
    else none
    else none
    else none
    else none
    else none
    else none
    else none
    else none
    else none
    else none
    else none
    else none
    else none
    else none
    else none
    else none
    else none
    else none
    else none
    else none
    else none
    else none
    else none
    else none
    else none
    else none
    else none
    else none
    else none
    else none
    else none
    else none
    else none
    else none
    else none
    else none
    else none
    else none
    else none
    else none
    else none
    else none
    else none
    else none
    else none
    else none
    else none
    else none
    else none
    else none
    else none
    else none
    else none
    else none
    else none
    else none
    else none
    else none
    else none
    else none
    else none
    else none
    else none
    else none
    else none
    else none
    else none
    else none
    else none
    else none
    else none
    else none
    else none
    else none
    else none
    else none
    else none
    else none
    else none
    else none
    else none
    else none
    else none
    else none
    else none
    else none
    else none
    else none
    else none
    else none
    else none
    else none
    else none
    else none
    else none
    else none
    else none
    else none
    else none
    else none
    else none
    else none
    else none
    else none
    else none
    else none
    else none
    else none
    else none
    else none
    else none
    else none
    else none
    else none
    else none
    else none
    else none
    else none
    else none
    else none
    else none
    else none
    else none
    else none
    else none
    else none
    else none
    else none
    else none
    else none
    else none
    else none
    else none
    else none
    else none
    else none
  else
  l0 k t0 (0 : Int) b1 (⟨true, []⟩ : Sl Int)
def f_bourneref03_compress_l1 {Ω : Type} (ret : (Sl Int) × Unit → Option Ω) (k : Nat)  : Nat → (Sl Int) → Int → (Sl Int) → (Sl Int) → Option Ω
  | 0 => fun _ _ _ _ => none
  | n + 1 => f_bourneref03_compress_l1s ret k (f_bourneref03_compress_l1 ret k n) (f_bourneref03_compress_l0 ret k)
def f_bourneref03_compress_l2s {Ω : Type} (ret : (Sl Int) × Unit → Option Ω) (k : Nat)  (c2 : (Sl Int) → ByteArray → Int → Int → (Sl Int) → Option Ω) (l1 : Nat → (Sl Int) → Int → (Sl Int) → (Sl Int) → Option Ω) (t0 : Sl Int) (t1 : ByteArray) (t2 : Int) (t8 : Int) (b0 : Sl Int) : Option Ω :=
  bif (decide (t8 < 16)) then
    andK (F_bourneref03_word (t1, (IntKind.wrap .i64 (t2 + (IntKind.wrap .i64 (4 * t8)))), ())) fun (r4 : Int × Unit) =>
    bif (room ((b0.l.length : Int) + 1) 4) then
    c2 t0 t1 t2 (IntKind.wrap .i64 (t8 + 1)) (⟨(b0.nl && false), (b0.l ++ [r4.1])⟩ : Sl Int)
    else none
  else
  bif (room ((0 : Int) + (t0.l.length : Int)) 4) then
  bif (room ((([] ++ t0.l).length : Int) + 8) 4) then
  let x8 : List Int := (([] ++ t0.l) ++ [1779033703, 3144134277, 1013904242, 2773480762, 1359893119, 2600822924, 528734635, 1541459225])
  let x9 : Int := (IntKind.wrap .i64 (t2 + 64))
  let x10 : Int := (if (t1.size : Int) < x9 then (t1.size : Int) else x9)
  bif (inB 12 (x8.length : Int)) then
  bif (inB 12 (x8.length : Int)) then
  let x15 : List Int := (x8.set 12 (ixor .u32 (x8.getD 12 (0 : Int)) (IntKind.wrap .u32 (Int.tmod x10 4294967296))))
  bif (inB 13 (x15.length : Int)) then
  bif (inB 13 (x15.length : Int)) then
  let x20 : List Int := (x15.set 13 (ixor .u32 (x15.getD 13 (0 : Int)) (IntKind.wrap .u32 (IntKind.wrap .i64 (Int.tdiv x10 4294967296)))))
  bif (x10 == (t1.size : Int)) then
    bif (inB 14 (x20.length : Int)) then
    bif (inB 14 (x20.length : Int)) then
    l1 k t0 (0 : Int) b0 (⟨false, (x20.set 14 (IntKind.wrap .u32 (4294967295 - (x20.getD 14 (0 : Int)))))⟩ : Sl Int)
    else none
    else none
  else
  l1 k t0 (0 : Int) b0 (⟨false, x20⟩ : Sl Int)
  else none
  else none
  else none
  else none
  else none
  else none
def f_bourneref03_compress_l2 {Ω : Type} (ret : (Sl Int) × Unit → Option Ω) (k : Nat)  : Nat → (Sl Int) → ByteArray → Int → Int → (Sl Int) → Option Ω
  | 0 => fun _ _ _ _ _ => none
  | n + 1 => f_bourneref03_compress_l2s ret k (f_bourneref03_compress_l2 ret k n) (f_bourneref03_compress_l1 ret k)
def f_bourneref03_compress_b {Ω : Type} (ret : (Sl Int) × Unit → Option Ω) (k : Nat) (l2 : Nat → (Sl Int) → ByteArray → Int → Int → (Sl Int) → Option Ω) (a0 : Sl Int) (a1 : ByteArray) (a2 : Int) : Option Ω :=
  l2 k a0 a1 a2 (0 : Int) (⟨true, []⟩ : Sl Int)
def f_bourneref03_compress {Ω : Type} (ret : (Sl Int) × Unit → Option Ω) (k : Nat) (a0 : Sl Int) (a1 : ByteArray) (a2 : Int) : Option Ω := f_bourneref03_compress_b ret k (f_bourneref03_compress_l2 ret k) a0 a1 a2
theorem f_bourneref03_compress_l0_eq (m : Int) {Ω : Type} (ret : (Sl Int) × Unit → Option Ω) (k : Nat)  : ∀ (n : Nat) (t0 : Sl Int) (t14 : Int) (b0 : Sl Int) (b1 : Sl Int), loopAt (E_bourneref03_compress m Ω) (resLive Tryd.f56.results.toList) [] k (spotF (E_bourneref03_compress m Ω) [] k Tryd.f56 [] [true, true, true, true, true, true, true, true, true, true, true, false, true, false] (resK [.sl (.int .u32)] ret)) n (S_bourneref03_compress_0 t0 t14 b0 b1) = f_bourneref03_compress_l0 ret k n t0 t14 b0 b1 := by
  intro n
  induction n with
  | zero => intros; rw [loopAt_zero]; rfl
  | succ n ih =>
    intros t0 t14 b0 b1
    rw [loopAt_succ]
    have e : f_bourneref03_compress_l0 ret k n = fun t0 t14 b0 b1 => loopAt (E_bourneref03_compress m Ω) (resLive Tryd.f56.results.toList) [] k (spotF (E_bourneref03_compress m Ω) [] k Tryd.f56 [] [true, true, true, true, true, true, true, true, true, true, true, false, true, false] (resK [.sl (.int .u32)] ret)) n (S_bourneref03_compress_0 t0 t14 b0 b1) := by funext t0 t14 b0 b1; exact (ih t0 t14 b0 b1).symm
    show _ = f_bourneref03_compress_l0s ret k (f_bourneref03_compress_l0 ret k n) t0 t14 b0 b1
    rw [e]
    kernel_rfl
theorem f_bourneref03_compress_l1_eq (m : Int) {Ω : Type} (ret : (Sl Int) × Unit → Option Ω) (k : Nat)  : ∀ (n : Nat) (t0 : Sl Int) (t11 : Int) (b0 : Sl Int) (b1 : Sl Int), loopAt (E_bourneref03_compress m Ω) (resLive Tryd.f56.results.toList) [] k (spotF (E_bourneref03_compress m Ω) [] k Tryd.f56 [] [true, true, true, true, true, true, true, true, true, false, true, false] (resK [.sl (.int .u32)] ret)) n (S_bourneref03_compress_1 t0 t11 b0 b1) = f_bourneref03_compress_l1 ret k n t0 t11 b0 b1 := by
  intro n
  induction n with
  | zero => intros; rw [loopAt_zero]; rfl
  | succ n ih =>
    intros t0 t11 b0 b1
    rw [loopAt_succ]
    have e : f_bourneref03_compress_l1 ret k n = fun t0 t11 b0 b1 => loopAt (E_bourneref03_compress m Ω) (resLive Tryd.f56.results.toList) [] k (spotF (E_bourneref03_compress m Ω) [] k Tryd.f56 [] [true, true, true, true, true, true, true, true, true, false, true, false] (resK [.sl (.int .u32)] ret)) n (S_bourneref03_compress_1 t0 t11 b0 b1) := by funext t0 t11 b0 b1; exact (ih t0 t11 b0 b1).symm
    have e0 : f_bourneref03_compress_l0 ret k = fun m_ t0_ t14_ b0_ b1_ => loopAt (E_bourneref03_compress m Ω) (resLive Tryd.f56.results.toList) [] k (spotF (E_bourneref03_compress m Ω) [] k Tryd.f56 [] [true, true, true, true, true, true, true, true, true, true, true, false, true, false] (resK [.sl (.int .u32)] ret)) m_ (S_bourneref03_compress_0 t0_ t14_ b0_ b1_) := by funext m_ t0_ t14_ b0_ b1_; exact (f_bourneref03_compress_l0_eq m ret k m_ t0_ t14_ b0_ b1_).symm
    show _ = f_bourneref03_compress_l1s ret k (f_bourneref03_compress_l1 ret k n) (f_bourneref03_compress_l0 ret k) t0 t11 b0 b1
    rw [e, e0]
    kernel_rfl
theorem f_bourneref03_compress_l2_eq (m : Int) {Ω : Type} (ret : (Sl Int) × Unit → Option Ω) (k : Nat)  : ∀ (n : Nat) (t0 : Sl Int) (t1 : ByteArray) (t2 : Int) (t8 : Int) (b0 : Sl Int), loopAt (E_bourneref03_compress m Ω) (resLive Tryd.f56.results.toList) [] k (spotF (E_bourneref03_compress m Ω) [] k Tryd.f56 [] [true, true, false, true, false] (resK [.sl (.int .u32)] ret)) n (S_bourneref03_compress_2 t0 t1 t2 t8 b0) = f_bourneref03_compress_l2 ret k n t0 t1 t2 t8 b0 := by
  intro n
  induction n with
  | zero => intros; rw [loopAt_zero]; rfl
  | succ n ih =>
    intros t0 t1 t2 t8 b0
    rw [loopAt_succ]
    have e : f_bourneref03_compress_l2 ret k n = fun t0 t1 t2 t8 b0 => loopAt (E_bourneref03_compress m Ω) (resLive Tryd.f56.results.toList) [] k (spotF (E_bourneref03_compress m Ω) [] k Tryd.f56 [] [true, true, false, true, false] (resK [.sl (.int .u32)] ret)) n (S_bourneref03_compress_2 t0 t1 t2 t8 b0) := by funext t0 t1 t2 t8 b0; exact (ih t0 t1 t2 t8 b0).symm
    have e1 : f_bourneref03_compress_l1 ret k = fun m_ t0_ t11_ b0_ b1_ => loopAt (E_bourneref03_compress m Ω) (resLive Tryd.f56.results.toList) [] k (spotF (E_bourneref03_compress m Ω) [] k Tryd.f56 [] [true, true, true, true, true, true, true, true, true, false, true, false] (resK [.sl (.int .u32)] ret)) m_ (S_bourneref03_compress_1 t0_ t11_ b0_ b1_) := by funext m_ t0_ t11_ b0_ b1_; exact (f_bourneref03_compress_l1_eq m ret k m_ t0_ t11_ b0_ b1_).symm
    show _ = f_bourneref03_compress_l2s ret k (f_bourneref03_compress_l2 ret k n) (f_bourneref03_compress_l1 ret k) t0 t1 t2 t8 b0
    rw [e, e1]
    kernel_rfl
theorem f_bourneref03_compress_run (m : Int) {Ω : Type} (ret : (Sl Int) × Unit → Option Ω) (k : Nat) (a0 : Sl Int) (a1 : ByteArray) (a2 : Int) : run (E_bourneref03_compress m Ω) [] k Tryd.f56 [.sl (.int .u32) false a0, .str a1, .int .i64 a2] [] (resK [.sl (.int .u32)] ret) = f_bourneref03_compress ret k a0 a1 a2 := by
  have e2 : f_bourneref03_compress_l2 ret k = fun m_ t0_ t1_ t2_ t8_ b0_ => loopAt (E_bourneref03_compress m Ω) (resLive Tryd.f56.results.toList) [] k (spotF (E_bourneref03_compress m Ω) [] k Tryd.f56 [] [true, true, false, true, false] (resK [.sl (.int .u32)] ret)) m_ (S_bourneref03_compress_2 t0_ t1_ t2_ t8_ b0_) := by funext m_ t0_ t1_ t2_ t8_ b0_; exact (f_bourneref03_compress_l2_eq m ret k m_ t0_ t1_ t2_ t8_ b0_).symm
  show _ = f_bourneref03_compress_b ret k (f_bourneref03_compress_l2 ret k) a0 a1 a2
  rw [e2]
  kernel_rfl
def F_bourneref03_compress (a : (Sl Int) × ByteArray × Int × Unit) : Option ((Sl Int) × Unit) := ends fun k => f_bourneref03_compress some k a.1 a.2.1 a.2.2.1
theorem f_bourneref03_compress_at : Tryd.prog.funcs[56]? = some Tryd.f56 := by kernel_rfl
theorem E_bourneref03_compress_ok (m : Int) (Ω : Type) : EnvOk Tryd.prog (E_bourneref03_compress m Ω) := envT_ok T_ok (by
  intro e he
  simp only [List.mem_cons, List.not_mem_nil, or_false] at he
  rcases he with rfl | rfl | rfl
  · exact ent_ok fun a r h => F_bourneref03_word_ok a r h m
  · exact ent_ok fun a r h => F_bourneref03_order_ok a r h m
  · exact ent_ok fun a r h => F_bourneref03_right_ok a r h m) (by
  intro e he
  simp only [List.mem_cons, List.not_mem_nil, or_false] at he
  rcases he with rfl | rfl
  · exact fun xs h => I_bourneref03_constants_ok m Ω xs h
  · exact fun xs h => I_bourneref03_g_ok m Ω xs h)
theorem F_bourneref03_compress_ok (a : Tys [.sl (.int .u32), .str, .int .i64]) (r : Tys [.sl (.int .u32)]) (h : F_bourneref03_compress a = some r) (m : Int) : PContract Tryd.prog (GL m) 56 (injL [.sl (.int .u32), .str, .int .i64] a) (injR [.sl (.int .u32)] r) := by
  obtain ⟨k, h⟩ := ends_some h
  exact PContract.of_run (E := E_bourneref03_compress m (Tys [.sl (.int .u32)])) (un := []) (k := k) (E_bourneref03_compress_ok m _) mixed (callOk_of f_bourneref03_compress_at (by kernel_rfl) (by kernel_rfl)) f_bourneref03_compress_at ((f_bourneref03_compress_run m some k a.1 a.2.1 a.2.2.1).trans h)
/-! bourne/bourneref03.Sum -/
noncomputable def E_bourneref03_Sum (m : Int) (Ω : Type) : Env Ω := envT T (GL m) [(56, false, ent [.sl (.int .u32), .str, .int .i64] [.sl (.int .u32)] F_bourneref03_compress)] [(55, inl (E_bourneref03_constants m Ω) [] 0 Tryd.f55)]
def S_bourneref03_Sum_0 (t3 : Sl Int) (t6 : Int) (b0 : Sl Int) : St := ⟨[.undef, .undef, .undef, .sl (.int .u32) false t3, .undef, .own 0, .int .i64 t6, .undef, .undef, .undef, .undef, .undef, .undef, .undef, .undef, .undef, .undef, .undef, .undef, .undef, .undef, .undef, .undef, .undef, .undef, .undef, .undef, .undef, .undef, .undef, .undef, .undef, .undef, .undef, .undef, .undef, .undef, .undef, .undef, .undef, .undef, .undef, .undef, .undef, .undef, .undef, .undef, .undef, .undef, .undef, .undef, .undef, .undef, .undef, .undef], [.rows (.int .u8) b0]⟩
def S_bourneref03_Sum_1 (t0 : ByteArray) (t3 : Sl Int) (t4 : Int) : St := ⟨[.str t0, .undef, .undef, .sl (.int .u32) false t3, .int .i64 t4, .undef, .undef, .undef, .undef, .undef, .undef, .undef, .undef, .undef, .undef, .undef, .undef, .undef, .undef, .undef, .undef, .undef, .undef, .undef, .undef, .undef, .undef, .undef, .undef, .undef, .undef, .undef, .undef, .undef, .undef, .undef, .undef, .undef, .undef, .undef, .undef, .undef, .undef, .undef, .undef, .undef, .undef, .undef, .undef, .undef, .undef, .undef, .undef, .undef, .undef], []⟩
def f_bourneref03_Sum_l0s {Ω : Type} (ret : ByteArray × Unit → Option Ω) (k : Nat)  (c0 : (Sl Int) → Int → (Sl Int) → Option Ω)  (t3 : Sl Int) (t6 : Int) (b0 : Sl Int) : Option Ω :=
  bif (decide (t6 < 8)) then
    bif (inB t6 (t3.l.length : Int)) then
    let x6 : Int := (t3.l.getD (Int.toNat t6) (0 : Int))
    bif (room ((b0.l.length : Int) + 4) 1) then
    c0 t3 (IntKind.wrap .i64 (t6 + 1)) (⟨(b0.nl && false), (b0.l ++ [(IntKind.wrap .u8 (Int.tmod x6 256)), (IntKind.wrap .u8 (Int.tmod (IntKind.wrap .u32 (Int.tdiv x6 256)) 256)), (IntKind.wrap .u8 (Int.tmod (IntKind.wrap .u32 (Int.tdiv x6 65536)) 256)), (IntKind.wrap .u8 (IntKind.wrap .u32 (Int.tdiv x6 16777216)))])⟩ : Sl Int)
    else none
    else none
  else
  ret ((strOf b0.l), ())
def f_bourneref03_Sum_l0 {Ω : Type} (ret : ByteArray × Unit → Option Ω) (k : Nat)  : Nat → (Sl Int) → Int → (Sl Int) → Option Ω
  | 0 => fun _ _ _ => none
  | n + 1 => f_bourneref03_Sum_l0s ret k (f_bourneref03_Sum_l0 ret k n)
def f_bourneref03_Sum_l1s {Ω : Type} (ret : ByteArray × Unit → Option Ω) (k : Nat)  (c1 : ByteArray → (Sl Int) → Int → Option Ω) (l0 : Nat → (Sl Int) → Int → (Sl Int) → Option Ω) (t0 : ByteArray) (t3 : Sl Int) (t4 : Int) : Option Ω :=
  bif (decide (t4 < (t0.size : Int))) then
    andK (F_bourneref03_compress (t3, t0, t4, ())) fun (r3 : (Sl Int) × Unit) =>
    c1 t0 r3.1 (IntKind.wrap .i64 (t4 + 64))
  else
  l0 k t3 (0 : Int) (⟨true, []⟩ : Sl Int)
def f_bourneref03_Sum_l1 {Ω : Type} (ret : ByteArray × Unit → Option Ω) (k : Nat)  : Nat → ByteArray → (Sl Int) → Int → Option Ω
  | 0 => fun _ _ _ => none
  | n + 1 => f_bourneref03_Sum_l1s ret k (f_bourneref03_Sum_l1 ret k n) (f_bourneref03_Sum_l0 ret k)
def f_bourneref03_Sum_b {Ω : Type} (ret : ByteArray × Unit → Option Ω) (k : Nat) (l1 : Nat → ByteArray → (Sl Int) → Int → Option Ω) (a0 : ByteArray) : Option Ω :=
  andK (F_bourneref03_compress (((⟨false, [1795745351, 3144134277, 1013904242, 2773480762, 1359893119, 2600822924, 528734635, 1541459225]⟩ : Sl Int) : Sl Int), a0, (0 : Int), ())) fun (r1 : (Sl Int) × Unit) =>
  l1 k a0 r1.1 (64 : Int)
def f_bourneref03_Sum {Ω : Type} (ret : ByteArray × Unit → Option Ω) (k : Nat) (a0 : ByteArray) : Option Ω := f_bourneref03_Sum_b ret k (f_bourneref03_Sum_l1 ret k) a0
theorem f_bourneref03_Sum_l0_eq (m : Int) {Ω : Type} (ret : ByteArray × Unit → Option Ω) (k : Nat)  : ∀ (n : Nat) (t3 : Sl Int) (t6 : Int) (b0 : Sl Int), loopAt (E_bourneref03_Sum m Ω) (resLive Tryd.f44.results.toList) [] k (spotF (E_bourneref03_Sum m Ω) [] k Tryd.f44 [] [true, true, true, true, true, true, false, true, false] (resK [.str] ret)) n (S_bourneref03_Sum_0 t3 t6 b0) = f_bourneref03_Sum_l0 ret k n t3 t6 b0 := by
  intro n
  induction n with
  | zero => intros; rw [loopAt_zero]; rfl
  | succ n ih =>
    intros t3 t6 b0
    rw [loopAt_succ]
    have e : f_bourneref03_Sum_l0 ret k n = fun t3 t6 b0 => loopAt (E_bourneref03_Sum m Ω) (resLive Tryd.f44.results.toList) [] k (spotF (E_bourneref03_Sum m Ω) [] k Tryd.f44 [] [true, true, true, true, true, true, false, true, false] (resK [.str] ret)) n (S_bourneref03_Sum_0 t3 t6 b0) := by funext t3 t6 b0; exact (ih t3 t6 b0).symm
    show _ = f_bourneref03_Sum_l0s ret k (f_bourneref03_Sum_l0 ret k n) t3 t6 b0
    rw [e]
    kernel_rfl
theorem f_bourneref03_Sum_l1_eq (m : Int) {Ω : Type} (ret : ByteArray × Unit → Option Ω) (k : Nat)  : ∀ (n : Nat) (t0 : ByteArray) (t3 : Sl Int) (t4 : Int), loopAt (E_bourneref03_Sum m Ω) (resLive Tryd.f44.results.toList) [] k (spotF (E_bourneref03_Sum m Ω) [] k Tryd.f44 [] [true, true, true, true, false, true, false] (resK [.str] ret)) n (S_bourneref03_Sum_1 t0 t3 t4) = f_bourneref03_Sum_l1 ret k n t0 t3 t4 := by
  intro n
  induction n with
  | zero => intros; rw [loopAt_zero]; rfl
  | succ n ih =>
    intros t0 t3 t4
    rw [loopAt_succ]
    have e : f_bourneref03_Sum_l1 ret k n = fun t0 t3 t4 => loopAt (E_bourneref03_Sum m Ω) (resLive Tryd.f44.results.toList) [] k (spotF (E_bourneref03_Sum m Ω) [] k Tryd.f44 [] [true, true, true, true, false, true, false] (resK [.str] ret)) n (S_bourneref03_Sum_1 t0 t3 t4) := by funext t0 t3 t4; exact (ih t0 t3 t4).symm
    have e0 : f_bourneref03_Sum_l0 ret k = fun m_ t3_ t6_ b0_ => loopAt (E_bourneref03_Sum m Ω) (resLive Tryd.f44.results.toList) [] k (spotF (E_bourneref03_Sum m Ω) [] k Tryd.f44 [] [true, true, true, true, true, true, false, true, false] (resK [.str] ret)) m_ (S_bourneref03_Sum_0 t3_ t6_ b0_) := by funext m_ t3_ t6_ b0_; exact (f_bourneref03_Sum_l0_eq m ret k m_ t3_ t6_ b0_).symm
    show _ = f_bourneref03_Sum_l1s ret k (f_bourneref03_Sum_l1 ret k n) (f_bourneref03_Sum_l0 ret k) t0 t3 t4
    rw [e, e0]
    kernel_rfl
theorem f_bourneref03_Sum_run (m : Int) {Ω : Type} (ret : ByteArray × Unit → Option Ω) (k : Nat) (a0 : ByteArray) : run (E_bourneref03_Sum m Ω) [] k Tryd.f44 [.str a0] [] (resK [.str] ret) = f_bourneref03_Sum ret k a0 := by
  have e1 : f_bourneref03_Sum_l1 ret k = fun m_ t0_ t3_ t4_ => loopAt (E_bourneref03_Sum m Ω) (resLive Tryd.f44.results.toList) [] k (spotF (E_bourneref03_Sum m Ω) [] k Tryd.f44 [] [true, true, true, true, false, true, false] (resK [.str] ret)) m_ (S_bourneref03_Sum_1 t0_ t3_ t4_) := by funext m_ t0_ t3_ t4_; exact (f_bourneref03_Sum_l1_eq m ret k m_ t0_ t3_ t4_).symm
  show _ = f_bourneref03_Sum_b ret k (f_bourneref03_Sum_l1 ret k) a0
  rw [e1]
  kernel_rfl
def F_bourneref03_Sum (a : ByteArray × Unit) : Option (ByteArray × Unit) := ends fun k => f_bourneref03_Sum some k a.1
theorem f_bourneref03_Sum_at : Tryd.prog.funcs[44]? = some Tryd.f44 := by kernel_rfl
theorem E_bourneref03_Sum_ok (m : Int) (Ω : Type) : EnvOk Tryd.prog (E_bourneref03_Sum m Ω) := envT_ok T_ok (by
  intro e he
  simp only [List.mem_cons, List.not_mem_nil, or_false] at he
  rcases he with rfl
  · exact ent_ok fun a r h => F_bourneref03_compress_ok a r h m) (by
  intro e he
  simp only [List.mem_cons, List.not_mem_nil, or_false] at he
  rcases he with rfl
  · exact fun xs h => I_bourneref03_constants_ok m Ω xs h)
theorem F_bourneref03_Sum_ok (a : Tys [.str]) (r : Tys [.str]) (h : F_bourneref03_Sum a = some r) (m : Int) : PContract Tryd.prog (GL m) 44 (injL [.str] a) (injR [.str] r) := by
  obtain ⟨k, h⟩ := ends_some h
  exact PContract.of_run (E := E_bourneref03_Sum m (Tys [.str])) (un := []) (k := k) (E_bourneref03_Sum_ok m _) mixed (callOk_of f_bourneref03_Sum_at (by kernel_rfl) (by kernel_rfl)) f_bourneref03_Sum_at ((f_bourneref03_Sum_run m some k a.1).trans h)
/-! bourne/bourneref03.Short -/
noncomputable def E_bourneref03_Short (m : Int) (Ω : Type) : Env Ω := envT T (GL m) [(44, true, ent [.str] [.str] F_bourneref03_Sum)] []
def S_bourneref03_Short_0 (t3 : ByteArray) (t4 : Int) (t5 : Int) : St := ⟨[.undef, .undef, .undef, .str t3, .int .i64 t4, .int .i64 t5, .undef, .undef, .undef, .undef, .undef, .undef, .undef, .undef, .undef, .undef, .undef, .undef, .undef, .undef, .undef, .undef, .undef, .undef, .undef, .undef], []⟩
def f_bourneref03_Short_l0s {Ω : Type} (ret : Int × Unit → Option Ω) (k : Nat)  (c0 : ByteArray → Int → Int → Option Ω)  (t3 : ByteArray) (t4 : Int) (t5 : Int) : Option Ω :=
  bif (decide (t5 < 7)) then
    bif (inB t5 (t3.size : Int)) then
    c0 t3 (IntKind.wrap .i64 ((IntKind.wrap .i64 (t4 * 256)) + (IntKind.wrap .i64 (bt t3 t5)))) (IntKind.wrap .i64 (t5 + 1))
    else none
  else
  bif (inB 7 (t3.size : Int)) then
  ret ((IntKind.wrap .i64 ((IntKind.wrap .i64 (t4 * 16)) + (IntKind.wrap .i64 (Int.tdiv (IntKind.wrap .i64 (bt t3 7)) 16)))), ())
  else none
def f_bourneref03_Short_l0 {Ω : Type} (ret : Int × Unit → Option Ω) (k : Nat)  : Nat → ByteArray → Int → Int → Option Ω
  | 0 => fun _ _ _ => none
  | n + 1 => f_bourneref03_Short_l0s ret k (f_bourneref03_Short_l0 ret k n)
def f_bourneref03_Short_b {Ω : Type} (ret : Int × Unit → Option Ω) (k : Nat) (l0 : Nat → ByteArray → Int → Int → Option Ω) (a0 : ByteArray) : Option Ω :=
  andK (F_bourneref03_Sum (a0, ())) fun (r1 : ByteArray × Unit) =>
  l0 k r1.1 (0 : Int) (0 : Int)
def f_bourneref03_Short {Ω : Type} (ret : Int × Unit → Option Ω) (k : Nat) (a0 : ByteArray) : Option Ω := f_bourneref03_Short_b ret k (f_bourneref03_Short_l0 ret k) a0
theorem f_bourneref03_Short_l0_eq (m : Int) {Ω : Type} (ret : Int × Unit → Option Ω) (k : Nat)  : ∀ (n : Nat) (t3 : ByteArray) (t4 : Int) (t5 : Int), loopAt (E_bourneref03_Short m Ω) (resLive Tryd.f28.results.toList) [] k (spotF (E_bourneref03_Short m Ω) [] k Tryd.f28 [] [true, true, true, false, true, false] (resK [.int .i64] ret)) n (S_bourneref03_Short_0 t3 t4 t5) = f_bourneref03_Short_l0 ret k n t3 t4 t5 := by
  intro n
  induction n with
  | zero => intros; rw [loopAt_zero]; rfl
  | succ n ih =>
    intros t3 t4 t5
    rw [loopAt_succ]
    have e : f_bourneref03_Short_l0 ret k n = fun t3 t4 t5 => loopAt (E_bourneref03_Short m Ω) (resLive Tryd.f28.results.toList) [] k (spotF (E_bourneref03_Short m Ω) [] k Tryd.f28 [] [true, true, true, false, true, false] (resK [.int .i64] ret)) n (S_bourneref03_Short_0 t3 t4 t5) := by funext t3 t4 t5; exact (ih t3 t4 t5).symm
    show _ = f_bourneref03_Short_l0s ret k (f_bourneref03_Short_l0 ret k n) t3 t4 t5
    rw [e]
    kernel_rfl
theorem f_bourneref03_Short_run (m : Int) {Ω : Type} (ret : Int × Unit → Option Ω) (k : Nat) (a0 : ByteArray) : run (E_bourneref03_Short m Ω) [] k Tryd.f28 [.str a0] [] (resK [.int .i64] ret) = f_bourneref03_Short ret k a0 := by
  have e0 : f_bourneref03_Short_l0 ret k = fun m_ t3_ t4_ t5_ => loopAt (E_bourneref03_Short m Ω) (resLive Tryd.f28.results.toList) [] k (spotF (E_bourneref03_Short m Ω) [] k Tryd.f28 [] [true, true, true, false, true, false] (resK [.int .i64] ret)) m_ (S_bourneref03_Short_0 t3_ t4_ t5_) := by funext m_ t3_ t4_ t5_; exact (f_bourneref03_Short_l0_eq m ret k m_ t3_ t4_ t5_).symm
  show _ = f_bourneref03_Short_b ret k (f_bourneref03_Short_l0 ret k) a0
  rw [e0]
  kernel_rfl
def F_bourneref03_Short (a : ByteArray × Unit) : Option (Int × Unit) := ends fun k => f_bourneref03_Short some k a.1
theorem f_bourneref03_Short_at : Tryd.prog.funcs[28]? = some Tryd.f28 := by kernel_rfl
theorem E_bourneref03_Short_ok (m : Int) (Ω : Type) : EnvOk Tryd.prog (E_bourneref03_Short m Ω) := envT_ok T_ok (by
  intro e he
  simp only [List.mem_cons, List.not_mem_nil, or_false] at he
  rcases he with rfl
  · exact ent_ok fun a r h => F_bourneref03_Sum_ok a r h m) (by intro e he; cases he)
theorem F_bourneref03_Short_ok (a : Tys [.str]) (r : Tys [.int .i64]) (h : F_bourneref03_Short a = some r) (m : Int) : PContract Tryd.prog (GL m) 28 (injL [.str] a) (injR [.int .i64] r) := by
  obtain ⟨k, h⟩ := ends_some h
  exact PContract.of_run (E := E_bourneref03_Short m (Tys [.int .i64])) (un := []) (k := k) (E_bourneref03_Short_ok m _) mixed (callOk_of f_bourneref03_Short_at (by kernel_rfl) (by kernel_rfl)) f_bourneref03_Short_at ((f_bourneref03_Short_run m some k a.1).trans h)
/-! bourne/bourneref02.Text -/
noncomputable def E_bourneref02_Text (m : Int) (Ω : Type) : Env Ω := envT T (GL m) [] []
def S_bourneref02_Text_0 (t0 : ByteArray) (t4 : Int) (b0 : Sl Int) : St := ⟨[.str t0, .undef, .undef, .own 0, .int .i64 t4, .undef, .undef, .undef, .undef, .undef, .undef, .undef, .undef, .undef, .undef, .undef, .undef, .undef, .undef, .undef, .undef, .undef, .undef, .undef, .undef, .undef, .undef, .undef], [.rows (.int .u8) b0]⟩
def f_bourneref02_Text_l0s {Ω : Type} (ret : ByteArray × Unit → Option Ω) (k : Nat)  (c0 : ByteArray → Int → (Sl Int) → Option Ω)  (t0 : ByteArray) (t4 : Int) (b0 : Sl Int) : Option Ω :=
  bif (decide (t4 < (t0.size : Int))) then
    bif (inB t4 (t0.size : Int)) then
    bif (room ((b0.l.length : Int) + 1) 1) then
    let x3 : List Int := (b0.l ++ [(bt t0 t4)])
    bif (inB t4 (t0.size : Int)) then
    bif ((bt t0 t4) == 0) then
      bif (room ((x3.length : Int) + 1) 1) then
      c0 t0 (IntKind.wrap .i64 (t4 + 1)) (⟨((b0.nl && false) && false), (x3 ++ [255])⟩ : Sl Int)
      else none
    else
    c0 t0 (IntKind.wrap .i64 (t4 + 1)) (⟨(b0.nl && false), x3⟩ : Sl Int)
    else none
    else none
    else none
  else
  bif (room ((b0.l.length : Int) + 2) 1) then
  ret ((strOf (b0.l ++ [0, 1])), ())
  else none
def f_bourneref02_Text_l0 {Ω : Type} (ret : ByteArray × Unit → Option Ω) (k : Nat)  : Nat → ByteArray → Int → (Sl Int) → Option Ω
  | 0 => fun _ _ _ => none
  | n + 1 => f_bourneref02_Text_l0s ret k (f_bourneref02_Text_l0 ret k n)
def f_bourneref02_Text_b {Ω : Type} (ret : ByteArray × Unit → Option Ω) (k : Nat) (l0 : Nat → ByteArray → Int → (Sl Int) → Option Ω) (a0 : ByteArray) : Option Ω :=
  l0 k a0 (0 : Int) (⟨true, []⟩ : Sl Int)
def f_bourneref02_Text {Ω : Type} (ret : ByteArray × Unit → Option Ω) (k : Nat) (a0 : ByteArray) : Option Ω := f_bourneref02_Text_b ret k (f_bourneref02_Text_l0 ret k) a0
theorem f_bourneref02_Text_l0_eq (m : Int) {Ω : Type} (ret : ByteArray × Unit → Option Ω) (k : Nat)  : ∀ (n : Nat) (t0 : ByteArray) (t4 : Int) (b0 : Sl Int), loopAt (E_bourneref02_Text m Ω) (resLive Tryd.f29.results.toList) [] k (spotF (E_bourneref02_Text m Ω) [] k Tryd.f29 [] [true, true, false, true, false] (resK [.str] ret)) n (S_bourneref02_Text_0 t0 t4 b0) = f_bourneref02_Text_l0 ret k n t0 t4 b0 := by
  intro n
  induction n with
  | zero => intros; rw [loopAt_zero]; rfl
  | succ n ih =>
    intros t0 t4 b0
    rw [loopAt_succ]
    have e : f_bourneref02_Text_l0 ret k n = fun t0 t4 b0 => loopAt (E_bourneref02_Text m Ω) (resLive Tryd.f29.results.toList) [] k (spotF (E_bourneref02_Text m Ω) [] k Tryd.f29 [] [true, true, false, true, false] (resK [.str] ret)) n (S_bourneref02_Text_0 t0 t4 b0) := by funext t0 t4 b0; exact (ih t0 t4 b0).symm
    show _ = f_bourneref02_Text_l0s ret k (f_bourneref02_Text_l0 ret k n) t0 t4 b0
    rw [e]
    kernel_rfl
theorem f_bourneref02_Text_run (m : Int) {Ω : Type} (ret : ByteArray × Unit → Option Ω) (k : Nat) (a0 : ByteArray) : run (E_bourneref02_Text m Ω) [] k Tryd.f29 [.str a0] [] (resK [.str] ret) = f_bourneref02_Text ret k a0 := by
  have e0 : f_bourneref02_Text_l0 ret k = fun m_ t0_ t4_ b0_ => loopAt (E_bourneref02_Text m Ω) (resLive Tryd.f29.results.toList) [] k (spotF (E_bourneref02_Text m Ω) [] k Tryd.f29 [] [true, true, false, true, false] (resK [.str] ret)) m_ (S_bourneref02_Text_0 t0_ t4_ b0_) := by funext m_ t0_ t4_ b0_; exact (f_bourneref02_Text_l0_eq m ret k m_ t0_ t4_ b0_).symm
  show _ = f_bourneref02_Text_b ret k (f_bourneref02_Text_l0 ret k) a0
  rw [e0]
  kernel_rfl
def F_bourneref02_Text (a : ByteArray × Unit) : Option (ByteArray × Unit) := ends fun k => f_bourneref02_Text some k a.1
theorem f_bourneref02_Text_at : Tryd.prog.funcs[29]? = some Tryd.f29 := by kernel_rfl
theorem E_bourneref02_Text_ok (m : Int) (Ω : Type) : EnvOk Tryd.prog (E_bourneref02_Text m Ω) := envT_ok T_ok (by intro e he; cases he) (by intro e he; cases he)
theorem F_bourneref02_Text_ok (a : Tys [.str]) (r : Tys [.str]) (h : F_bourneref02_Text a = some r) (m : Int) : PContract Tryd.prog (GL m) 29 (injL [.str] a) (injR [.str] r) := by
  obtain ⟨k, h⟩ := ends_some h
  exact PContract.of_run (E := E_bourneref02_Text m (Tys [.str])) (un := []) (k := k) (E_bourneref02_Text_ok m _) mixed (callOk_of f_bourneref02_Text_at (by kernel_rfl) (by kernel_rfl)) f_bourneref02_Text_at ((f_bourneref02_Text_run m some k a.1).trans h)
/-! bourne/bourneref05.Key -/
noncomputable def E_bourneref05_Key (m : Int) (Ω : Type) : Env Ω := envT T (GL m) [(13, true, ent [.int .i64] [.pair (.int .i64) (.int .i64)] F_bourneref05_Of), (28, true, ent [.str] [.int .i64] F_bourneref03_Short), (29, true, ent [.str] [.str] F_bourneref02_Text)] []
def f_bourneref05_Key_b {Ω : Type} (ret : (Int × Int) × Unit → Option Ω) (k : Nat)  (a0 : ByteArray) : Option Ω :=
  andK (F_bourneref02_Text (((⟨#[107, 101, 121]⟩ : ByteArray) : ByteArray), ())) fun (r1 : ByteArray × Unit) =>
  andK (F_bourneref02_Text (a0, ())) fun (r2 : ByteArray × Unit) =>
  bif (decide (r1.1.size + r2.1.size ≤ 9223372036854775807)) then
  andK (F_bourneref03_Short ((r1.1 ++ r2.1), ())) fun (r4 : Int × Unit) =>
  andK (F_bourneref05_Of ((IntKind.wrap .i64 (1 + (Int.tmod r4.1 1152921504606845788))), ())) fun (r7 : (Int × Int) × Unit) =>
  ret ((r7.1 : Int × Int), ())
  else none
def f_bourneref05_Key {Ω : Type} (ret : (Int × Int) × Unit → Option Ω) (k : Nat) (a0 : ByteArray) : Option Ω := f_bourneref05_Key_b ret k a0
theorem f_bourneref05_Key_run (m : Int) {Ω : Type} (ret : (Int × Int) × Unit → Option Ω) (k : Nat) (a0 : ByteArray) : run (E_bourneref05_Key m Ω) [] k Tryd.f11 [.str a0] [] (resK [.pair (.int .i64) (.int .i64)] ret) = f_bourneref05_Key ret k a0 := by
  show _ = f_bourneref05_Key_b ret k a0
  kernel_rfl
def F_bourneref05_Key (a : ByteArray × Unit) : Option ((Int × Int) × Unit) := f_bourneref05_Key some 0 a.1
theorem f_bourneref05_Key_at : Tryd.prog.funcs[11]? = some Tryd.f11 := by kernel_rfl
theorem E_bourneref05_Key_ok (m : Int) (Ω : Type) : EnvOk Tryd.prog (E_bourneref05_Key m Ω) := envT_ok T_ok (by
  intro e he
  simp only [List.mem_cons, List.not_mem_nil, or_false] at he
  rcases he with rfl | rfl | rfl
  · exact ent_ok fun a r h => F_bourneref05_Of_ok a r h m
  · exact ent_ok fun a r h => F_bourneref03_Short_ok a r h m
  · exact ent_ok fun a r h => F_bourneref02_Text_ok a r h m) (by intro e he; cases he)
theorem F_bourneref05_Key_ok (a : Tys [.str]) (r : Tys [.pair (.int .i64) (.int .i64)]) (h : F_bourneref05_Key a = some r) (m : Int) : PContract Tryd.prog (GL m) 11 (injL [.str] a) (injR [.pair (.int .i64) (.int .i64)] r) := by
  exact PContract.of_run (E := E_bourneref05_Key m (Tys [.pair (.int .i64) (.int .i64)])) (un := []) (k := 0) (E_bourneref05_Key_ok m _) mixed (callOk_of f_bourneref05_Key_at (by kernel_rfl) (by kernel_rfl)) f_bourneref05_Key_at ((f_bourneref05_Key_run m some 0 a.1).trans h)
end
end Go.Proofs.YtnebpmcmdmpoaaaDoor.R
