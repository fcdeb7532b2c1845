-- Go functions as Lean functions, printed by prs.py (this session's program)
import Derived.Test.YtnebpmcmdmpoaaaDoorG1
import Derived.KernelRfl
namespace Go.Proofs.YtnebpmcmdmpoaaaDoor.R
open Go
set_option maxRecDepth 100000
set_option maxHeartbeats 4000000
set_option linter.unusedVariables false
noncomputable section
/-! bourne/digest.compress -/
noncomputable def E_digest_compress (m : Int) (Ω : Type) : Env Ω := envT T (GL m) [(81, true, ent [.str] [.pair (.int .u32) (.pair (.int .u32) (.pair (.int .u32) (.pair (.int .u32) (.pair (.int .u32) (.pair (.int .u32) (.pair (.int .u32) (.pair (.int .u32) (.pair (.int .u32) (.pair (.int .u32) (.pair (.int .u32) (.pair (.int .u32) (.pair (.int .u32) (.pair (.int .u32) (.pair (.int .u32) (.pair (.int .u32) .unit)))))))))))))))] F_digest_words), (89, true, ent [.int .u32, .int .i64] [.int .u32] F_math_bits_RotateLeft32)] [(82, inl (E_digest_mix m Ω) [] 0 Tryd.f82)]
def S_digest_compress_0 (t43 : Int) (t71 : Int) (b0 : List Int) (b2 : List Int) (b3 : List Int) (b4 : List Int) : St := ⟨[.undef, .undef, .undef, .undef, .eptr 0 0 0, .undef, .undef, .undef, .eptr 1 0 0, .eptr 2 0 0, .eptr 3 0 0, .undef, .eptr 4 0 0, .undef, .undef, .undef, .undef, .undef, .undef, .undef, .undef, .undef, .undef, .undef, .undef, .undef, .undef, .undef, .undef, .undef, .undef, .undef, .undef, .undef, .undef, .undef, .undef, .undef, .undef, .undef, .undef, .undef, .agg [.int .u8 0, .int .u8 1, .int .u8 2, .int .u8 3, .int .u8 4, .int .u8 5, .int .u8 6, .int .u8 7, .int .u8 8, .int .u8 9, .int .u8 10, .int .u8 11, .int .u8 12, .int .u8 13, .int .u8 14, .int .u8 15, .int .u8 14, .int .u8 10, .int .u8 4, .int .u8 8, .int .u8 9, .int .u8 15, .int .u8 13, .int .u8 6, .int .u8 1, .int .u8 12, .int .u8 0, .int .u8 2, .int .u8 11, .int .u8 7, .int .u8 5, .int .u8 3, .int .u8 11, .int .u8 8, .int .u8 12, .int .u8 0, .int .u8 5, .int .u8 2, .int .u8 15, .int .u8 13, .int .u8 10, .int .u8 14, .int .u8 3, .int .u8 6, .int .u8 7, .int .u8 1, .int .u8 9, .int .u8 4, .int .u8 7, .int .u8 9, .int .u8 3, .int .u8 1, .int .u8 13, .int .u8 12, .int .u8 11, .int .u8 14, .int .u8 2, .int .u8 6, .int .u8 5, .int .u8 10, .int .u8 4, .int .u8 0, .int .u8 15, .int .u8 8, .int .u8 9, .int .u8 0, .int .u8 5, .int .u8 7, .int .u8 2, .int .u8 4, .int .u8 10, .int .u8 15, .int .u8 14, .int .u8 1, .int .u8 11, .int .u8 12, .int .u8 6, .int .u8 8, .int .u8 3, .int .u8 13, .int .u8 2, .int .u8 12, .int .u8 6, .int .u8 10, .int .u8 0, .int .u8 11, .int .u8 8, .int .u8 3, .int .u8 4, .int .u8 13, .int .u8 7, .int .u8 5, .int .u8 15, .int .u8 14, .int .u8 1, .int .u8 9, .int .u8 12, .int .u8 5, .int .u8 1, .int .u8 15, .int .u8 14, .int .u8 13, .int .u8 4, .int .u8 10, .int .u8 0, .int .u8 7, .int .u8 6, .int .u8 3, .int .u8 9, .int .u8 2, .int .u8 8, .int .u8 11, .int .u8 13, .int .u8 11, .int .u8 7, .int .u8 14, .int .u8 12, .int .u8 1, .int .u8 3, .int .u8 9, .int .u8 5, .int .u8 0, .int .u8 15, .int .u8 4, .int .u8 8, .int .u8 6, .int .u8 2, .int .u8 10, .int .u8 6, .int .u8 15, .int .u8 14, .int .u8 9, .int .u8 11, .int .u8 3, .int .u8 0, .int .u8 8, .int .u8 12, .int .u8 2, .int .u8 13, .int .u8 7, .int .u8 1, .int .u8 4, .int .u8 10, .int .u8 5, .int .u8 10, .int .u8 2, .int .u8 8, .int .u8 4, .int .u8 7, .int .u8 6, .int .u8 1, .int .u8 5, .int .u8 15, .int .u8 11, .int .u8 9, .int .u8 14, .int .u8 3, .int .u8 12, .int .u8 13, .int .u8 0], .int .i64 t43, .undef, .undef, .undef, .undef, .undef, .undef, .undef, .undef, .undef, .undef, .undef, .undef, .undef, .undef, .undef, .undef, .undef, .undef, .undef, .undef, .undef, .undef, .undef, .undef, .undef, .undef, .undef, .int .i64 t71, .undef, .undef, .undef, .undef, .undef, .undef, .undef, .undef, .undef, .undef, .undef, .undef, .undef, .undef, .undef, .undef, .undef, .undef, .undef, .undef, .undef, .undef, .undef, .undef, .undef, .undef, .undef, .undef, .undef, .undef, .undef, .undef, .undef, .undef, .undef, .undef, .undef, .undef, .undef, .undef, .undef, .undef, .undef, .undef, .undef, .undef, .undef, .undef, .undef, .undef], [.arr (.int .u32) 8 (b0 : List Int), .arr (.int .u32) 8 ([0, 0, 0, 0, 0, 0, 0, 0] : List Int), .arr (.int .u32) 16 (b2 : List Int), .arr (.int .u32) 16 (b3 : List Int), .arr (.int .u8) 16 (b4 : List Int)]⟩
def S_digest_compress_1 (t43 : Int) (t46 : Int) (b0 : List Int) (b2 : List Int) (b3 : List Int) (b4 : List Int) : St := ⟨[.undef, .undef, .undef, .undef, .eptr 0 0 0, .undef, .undef, .undef, .eptr 1 0 0, .eptr 2 0 0, .eptr 3 0 0, .undef, .eptr 4 0 0, .undef, .undef, .undef, .undef, .undef, .undef, .undef, .undef, .undef, .undef, .undef, .undef, .undef, .undef, .undef, .undef, .undef, .undef, .undef, .undef, .undef, .undef, .undef, .undef, .undef, .undef, .undef, .undef, .undef, .agg [.int .u8 0, .int .u8 1, .int .u8 2, .int .u8 3, .int .u8 4, .int .u8 5, .int .u8 6, .int .u8 7, .int .u8 8, .int .u8 9, .int .u8 10, .int .u8 11, .int .u8 12, .int .u8 13, .int .u8 14, .int .u8 15, .int .u8 14, .int .u8 10, .int .u8 4, .int .u8 8, .int .u8 9, .int .u8 15, .int .u8 13, .int .u8 6, .int .u8 1, .int .u8 12, .int .u8 0, .int .u8 2, .int .u8 11, .int .u8 7, .int .u8 5, .int .u8 3, .int .u8 11, .int .u8 8, .int .u8 12, .int .u8 0, .int .u8 5, .int .u8 2, .int .u8 15, .int .u8 13, .int .u8 10, .int .u8 14, .int .u8 3, .int .u8 6, .int .u8 7, .int .u8 1, .int .u8 9, .int .u8 4, .int .u8 7, .int .u8 9, .int .u8 3, .int .u8 1, .int .u8 13, .int .u8 12, .int .u8 11, .int .u8 14, .int .u8 2, .int .u8 6, .int .u8 5, .int .u8 10, .int .u8 4, .int .u8 0, .int .u8 15, .int .u8 8, .int .u8 9, .int .u8 0, .int .u8 5, .int .u8 7, .int .u8 2, .int .u8 4, .int .u8 10, .int .u8 15, .int .u8 14, .int .u8 1, .int .u8 11, .int .u8 12, .int .u8 6, .int .u8 8, .int .u8 3, .int .u8 13, .int .u8 2, .int .u8 12, .int .u8 6, .int .u8 10, .int .u8 0, .int .u8 11, .int .u8 8, .int .u8 3, .int .u8 4, .int .u8 13, .int .u8 7, .int .u8 5, .int .u8 15, .int .u8 14, .int .u8 1, .int .u8 9, .int .u8 12, .int .u8 5, .int .u8 1, .int .u8 15, .int .u8 14, .int .u8 13, .int .u8 4, .int .u8 10, .int .u8 0, .int .u8 7, .int .u8 6, .int .u8 3, .int .u8 9, .int .u8 2, .int .u8 8, .int .u8 11, .int .u8 13, .int .u8 11, .int .u8 7, .int .u8 14, .int .u8 12, .int .u8 1, .int .u8 3, .int .u8 9, .int .u8 5, .int .u8 0, .int .u8 15, .int .u8 4, .int .u8 8, .int .u8 6, .int .u8 2, .int .u8 10, .int .u8 6, .int .u8 15, .int .u8 14, .int .u8 9, .int .u8 11, .int .u8 3, .int .u8 0, .int .u8 8, .int .u8 12, .int .u8 2, .int .u8 13, .int .u8 7, .int .u8 1, .int .u8 4, .int .u8 10, .int .u8 5, .int .u8 10, .int .u8 2, .int .u8 8, .int .u8 4, .int .u8 7, .int .u8 6, .int .u8 1, .int .u8 5, .int .u8 15, .int .u8 11, .int .u8 9, .int .u8 14, .int .u8 3, .int .u8 12, .int .u8 13, .int .u8 0], .int .i64 t43, .undef, .undef, .int .i64 t46, .undef, .undef, .undef, .undef, .undef, .undef, .undef, .undef, .undef, .undef, .undef, .undef, .undef, .undef, .undef, .undef, .undef, .undef, .undef, .undef, .undef, .undef, .undef, .undef, .undef, .undef, .undef, .undef, .undef, .undef, .undef, .undef, .undef, .undef, .undef, .undef, .undef, .undef, .undef, .undef, .undef, .undef, .undef, .undef, .undef, .undef, .undef, .undef, .undef, .undef, .undef, .undef, .undef, .undef, .undef, .undef, .undef, .undef, .undef, .undef, .undef, .undef, .undef, .undef, .undef, .undef, .undef, .undef, .undef, .undef, .undef, .undef, .undef, .undef, .undef], [.arr (.int .u32) 8 (b0 : List Int), .arr (.int .u32) 8 ([0, 0, 0, 0, 0, 0, 0, 0] : List Int), .arr (.int .u32) 16 (b2 : List Int), .arr (.int .u32) 16 (b3 : List Int), .arr (.int .u8) 16 (b4 : List Int)]⟩
def S_digest_compress_2 (t104 : Int) (b0 : List Int) (b2 : List Int) : St := ⟨[.undef, .undef, .undef, .undef, .eptr 0 0 0, .undef, .undef, .undef, .eptr 1 0 0, .undef, .eptr 2 0 0, .undef, .undef, .undef, .undef, .undef, .undef, .undef, .undef, .undef, .undef, .undef, .undef, .undef, .undef, .undef, .undef, .undef, .undef, .undef, .undef, .undef, .undef, .undef, .undef, .undef, .undef, .undef, .undef, .undef, .undef, .undef, .undef, .undef, .undef, .undef, .undef, .undef, .undef, .undef, .undef, .undef, .undef, .undef, .undef, .undef, .undef, .undef, .undef, .undef, .undef, .undef, .undef, .undef, .undef, .undef, .undef, .undef, .undef, .undef, .undef, .undef, .undef, .undef, .undef, .undef, .undef, .undef, .undef, .undef, .undef, .undef, .undef, .undef, .undef, .undef, .undef, .undef, .undef, .undef, .undef, .undef, .undef, .undef, .undef, .undef, .undef, .undef, .undef, .undef, .undef, .undef, .undef, .undef, .int .i64 t104, .undef, .undef, .undef, .undef, .undef, .undef, .undef, .undef, .undef, .undef, .undef, .undef, .undef, .undef, .undef, .undef, .undef], [.arr (.int .u32) 8 (b0 : List Int), .arr (.int .u32) 8 ([0, 0, 0, 0, 0, 0, 0, 0] : List Int), .arr (.int .u32) 16 (b2 : List Int)]⟩
def S_digest_compress_3 (t43 : Int) (b0 : List Int) (b2 : List Int) (b3 : List Int) : St := ⟨[.undef, .undef, .undef, .undef, .eptr 0 0 0, .undef, .undef, .undef, .eptr 1 0 0, .eptr 2 0 0, .eptr 3 0 0, .undef, .undef, .undef, .undef, .undef, .undef, .undef, .undef, .undef, .undef, .undef, .undef, .undef, .undef, .undef, .undef, .undef, .undef, .undef, .undef, .undef, .undef, .undef, .undef, .undef, .undef, .undef, .undef, .undef, .undef, .undef, .agg [.int .u8 0, .int .u8 1, .int .u8 2, .int .u8 3, .int .u8 4, .int .u8 5, .int .u8 6, .int .u8 7, .int .u8 8, .int .u8 9, .int .u8 10, .int .u8 11, .int .u8 12, .int .u8 13, .int .u8 14, .int .u8 15, .int .u8 14, .int .u8 10, .int .u8 4, .int .u8 8, .int .u8 9, .int .u8 15, .int .u8 13, .int .u8 6, .int .u8 1, .int .u8 12, .int .u8 0, .int .u8 2, .int .u8 11, .int .u8 7, .int .u8 5, .int .u8 3, .int .u8 11, .int .u8 8, .int .u8 12, .int .u8 0, .int .u8 5, .int .u8 2, .int .u8 15, .int .u8 13, .int .u8 10, .int .u8 14, .int .u8 3, .int .u8 6, .int .u8 7, .int .u8 1, .int .u8 9, .int .u8 4, .int .u8 7, .int .u8 9, .int .u8 3, .int .u8 1, .int .u8 13, .int .u8 12, .int .u8 11, .int .u8 14, .int .u8 2, .int .u8 6, .int .u8 5, .int .u8 10, .int .u8 4, .int .u8 0, .int .u8 15, .int .u8 8, .int .u8 9, .int .u8 0, .int .u8 5, .int .u8 7, .int .u8 2, .int .u8 4, .int .u8 10, .int .u8 15, .int .u8 14, .int .u8 1, .int .u8 11, .int .u8 12, .int .u8 6, .int .u8 8, .int .u8 3, .int .u8 13, .int .u8 2, .int .u8 12, .int .u8 6, .int .u8 10, .int .u8 0, .int .u8 11, .int .u8 8, .int .u8 3, .int .u8 4, .int .u8 13, .int .u8 7, .int .u8 5, .int .u8 15, .int .u8 14, .int .u8 1, .int .u8 9, .int .u8 12, .int .u8 5, .int .u8 1, .int .u8 15, .int .u8 14, .int .u8 13, .int .u8 4, .int .u8 10, .int .u8 0, .int .u8 7, .int .u8 6, .int .u8 3, .int .u8 9, .int .u8 2, .int .u8 8, .int .u8 11, .int .u8 13, .int .u8 11, .int .u8 7, .int .u8 14, .int .u8 12, .int .u8 1, .int .u8 3, .int .u8 9, .int .u8 5, .int .u8 0, .int .u8 15, .int .u8 4, .int .u8 8, .int .u8 6, .int .u8 2, .int .u8 10, .int .u8 6, .int .u8 15, .int .u8 14, .int .u8 9, .int .u8 11, .int .u8 3, .int .u8 0, .int .u8 8, .int .u8 12, .int .u8 2, .int .u8 13, .int .u8 7, .int .u8 1, .int .u8 4, .int .u8 10, .int .u8 5, .int .u8 10, .int .u8 2, .int .u8 8, .int .u8 4, .int .u8 7, .int .u8 6, .int .u8 1, .int .u8 5, .int .u8 15, .int .u8 11, .int .u8 9, .int .u8 14, .int .u8 3, .int .u8 12, .int .u8 13, .int .u8 0], .int .i64 t43, .undef, .undef, .undef, .undef, .undef, .undef, .undef, .undef, .undef, .undef, .undef, .undef, .undef, .undef, .undef, .undef, .undef, .undef, .undef, .undef, .undef, .undef, .undef, .undef, .undef, .undef, .undef, .undef, .undef, .undef, .undef, .undef, .undef, .undef, .undef, .undef, .undef, .undef, .undef, .undef, .undef, .undef, .undef, .undef, .undef, .undef, .undef, .undef, .undef, .undef, .undef, .undef, .undef, .undef, .undef, .undef, .undef, .undef, .undef, .undef, .undef, .undef, .undef, .undef, .undef, .undef, .undef, .undef, .undef, .undef, .undef, .undef, .undef, .undef, .undef, .undef, .undef, .undef], [.arr (.int .u32) 8 (b0 : List Int), .arr (.int .u32) 8 ([0, 0, 0, 0, 0, 0, 0, 0] : List Int), .arr (.int .u32) 16 (b2 : List Int), .arr (.int .u32) 16 (b3 : List Int)]⟩
def f_digest_compress_l0s {Ω : Type} (ret : (Int × (Int × (Int × (Int × (Int × (Int × (Int × (Int × Unit)))))))) × Unit → Option Ω) (k : Nat) (c3 : Int → (List Int) → (List Int) → (List Int) → Option Ω) (c0 : Int → Int → (List Int) → (List Int) → (List Int) → (List Int) → Option Ω)  (t43 : Int) (t71 : Int) (b0 : List Int) (b2 : List Int) (b3 : List Int) (b4 : List Int) : Option Ω :=
  bif (decide (t71 < 4)) then
    let x71 : Int := (IntKind.wrap .i64 (4 + (Int.tmod (IntKind.wrap .i64 (t71 + 1)) 4)))
    let x74 : Int := (IntKind.wrap .i64 (8 + (Int.tmod (IntKind.wrap .i64 (t71 + 2)) 4)))
    let x77 : Int := (IntKind.wrap .i64 (12 + (Int.tmod (IntKind.wrap .i64 (t71 + 3)) 4)))
    let x79 : Int := (IntKind.wrap .i64 (8 + (IntKind.wrap .i64 (2 * t71))))
    bif (inB x79 16) then
    let x80 : Int := (b4.getD (Int.toNat x79) (0 : Int))
    bif (inB x80 16) then
    let x83 : Int := (IntKind.wrap .i64 (9 + (IntKind.wrap .i64 (2 * t71))))
    bif (inB x83 16) then
    let x84 : Int := (b4.getD (Int.toNat x83) (0 : Int))
    bif (inB x84 16) then
    bif (inB t71 16) then
    bif (inB x71 16) then
    bif (inB t71 16) then
    let x90 : List Int := (b3.set (Int.toNat t71) (IntKind.wrap .u32 ((b3.getD (Int.toNat t71) (0 : Int)) + (IntKind.wrap .u32 ((b3.getD (Int.toNat x71) (0 : Int)) + (b2.getD (Int.toNat x80) (0 : Int)))))))
    bif (inB x77 16) then
    bif (inB t71 16) then
    andK (F_math_bits_RotateLeft32 ((ixor .u32 (x90.getD (Int.toNat x77) (0 : Int)) (x90.getD (Int.toNat t71) (0 : Int))), ((-16) : Int), ())) fun (r94 : Int × Unit) =>
    bif (inB x77 16) then
    let x95 : List Int := (x90.set (Int.toNat x77) r94.1)
    bif (inB x74 16) then
    bif (inB x77 16) then
    bif (inB x74 16) then
    let x99 : List Int := (x95.set (Int.toNat x74) (IntKind.wrap .u32 ((x95.getD (Int.toNat x74) (0 : Int)) + (x95.getD (Int.toNat x77) (0 : Int)))))
    bif (inB x71 16) then
    bif (inB x74 16) then
    andK (F_math_bits_RotateLeft32 ((ixor .u32 (x99.getD (Int.toNat x71) (0 : Int)) (x99.getD (Int.toNat x74) (0 : Int))), ((-12) : Int), ())) fun (r103 : Int × Unit) =>
    bif (inB x71 16) then
    let x104 : List Int := (x99.set (Int.toNat x71) r103.1)
    bif (inB t71 16) then
    bif (inB x71 16) then
    bif (inB t71 16) then
    let x109 : List Int := (x104.set (Int.toNat t71) (IntKind.wrap .u32 ((x104.getD (Int.toNat t71) (0 : Int)) + (IntKind.wrap .u32 ((x104.getD (Int.toNat x71) (0 : Int)) + (b2.getD (Int.toNat x84) (0 : Int)))))))
    bif (inB x77 16) then
    bif (inB t71 16) then
    andK (F_math_bits_RotateLeft32 ((ixor .u32 (x109.getD (Int.toNat x77) (0 : Int)) (x109.getD (Int.toNat t71) (0 : Int))), ((-8) : Int), ())) fun (r113 : Int × Unit) =>
    bif (inB x77 16) then
    let x114 : List Int := (x109.set (Int.toNat x77) r113.1)
    bif (inB x74 16) then
    bif (inB x77 16) then
    bif (inB x74 16) then
    let x118 : List Int := (x114.set (Int.toNat x74) (IntKind.wrap .u32 ((x114.getD (Int.toNat x74) (0 : Int)) + (x114.getD (Int.toNat x77) (0 : Int)))))
    bif (inB x71 16) then
    bif (inB x74 16) then
    andK (F_math_bits_RotateLeft32 ((ixor .u32 (x118.getD (Int.toNat x71) (0 : Int)) (x118.getD (Int.toNat x74) (0 : Int))), ((-7) : Int), ())) fun (r122 : Int × Unit) =>
    bif (inB x71 16) then
    c0 t43 (IntKind.wrap .i64 (t71 + 1)) b0 b2 (x118.set (Int.toNat x71) r122.1) b4
    else none
    else none
    else none
    else none
    else none
    else none
    else none
    else none
    else none
    else none
    else none
    else none
    else none
    else none
    else none
    else none
    else none
    else none
    else none
    else none
    else none
    else none
    else none
    else none
    else none
    else none
    else none
    else none
  else
  c3 (IntKind.wrap .i64 (t43 + 1)) b0 b2 b3
def f_digest_compress_l0 {Ω : Type} (ret : (Int × (Int × (Int × (Int × (Int × (Int × (Int × (Int × Unit)))))))) × Unit → Option Ω) (k : Nat) (c3 : Int → (List Int) → (List Int) → (List Int) → Option Ω) : Nat → Int → Int → (List Int) → (List Int) → (List Int) → (List Int) → Option Ω
  | 0 => fun _ _ _ _ _ _ => none
  | n + 1 => f_digest_compress_l0s ret k c3 (f_digest_compress_l0 ret k c3 n)
def f_digest_compress_l1s {Ω : Type} (ret : (Int × (Int × (Int × (Int × (Int × (Int × (Int × (Int × Unit)))))))) × Unit → Option Ω) (k : Nat) (c3 : Int → (List Int) → (List Int) → (List Int) → Option Ω) (c1 : Int → Int → (List Int) → (List Int) → (List Int) → (List Int) → Option Ω) (l0 : Nat → Int → Int → (List Int) → (List Int) → (List Int) → (List Int) → Option Ω) (t43 : Int) (t46 : Int) (b0 : List Int) (b2 : List Int) (b3 : List Int) (b4 : List Int) : Option Ω :=
  bif (decide (t46 < 4)) then
    let x19 : Int := (IntKind.wrap .i64 (4 + t46))
    let x20 : Int := (IntKind.wrap .i64 (8 + t46))
    let x21 : Int := (IntKind.wrap .i64 (12 + t46))
    let x22 : Int := (IntKind.wrap .i64 (2 * t46))
    bif (inB x22 16) then
    let x23 : Int := (b4.getD (Int.toNat x22) (0 : Int))
    bif (inB x23 16) then
    let x26 : Int := (IntKind.wrap .i64 ((IntKind.wrap .i64 (2 * t46)) + 1))
    bif (inB x26 16) then
    let x27 : Int := (b4.getD (Int.toNat x26) (0 : Int))
    bif (inB x27 16) then
    bif (inB t46 16) then
    bif (inB x19 16) then
    bif (inB t46 16) then
    let x33 : List Int := (b3.set (Int.toNat t46) (IntKind.wrap .u32 ((b3.getD (Int.toNat t46) (0 : Int)) + (IntKind.wrap .u32 ((b3.getD (Int.toNat x19) (0 : Int)) + (b2.getD (Int.toNat x23) (0 : Int)))))))
    bif (inB x21 16) then
    bif (inB t46 16) then
    andK (F_math_bits_RotateLeft32 ((ixor .u32 (x33.getD (Int.toNat x21) (0 : Int)) (x33.getD (Int.toNat t46) (0 : Int))), ((-16) : Int), ())) fun (r37 : Int × Unit) =>
    bif (inB x21 16) then
    let x38 : List Int := (x33.set (Int.toNat x21) r37.1)
    bif (inB x20 16) then
    bif (inB x21 16) then
    bif (inB x20 16) then
    let x42 : List Int := (x38.set (Int.toNat x20) (IntKind.wrap .u32 ((x38.getD (Int.toNat x20) (0 : Int)) + (x38.getD (Int.toNat x21) (0 : Int)))))
    bif (inB x19 16) then
    bif (inB x20 16) then
    andK (F_math_bits_RotateLeft32 ((ixor .u32 (x42.getD (Int.toNat x19) (0 : Int)) (x42.getD (Int.toNat x20) (0 : Int))), ((-12) : Int), ())) fun (r46 : Int × Unit) =>
    bif (inB x19 16) then
    let x47 : List Int := (x42.set (Int.toNat x19) r46.1)
    bif (inB t46 16) then
    bif (inB x19 16) then
    bif (inB t46 16) then
    let x52 : List Int := (x47.set (Int.toNat t46) (IntKind.wrap .u32 ((x47.getD (Int.toNat t46) (0 : Int)) + (IntKind.wrap .u32 ((x47.getD (Int.toNat x19) (0 : Int)) + (b2.getD (Int.toNat x27) (0 : Int)))))))
    bif (inB x21 16) then
    bif (inB t46 16) then
    andK (F_math_bits_RotateLeft32 ((ixor .u32 (x52.getD (Int.toNat x21) (0 : Int)) (x52.getD (Int.toNat t46) (0 : Int))), ((-8) : Int), ())) fun (r56 : Int × Unit) =>
    bif (inB x21 16) then
    let x57 : List Int := (x52.set (Int.toNat x21) r56.1)
    bif (inB x20 16) then
    bif (inB x21 16) then
    bif (inB x20 16) then
    let x61 : List Int := (x57.set (Int.toNat x20) (IntKind.wrap .u32 ((x57.getD (Int.toNat x20) (0 : Int)) + (x57.getD (Int.toNat x21) (0 : Int)))))
    bif (inB x19 16) then
    bif (inB x20 16) then
    andK (F_math_bits_RotateLeft32 ((ixor .u32 (x61.getD (Int.toNat x19) (0 : Int)) (x61.getD (Int.toNat x20) (0 : Int))), ((-7) : Int), ())) fun (r65 : Int × Unit) =>
    bif (inB x19 16) then
    c1 t43 (IntKind.wrap .i64 (t46 + 1)) b0 b2 (x61.set (Int.toNat x19) r65.1) b4
    else none
    else none
    else none
    else none
    else none
    else none
    else none
    else none
    else none
    else none
    else none
    else none
    else none
    else none
    else none
    else none
    else none
    else none
    else none
    else none
    else none
    else none
    else none
    else none
    else none
    else none
    else none
    else none
  else
  l0 k t43 (0 : Int) b0 b2 b3 b4
def f_digest_compress_l1 {Ω : Type} (ret : (Int × (Int × (Int × (Int × (Int × (Int × (Int × (Int × Unit)))))))) × Unit → Option Ω) (k : Nat) (c3 : Int → (List Int) → (List Int) → (List Int) → Option Ω) : Nat → Int → Int → (List Int) → (List Int) → (List Int) → (List Int) → Option Ω
  | 0 => fun _ _ _ _ _ _ => none
  | n + 1 => f_digest_compress_l1s ret k c3 (f_digest_compress_l1 ret k c3 n) (f_digest_compress_l0 ret k c3)
def f_digest_compress_l2s {Ω : Type} (ret : (Int × (Int × (Int × (Int × (Int × (Int × (Int × (Int × Unit)))))))) × Unit → Option Ω) (k : Nat)  (c2 : Int → (List Int) → (List Int) → Option Ω)  (t104 : Int) (b0 : List Int) (b2 : List Int) : Option Ω :=
  bif (decide (t104 < 8)) then
    bif (inB t104 8) then
    bif (inB t104 16) then
    let x129 : Int := (IntKind.wrap .i64 (t104 + 8))
    bif (inB x129 16) then
    bif (inB t104 8) then
    c2 (IntKind.wrap .i64 (t104 + 1)) (b0.set (Int.toNat t104) (ixor .u32 (b0.getD (Int.toNat t104) (0 : Int)) (ixor .u32 (b2.getD (Int.toNat t104) (0 : Int)) (b2.getD (Int.toNat x129) (0 : Int))))) b2
    else none
    else none
    else none
    else none
  else
  ret ((((b0.getD 0 (0 : Int)), ((b0.getD 1 (0 : Int)), ((b0.getD 2 (0 : Int)), ((b0.getD 3 (0 : Int)), ((b0.getD 4 (0 : Int)), ((b0.getD 5 (0 : Int)), ((b0.getD 6 (0 : Int)), ((b0.getD 7 (0 : Int)), ())))))))) : Int × (Int × (Int × (Int × (Int × (Int × (Int × (Int × Unit)))))))), ())
def f_digest_compress_l2 {Ω : Type} (ret : (Int × (Int × (Int × (Int × (Int × (Int × (Int × (Int × Unit)))))))) × Unit → Option Ω) (k : Nat)  : Nat → Int → (List Int) → (List Int) → Option Ω
  | 0 => fun _ _ _ => none
  | n + 1 => f_digest_compress_l2s ret k (f_digest_compress_l2 ret k n)
def f_digest_compress_l3s {Ω : Type} (ret : (Int × (Int × (Int × (Int × (Int × (Int × (Int × (Int × Unit)))))))) × Unit → Option Ω) (k : Nat)  (c3 : Int → (List Int) → (List Int) → (List Int) → Option Ω) (l1 : Nat → Int → Int → (List Int) → (List Int) → (List Int) → (List Int) → Option Ω) (l2 : Nat → Int → (List Int) → (List Int) → Option Ω) (t43 : Int) (b0 : List Int) (b2 : List Int) (b3 : List Int) : Option Ω :=
  bif (decide (t43 < 10)) then
    bif (inB t43 10) then
    let x17 : Int × (Int × (Int × (Int × (Int × (Int × (Int × (Int × (Int × (Int × (Int × (Int × (Int × (Int × (Int × (Int × Unit))))))))))))))) := ([(0, (1, (2, (3, (4, (5, (6, (7, (8, (9, (10, (11, (12, (13, (14, (15, ())))))))))))))))), (14, (10, (4, (8, (9, (15, (13, (6, (1, (12, (0, (2, (11, (7, (5, (3, ())))))))))))))))), (11, (8, (12, (0, (5, (2, (15, (13, (10, (14, (3, (6, (7, (1, (9, (4, ())))))))))))))))), (7, (9, (3, (1, (13, (12, (11, (14, (2, (6, (5, (10, (4, (0, (15, (8, ())))))))))))))))), (9, (0, (5, (7, (2, (4, (10, (15, (14, (1, (11, (12, (6, (8, (3, (13, ())))))))))))))))), (2, (12, (6, (10, (0, (11, (8, (3, (4, (13, (7, (5, (15, (14, (1, (9, ())))))))))))))))), (12, (5, (1, (15, (14, (13, (4, (10, (0, (7, (6, (3, (9, (2, (8, (11, ())))))))))))))))), (13, (11, (7, (14, (12, (1, (3, (9, (5, (0, (15, (4, (8, (6, (2, (10, ())))))))))))))))), (6, (15, (14, (9, (11, (3, (0, (8, (12, (2, (13, (7, (1, (4, (10, (5, ())))))))))))))))), (10, (2, (8, (4, (7, (6, (1, (5, (15, (11, (9, (14, (3, (12, (13, (0, ()))))))))))))))))].getD (Int.toNat t43) (Ty.zero (.pair (.int .u8) (.pair (.int .u8) (.pair (.int .u8) (.pair (.int .u8) (.pair (.int .u8) (.pair (.int .u8) (.pair (.int .u8) (.pair (.int .u8) (.pair (.int .u8) (.pair (.int .u8) (.pair (.int .u8) (.pair (.int .u8) (.pair (.int .u8) (.pair (.int .u8) (.pair (.int .u8) (.pair (.int .u8) .unit))))))))))))))))))
    l1 k t43 (0 : Int) b0 b2 b3 ([x17.1, x17.2.1, x17.2.2.1, x17.2.2.2.1, x17.2.2.2.2.1, x17.2.2.2.2.2.1, x17.2.2.2.2.2.2.1, x17.2.2.2.2.2.2.2.1, x17.2.2.2.2.2.2.2.2.1, x17.2.2.2.2.2.2.2.2.2.1, x17.2.2.2.2.2.2.2.2.2.2.1, x17.2.2.2.2.2.2.2.2.2.2.2.1, x17.2.2.2.2.2.2.2.2.2.2.2.2.1, x17.2.2.2.2.2.2.2.2.2.2.2.2.2.1, x17.2.2.2.2.2.2.2.2.2.2.2.2.2.2.1, x17.2.2.2.2.2.2.2.2.2.2.2.2.2.2.2.1] : List Int)
    else none
  else
  l2 k (0 : Int) b0 b3
def f_digest_compress_l3 {Ω : Type} (ret : (Int × (Int × (Int × (Int × (Int × (Int × (Int × (Int × Unit)))))))) × Unit → Option Ω) (k : Nat)  : Nat → Int → (List Int) → (List Int) → (List Int) → Option Ω
  | 0 => fun _ _ _ _ => none
  | n + 1 => f_digest_compress_l3s ret k (f_digest_compress_l3 ret k n) (f_digest_compress_l1 ret k (f_digest_compress_l3 ret k n)) (f_digest_compress_l2 ret k)
def f_digest_compress_b {Ω : Type} (ret : (Int × (Int × (Int × (Int × (Int × (Int × (Int × (Int × Unit)))))))) × Unit → Option Ω) (k : Nat) (l3 : Nat → Int → (List Int) → (List Int) → (List Int) → Option Ω) (a0 : Int × (Int × (Int × (Int × (Int × (Int × (Int × (Int × Unit)))))))) (a1 : ByteArray) (a2 : Int) (a3 : Bool) : Option Ω :=
  andK (F_digest_words (a1, ())) fun (r1 : (Int × (Int × (Int × (Int × (Int × (Int × (Int × (Int × (Int × (Int × (Int × (Int × (Int × (Int × (Int × (Int × Unit)))))))))))))))) × Unit) =>
  let x3 : List Int := (splice (splice [0, 0, 0, 0, 0, 0, 0, 0, 0, 0, 0, 0, 0, 0, 0, 0] 0 ((([a0.1, a0.2.1, a0.2.2.1, a0.2.2.2.1, a0.2.2.2.2.1, a0.2.2.2.2.2.1, a0.2.2.2.2.2.2.1, a0.2.2.2.2.2.2.2.1].drop 0).take 8).take 16)) 8 ((([1779033703, 3144134277, 1013904242, 2773480762, 1359893119, 2600822924, 528734635, 1541459225].take 8).drop 0).take 8))
  let x7 : List Int := (x3.set 12 (ixor .u32 (x3.getD 12 (0 : Int)) (IntKind.wrap .u32 a2)))
  let x12 : List Int := (x7.set 13 (ixor .u32 (x7.getD 13 (0 : Int)) (IntKind.wrap .u32 (shr .i64 a2 32))))
  bif a3 then
    l3 k (0 : Int) ([a0.1, a0.2.1, a0.2.2.1, a0.2.2.2.1, a0.2.2.2.2.1, a0.2.2.2.2.2.1, a0.2.2.2.2.2.2.1, a0.2.2.2.2.2.2.2.1] : List Int) ([r1.1.1, r1.1.2.1, r1.1.2.2.1, r1.1.2.2.2.1, r1.1.2.2.2.2.1, r1.1.2.2.2.2.2.1, r1.1.2.2.2.2.2.2.1, r1.1.2.2.2.2.2.2.2.1, r1.1.2.2.2.2.2.2.2.2.1, r1.1.2.2.2.2.2.2.2.2.2.1, r1.1.2.2.2.2.2.2.2.2.2.2.1, r1.1.2.2.2.2.2.2.2.2.2.2.2.1, r1.1.2.2.2.2.2.2.2.2.2.2.2.2.1, r1.1.2.2.2.2.2.2.2.2.2.2.2.2.2.1, r1.1.2.2.2.2.2.2.2.2.2.2.2.2.2.2.1, r1.1.2.2.2.2.2.2.2.2.2.2.2.2.2.2.2.1] : List Int) (x12.set 14 (inot .u32 (x12.getD 14 (0 : Int))))
  else
  l3 k (0 : Int) ([a0.1, a0.2.1, a0.2.2.1, a0.2.2.2.1, a0.2.2.2.2.1, a0.2.2.2.2.2.1, a0.2.2.2.2.2.2.1, a0.2.2.2.2.2.2.2.1] : List Int) ([r1.1.1, r1.1.2.1, r1.1.2.2.1, r1.1.2.2.2.1, r1.1.2.2.2.2.1, r1.1.2.2.2.2.2.1, r1.1.2.2.2.2.2.2.1, r1.1.2.2.2.2.2.2.2.1, r1.1.2.2.2.2.2.2.2.2.1, r1.1.2.2.2.2.2.2.2.2.2.1, r1.1.2.2.2.2.2.2.2.2.2.2.1, r1.1.2.2.2.2.2.2.2.2.2.2.2.1, r1.1.2.2.2.2.2.2.2.2.2.2.2.2.1, r1.1.2.2.2.2.2.2.2.2.2.2.2.2.2.1, r1.1.2.2.2.2.2.2.2.2.2.2.2.2.2.2.1, r1.1.2.2.2.2.2.2.2.2.2.2.2.2.2.2.2.1] : List Int) x12
def f_digest_compress {Ω : Type} (ret : (Int × (Int × (Int × (Int × (Int × (Int × (Int × (Int × Unit)))))))) × Unit → Option Ω) (k : Nat) (a0 : Int × (Int × (Int × (Int × (Int × (Int × (Int × (Int × Unit)))))))) (a1 : ByteArray) (a2 : Int) (a3 : Bool) : Option Ω := f_digest_compress_b ret k (f_digest_compress_l3 ret k) a0 a1 a2 a3
theorem f_digest_compress_l0_eq (m : Int) {Ω : Type} (ret : (Int × (Int × (Int × (Int × (Int × (Int × (Int × (Int × Unit)))))))) × Unit → Option Ω) (k : Nat) (k3 : St → Option Ω) : ∀ (n : Nat) (t43 : Int) (t71 : Int) (b0 : List Int) (b2 : List Int) (b3 : List Int) (b4 : List Int), loopAt (E_digest_compress m Ω) (resLive Tryd.f72.results.toList) [] k (spotF (E_digest_compress m Ω) [] k Tryd.f72 [k3] [true, true, true, true, true, true, true, true, false, true, false, false, true, true, false, false, true, true, true, false] (resK [.pair (.int .u32) (.pair (.int .u32) (.pair (.int .u32) (.pair (.int .u32) (.pair (.int .u32) (.pair (.int .u32) (.pair (.int .u32) (.pair (.int .u32) .unit)))))))] ret)) n (S_digest_compress_0 t43 t71 b0 b2 b3 b4) = f_digest_compress_l0 ret k (fun t43 b0 b2 b3 => k3 (S_digest_compress_3 t43 b0 b2 b3)) n t43 t71 b0 b2 b3 b4 := by
  intro n
  induction n with
  | zero => intros; rw [loopAt_zero]; rfl
  | succ n ih =>
    intros t43 t71 b0 b2 b3 b4
    rw [loopAt_succ]
    have e : f_digest_compress_l0 ret k (fun t43 b0 b2 b3 => k3 (S_digest_compress_3 t43 b0 b2 b3)) n = fun t43 t71 b0 b2 b3 b4 => loopAt (E_digest_compress m Ω) (resLive Tryd.f72.results.toList) [] k (spotF (E_digest_compress m Ω) [] k Tryd.f72 [k3] [true, true, true, true, true, true, true, true, false, true, false, false, true, true, false, false, true, true, true, false] (resK [.pair (.int .u32) (.pair (.int .u32) (.pair (.int .u32) (.pair (.int .u32) (.pair (.int .u32) (.pair (.int .u32) (.pair (.int .u32) (.pair (.int .u32) .unit)))))))] ret)) n (S_digest_compress_0 t43 t71 b0 b2 b3 b4) := by funext t43 t71 b0 b2 b3 b4; exact (ih t43 t71 b0 b2 b3 b4).symm
    show _ = f_digest_compress_l0s ret k (fun t43 b0 b2 b3 => k3 (S_digest_compress_3 t43 b0 b2 b3)) (f_digest_compress_l0 ret k (fun t43 b0 b2 b3 => k3 (S_digest_compress_3 t43 b0 b2 b3)) n) t43 t71 b0 b2 b3 b4
    rw [e]
    kernel_rfl
theorem f_digest_compress_l1_eq (m : Int) {Ω : Type} (ret : (Int × (Int × (Int × (Int × (Int × (Int × (Int × (Int × Unit)))))))) × Unit → Option Ω) (k : Nat) (k3 : St → Option Ω) : ∀ (n : Nat) (t43 : Int) (t46 : Int) (b0 : List Int) (b2 : List Int) (b3 : List Int) (b4 : List Int), loopAt (E_digest_compress m Ω) (resLive Tryd.f72.results.toList) [] k (spotF (E_digest_compress m Ω) [] k Tryd.f72 [k3] [true, true, true, true, true, true, true, true, false, true, false, false, true, true, false, false, true, false, true, false] (resK [.pair (.int .u32) (.pair (.int .u32) (.pair (.int .u32) (.pair (.int .u32) (.pair (.int .u32) (.pair (.int .u32) (.pair (.int .u32) (.pair (.int .u32) .unit)))))))] ret)) n (S_digest_compress_1 t43 t46 b0 b2 b3 b4) = f_digest_compress_l1 ret k (fun t43 b0 b2 b3 => k3 (S_digest_compress_3 t43 b0 b2 b3)) n t43 t46 b0 b2 b3 b4 := by
  intro n
  induction n with
  | zero => intros; rw [loopAt_zero]; rfl
  | succ n ih =>
    intros t43 t46 b0 b2 b3 b4
    rw [loopAt_succ]
    have e : f_digest_compress_l1 ret k (fun t43 b0 b2 b3 => k3 (S_digest_compress_3 t43 b0 b2 b3)) n = fun t43 t46 b0 b2 b3 b4 => loopAt (E_digest_compress m Ω) (resLive Tryd.f72.results.toList) [] k (spotF (E_digest_compress m Ω) [] k Tryd.f72 [k3] [true, true, true, true, true, true, true, true, false, true, false, false, true, true, false, false, true, false, true, false] (resK [.pair (.int .u32) (.pair (.int .u32) (.pair (.int .u32) (.pair (.int .u32) (.pair (.int .u32) (.pair (.int .u32) (.pair (.int .u32) (.pair (.int .u32) .unit)))))))] ret)) n (S_digest_compress_1 t43 t46 b0 b2 b3 b4) := by funext t43 t46 b0 b2 b3 b4; exact (ih t43 t46 b0 b2 b3 b4).symm
    have e0 : f_digest_compress_l0 ret k (fun t43 b0 b2 b3 => k3 (S_digest_compress_3 t43 b0 b2 b3)) = fun m_ t43_ t71_ b0_ b2_ b3_ b4_ => loopAt (E_digest_compress m Ω) (resLive Tryd.f72.results.toList) [] k (spotF (E_digest_compress m Ω) [] k Tryd.f72 [k3] [true, true, true, true, true, true, true, true, false, true, false, false, true, true, false, false, true, true, true, false] (resK [.pair (.int .u32) (.pair (.int .u32) (.pair (.int .u32) (.pair (.int .u32) (.pair (.int .u32) (.pair (.int .u32) (.pair (.int .u32) (.pair (.int .u32) .unit)))))))] ret)) m_ (S_digest_compress_0 t43_ t71_ b0_ b2_ b3_ b4_) := by funext m_ t43_ t71_ b0_ b2_ b3_ b4_; exact (f_digest_compress_l0_eq m ret k k3 m_ t43_ t71_ b0_ b2_ b3_ b4_).symm
    show _ = f_digest_compress_l1s ret k (fun t43 b0 b2 b3 => k3 (S_digest_compress_3 t43 b0 b2 b3)) (f_digest_compress_l1 ret k (fun t43 b0 b2 b3 => k3 (S_digest_compress_3 t43 b0 b2 b3)) n) (f_digest_compress_l0 ret k (fun t43 b0 b2 b3 => k3 (S_digest_compress_3 t43 b0 b2 b3))) t43 t46 b0 b2 b3 b4
    rw [e, e0]
    kernel_rfl
theorem f_digest_compress_l2_eq (m : Int) {Ω : Type} (ret : (Int × (Int × (Int × (Int × (Int × (Int × (Int × (Int × Unit)))))))) × Unit → Option Ω) (k : Nat)  : ∀ (n : Nat) (t104 : Int) (b0 : List Int) (b2 : List Int), loopAt (E_digest_compress m Ω) (resLive Tryd.f72.results.toList) [] k (spotF (E_digest_compress m Ω) [] k Tryd.f72 [] [true, true, true, true, true, true, true, true, true, false, true, false] (resK [.pair (.int .u32) (.pair (.int .u32) (.pair (.int .u32) (.pair (.int .u32) (.pair (.int .u32) (.pair (.int .u32) (.pair (.int .u32) (.pair (.int .u32) .unit)))))))] ret)) n (S_digest_compress_2 t104 b0 b2) = f_digest_compress_l2 ret k n t104 b0 b2 := by
  intro n
  induction n with
  | zero => intros; rw [loopAt_zero]; rfl
  | succ n ih =>
    intros t104 b0 b2
    rw [loopAt_succ]
    have e : f_digest_compress_l2 ret k n = fun t104 b0 b2 => loopAt (E_digest_compress m Ω) (resLive Tryd.f72.results.toList) [] k (spotF (E_digest_compress m Ω) [] k Tryd.f72 [] [true, true, true, true, true, true, true, true, true, false, true, false] (resK [.pair (.int .u32) (.pair (.int .u32) (.pair (.int .u32) (.pair (.int .u32) (.pair (.int .u32) (.pair (.int .u32) (.pair (.int .u32) (.pair (.int .u32) .unit)))))))] ret)) n (S_digest_compress_2 t104 b0 b2) := by funext t104 b0 b2; exact (ih t104 b0 b2).symm
    show _ = f_digest_compress_l2s ret k (f_digest_compress_l2 ret k n) t104 b0 b2
    rw [e]
    kernel_rfl
theorem f_digest_compress_l3_eq (m : Int) {Ω : Type} (ret : (Int × (Int × (Int × (Int × (Int × (Int × (Int × (Int × Unit)))))))) × Unit → Option Ω) (k : Nat)  : ∀ (n : Nat) (t43 : Int) (b0 : List Int) (b2 : List Int) (b3 : List Int), loopAt (E_digest_compress m Ω) (resLive Tryd.f72.results.toList) [] k (spotF (E_digest_compress m Ω) [] k Tryd.f72 [] [true, true, true, true, true, true, true, true, false, true, false] (resK [.pair (.int .u32) (.pair (.int .u32) (.pair (.int .u32) (.pair (.int .u32) (.pair (.int .u32) (.pair (.int .u32) (.pair (.int .u32) (.pair (.int .u32) .unit)))))))] ret)) n (S_digest_compress_3 t43 b0 b2 b3) = f_digest_compress_l3 ret k n t43 b0 b2 b3 := by
  intro n
  induction n with
  | zero => intros; rw [loopAt_zero]; rfl
  | succ n ih =>
    intros t43 b0 b2 b3
    rw [loopAt_succ]
    have e : f_digest_compress_l3 ret k n = fun t43 b0 b2 b3 => loopAt (E_digest_compress m Ω) (resLive Tryd.f72.results.toList) [] k (spotF (E_digest_compress m Ω) [] k Tryd.f72 [] [true, true, true, true, true, true, true, true, false, true, false] (resK [.pair (.int .u32) (.pair (.int .u32) (.pair (.int .u32) (.pair (.int .u32) (.pair (.int .u32) (.pair (.int .u32) (.pair (.int .u32) (.pair (.int .u32) .unit)))))))] ret)) n (S_digest_compress_3 t43 b0 b2 b3) := by funext t43 b0 b2 b3; exact (ih t43 b0 b2 b3).symm
    have e1 : f_digest_compress_l1 ret k (fun t43 b0 b2 b3 => loopAt (E_digest_compress m Ω) (resLive Tryd.f72.results.toList) [] k (spotF (E_digest_compress m Ω) [] k Tryd.f72 [] [true, true, true, true, true, true, true, true, false, true, false] (resK [.pair (.int .u32) (.pair (.int .u32) (.pair (.int .u32) (.pair (.int .u32) (.pair (.int .u32) (.pair (.int .u32) (.pair (.int .u32) (.pair (.int .u32) .unit)))))))] ret)) n (S_digest_compress_3 t43 b0 b2 b3)) = fun m_ t43_ t46_ b0_ b2_ b3_ b4_ => loopAt (E_digest_compress m Ω) (resLive Tryd.f72.results.toList) [] k (spotF (E_digest_compress m Ω) [] k Tryd.f72 [(fun s => loopAt (E_digest_compress m Ω) (resLive Tryd.f72.results.toList) [] k (spotF (E_digest_compress m Ω) [] k Tryd.f72 [] [true, true, true, true, true, true, true, true, false, true, false] (resK [.pair (.int .u32) (.pair (.int .u32) (.pair (.int .u32) (.pair (.int .u32) (.pair (.int .u32) (.pair (.int .u32) (.pair (.int .u32) (.pair (.int .u32) .unit)))))))] ret)) n s)] [true, true, true, true, true, true, true, true, false, true, false, false, true, true, false, false, true, false, true, false] (resK [.pair (.int .u32) (.pair (.int .u32) (.pair (.int .u32) (.pair (.int .u32) (.pair (.int .u32) (.pair (.int .u32) (.pair (.int .u32) (.pair (.int .u32) .unit)))))))] ret)) m_ (S_digest_compress_1 t43_ t46_ b0_ b2_ b3_ b4_) := by funext m_ t43_ t46_ b0_ b2_ b3_ b4_; exact (f_digest_compress_l1_eq m ret k (fun s => loopAt (E_digest_compress m Ω) (resLive Tryd.f72.results.toList) [] k (spotF (E_digest_compress m Ω) [] k Tryd.f72 [] [true, true, true, true, true, true, true, true, false, true, false] (resK [.pair (.int .u32) (.pair (.int .u32) (.pair (.int .u32) (.pair (.int .u32) (.pair (.int .u32) (.pair (.int .u32) (.pair (.int .u32) (.pair (.int .u32) .unit)))))))] ret)) n s) m_ t43_ t46_ b0_ b2_ b3_ b4_).symm
    have e2 : f_digest_compress_l2 ret k = fun m_ t104_ b0_ b2_ => loopAt (E_digest_compress m Ω) (resLive Tryd.f72.results.toList) [] k (spotF (E_digest_compress m Ω) [] k Tryd.f72 [] [true, true, true, true, true, true, true, true, true, false, true, false] (resK [.pair (.int .u32) (.pair (.int .u32) (.pair (.int .u32) (.pair (.int .u32) (.pair (.int .u32) (.pair (.int .u32) (.pair (.int .u32) (.pair (.int .u32) .unit)))))))] ret)) m_ (S_digest_compress_2 t104_ b0_ b2_) := by funext m_ t104_ b0_ b2_; exact (f_digest_compress_l2_eq m ret k m_ t104_ b0_ b2_).symm
    show _ = f_digest_compress_l3s ret k (f_digest_compress_l3 ret k n) (f_digest_compress_l1 ret k (f_digest_compress_l3 ret k n)) (f_digest_compress_l2 ret k) t43 b0 b2 b3
    rw [e, e1, e2]
    kernel_rfl
theorem f_digest_compress_run (m : Int) {Ω : Type} (ret : (Int × (Int × (Int × (Int × (Int × (Int × (Int × (Int × Unit)))))))) × Unit → Option Ω) (k : Nat) (a0 : Int × (Int × (Int × (Int × (Int × (Int × (Int × (Int × Unit)))))))) (a1 : ByteArray) (a2 : Int) (a3 : Bool) : run (E_digest_compress m Ω) [] k Tryd.f72 [.agg [.int .u32 a0.1, .int .u32 a0.2.1, .int .u32 a0.2.2.1, .int .u32 a0.2.2.2.1, .int .u32 a0.2.2.2.2.1, .int .u32 a0.2.2.2.2.2.1, .int .u32 a0.2.2.2.2.2.2.1, .int .u32 a0.2.2.2.2.2.2.2.1], .str a1, .int .i64 a2, .bool a3] [] (resK [.pair (.int .u32) (.pair (.int .u32) (.pair (.int .u32) (.pair (.int .u32) (.pair (.int .u32) (.pair (.int .u32) (.pair (.int .u32) (.pair (.int .u32) .unit)))))))] ret) = f_digest_compress ret k a0 a1 a2 a3 := by
  have e3 : f_digest_compress_l3 ret k = fun m_ t43_ b0_ b2_ b3_ => loopAt (E_digest_compress m Ω) (resLive Tryd.f72.results.toList) [] k (spotF (E_digest_compress m Ω) [] k Tryd.f72 [] [true, true, true, true, true, true, true, true, false, true, false] (resK [.pair (.int .u32) (.pair (.int .u32) (.pair (.int .u32) (.pair (.int .u32) (.pair (.int .u32) (.pair (.int .u32) (.pair (.int .u32) (.pair (.int .u32) .unit)))))))] ret)) m_ (S_digest_compress_3 t43_ b0_ b2_ b3_) := by funext m_ t43_ b0_ b2_ b3_; exact (f_digest_compress_l3_eq m ret k m_ t43_ b0_ b2_ b3_).symm
  show _ = f_digest_compress_b ret k (f_digest_compress_l3 ret k) a0 a1 a2 a3
  rw [e3]
  kernel_rfl
def F_digest_compress (a : (Int × (Int × (Int × (Int × (Int × (Int × (Int × (Int × Unit)))))))) × ByteArray × Int × Bool × Unit) : Option ((Int × (Int × (Int × (Int × (Int × (Int × (Int × (Int × Unit)))))))) × Unit) := ends fun k => f_digest_compress some k a.1 a.2.1 a.2.2.1 a.2.2.2.1
theorem f_digest_compress_at : Tryd.prog.funcs[72]? = some Tryd.f72 := by kernel_rfl
theorem E_digest_compress_ok (m : Int) (Ω : Type) : EnvOk Tryd.prog (E_digest_compress m Ω) := envT_ok T_ok (by
  intro e he
  simp only [List.mem_cons, List.not_mem_nil, or_false] at he
  rcases he with rfl | rfl
  · exact ent_ok fun a r h => F_digest_words_ok a r h m
  · exact ent_ok fun a r h => F_math_bits_RotateLeft32_ok a r h m) (by
  intro e he
  simp only [List.mem_cons, List.not_mem_nil, or_false] at he
  rcases he with rfl
  · exact fun xs h => I_digest_mix_ok m Ω xs h)
theorem F_digest_compress_ok (a : Tys [.pair (.int .u32) (.pair (.int .u32) (.pair (.int .u32) (.pair (.int .u32) (.pair (.int .u32) (.pair (.int .u32) (.pair (.int .u32) (.pair (.int .u32) .unit))))))), .str, .int .i64, .bool]) (r : Tys [.pair (.int .u32) (.pair (.int .u32) (.pair (.int .u32) (.pair (.int .u32) (.pair (.int .u32) (.pair (.int .u32) (.pair (.int .u32) (.pair (.int .u32) .unit)))))))]) (h : F_digest_compress a = some r) (m : Int) : PContract Tryd.prog (GL m) 72 (injL [.pair (.int .u32) (.pair (.int .u32) (.pair (.int .u32) (.pair (.int .u32) (.pair (.int .u32) (.pair (.int .u32) (.pair (.int .u32) (.pair (.int .u32) .unit))))))), .str, .int .i64, .bool] a) (injR [.pair (.int .u32) (.pair (.int .u32) (.pair (.int .u32) (.pair (.int .u32) (.pair (.int .u32) (.pair (.int .u32) (.pair (.int .u32) (.pair (.int .u32) .unit)))))))] r) := by
  obtain ⟨k, h⟩ := ends_some h
  exact PContract.of_run (E := E_digest_compress m (Tys [.pair (.int .u32) (.pair (.int .u32) (.pair (.int .u32) (.pair (.int .u32) (.pair (.int .u32) (.pair (.int .u32) (.pair (.int .u32) (.pair (.int .u32) .unit)))))))])) (un := []) (k := k) (E_digest_compress_ok m _) mixed (callOk_of f_digest_compress_at (by kernel_rfl) (by kernel_rfl)) f_digest_compress_at ((f_digest_compress_run m some k a.1 a.2.1 a.2.2.1 a.2.2.2.1).trans h)
/-! (*strings.Builder).WriteByte: walked where it is called -/
noncomputable def E_strings_Builder_WriteByte (m : Int) (Ω : Type) : Env Ω := envT T (GL m) [] [(74, copyCheckV 68)]
theorem f_strings_Builder_WriteByte_at : Tryd.prog.funcs[73]? = some Tryd.f73 := by kernel_rfl
theorem E_strings_Builder_WriteByte_ok (m : Int) (Ω : Type) : EnvOk Tryd.prog (E_strings_Builder_WriteByte m Ω) := envT_ok T_ok (by intro e he; cases he) (by
  intro e he
  simp only [List.mem_cons, List.not_mem_nil, or_false] at he
  rcases he with rfl
  · exact fun xs h => I_strings_Builder_copyCheck_ok m Ω xs h)
theorem I_strings_Builder_WriteByte_ok (m : Int) (Ω : Type) (xs : List V) (h : Heap) : OneW (inl (E_strings_Builder_WriteByte m Ω) [] 0 Tryd.f73 xs h) (Contract Tryd.prog (GL m) 73 xs h) := inl_ok (E_strings_Builder_WriteByte_ok m Ω) mixed (callOk_of f_strings_Builder_WriteByte_at (by kernel_rfl) (by kernel_rfl)) f_strings_Builder_WriteByte_at [] 0 xs h
/-! bourne/digest.Sum -/
noncomputable def E_digest_Sum (m : Int) (Ω : Type) : Env Ω := envT T (GL m) [(72, true, ent [.pair (.int .u32) (.pair (.int .u32) (.pair (.int .u32) (.pair (.int .u32) (.pair (.int .u32) (.pair (.int .u32) (.pair (.int .u32) (.pair (.int .u32) .unit))))))), .str, .int .i64, .bool] [.pair (.int .u32) (.pair (.int .u32) (.pair (.int .u32) (.pair (.int .u32) (.pair (.int .u32) (.pair (.int .u32) (.pair (.int .u32) (.pair (.int .u32) .unit)))))))] F_digest_compress)] [(63, inl (E_strings_Builder_String m Ω) [] 0 Tryd.f63), (73, inl (E_strings_Builder_WriteByte m Ω) [] 0 Tryd.f73), (74, copyCheckV 68)]
def S_digest_Sum_0 (t0 : ByteArray) (t4 : Int) (b0 : List Int) : St := ⟨[.str t0, .undef, .undef, .eptr 0 0 0, .int .i64 t4, .undef, .undef, .undef, .undef, .undef, .undef, .undef, .undef, .undef, .undef, .undef, .undef, .undef, .undef, .undef, .undef, .undef, .undef, .undef, .undef, .undef, .undef, .undef, .undef, .undef, .undef, .undef, .undef, .undef, .undef, .undef, .undef, .undef, .undef, .undef, .undef, .undef, .undef, .undef, .undef, .undef, .undef, .undef, .undef], [.arr (.int .u32) 8 (b0 : List Int)]⟩
def f_digest_Sum_l0s {Ω : Type} (ret : ByteArray × Unit → Option Ω) (k : Nat)  (c0 : ByteArray → Int → (List Int) → Option Ω)  (t0 : ByteArray) (t4 : Int) (b0 : List Int) : Option Ω :=
  bif (decide ((t0.size : Int) > 64)) then
    let x2 : Int := (IntKind.wrap .i64 (t4 + 64))
    bif (inS 0 64 (t0.size : Int)) then
    andK (F_digest_compress ((((b0.getD 0 (0 : Int)), ((b0.getD 1 (0 : Int)), ((b0.getD 2 (0 : Int)), ((b0.getD 3 (0 : Int)), ((b0.getD 4 (0 : Int)), ((b0.getD 5 (0 : Int)), ((b0.getD 6 (0 : Int)), ((b0.getD 7 (0 : Int)), ())))))))) : Int × (Int × (Int × (Int × (Int × (Int × (Int × (Int × Unit)))))))), (t0.extract 0 64), x2, false, ())) fun (r4 : (Int × (Int × (Int × (Int × (Int × (Int × (Int × (Int × Unit)))))))) × Unit) =>
    bif (inS 64 (t0.size : Int) (t0.size : Int)) then
    c0 (t0.extract 64 (Int.toNat (t0.size : Int))) x2 ([r4.1.1, r4.1.2.1, r4.1.2.2.1, r4.1.2.2.2.1, r4.1.2.2.2.2.1, r4.1.2.2.2.2.2.1, r4.1.2.2.2.2.2.2.1, r4.1.2.2.2.2.2.2.2.1] : List Int)
    else none
    else none
  else
  andK (F_digest_compress ((((b0.getD 0 (0 : Int)), ((b0.getD 1 (0 : Int)), ((b0.getD 2 (0 : Int)), ((b0.getD 3 (0 : Int)), ((b0.getD 4 (0 : Int)), ((b0.getD 5 (0 : Int)), ((b0.getD 6 (0 : Int)), ((b0.getD 7 (0 : Int)), ())))))))) : Int × (Int × (Int × (Int × (Int × (Int × (Int × (Int × Unit)))))))), t0, (IntKind.wrap .i64 (t4 + (t0.size : Int))), true, ())) fun (r7 : (Int × (Int × (Int × (Int × (Int × (Int × (Int × (Int × Unit)))))))) × Unit) =>
  bif (room (1 : Int) 1) then
  bif (room ((1 : Int) + 1) 1) then
  bif (room ((2 : Int) + 1) 1) then
  bif (room ((3 : Int) + 1) 1) then
  bif (room ((4 : Int) + 1) 1) then
  bif (room ((5 : Int) + 1) 1) then
  bif (room ((6 : Int) + 1) 1) then
  bif (room ((7 : Int) + 1) 1) then
  bif (room ((8 : Int) + 1) 1) then
  bif (room ((9 : Int) + 1) 1) then
  bif (room ((10 : Int) + 1) 1) then
  bif (room ((11 : Int) + 1) 1) then
  bif (room ((12 : Int) + 1) 1) then
  bif (room ((13 : Int) + 1) 1) then
  bif (room ((14 : Int) + 1) 1) then
  bif (room ((15 : Int) + 1) 1) then
  bif (room ((16 : Int) + 1) 1) then
  bif (room ((17 : Int) + 1) 1) then
  bif (room ((18 : Int) + 1) 1) then
  bif (room ((19 : Int) + 1) 1) then
  bif (room ((20 : Int) + 1) 1) then
  bif (room ((21 : Int) + 1) 1) then
  bif (room ((22 : Int) + 1) 1) then
  bif (room ((23 : Int) + 1) 1) then
  bif (room ((24 : Int) + 1) 1) then
  bif (room ((25 : Int) + 1) 1) then
  bif (room ((26 : Int) + 1) 1) then
  bif (room ((27 : Int) + 1) 1) then
  bif (room ((28 : Int) + 1) 1) then
  bif (room ((29 : Int) + 1) 1) then
  bif (room ((30 : Int) + 1) 1) then
  bif (room ((31 : Int) + 1) 1) then
  ret ((strOf [(IntKind.wrap .u8 (shr .u32 r7.1.1 0)), (IntKind.wrap .u8 (shr .u32 r7.1.1 8)), (IntKind.wrap .u8 (shr .u32 r7.1.1 16)), (IntKind.wrap .u8 (shr .u32 r7.1.1 24)), (IntKind.wrap .u8 (shr .u32 r7.1.2.1 0)), (IntKind.wrap .u8 (shr .u32 r7.1.2.1 8)), (IntKind.wrap .u8 (shr .u32 r7.1.2.1 16)), (IntKind.wrap .u8 (shr .u32 r7.1.2.1 24)), (IntKind.wrap .u8 (shr .u32 r7.1.2.2.1 0)), (IntKind.wrap .u8 (shr .u32 r7.1.2.2.1 8)), (IntKind.wrap .u8 (shr .u32 r7.1.2.2.1 16)), (IntKind.wrap .u8 (shr .u32 r7.1.2.2.1 24)), (IntKind.wrap .u8 (shr .u32 r7.1.2.2.2.1 0)), (IntKind.wrap .u8 (shr .u32 r7.1.2.2.2.1 8)), (IntKind.wrap .u8 (shr .u32 r7.1.2.2.2.1 16)), (IntKind.wrap .u8 (shr .u32 r7.1.2.2.2.1 24)), (IntKind.wrap .u8 (shr .u32 r7.1.2.2.2.2.1 0)), (IntKind.wrap .u8 (shr .u32 r7.1.2.2.2.2.1 8)), (IntKind.wrap .u8 (shr .u32 r7.1.2.2.2.2.1 16)), (IntKind.wrap .u8 (shr .u32 r7.1.2.2.2.2.1 24)), (IntKind.wrap .u8 (shr .u32 r7.1.2.2.2.2.2.1 0)), (IntKind.wrap .u8 (shr .u32 r7.1.2.2.2.2.2.1 8)), (IntKind.wrap .u8 (shr .u32 r7.1.2.2.2.2.2.1 16)), (IntKind.wrap .u8 (shr .u32 r7.1.2.2.2.2.2.1 24)), (IntKind.wrap .u8 (shr .u32 r7.1.2.2.2.2.2.2.1 0)), (IntKind.wrap .u8 (shr .u32 r7.1.2.2.2.2.2.2.1 8)), (IntKind.wrap .u8 (shr .u32 r7.1.2.2.2.2.2.2.1 16)), (IntKind.wrap .u8 (shr .u32 r7.1.2.2.2.2.2.2.1 24)), (IntKind.wrap .u8 (shr .u32 r7.1.2.2.2.2.2.2.2.1 0)), (IntKind.wrap .u8 (shr .u32 r7.1.2.2.2.2.2.2.2.1 8)), (IntKind.wrap .u8 (shr .u32 r7.1.2.2.2.2.2.2.2.1 16)), (IntKind.wrap .u8 (shr .u32 r7.1.2.2.2.2.2.2.2.1 24))]), ())
  else none
  else none
  else none
  else none
  else none
  else none
  else none
  else none
  else none
  else none
  else none
  else none
  else none
  else none
  else none
  else none
  else none
  else none
  else none
  else none
  else none
  else none
  else none
  else none
  else none
  else none
  else none
  else none
  else none
  else none
  else none
  else none
def f_digest_Sum_l0 {Ω : Type} (ret : ByteArray × Unit → Option Ω) (k : Nat)  : Nat → ByteArray → Int → (List Int) → Option Ω
  | 0 => fun _ _ _ => none
  | n + 1 => f_digest_Sum_l0s ret k (f_digest_Sum_l0 ret k n)
def f_digest_Sum_b {Ω : Type} (ret : ByteArray × Unit → Option Ω) (k : Nat) (l0 : Nat → ByteArray → Int → (List Int) → Option Ω) (a0 : ByteArray) : Option Ω :=
  l0 k a0 (0 : Int) ([1795745351, 3144134277, 1013904242, 2773480762, 1359893119, 2600822924, 528734635, 1541459225] : List Int)
def f_digest_Sum {Ω : Type} (ret : ByteArray × Unit → Option Ω) (k : Nat) (a0 : ByteArray) : Option Ω := f_digest_Sum_b ret k (f_digest_Sum_l0 ret k) a0
theorem f_digest_Sum_l0_eq (m : Int) {Ω : Type} (ret : ByteArray × Unit → Option Ω) (k : Nat)  : ∀ (n : Nat) (t0 : ByteArray) (t4 : Int) (b0 : List Int), loopAt (E_digest_Sum m Ω) (resLive Tryd.f60.results.toList) [2, 4] k (spotF (E_digest_Sum m Ω) [2, 4] k Tryd.f60 [] [true, true, true, true, false, false] (resK [.str] ret)) n (S_digest_Sum_0 t0 t4 b0) = f_digest_Sum_l0 ret k n t0 t4 b0 := by
  intro n
  induction n with
  | zero => intros; rw [loopAt_zero]; rfl
  | succ n ih =>
    intros t0 t4 b0
    rw [loopAt_succ]
    have e : f_digest_Sum_l0 ret k n = fun t0 t4 b0 => loopAt (E_digest_Sum m Ω) (resLive Tryd.f60.results.toList) [2, 4] k (spotF (E_digest_Sum m Ω) [2, 4] k Tryd.f60 [] [true, true, true, true, false, false] (resK [.str] ret)) n (S_digest_Sum_0 t0 t4 b0) := by funext t0 t4 b0; exact (ih t0 t4 b0).symm
    show _ = f_digest_Sum_l0s ret k (f_digest_Sum_l0 ret k n) t0 t4 b0
    rw [e]
    kernel_rfl
theorem f_digest_Sum_run (m : Int) {Ω : Type} (ret : ByteArray × Unit → Option Ω) (k : Nat) (a0 : ByteArray) : run (E_digest_Sum m Ω) [2, 4] k Tryd.f60 [.str a0] [] (resK [.str] ret) = f_digest_Sum ret k a0 := by
  have e0 : f_digest_Sum_l0 ret k = fun m_ t0_ t4_ b0_ => loopAt (E_digest_Sum m Ω) (resLive Tryd.f60.results.toList) [2, 4] k (spotF (E_digest_Sum m Ω) [2, 4] k Tryd.f60 [] [true, true, true, true, false, false] (resK [.str] ret)) m_ (S_digest_Sum_0 t0_ t4_ b0_) := by funext m_ t0_ t4_ b0_; exact (f_digest_Sum_l0_eq m ret k m_ t0_ t4_ b0_).symm
  show _ = f_digest_Sum_b ret k (f_digest_Sum_l0 ret k) a0
  rw [e0]
  kernel_rfl
def F_digest_Sum (a : ByteArray × Unit) : Option (ByteArray × Unit) := ends fun k => f_digest_Sum some k a.1
theorem f_digest_Sum_at : Tryd.prog.funcs[60]? = some Tryd.f60 := by kernel_rfl
theorem E_digest_Sum_ok (m : Int) (Ω : Type) : EnvOk Tryd.prog (E_digest_Sum m Ω) := envT_ok T_ok (by
  intro e he
  simp only [List.mem_cons, List.not_mem_nil, or_false] at he
  rcases he with rfl
  · exact ent_ok fun a r h => F_digest_compress_ok a r h m) (by
  intro e he
  simp only [List.mem_cons, List.not_mem_nil, or_false] at he
  rcases he with rfl | rfl | rfl
  · exact fun xs h => I_strings_Builder_String_ok m Ω xs h
  · exact fun xs h => I_strings_Builder_WriteByte_ok m Ω xs h
  · exact fun xs h => I_strings_Builder_copyCheck_ok m Ω xs h)
theorem F_digest_Sum_ok (a : Tys [.str]) (r : Tys [.str]) (h : F_digest_Sum a = some r) (m : Int) : PContract Tryd.prog (GL m) 60 (injL [.str] a) (injR [.str] r) := by
  obtain ⟨k, h⟩ := ends_some h
  exact PContract.of_run (E := E_digest_Sum m (Tys [.str])) (un := [2, 4]) (k := k) (E_digest_Sum_ok m _) mixed (callOk_of f_digest_Sum_at (by kernel_rfl) (by kernel_rfl)) f_digest_Sum_at ((f_digest_Sum_run m some k a.1).trans h)
/-! bourne/digest.Short -/
noncomputable def E_digest_Short (m : Int) (Ω : Type) : Env Ω := envT T (GL m) [(60, true, ent [.str] [.str] F_digest_Sum)] []
def S_digest_Short_0 (t3 : Int) (t9 : Sl Int) (t10 : Int) (t11 : Int) : St := ⟨[.undef, .undef, .undef, .int .u64 t3, .undef, .undef, .undef, .undef, .undef, .sl (.int .u8) false t9, .int .i64 t10, .int .i64 t11, .undef, .undef, .undef, .undef, .undef, .undef, .undef, .undef, .undef, .undef, .undef, .undef], []⟩
def f_digest_Short_l0s {Ω : Type} (ret : Int × Unit → Option Ω) (k : Nat)  (c0 : Int → (Sl Int) → Int → Int → Option Ω)  (t3 : Int) (t9 : Sl Int) (t10 : Int) (t11 : Int) : Option Ω :=
  bif (decide (t11 < t10)) then
    bif (inB t11 (t9.l.length : Int)) then
    c0 (ior .u64 (shl .u64 t3 8) (IntKind.wrap .u64 (t9.l.getD (Int.toNat t11) (0 : Int)))) t9 t10 (IntKind.wrap .i64 (t11 + 1))
    else none
  else
  ret ((IntKind.wrap .i64 (shr .u64 t3 4)), ())
def f_digest_Short_l0 {Ω : Type} (ret : Int × Unit → Option Ω) (k : Nat)  : Nat → Int → (Sl Int) → Int → Int → Option Ω
  | 0 => fun _ _ _ _ => none
  | n + 1 => f_digest_Short_l0s ret k (f_digest_Short_l0 ret k n)
def f_digest_Short_b {Ω : Type} (ret : Int × Unit → Option Ω) (k : Nat) (l0 : Nat → Int → (Sl Int) → Int → Int → Option Ω) (a0 : ByteArray) : Option Ω :=
  andK (F_digest_Sum (a0, ())) fun (r1 : ByteArray × Unit) =>
  bif (inS 0 8 (r1.1.size : Int)) then
  let x3 : List Int := (bytesOf (r1.1.extract 0 8))
  l0 k (0 : Int) (⟨false, x3⟩ : Sl Int) (x3.length : Int) (0 : Int)
  else none
def f_digest_Short {Ω : Type} (ret : Int × Unit → Option Ω) (k : Nat) (a0 : ByteArray) : Option Ω := f_digest_Short_b ret k (f_digest_Short_l0 ret k) a0
theorem f_digest_Short_l0_eq (m : Int) {Ω : Type} (ret : Int × Unit → Option Ω) (k : Nat)  : ∀ (n : Nat) (t3 : Int) (t9 : Sl Int) (t10 : Int) (t11 : Int), loopAt (E_digest_Short m Ω) (resLive Tryd.f52.results.toList) [] k (spotF (E_digest_Short m Ω) [] k Tryd.f52 [] [true, true, false, true, false] (resK [.int .i64] ret)) n (S_digest_Short_0 t3 t9 t10 t11) = f_digest_Short_l0 ret k n t3 t9 t10 t11 := by
  intro n
  induction n with
  | zero => intros; rw [loopAt_zero]; rfl
  | succ n ih =>
    intros t3 t9 t10 t11
    rw [loopAt_succ]
    have e : f_digest_Short_l0 ret k n = fun t3 t9 t10 t11 => loopAt (E_digest_Short m Ω) (resLive Tryd.f52.results.toList) [] k (spotF (E_digest_Short m Ω) [] k Tryd.f52 [] [true, true, false, true, false] (resK [.int .i64] ret)) n (S_digest_Short_0 t3 t9 t10 t11) := by funext t3 t9 t10 t11; exact (ih t3 t9 t10 t11).symm
    show _ = f_digest_Short_l0s ret k (f_digest_Short_l0 ret k n) t3 t9 t10 t11
    rw [e]
    kernel_rfl
theorem f_digest_Short_run (m : Int) {Ω : Type} (ret : Int × Unit → Option Ω) (k : Nat) (a0 : ByteArray) : run (E_digest_Short m Ω) [] k Tryd.f52 [.str a0] [] (resK [.int .i64] ret) = f_digest_Short ret k a0 := by
  have e0 : f_digest_Short_l0 ret k = fun m_ t3_ t9_ t10_ t11_ => loopAt (E_digest_Short m Ω) (resLive Tryd.f52.results.toList) [] k (spotF (E_digest_Short m Ω) [] k Tryd.f52 [] [true, true, false, true, false] (resK [.int .i64] ret)) m_ (S_digest_Short_0 t3_ t9_ t10_ t11_) := by funext m_ t3_ t9_ t10_ t11_; exact (f_digest_Short_l0_eq m ret k m_ t3_ t9_ t10_ t11_).symm
  show _ = f_digest_Short_b ret k (f_digest_Short_l0 ret k) a0
  rw [e0]
  kernel_rfl
def F_digest_Short (a : ByteArray × Unit) : Option (Int × Unit) := ends fun k => f_digest_Short some k a.1
theorem f_digest_Short_at : Tryd.prog.funcs[52]? = some Tryd.f52 := by kernel_rfl
theorem E_digest_Short_ok (m : Int) (Ω : Type) : EnvOk Tryd.prog (E_digest_Short m Ω) := envT_ok T_ok (by
  intro e he
  simp only [List.mem_cons, List.not_mem_nil, or_false] at he
  rcases he with rfl
  · exact ent_ok fun a r h => F_digest_Sum_ok a r h m) (by intro e he; cases he)
theorem F_digest_Short_ok (a : Tys [.str]) (r : Tys [.int .i64]) (h : F_digest_Short a = some r) (m : Int) : PContract Tryd.prog (GL m) 52 (injL [.str] a) (injR [.int .i64] r) := by
  obtain ⟨k, h⟩ := ends_some h
  exact PContract.of_run (E := E_digest_Short m (Tys [.int .i64])) (un := []) (k := k) (E_digest_Short_ok m _) mixed (callOk_of f_digest_Short_at (by kernel_rfl) (by kernel_rfl)) f_digest_Short_at ((f_digest_Short_run m some k a.1).trans h)
/-! bourne/sign.hash -/
noncomputable def E_sign_hash (m : Int) (Ω : Type) : Env Ω := envT T (GL m) [(52, true, ent [.str] [.int .i64] F_digest_Short), (53, true, ent [.sl .str, .str] [.str] F_strings_Join)] []
def f_sign_hash_b {Ω : Type} (ret : Int × Unit → Option Ω) (k : Nat)  (a0 : Sl ByteArray) : Option Ω :=
  andK (F_strings_Join (a0, ((⟨#[]⟩ : ByteArray) : ByteArray), ())) fun (r1 : ByteArray × Unit) =>
  andK (F_digest_Short ((r1.1 : ByteArray), ())) fun (r2 : Int × Unit) =>
  ret ((r2.1 : Int), ())
def f_sign_hash {Ω : Type} (ret : Int × Unit → Option Ω) (k : Nat) (a0 : Sl ByteArray) : Option Ω := f_sign_hash_b ret k a0
theorem f_sign_hash_run (m : Int) {Ω : Type} (ret : Int × Unit → Option Ω) (k : Nat) (a0 : Sl ByteArray) : run (E_sign_hash m Ω) [] k Tryd.f42 [.sl .str false a0] [] (resK [.int .i64] ret) = f_sign_hash ret k a0 := by
  show _ = f_sign_hash_b ret k a0
  kernel_rfl
def F_sign_hash (a : (Sl ByteArray) × Unit) : Option (Int × Unit) := f_sign_hash some 0 a.1
theorem f_sign_hash_at : Tryd.prog.funcs[42]? = some Tryd.f42 := by kernel_rfl
theorem E_sign_hash_ok (m : Int) (Ω : Type) : EnvOk Tryd.prog (E_sign_hash m Ω) := envT_ok T_ok (by
  intro e he
  simp only [List.mem_cons, List.not_mem_nil, or_false] at he
  rcases he with rfl | rfl
  · exact ent_ok fun a r h => F_digest_Short_ok a r h m
  · exact ent_ok fun a r h => F_strings_Join_ok a r h m) (by intro e he; cases he)
theorem F_sign_hash_ok (a : Tys [.sl .str]) (r : Tys [.int .i64]) (h : F_sign_hash a = some r) (m : Int) : PContract Tryd.prog (GL m) 42 (injL [.sl .str] a) (injR [.int .i64] r) := by
  exact PContract.of_run (E := E_sign_hash m (Tys [.int .i64])) (un := []) (k := 0) (E_sign_hash_ok m _) mixed (callOk_of f_sign_hash_at (by kernel_rfl) (by kernel_rfl)) f_sign_hash_at ((f_sign_hash_run m some 0 a.1).trans h)
/-! bourne/sign.secret -/
noncomputable def E_sign_secret (m : Int) (Ω : Type) : Env Ω := envT T (GL m) [(42, true, ent [.sl .str] [.int .i64] F_sign_hash)] []
def f_sign_secret_b {Ω : Type} (ret : Int × Unit → Option Ω) (k : Nat)  (a0 : Sl ByteArray) : Option Ω :=
  andK (F_sign_hash (a0, ())) fun (r1 : Int × Unit) =>
  ret ((IntKind.wrap .i64 (1 + (Int.tmod r1.1 1152921504606845788))), ())
def f_sign_secret {Ω : Type} (ret : Int × Unit → Option Ω) (k : Nat) (a0 : Sl ByteArray) : Option Ω := f_sign_secret_b ret k a0
theorem f_sign_secret_run (m : Int) {Ω : Type} (ret : Int × Unit → Option Ω) (k : Nat) (a0 : Sl ByteArray) : run (E_sign_secret m Ω) [] k Tryd.f26 [.sl .str false a0] [] (resK [.int .i64] ret) = f_sign_secret ret k a0 := by
  show _ = f_sign_secret_b ret k a0
  kernel_rfl
def F_sign_secret (a : (Sl ByteArray) × Unit) : Option (Int × Unit) := f_sign_secret some 0 a.1
theorem f_sign_secret_at : Tryd.prog.funcs[26]? = some Tryd.f26 := by kernel_rfl
theorem E_sign_secret_ok (m : Int) (Ω : Type) : EnvOk Tryd.prog (E_sign_secret m Ω) := envT_ok T_ok (by
  intro e he
  simp only [List.mem_cons, List.not_mem_nil, or_false] at he
  rcases he with rfl
  · exact ent_ok fun a r h => F_sign_hash_ok a r h m) (by intro e he; cases he)
theorem F_sign_secret_ok (a : Tys [.sl .str]) (r : Tys [.int .i64]) (h : F_sign_secret a = some r) (m : Int) : PContract Tryd.prog (GL m) 26 (injL [.sl .str] a) (injR [.int .i64] r) := by
  exact PContract.of_run (E := E_sign_secret m (Tys [.int .i64])) (un := []) (k := 0) (E_sign_secret_ok m _) mixed (callOk_of f_sign_secret_at (by kernel_rfl) (by kernel_rfl)) f_sign_secret_at ((f_sign_secret_run m some 0 a.1).trans h)
/-! bourne/wire.Text -/
noncomputable def E_wire_Text (m : Int) (Ω : Type) : Env Ω := envT T (GL m) [(43, true, ent [.str, .str, .str] [.str] F_strings_ReplaceAll)] []
def f_wire_Text_b {Ω : Type} (ret : ByteArray × Unit → Option Ω) (k : Nat)  (a0 : ByteArray) : Option Ω :=
  andK (F_strings_ReplaceAll (a0, ((⟨#[0]⟩ : ByteArray) : ByteArray), ((⟨#[0, 255]⟩ : ByteArray) : ByteArray), ())) fun (r1 : ByteArray × Unit) =>
  bif (decide (r1.1.size + (⟨#[0, 1]⟩ : ByteArray).size ≤ 9223372036854775807)) then
  ret ((r1.1 ++ (⟨#[0, 1]⟩ : ByteArray)), ())
  else none
def f_wire_Text {Ω : Type} (ret : ByteArray × Unit → Option Ω) (k : Nat) (a0 : ByteArray) : Option Ω := f_wire_Text_b ret k a0
theorem f_wire_Text_run (m : Int) {Ω : Type} (ret : ByteArray × Unit → Option Ω) (k : Nat) (a0 : ByteArray) : run (E_wire_Text m Ω) [] k Tryd.f27 [.str a0] [] (resK [.str] ret) = f_wire_Text ret k a0 := by
  show _ = f_wire_Text_b ret k a0
  kernel_rfl
def F_wire_Text (a : ByteArray × Unit) : Option (ByteArray × Unit) := f_wire_Text some 0 a.1
theorem f_wire_Text_at : Tryd.prog.funcs[27]? = some Tryd.f27 := by kernel_rfl
theorem E_wire_Text_ok (m : Int) (Ω : Type) : EnvOk Tryd.prog (E_wire_Text m Ω) := envT_ok T_ok (by
  intro e he
  simp only [List.mem_cons, List.not_mem_nil, or_false] at he
  rcases he with rfl
  · exact ent_ok fun a r h => F_strings_ReplaceAll_ok a r h m) (by intro e he; cases he)
theorem F_wire_Text_ok (a : Tys [.str]) (r : Tys [.str]) (h : F_wire_Text a = some r) (m : Int) : PContract Tryd.prog (GL m) 27 (injL [.str] a) (injR [.str] r) := by
  exact PContract.of_run (E := E_wire_Text m (Tys [.str])) (un := []) (k := 0) (E_wire_Text_ok m _) mixed (callOk_of f_wire_Text_at (by kernel_rfl) (by kernel_rfl)) f_wire_Text_at ((f_wire_Text_run m some 0 a.1).trans h)
end
end Go.Proofs.YtnebpmcmdmpoaaaDoor.R
