/- The digest: one round, as both texts have it. -/
import Derived.Test.YtnebpmcmdmpoaaaDoorPWire
import Derived.KernelRfl
namespace Go.Proofs.YtnebpmcmdmpoaaaDoor.R
open Go
set_option linter.unusedSimpArgs false
set_option linter.unusedVariables false
set_option maxRecDepth 10000

/-! ### Words of 32 bits -/

theorem ior_comm (k : IntKind) (a b : Int) : ior k a b = ior k b a := by unfold ior; rw [BitVec.or_comm]
theorem ixor_assoc32 (a b c : Int) : ixor .u32 (ixor .u32 a b) c = ixor .u32 a (ixor .u32 b c) := by
  have rt : ∀ x : BitVec 32, BitVec.ofInt 32 (IntKind.wrap .u32 (x.toNat : Int)) = x := by
    intro x
    have h : IntKind.wrap .u32 (x.toNat : Int) = (x.toNat : Int) := by rw [wu32]; have := x.isLt; omega
    rw [h, BitVec.ofInt_natCast, BitVec.ofNat_toNat, BitVec.setWidth_eq]
  have u : ∀ a b : Int, ixor .u32 a b = IntKind.wrap .u32 ((BitVec.ofInt 32 a ^^^ BitVec.ofInt 32 b).toNat : Int) := fun _ _ => rfl
  rw [u (ixor .u32 a b) c, u a (ixor .u32 b c), u a b, u b c, rt, rt, BitVec.xor_assoc]
theorem ixor32_b (a b : Int) : 0 ≤ ixor .u32 a b ∧ ixor .u32 a b < 4294967296 := by
  have u : ixor .u32 a b = IntKind.wrap .u32 ((BitVec.ofInt 32 a ^^^ BitVec.ofInt 32 b).toNat : Int) := rfl
  rw [u, wu32]; omega

/-- a word turned to the right -/
def R (x n : Int) : Int := ior .u32 (shr .u32 x n) (shl .u32 x (32 - n))
theorem right_ok (x : Int) : F_bourneref03_right (x, 16, ()) = some (R x 16, ()) ∧ F_bourneref03_right (x, 12, ()) = some (R x 12, ()) ∧ F_bourneref03_right (x, 8, ()) = some (R x 8, ()) ∧ F_bourneref03_right (x, 7, ()) = some (R x 7, ()) := by
  refine ⟨?_, ?_, ?_, ?_⟩ <;> kernel_rfl
theorem rotl_ok (x : Int) : F_math_bits_RotateLeft32 (x, -16, ()) = some (R x 16, ()) ∧ F_math_bits_RotateLeft32 (x, -12, ()) = some (R x 12, ()) ∧ F_math_bits_RotateLeft32 (x, -8, ()) = some (R x 8, ()) ∧ F_math_bits_RotateLeft32 (x, -7, ()) = some (R x 7, ()) := by
  have h16 : F_math_bits_RotateLeft32 (x, -16, ()) = some (ior .u32 (shl .u32 x 16) (shr .u32 x 16), ()) := by kernel_rfl
  have h12 : F_math_bits_RotateLeft32 (x, -12, ()) = some (ior .u32 (shl .u32 x 20) (shr .u32 x 12), ()) := by kernel_rfl
  have h8 : F_math_bits_RotateLeft32 (x, -8, ()) = some (ior .u32 (shl .u32 x 24) (shr .u32 x 8), ()) := by kernel_rfl
  have h7 : F_math_bits_RotateLeft32 (x, -7, ()) = some (ior .u32 (shl .u32 x 25) (shr .u32 x 7), ()) := by kernel_rfl
  rw [h16, h12, h8, h7, ior_comm, ior_comm .u32 (shl .u32 x 20), ior_comm .u32 (shl .u32 x 24), ior_comm .u32 (shl .u32 x 25)]
  exact ⟨rfl, rfl, rfl, rfl⟩

/-! ### The function G -/

def g1 (v : List Int) (a b : Nat) (x : Int) : List Int := v.set a ((v.getD a 0 + v.getD b 0 + x) % 4294967296)
def g2 (v : List Int) (d a : Nat) (n : Int) : List Int := v.set d (R (ixor .u32 (v.getD d 0) (v.getD a 0)) n)
def g3 (v : List Int) (c d : Nat) : List Int := v.set c ((v.getD c 0 + v.getD d 0) % 4294967296)
def gm (v : List Int) (a b c d : Nat) (x y : Int) : List Int :=
  g2 (g3 (g2 (g1 (g2 (g3 (g2 (g1 v a b x) d a 16) c d) b c 12) a b y) d a 8) c d) b c 7
theorem g1_len (v : List Int) (a b : Nat) (x : Int) : (g1 v a b x).length = v.length := List.length_set
theorem g2_len (v : List Int) (d a : Nat) (n : Int) : (g2 v d a n).length = v.length := List.length_set
theorem g3_len (v : List Int) (c d : Nat) : (g3 v c d).length = v.length := List.length_set
theorem gm_len (v : List Int) (a b c d : Nat) (x y : Int) : (gm v a b c d x y).length = v.length := by
  unfold gm; rw [g2_len, g3_len, g2_len, g1_len, g2_len, g3_len, g2_len, g1_len]

section
variable {Ω : Type}

/-- the program's steps -/
def p1 (v : List Int) (a b x : Int) (K : List Int → Option Ω) : Option Ω :=
  bif inB a 16 then bif inB b 16 then bif inB a 16 then K (v.set a.toNat (IntKind.wrap .u32 (v.getD a.toNat 0 + IntKind.wrap .u32 (v.getD b.toNat 0 + x)))) else none else none else none
def p2 (v : List Int) (d a n : Int) (K : List Int → Option Ω) : Option Ω :=
  bif inB d 16 then bif inB a 16 then andK (F_math_bits_RotateLeft32 (ixor .u32 (v.getD d.toNat 0) (v.getD a.toNat 0), n, ())) fun r => bif inB d 16 then K (v.set d.toNat r.1) else none else none else none
def p3 (v : List Int) (c d : Int) (K : List Int → Option Ω) : Option Ω :=
  bif inB c 16 then bif inB d 16 then bif inB c 16 then K (v.set c.toNat (IntKind.wrap .u32 (v.getD c.toNat 0 + v.getD d.toNat 0))) else none else none else none
def pG (z m v : List Int) (i j a b c d : Int) (K : List Int → Option Ω) : Option Ω :=
  bif inB i 16 then bif inB (z.getD i.toNat 0) 16 then bif inB j 16 then bif inB (z.getD j.toNat 0) 16 then
    p1 v a b (m.getD (z.getD i.toNat 0).toNat 0) fun v => p2 v d a (-16) fun v => p3 v c d fun v => p2 v b c (-12) fun v =>
    p1 v a b (m.getD (z.getD j.toNat 0).toNat 0) fun v => p2 v d a (-8) fun v => p3 v c d fun v => p2 v b c (-7) K
  else none else none else none else none

theorem p1_ok (v : List Int) {a b : Nat} (x : Int) (K : List Int → Option Ω) (ha : a < 16) (hb : b < 16) : p1 v a b x K = K (g1 v a b x) := by
  unfold p1 g1
  rw [bif_in (by omega) (by omega), bif_in (by omega) (by omega), bif_in (by omega) (by omega), wu32, wu32, Int.toNat_natCast, Int.toNat_natCast, Int.add_emod_emod, Int.add_assoc]
theorem p2_ok (v : List Int) {d a : Nat} (n : Int) (m : Int) (hm : ∀ x, F_math_bits_RotateLeft32 (x, n, ()) = some (R x m, ())) (K : List Int → Option Ω) (hd : d < 16) (ha : a < 16) : p2 v d a n K = K (g2 v d a m) := by
  unfold p2 g2
  rw [bif_in (by omega) (by omega), bif_in (by omega) (by omega), andK_some (hm _), bif_in (by omega) (by omega), Int.toNat_natCast, Int.toNat_natCast]
theorem p3_ok (v : List Int) {c d : Nat} (K : List Int → Option Ω) (hc : c < 16) (hd : d < 16) : p3 v c d K = K (g3 v c d) := by
  unfold p3 g3
  rw [bif_in (by omega) (by omega), bif_in (by omega) (by omega), bif_in (by omega) (by omega), wu32, Int.toNat_natCast, Int.toNat_natCast]

/-- entries of a row of places -/
def Pls (z : List Int) : Prop := z.length = 16 ∧ ∀ i, i < 16 → 0 ≤ z.getD i 0 ∧ z.getD i 0 < 16

theorem pG_ok {z m v : List Int} (hz : Pls z) {i j a b c d : Nat} (hi : i < 16) (hj : j < 16) (ha : a < 16) (hb : b < 16) (hc : c < 16) (hd : d < 16) (K : List Int → Option Ω) :
    pG z m v i j a b c d K = K (gm v a b c d (m.getD (z.getD i 0).toNat 0) (m.getD (z.getD j 0).toNat 0)) := by
  obtain ⟨z0, z1⟩ := hz.2 i hi
  obtain ⟨y0, y1⟩ := hz.2 j hj
  unfold pG gm
  rw [Int.toNat_natCast, Int.toNat_natCast, bif_in (by omega) (by omega), bif_in z0 z1, bif_in (by omega) (by omega), bif_in y0 y1]
  rw [p1_ok v _ _ ha hb, p2_ok _ (-16) 16 (fun x => (rotl_ok x).1) _ hd ha, p3_ok _ _ hc hd, p2_ok _ (-12) 12 (fun x => (rotl_ok x).2.1) _ hb hc,
    p1_ok _ _ _ ha hb, p2_ok _ (-8) 8 (fun x => (rotl_ok x).2.2.1) _ hd ha, p3_ok _ _ hc hd, p2_ok _ (-7) 7 (fun x => (rotl_ok x).2.2.2) _ hb hc]

/-- the reference's steps -/
def q1 (v : List Int) (a b : Nat) (x : Int) (K : List Int → Option Ω) : Option Ω :=
  bif inB a v.length then bif inB b v.length then bif inB a v.length then K (v.set a (IntKind.wrap .u32 (IntKind.wrap .u32 (v.getD a 0 + v.getD b 0) + x))) else none else none else none
def q2 (v : List Int) (d a : Nat) (n : Int) (K : List Int → Option Ω) : Option Ω :=
  bif inB d v.length then bif inB a v.length then andK (F_bourneref03_right (ixor .u32 (v.getD d 0) (v.getD a 0), n, ())) fun r => bif inB d v.length then K (v.set d r.1) else none else none else none
def q3 (v : List Int) (c d : Nat) (K : List Int → Option Ω) : Option Ω :=
  bif inB c v.length then bif inB d v.length then bif inB c v.length then K (v.set c (IntKind.wrap .u32 (v.getD c 0 + v.getD d 0))) else none else none else none
def qG (z m v : List Int) (i j a b c d : Nat) (K : List Int → Option Ω) : Option Ω :=
  bif inB i z.length then bif inB (z.getD i 0) m.length then bif inB j z.length then bif inB (z.getD j 0) m.length then
    q1 v a b (m.getD (z.getD i 0).toNat 0) fun v => q2 v d a 16 fun v => q3 v c d fun v => q2 v b c 12 fun v =>
    q1 v a b (m.getD (z.getD j 0).toNat 0) fun v => q2 v d a 8 fun v => q3 v c d fun v => q2 v b c 7 K
  else none else none else none else none

theorem q1_ok {v : List Int} (hv : v.length = 16) {a b : Nat} (x : Int) (K : List Int → Option Ω) (ha : a < 16) (hb : b < 16) : q1 v a b x K = K (g1 v a b x) := by
  unfold q1 g1
  rw [hv, bif_in (by omega) (by omega), bif_in (by omega) (by omega), bif_in (by omega) (by omega), wu32, wu32, Int.emod_add_emod]
theorem q2_ok {v : List Int} (hv : v.length = 16) {d a : Nat} (n : Int) (hm : ∀ x, F_bourneref03_right (x, n, ()) = some (R x n, ())) (K : List Int → Option Ω) (hd : d < 16) (ha : a < 16) : q2 v d a n K = K (g2 v d a n) := by
  unfold q2 g2
  rw [hv, bif_in (by omega) (by omega), bif_in (by omega) (by omega), andK_some (hm _), bif_in (by omega) (by omega)]
theorem q3_ok {v : List Int} (hv : v.length = 16) {c d : Nat} (K : List Int → Option Ω) (hc : c < 16) (hd : d < 16) : q3 v c d K = K (g3 v c d) := by
  unfold q3 g3
  rw [hv, bif_in (by omega) (by omega), bif_in (by omega) (by omega), bif_in (by omega) (by omega), wu32]

theorem qG_ok {z m v : List Int} (hz : Pls z) (hm : m.length = 16) (hv : v.length = 16) {i j a b c d : Nat} (hi : i < 16) (hj : j < 16) (ha : a < 16) (hb : b < 16) (hc : c < 16) (hd : d < 16) (K : List Int → Option Ω) :
    qG z m v i j a b c d K = K (gm v a b c d (m.getD (z.getD i 0).toNat 0) (m.getD (z.getD j 0).toNat 0)) := by
  obtain ⟨z0, z1⟩ := hz.2 i hi
  obtain ⟨y0, y1⟩ := hz.2 j hj
  have l1 : (g1 v a b (m.getD (z.getD i 0).toNat 0)).length = 16 := by rw [g1_len, hv]
  have l2 := (g2_len (g1 v a b (m.getD (z.getD i 0).toNat 0)) d a 16).trans l1
  have l3 := (g3_len (g2 (g1 v a b (m.getD (z.getD i 0).toNat 0)) d a 16) c d).trans l2
  have l4 := (g2_len (g3 (g2 (g1 v a b (m.getD (z.getD i 0).toNat 0)) d a 16) c d) b c 12).trans l3
  have l5 := (g1_len (g2 (g3 (g2 (g1 v a b (m.getD (z.getD i 0).toNat 0)) d a 16) c d) b c 12) a b (m.getD (z.getD j 0).toNat 0)).trans l4
  have l6 := (g2_len (g1 (g2 (g3 (g2 (g1 v a b (m.getD (z.getD i 0).toNat 0)) d a 16) c d) b c 12) a b (m.getD (z.getD j 0).toNat 0)) d a 8).trans l5
  have l7 := (g3_len (g2 (g1 (g2 (g3 (g2 (g1 v a b (m.getD (z.getD i 0).toNat 0)) d a 16) c d) b c 12) a b (m.getD (z.getD j 0).toNat 0)) d a 8) c d).trans l6
  unfold qG gm
  rw [hz.1, hm, bif_in (by omega) (by omega), bif_in z0 (by omega), bif_in (by omega) (by omega), bif_in y0 (by omega)]
  rw [q1_ok hv _ _ ha hb, q2_ok l1 16 (fun x => (right_ok x).1) _ hd ha, q3_ok l2 _ hc hd, q2_ok l3 12 (fun x => (right_ok x).2.1) _ hb hc,
    q1_ok l4 _ _ ha hb, q2_ok l5 8 (fun x => (right_ok x).2.2.1) _ hd ha, q3_ok l6 _ hc hd, q2_ok l7 7 (fun x => (right_ok x).2.2.2) _ hb hc]

/-! ### A round -/

def gi (z m v : List Int) (i j a b c d : Nat) : List Int := gm v a b c d (m.getD (z.getD i 0).toNat 0) (m.getD (z.getD j 0).toNat 0)
def round (m z v : List Int) : List Int :=
  gi z m (gi z m (gi z m (gi z m (gi z m (gi z m (gi z m (gi z m v 0 1 0 4 8 12) 2 3 1 5 9 13) 4 5 2 6 10 14) 6 7 3 7 11 15) 8 9 0 5 10 15) 10 11 1 6 11 12) 12 13 2 7 8 13) 14 15 3 4 9 14
theorem gi_len (z m v : List Int) (i j a b c d : Nat) : (gi z m v i j a b c d).length = v.length := gm_len _ _ _ _ _ _ _
theorem round_len (m z v : List Int) : (round m z v).length = v.length := by
  unfold round; rw [gi_len, gi_len, gi_len, gi_len, gi_len, gi_len, gi_len, gi_len]

def orders : List (List Int) := [[0,1,2,3,4,5,6,7,8,9,10,11,12,13,14,15],[14,10,4,8,9,15,13,6,1,12,0,2,11,7,5,3],[11,8,12,0,5,2,15,13,10,14,3,6,7,1,9,4],[7,9,3,1,13,12,11,14,2,6,5,10,4,0,15,8],[9,0,5,7,2,4,10,15,14,1,11,12,6,8,3,13],[2,12,6,10,0,11,8,3,4,13,7,5,15,14,1,9],[12,5,1,15,14,13,4,10,0,7,6,3,9,2,8,11],[13,11,7,14,12,1,3,9,5,0,15,4,8,6,2,10],[6,15,14,9,11,3,0,8,12,2,13,7,1,4,10,5],[10,2,8,4,7,6,1,5,15,11,9,14,3,12,13,0]]
theorem orders_ok : ∀ r : Nat, r < 10 → Pls (orders.getD r []) := by
  have h : ∀ r : Fin 10, (orders.getD r.val []).length = 16 ∧ ∀ i : Fin 16, 0 ≤ (orders.getD r.val []).getD i.val 0 ∧ (orders.getD r.val []).getD i.val 0 < 16 := by decide +kernel
  intro r hr
  exact ⟨(h ⟨r, hr⟩).1, fun i hi => (h ⟨r, hr⟩).2 ⟨i, hi⟩⟩

/-- the rounds from one on -/
def rounds (m : List Int) : Nat → Nat → List Int → List Int
  | 0, _, v => v
  | d + 1, r, v => rounds m d (r + 1) (round m (orders.getD r []) v)
theorem rounds_len (m : List Int) : ∀ (d r : Nat) (v : List Int), (rounds m d r v).length = v.length
  | 0, _, _ => rfl
  | d + 1, r, v => by rw [rounds, rounds_len m d, round_len]
end
end Go.Proofs.YtnebpmcmdmpoaaaDoor.R
