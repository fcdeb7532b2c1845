/- math/bits: Mul64, Div64, Rem64, as numbers. -/
import Derived.Test.YtnebpmcmdmpoaaaDoorPTools
import Derived.Test.YtnebpmcmdmpoaaaDoorG6
import Derived.Lib.ItoaNum
namespace Go.Proofs.YtnebpmcmdmpoaaaDoor.R
open Go
set_option linter.unusedSimpArgs false
set_option linter.unusedVariables false
set_option maxRecDepth 10000

theorem w64u (x : Int) : IntKind.wrap .u64 x = x % 18446744073709551616 := wu64 x
theorem w64u_in (x : Int) (h0 : 0 ≤ x) (h1 : x < 18446744073709551616) : IntKind.wrap .u64 x = x := wu64_in h0 h1

/-- One digit of the long division: what holds of the first guess and of each later one. -/
structure Dig (y yn1 yn0 u un1 q rh : Int) : Prop where
  hy : y = yn1 * 4294967296 + yn0
  h10 : 2147483648 ≤ yn1
  h11 : yn1 < 4294967296
  h00 : 0 ≤ yn0
  h01 : yn0 < 4294967296
  hu0 : 0 ≤ u
  hu1 : u < y
  hn0 : 0 ≤ un1
  hn1 : un1 < 4294967296
  hr : u = q * yn1 + rh
  hr0 : 0 ≤ rh
  hr1 : rh < 4294967296
  hq0 : 0 ≤ q
  hq1 : q ≤ 4294967297

theorem mul_lt_of (a b c d : Int) (h0 : 0 ≤ a) (h1 : a < c) (h2 : 0 ≤ b) (h3 : b < d) : a * b < c * d := by
  have e1 : a * b ≤ a * d := Int.mul_le_mul_of_nonneg_left (by omega) h0
  have e2 : a * d < c * d := Int.mul_lt_mul_of_pos_right h1 (by omega)
  omega

theorem Dig.prod {y yn1 yn0 u un1 q rh : Int} (h : Dig y yn1 yn0 u un1 q rh) : q * y = (u - rh) * 4294967296 + q * yn0 := by
  have e : q * y = q * yn1 * 4294967296 + q * yn0 := by rw [h.hy, Int.mul_add, ← Int.mul_assoc]
  have hr := h.hr
  rw [e]
  omega

/-- The true digit. -/
def digit (y u un1 : Int) : Int := (u * 4294967296 + un1) / y
theorem digit_le {y u un1 : Int} (hy : 0 < y) : digit y u un1 * y ≤ u * 4294967296 + un1 := Int.ediv_mul_le _ (by omega)
theorem lt_digit {y u un1 : Int} (hy : 0 < y) : u * 4294967296 + un1 < (digit y u un1 + 1) * y := Int.lt_ediv_add_one_mul_self _ hy
theorem digit_lt {y u un1 : Int} (hy : 0 < y) (h1 : u < y) (hn1 : un1 < 4294967296) : digit y u un1 < 4294967296 := Int.ediv_lt_of_lt_mul hy (by omega)
theorem digit_nonneg {y u un1 : Int} (hy : 0 < y) (h0 : 0 ≤ u) (hn0 : 0 ≤ un1) : 0 ≤ digit y u un1 := Int.ediv_nonneg (by omega) (by omega)

theorem Dig.ypos {y yn1 yn0 u un1 q rh : Int} (h : Dig y yn1 yn0 u un1 q rh) : 0 < y := by have := h.hu0; have := h.hu1; omega

/-- The test at the loop's head: is the guess too great? -/
theorem Dig.test {y yn1 yn0 u un1 q rh : Int} (h : Dig y yn1 yn0 u un1 q rh) (hq : q < 4294967296) :
    IntKind.wrap .u64 (q * yn0) = q * yn0 ∧ IntKind.wrap .u64 (IntKind.wrap .u64 (4294967296 * rh) + un1) = 4294967296 * rh + un1 ∧ (q * yn0 > 4294967296 * rh + un1 ↔ q > digit y u un1) := by
  have hp := h.prod
  have hy := h.ypos
  have hZ0 : 0 ≤ q * yn0 := Int.mul_nonneg h.hq0 h.h00
  have hZ1 : q * yn0 < 4294967296 * 4294967296 := mul_lt_of _ _ _ _ h.hq0 hq h.h00 h.h01
  have := h.hr0; have := h.hr1; have := h.hn0; have := h.hn1
  refine ⟨w64u_in _ hZ0 (by omega), ?_, ?_⟩
  · rw [w64u_in (4294967296 * rh) (by omega) (by omega), w64u_in _ (by omega) (by omega)]
  · have e : q * yn0 > 4294967296 * rh + un1 ↔ q * y > u * 4294967296 + un1 := by rw [hp]; omega
    rw [e]
    constructor
    · intro hgt
      refine Int.not_le.mp fun hle => ?_
      have := Int.mul_le_mul_of_nonneg_right hle (show 0 ≤ y by omega)
      have := digit_le (u := u) (un1 := un1) hy
      omega
    · intro hgt
      have : (digit y u un1 + 1) * y ≤ q * y := Int.mul_le_mul_of_nonneg_right (by omega) (by omega)
      have := lt_digit (u := u) (un1 := un1) hy
      omega

/-- The guess lowered by one. -/
theorem Dig.next {y yn1 yn0 u un1 q rh : Int} (h : Dig y yn1 yn0 u un1 q rh) (hq : 1 ≤ q) (hr : rh + yn1 < 4294967296) : Dig y yn1 yn0 u un1 (q - 1) (rh + yn1) :=
  ⟨h.hy, h.h10, h.h11, h.h00, h.h01, h.hu0, h.hu1, h.hn0, h.hn1, by have := h.hr; rw [Int.sub_mul]; omega, by have := h.hr0; have := h.h10; omega, hr, by omega, by have := h.hq1; omega⟩
/-- Where the rest is no digit any more, the lowered guess is not too great. -/
theorem Dig.stop {y yn1 yn0 u un1 q rh : Int} (h : Dig y yn1 yn0 u un1 q rh) (hq : q > digit y u un1) (hr : 4294967296 ≤ rh + yn1) : q - 1 = digit y u un1 := by
  have hy := h.ypos
  have hp := h.prod
  have h1 := h.h10; have h2 := h.h11; have h3 := h.h00; have h4 := h.h01; have h5 := h.hn0; have h6 := h.hr0; have h7 := h.hr1; have h8 := h.hq1
  have hD := digit_nonneg hy h.hu0 h.hn0
  have e : (q - 1) * y = (u - rh - yn1) * 4294967296 + (q - 1) * yn0 := by
    have e1 : (q - 1) * y = q * y - y := by rw [Int.sub_mul]; omega
    have e2 : (q - 1) * yn0 = q * yn0 - yn0 := by rw [Int.sub_mul]; omega
    have e3 := h.hy
    rw [e1, hp, e2]; omega
  have hle : (q - 1) * yn0 ≤ 4294967296 * yn0 := Int.mul_le_mul_of_nonneg_right (by omega) h3
  have hlt : (q - 1) * y ≤ u * 4294967296 + un1 := by rw [e]; omega
  have : q - 1 ≤ digit y u un1 := (Int.le_ediv_iff_mul_le hy).mpr hlt
  omega
theorem Dig.first {y yn1 yn0 u un1 : Int} (hy : y = yn1 * 4294967296 + yn0) (h10 : 2147483648 ≤ yn1) (h11 : yn1 < 4294967296) (h00 : 0 ≤ yn0) (h01 : yn0 < 4294967296) (hu0 : 0 ≤ u) (hu1 : u < y) (hn0 : 0 ≤ un1) (hn1 : un1 < 4294967296) :
    Dig y yn1 yn0 u un1 (u / yn1) (u - u / yn1 * yn1) ∧ digit y u un1 ≤ u / yn1 := by
  have hm := Int.emod_def u yn1
  have hm0 := Int.emod_nonneg u (show yn1 ≠ 0 by omega)
  have hm1 := Int.emod_lt_of_pos u (show 0 < yn1 by omega)
  have hc : yn1 * (u / yn1) = u / yn1 * yn1 := Int.mul_comm _ _
  have hq0 : 0 ≤ u / yn1 := Int.ediv_nonneg hu0 (by omega)
  refine ⟨⟨hy, h10, h11, h00, h01, hu0, hu1, hn0, hn1, by omega, by omega, by omega, hq0, ?_⟩, ?_⟩
  · refine Int.not_lt.mp fun hgt => ?_
    have : 4294967298 * yn1 ≤ u / yn1 * yn1 := Int.mul_le_mul_of_nonneg_right (by omega) (by omega)
    omega
  · have hyp : 0 < y := by omega
    have : digit y u un1 < u / yn1 + 1 := by
      refine Int.ediv_lt_of_lt_mul hyp ?_
      have e : (u / yn1 + 1) * y = (u / yn1 + 1) * yn1 * 4294967296 + (u / yn1 + 1) * yn0 := by rw [hy, Int.mul_add, ← Int.mul_assoc]
      have e2 : (u / yn1 + 1) * yn1 = u / yn1 * yn1 + yn1 := by rw [Int.add_mul]; omega
      have e3 : 0 ≤ (u / yn1 + 1) * yn0 := Int.mul_nonneg (by omega) h00
      rw [e, e2]; omega
    omega
/-- What is left behind a digit. -/
def rest (y u un1 : Int) : Int := (u * 4294967296 + un1) % y
theorem rest_eq (y u un1 : Int) : rest y u un1 = u * 4294967296 + un1 - digit y u un1 * y := by
  unfold rest digit
  rw [Int.emod_def, Int.mul_comm y]
theorem rest_bounds {y u un1 : Int} (hy : 0 < y) : 0 ≤ rest y u un1 ∧ rest y u un1 < y := ⟨Int.emod_nonneg _ (by omega), Int.emod_lt_of_pos _ hy⟩
theorem rest_wrap {y u un1 : Int} (hy : 0 < y) (hy1 : y ≤ 18446744073709551616) :
    IntKind.wrap .u64 (IntKind.wrap .u64 (IntKind.wrap .u64 (u * 4294967296) + un1) - IntKind.wrap .u64 (digit y u un1 * y)) = rest y u un1 := by
  have h1 := rest_eq y u un1
  have h2 := rest_bounds (u := u) (un1 := un1) hy
  simp only [w64u]
  omega

theorem tdiv_pos_eq (a b : Int) (h : 0 ≤ a) : a.tdiv b = a / b := Int.tdiv_eq_ediv_of_nonneg h


def outOf (y s u un0 q1 q0 : Int) : Int × Int × Unit := (IntKind.wrap .u64 (IntKind.wrap .u64 (q1 * 4294967296) + q0), shr .u64 (IntKind.wrap .u64 (IntKind.wrap .u64 (IntKind.wrap .u64 (u * 4294967296) + un0) - IntKind.wrap .u64 (q0 * y))) s, ())

/-- The second digit's loop. -/
theorem div_l0 {Ω : Type} (ret : Int × Int × Unit → Option Ω) (k : Nat) (y s yn1 yn0 u un0 q1 : Int) (hs : 0 ≤ s) (d : Nat) : ∀ (n : Nat) (q rh : Int), Dig y yn1 yn0 u un0 q rh → q = digit y u un0 + d → d < n →
    f_math_bits_Div64_l0 ret k n y s yn1 yn0 un0 q1 rh u q = ret (outOf y s u un0 q1 (digit y u un0)) := by
  induction d with
  | zero =>
    intro n q rh h hq hn
    obtain ⟨n, rfl⟩ : ∃ m, n = m + 1 := ⟨n - 1, by omega⟩
    have hy := h.ypos
    have hlt : q < 4294967296 := by have := digit_lt hy h.hu1 h.hn1; omega
    obtain ⟨e1, e2, e3⟩ := h.test hlt
    simp only [f_math_bits_Div64_l0, f_math_bits_Div64_l0s]
    rw [bif_neg (by omega), e1, e2, bif_neg (by rw [e3]; omega), bif_neg (by omega)]
    have : q = digit y u un0 := by omega
    rw [this]; rfl
  | succ d ih =>
    intro n q rh h hq hn
    obtain ⟨n, rfl⟩ : ∃ m, n = m + 1 := ⟨n - 1, by omega⟩
    have hy := h.ypos
    have hD := digit_nonneg hy h.hu0 h.hn0
    have h9 := h.h10
    have h10 := h.h11
    have h6 := h.hr0
    have h7 := h.hr1
    have hq8 := h.hq1
    have hw1 : IntKind.wrap .u64 (rh + yn1) = rh + yn1 := w64u_in _ (by omega) (by omega)
    have hw2 : IntKind.wrap .u64 (q - 1) = q - 1 := w64u_in _ (by omega) (by omega)
    have hgo : (bif decide (rh + yn1 ≥ 4294967296) then
        bif decide (s < 0) then none
        else ret (IntKind.wrap .u64 (IntKind.wrap .u64 (q1 * 4294967296) + (q - 1)), shr .u64 (IntKind.wrap .u64 (IntKind.wrap .u64 (IntKind.wrap .u64 (u * 4294967296) + un0) - IntKind.wrap .u64 ((q - 1) * y))) s, ())
      else f_math_bits_Div64_l0 ret k n y s yn1 yn0 un0 q1 (rh + yn1) u (q - 1)) = ret (outOf y s u un0 q1 (digit y u un0)) := by
      by_cases hr : rh + yn1 ≥ 4294967296
      · rw [bif_pos hr, bif_neg (by omega), h.stop (by omega) hr]; rfl
      · rw [bif_neg hr]
        exact ih n (q - 1) (rh + yn1) (h.next (by omega) (by omega)) (by omega) (by omega)
    simp only [f_math_bits_Div64_l0, f_math_bits_Div64_l0s, hw1, hw2]
    by_cases hlt : q ≥ 4294967296
    · rw [bif_pos hlt]; exact hgo
    · obtain ⟨e1, e2, e3⟩ := h.test (by omega)
      rw [bif_neg hlt, e1, e2, bif_pos (e3.mpr (by omega))]
      exact hgo

/-- The first digit's loop. -/
theorem div_l1 {Ω : Type} (ret : Int × Int × Unit → Option Ω) (k : Nat) (y s yn1 yn0 u un1 un0 : Int) (r : Option Ω)
    (hj : f_math_bits_Div64_l0 ret k k y s yn1 yn0 un0 (digit y u un1) (rest y u un1 - rest y u un1 / yn1 * yn1) (rest y u un1) (rest y u un1 / yn1) = r) (d : Nat) : ∀ (n : Nat) (q rh : Int), Dig y yn1 yn0 u un1 q rh → q = digit y u un1 + d → d < n → y ≤ 18446744073709551616 →
    f_math_bits_Div64_l1 ret k n y s yn1 yn0 u un1 un0 q rh = r := by
  have hsub : ∀ (n : Nat) (q rh : Int), Dig y yn1 yn0 u un1 q rh → y ≤ 18446744073709551616 →
      (bif yn1 == 0 then none else f_math_bits_Div64_l0 ret k k y s yn1 yn0 un0 (digit y u un1)
          (IntKind.wrap .u64 (IntKind.wrap .u64 (IntKind.wrap .u64 (IntKind.wrap .u64 (u * 4294967296) + un1) - IntKind.wrap .u64 (digit y u un1 * y)) - IntKind.wrap .u64 (IntKind.wrap .u64 (Int.tdiv (IntKind.wrap .u64 (IntKind.wrap .u64 (IntKind.wrap .u64 (u * 4294967296) + un1) - IntKind.wrap .u64 (digit y u un1 * y))) yn1) * yn1)))
          (IntKind.wrap .u64 (IntKind.wrap .u64 (IntKind.wrap .u64 (u * 4294967296) + un1) - IntKind.wrap .u64 (digit y u un1 * y)))
          (IntKind.wrap .u64 (Int.tdiv (IntKind.wrap .u64 (IntKind.wrap .u64 (IntKind.wrap .u64 (u * 4294967296) + un1) - IntKind.wrap .u64 (digit y u un1 * y))) yn1))) = r := by
    intro n q rh h hy1
    have hy := h.ypos
    have h9 := h.h10
    obtain ⟨hr0, hr1⟩ := rest_bounds (u := u) (un1 := un1) hy
    rw [bif_ne (by omega), rest_wrap hy hy1]
    have hq0 : 0 ≤ rest y u un1 / yn1 := Int.ediv_nonneg hr0 (by omega)
    have hql : rest y u un1 / yn1 ≤ rest y u un1 := Int.ediv_le_self _ hr0
    have hX0 : 0 ≤ rest y u un1 / yn1 * yn1 := Int.mul_nonneg hq0 (by omega)
    have hX1 : rest y u un1 / yn1 * yn1 ≤ rest y u un1 := Int.ediv_mul_le _ (by omega)
    rw [tdiv_pos_eq _ _ hr0, w64u_in (rest y u un1 / yn1) hq0 (by omega), w64u_in (rest y u un1 / yn1 * yn1) hX0 (by omega), w64u_in (rest y u un1 - rest y u un1 / yn1 * yn1) (by omega) (by omega)]
    exact hj
  induction d with
  | zero =>
    intro n q rh h hq hn hy1
    obtain ⟨n, rfl⟩ : ∃ m, n = m + 1 := ⟨n - 1, by omega⟩
    have hy := h.ypos
    have hlt : q < 4294967296 := by have := digit_lt hy h.hu1 h.hn1; omega
    obtain ⟨e1, e2, e3⟩ := h.test hlt
    simp only [f_math_bits_Div64_l1, f_math_bits_Div64_l1s]
    have : q = digit y u un1 := by omega
    rw [bif_neg (by omega), e1, e2, bif_neg (by rw [e3]; omega), this]
    exact hsub 0 q rh h hy1
  | succ d ih =>
    intro n q rh h hq hn hy1
    obtain ⟨n, rfl⟩ : ∃ m, n = m + 1 := ⟨n - 1, by omega⟩
    have hy := h.ypos
    have hD := digit_nonneg hy h.hu0 h.hn0
    have h9 := h.h10
    have h10 := h.h11
    have h6 := h.hr0
    have h7 := h.hr1
    have hq8 := h.hq1
    have hw1 : IntKind.wrap .u64 (rh + yn1) = rh + yn1 := w64u_in _ (by omega) (by omega)
    have hw2 : IntKind.wrap .u64 (q - 1) = q - 1 := w64u_in _ (by omega) (by omega)
    simp only [f_math_bits_Div64_l1, f_math_bits_Div64_l1s, hw1, hw2]
    by_cases hlt : q ≥ 4294967296
    · rw [bif_pos hlt]
      by_cases hr : rh + yn1 ≥ 4294967296
      · rw [bif_pos hr, h.stop (by omega) hr]; exact hsub 0 q rh h hy1
      · rw [bif_neg hr]; exact ih n (q - 1) (rh + yn1) (h.next (by omega) (by omega)) (by omega) (by omega) hy1
    · obtain ⟨e1, e2, e3⟩ := h.test (by omega)
      rw [bif_neg hlt, e1, e2, bif_pos (e3.mpr (by omega))]
      by_cases hr : rh + yn1 ≥ 4294967296
      · rw [bif_pos hr, h.stop (by omega) hr]; exact hsub 0 q rh h hy1
      · rw [bif_neg hr]; exact ih n (q - 1) (rh + yn1) (h.next (by omega) (by omega)) (by omega) (by omega) hy1

/-- Both digits. -/
theorem div_two {Ω : Type} (ret : Int × Int × Unit → Option Ω) (y s yn1 yn0 u un1 un0 : Int) (hs : 0 ≤ s) (hy : y = yn1 * 4294967296 + yn0) (h10 : 2147483648 ≤ yn1) (h11 : yn1 < 4294967296) (h00 : 0 ≤ yn0) (h01 : yn0 < 4294967296) (hu0 : 0 ≤ u) (hu1 : u < y) (hn0 : 0 ≤ un1) (hn1 : un1 < 4294967296) (hm0 : 0 ≤ un0) (hm1 : un0 < 4294967296) :
    ∃ k0, ∀ k, k0 ≤ k → f_math_bits_Div64_l1 ret k k y s yn1 yn0 u un1 un0 (u / yn1) (u - u / yn1 * yn1) = ret (outOf y s (rest y u un1) un0 (digit y u un1) (digit y (rest y u un1) un0)) := by
  have hyp : 0 < y := by omega
  obtain ⟨f1, g1⟩ := Dig.first (un1 := un1) hy h10 h11 h00 h01 hu0 hu1 hn0 hn1
  obtain ⟨hr0, hr1⟩ := rest_bounds (u := u) (un1 := un1) hyp
  obtain ⟨f2, g2⟩ := Dig.first (un1 := un0) hy h10 h11 h00 h01 hr0 hr1 hm0 hm1
  obtain ⟨d2, e2⟩ : ∃ d : Nat, rest y u un1 / yn1 = digit y (rest y u un1) un0 + d := ⟨(rest y u un1 / yn1 - digit y (rest y u un1) un0).toNat, by omega⟩
  obtain ⟨d1, e1⟩ : ∃ d : Nat, u / yn1 = digit y u un1 + d := ⟨(u / yn1 - digit y u un1).toNat, by omega⟩
  refine ⟨d1 + d2 + 1, fun k hk => ?_⟩
  have h2 := div_l0 ret k y s yn1 yn0 (rest y u un1) un0 (digit y u un1) hs d2 k _ _ f2 e2 (by omega)
  exact div_l1 ret k y s yn1 yn0 u un1 un0 _ h2 d1 k _ _ f1 e1 (by omega) (by omega)

/-- Quotient and rest of what was shifted up are told digit by digit. -/
theorem two_digits (y u un1 un0 : Int) (hy : 0 < y) :
    (u * 18446744073709551616 + un1 * 4294967296 + un0) / y = digit y u un1 * 4294967296 + digit y (rest y u un1) un0 ∧ (u * 18446744073709551616 + un1 * 4294967296 + un0) % y = rest y (rest y u un1) un0 := by
  have e1 := rest_eq y u un1
  have e2 := rest_eq y (rest y u un1) un0
  obtain ⟨b0, b1⟩ := rest_bounds (y := y) (u := rest y u un1) (un1 := un0) hy
  have e : u * 18446744073709551616 + un1 * 4294967296 + un0 = rest y (rest y u un1) un0 + y * (digit y u un1 * 4294967296 + digit y (rest y u un1) un0) := by
    rw [e2, Int.mul_add, Int.mul_comm y, Int.mul_comm y (digit y (rest y u un1) un0), Int.mul_assoc, Int.mul_comm 4294967296 y, ← Int.mul_assoc]
    omega
  constructor
  · rw [e, Int.add_mul_ediv_left _ _ (by omega), Int.ediv_eq_zero_of_lt b0 b1, Int.zero_add]
  · rw [e, Int.add_mul_emod_self_left, Int.emod_eq_of_lt b0 b1]


/-- the table of the lengths of bytes -/
theorem len8 : ∀ i : Nat, i < 256 → bt (⟨#[0, 1, 2, 2, 3, 3, 3, 3, 4, 4, 4, 4, 4, 4, 4, 4, 5, 5, 5, 5, 5, 5, 5, 5, 5, 5, 5, 5, 5, 5, 5, 5, 6, 6, 6, 6, 6, 6, 6, 6, 6, 6, 6, 6, 6, 6, 6, 6, 6, 6, 6, 6, 6, 6, 6, 6, 6, 6, 6, 6, 6, 6, 6, 6, 7, 7, 7, 7, 7, 7, 7, 7, 7, 7, 7, 7, 7, 7, 7, 7, 7, 7, 7, 7, 7, 7, 7, 7, 7, 7, 7, 7, 7, 7, 7, 7, 7, 7, 7, 7, 7, 7, 7, 7, 7, 7, 7, 7, 7, 7, 7, 7, 7, 7, 7, 7, 7, 7, 7, 7, 7, 7, 7, 7, 7, 7, 7, 7, 8, 8, 8, 8, 8, 8, 8, 8, 8, 8, 8, 8, 8, 8, 8, 8, 8, 8, 8, 8, 8, 8, 8, 8, 8, 8, 8, 8, 8, 8, 8, 8, 8, 8, 8, 8, 8, 8, 8, 8, 8, 8, 8, 8, 8, 8, 8, 8, 8, 8, 8, 8, 8, 8, 8, 8, 8, 8, 8, 8, 8, 8, 8, 8, 8, 8, 8, 8, 8, 8, 8, 8, 8, 8, 8, 8, 8, 8, 8, 8, 8, 8, 8, 8, 8, 8, 8, 8, 8, 8, 8, 8, 8, 8, 8, 8, 8, 8, 8, 8, 8, 8, 8, 8, 8, 8, 8, 8, 8, 8, 8, 8, 8, 8, 8, 8, 8, 8, 8, 8, 8, 8, 8, 8, 8, 8, 8, 8]⟩ : ByteArray) (i : Int) = (Lib.bitLen i : Int) := by decide +kernel

theorem shr_nat (k : IntKind) (a : Int) (s : Nat) (hs : s ≤ k.bits) : shr k a (s : Int) = a / 2 ^ s := by
  unfold shr
  rw [Int.toNat_natCast, Nat.min_eq_left hs]
  exact Int.fdiv_eq_ediv_of_nonneg _ (Int.le_of_lt (Int.pow_pos (by decide)))


theorem len64_ok (n : Nat) (h : n < 18446744073709551616) : F_math_bits_Len64 ((n : Int), ()) = some ((Lib.bitLen n : Int), ()) := by
  have h32 : ∀ a, shr .u64 a 32 = a / 4294967296 := fun a => by simpa using shr_nat .u64 a 32 (by decide)
  have h16 : ∀ a, shr .u64 a 16 = a / 65536 := fun a => by simpa using shr_nat .u64 a 16 (by decide)
  have h8 : ∀ a, shr .u64 a 8 = a / 256 := fun a => by simpa using shr_nat .u64 a 8 (by decide)
  have fin : ∀ (e : Int) (s : Nat), e = ((n / 2 ^ s : Nat) : Int) → (s = 0 ∨ 2 ^ s ≤ n) → n / 2 ^ s < 256 → s ≤ 64 →
      (bif inB (IntKind.wrap .u8 e) 256 then some ((IntKind.wrap .i64 ((s : Int) + IntKind.wrap .i64 (bt (⟨#[0, 1, 2, 2, 3, 3, 3, 3, 4, 4, 4, 4, 4, 4, 4, 4, 5, 5, 5, 5, 5, 5, 5, 5, 5, 5, 5, 5, 5, 5, 5, 5, 6, 6, 6, 6, 6, 6, 6, 6, 6, 6, 6, 6, 6, 6, 6, 6, 6, 6, 6, 6, 6, 6, 6, 6, 6, 6, 6, 6, 6, 6, 6, 6, 7, 7, 7, 7, 7, 7, 7, 7, 7, 7, 7, 7, 7, 7, 7, 7, 7, 7, 7, 7, 7, 7, 7, 7, 7, 7, 7, 7, 7, 7, 7, 7, 7, 7, 7, 7, 7, 7, 7, 7, 7, 7, 7, 7, 7, 7, 7, 7, 7, 7, 7, 7, 7, 7, 7, 7, 7, 7, 7, 7, 7, 7, 7, 7, 8, 8, 8, 8, 8, 8, 8, 8, 8, 8, 8, 8, 8, 8, 8, 8, 8, 8, 8, 8, 8, 8, 8, 8, 8, 8, 8, 8, 8, 8, 8, 8, 8, 8, 8, 8, 8, 8, 8, 8, 8, 8, 8, 8, 8, 8, 8, 8, 8, 8, 8, 8, 8, 8, 8, 8, 8, 8, 8, 8, 8, 8, 8, 8, 8, 8, 8, 8, 8, 8, 8, 8, 8, 8, 8, 8, 8, 8, 8, 8, 8, 8, 8, 8, 8, 8, 8, 8, 8, 8, 8, 8, 8, 8, 8, 8, 8, 8, 8, 8, 8, 8, 8, 8, 8, 8, 8, 8, 8, 8, 8, 8, 8, 8, 8, 8, 8, 8, 8, 8, 8, 8, 8, 8, 8, 8, 8, 8]⟩ : ByteArray) (IntKind.wrap .u8 e))), ()) : Int × Unit) else none) = some ((Lib.bitLen n : Int), ()) := by
    intro e s he hs hlt hs64
    have hw : IntKind.wrap .u8 e = ((n / 2 ^ s : Nat) : Int) := by
      rw [wu8, he]
      generalize n / 2 ^ s = z at hlt
      omega
    have hb := len8 (n / 2 ^ s) hlt
    have hb8 := Lib.bitLen_le (n / 2 ^ s) 8 (by decide) hlt
    rw [hw, bif_in (Int.natCast_nonneg _) (by generalize n / 2 ^ s = z at hlt; omega), hb]
    generalize hz : Lib.bitLen (n / 2 ^ s) = z at hb8
    rw [w64 (x := (z : Int)) (by omega) (by omega), w64 (by omega) (by omega)]
    rw [← hz]
    rcases hs with rfl | hs
    · simp
    · rw [Lib.bitLen_shift s n hs (by simpa using h)]
      rfl
  unfold F_math_bits_Len64 f_math_bits_Len64 f_math_bits_Len64_b
  simp only [h32, h16, h8]
  by_cases c1 : (n : Int) ≥ 4294967296
  · rw [bif_pos c1]
    by_cases c2 : (n : Int) / 4294967296 ≥ 65536
    · rw [bif_pos c2]
      by_cases c3 : (n : Int) / 4294967296 / 65536 ≥ 256
      · rw [bif_pos c3]; exact fin _ 56 (by omega) (.inr (by omega)) (by omega) (by decide)
      · rw [bif_neg c3]; exact fin _ 48 (by omega) (.inr (by omega)) (by omega) (by decide)
    · rw [bif_neg c2]
      by_cases c3 : (n : Int) / 4294967296 ≥ 256
      · rw [bif_pos c3]; exact fin _ 40 (by omega) (.inr (by omega)) (by omega) (by decide)
      · rw [bif_neg c3]; exact fin _ 32 (by omega) (.inr (by omega)) (by omega) (by decide)
  · rw [bif_neg c1]
    by_cases c2 : (n : Int) ≥ 65536
    · rw [bif_pos c2]
      by_cases c3 : (n : Int) / 65536 ≥ 256
      · rw [bif_pos c3]; exact fin _ 24 (by omega) (.inr (by omega)) (by omega) (by decide)
      · rw [bif_neg c3]; exact fin _ 16 (by omega) (.inr (by omega)) (by omega) (by decide)
    · rw [bif_neg c2]
      by_cases c3 : (n : Int) ≥ 256
      · rw [bif_pos c3]; exact fin _ 8 (by omega) (.inr (by omega)) (by omega) (by decide)
      · rw [bif_neg c3]; exact fin _ 0 (by omega) (.inl rfl) (by omega) (by decide)

theorem len_facts (y : Int) (h0 : 0 < y) (h1 : y < 18446744073709551616) :
    ∃ s : Nat, s ≤ 63 ∧ F_math_bits_LeadingZeros64 (y, ()) = some ((s : Int), ()) ∧ 9223372036854775808 ≤ y * 2 ^ s ∧ y * 2 ^ s < 18446744073709551616 := by
  obtain ⟨n, rfl⟩ := Int.eq_ofNat_of_zero_le (Int.le_of_lt h0)
  have hy : n < 2 ^ 64 := by have : (2 : Nat) ^ 64 = 18446744073709551616 := by decide
                             omega
  obtain ⟨b1, b2, b3⟩ := Lib.bitLenAux_bounds 64 n hy (by omega)
  have b4 := Lib.bitLen_le n 64 (by decide) hy
  have hlen := len64_ok n (by omega)
  unfold Lib.bitLen at b4 hlen
  refine ⟨64 - Lib.bitLenAux 64 n, by omega, ?_, ?_, ?_⟩
  · unfold F_math_bits_LeadingZeros64 f_math_bits_LeadingZeros64 f_math_bits_LeadingZeros64_b
    rw [andK_some hlen]
    dsimp only
    rw [w64 (by omega) (by omega)]
    congr 2
    omega
  · generalize Lib.bitLenAux 64 n = L at b1 b2 b3 b4 ⊢
    have e : (2 : Nat) ^ (L - 1) * 2 ^ (64 - L) = 2 ^ 63 := by rw [← Nat.pow_add]; congr 1; omega
    have h : 2 ^ (L - 1) * 2 ^ (64 - L) ≤ n * 2 ^ (64 - L) := Nat.mul_le_mul_right _ b2
    rw [e] at h
    have hz : ((n * 2 ^ (64 - L) : Nat) : Int) = (n : Int) * 2 ^ (64 - L) := by
      rw [Int.natCast_mul]; simp
    have e63 : (2 : Nat) ^ 63 = 9223372036854775808 := by decide
    omega
  · generalize Lib.bitLenAux 64 n = L at b1 b2 b3 b4 ⊢
    have e : (2 : Nat) ^ L * 2 ^ (64 - L) = 2 ^ 64 := by rw [← Nat.pow_add]; congr 1; omega
    have h : n * 2 ^ (64 - L) < 2 ^ L * 2 ^ (64 - L) := Nat.mul_lt_mul_of_pos_right b3 (Nat.two_pow_pos _)
    rw [e] at h
    have hz : ((n * 2 ^ (64 - L) : Nat) : Int) = (n : Int) * 2 ^ (64 - L) := by
      rw [Int.natCast_mul]; simp
    have e64 : (2 : Nat) ^ 64 = 18446744073709551616 := by decide
    omega
/-- math/bits.Div64: the quotient and the rest. -/
theorem div64 (hi lo y : Int) (h0 : 0 ≤ hi) (h1 : hi < y) (h2 : y < 18446744073709551616) (h3 : 0 ≤ lo) (h4 : lo < 18446744073709551616) :
    F_math_bits_Div64 (hi, lo, y, ()) = some ((hi * 18446744073709551616 + lo) / y, (hi * 18446744073709551616 + lo) % y, ()) := by
  by_cases hz : hi = 0
  · refine ends_of (.now fun k => ?_)
    unfold f_math_bits_Div64 f_math_bits_Div64_b
    dsimp only
    rw [bif_ne (by omega), bif_neg (by omega), bif_eq hz, bif_ne (by omega), bif_ne (by omega), hz]
    have hq : 0 ≤ lo / y := Int.ediv_nonneg h3 (by omega)
    have hq2 : lo / y ≤ lo := Int.ediv_le_self _ h3
    rw [tdiv_pos_eq _ _ h3, Int.tmod_eq_emod_of_nonneg h3, w64u_in _ hq (by omega)]
    simp
  · obtain ⟨s, hs, hlz, hn0, hn1⟩ := len_facts y (by omega) h2
    have hp0 : (0 : Int) < 2 ^ s := Int.pow_pos (by decide)
    have hm0 : (0 : Int) < 2 ^ (64 - s) := Int.pow_pos (by decide)
    have hpm : (2 : Int) ^ s * 2 ^ (64 - s) = 18446744073709551616 := by
      rw [← Int.pow_add, show s + (64 - s) = 64 by omega]; decide
    have h32 : ∀ a, shr .u64 a 32 = a / 4294967296 := fun a => by simpa using shr_nat .u64 a 32 (by decide)
    -- the shifted parts
    have hhi : hi * 2 ^ s < y * 2 ^ s := Int.mul_lt_mul_of_pos_right h1 hp0
    have hhi0 : 0 ≤ hi * 2 ^ s := Int.mul_nonneg h0 (by omega)
    have hsy : shl .u64 y (s : Int) = y * 2 ^ s := by rw [shl_u64 _ _ (by omega)]; omega
    have hsh : shl .u64 hi (s : Int) = hi * 2 ^ s := by rw [shl_u64 _ _ (by omega)]; omega
    have hlm0 : 0 ≤ lo / 2 ^ (64 - s) := Int.ediv_nonneg h3 (by omega)
    have hlm1 : lo / 2 ^ (64 - s) < 2 ^ s := Int.ediv_lt_of_lt_mul hm0 (by rw [hpm]; exact h4)
    have hld := Int.emod_add_mul_ediv lo (2 ^ (64 - s))
    have hlr0 := Int.emod_nonneg lo (show (2 : Int) ^ (64 - s) ≠ 0 by omega)
    have hlr1 := Int.emod_lt_of_pos lo hm0
    have hun0 : 0 ≤ lo % 2 ^ (64 - s) * 2 ^ s := Int.mul_nonneg hlr0 (by omega)
    have hun1 : lo % 2 ^ (64 - s) * 2 ^ s < 18446744073709551616 := by
      have := Int.mul_lt_mul_of_pos_right hlr1 hp0
      rw [Int.mul_comm (2 ^ (64 - s)), hpm] at this
      exact this
    have hlp : lo * 2 ^ s = lo / 2 ^ (64 - s) * 18446744073709551616 + lo % 2 ^ (64 - s) * 2 ^ s := by
      have : lo * 2 ^ s = (lo % 2 ^ (64 - s) + 2 ^ (64 - s) * (lo / 2 ^ (64 - s))) * 2 ^ s := by rw [hld]
      rw [this, Int.add_mul, Int.mul_comm (2 ^ (64 - s)), Int.mul_assoc, Int.mul_comm (2 ^ (64 - s)), hpm]
      omega
    have hslo : shl .u64 lo (s : Int) = lo % 2 ^ (64 - s) * 2 ^ s := by
      rw [shl_u64 _ _ (by omega), hlp]; omega
    have hsr : shr .u64 lo (IntKind.wrap .u64 (64 - IntKind.wrap .u64 (s : Int))) = lo / 2 ^ (64 - s) := by
      rw [w64u_in (s : Int) (by omega) (by omega), w64u_in (64 - (s : Int)) (by omega) (by omega), show (64 - (s : Int)) = ((64 - s : Nat) : Int) by omega, shr_u64 _ _ (by omega)]
    have hws : IntKind.wrap .u64 (s : Int) = (s : Int) := w64u_in _ (by omega) (by omega)
    have hor : ior .u64 (hi * 2 ^ s) (lo / 2 ^ (64 - s)) = hi * 2 ^ s + lo / 2 ^ (64 - s) := u64_glue hi _ s (by omega) h0 (by omega) hlm0 hlm1
    have hu32 : hi * 2 ^ s + lo / 2 ^ (64 - s) < y * 2 ^ s := by
      have : (hi + 1) * 2 ^ s ≤ y * 2 ^ s := Int.mul_le_mul_of_nonneg_right (by omega) (by omega)
      rw [Int.add_mul] at this
      omega
    generalize hU : hi * 2 ^ s + lo / 2 ^ (64 - s) = U at hor hu32
    generalize hL : lo % 2 ^ (64 - s) * 2 ^ s = L at hun0 hun1 hlp hslo
    generalize hY : y * 2 ^ s = Y at hn0 hn1 hhi hsy hu32
    have hU0 : 0 ≤ U := by omega
    have hYp : 0 < Y := by omega
    obtain ⟨k0, hk⟩ := div_two some Y (s : Int) (Y / 4294967296) (Y % 4294967296) U (L / 4294967296) (L % 4294967296) (by omega) (by omega) (by omega) (by omega) (by omega) (by omega) hU0 hu32 (by omega) (by omega) (by omega) (by omega)
    refine ends_of ⟨k0, fun k hk0 => ?_⟩
    unfold f_math_bits_Div64 f_math_bits_Div64_b
    dsimp only
    rw [bif_ne (by omega), bif_neg (by omega), bif_ne hz, andK_some hlz]
    dsimp only
    have hsr2 := hsr
    rw [hws] at hsr2
    have t1 : ¬ ((s : Int) < 0) := by omega
    have t2 : ¬ (IntKind.wrap .u64 (64 - (s : Int)) < 0) := by rw [w64u]; omega
    simp only [hws, bif_neg t1, bif_neg t2, hsy, hsh, hslo, h32 Y, h32 L]
    rw [bif_ne (by omega)]
    rw [hsr2, hor, u64_low Y (by omega) (by omega), u64_low L (by omega) (by omega)]
    have hq0 : 0 ≤ U / (Y / 4294967296) := Int.ediv_nonneg hU0 (by omega)
    obtain ⟨f1, _⟩ := Dig.first (y := Y) (yn1 := Y / 4294967296) (yn0 := Y % 4294967296) (u := U) (un1 := 0) (by omega) (by omega) (by omega) (by omega) (by omega) hU0 hu32 (by omega) (by omega)
    have hq1 := f1.hq1
    have hrr := f1.hr
    have hrr0 := f1.hr0
    have hX : 0 ≤ U / (Y / 4294967296) * (Y / 4294967296) := Int.mul_nonneg hq0 (by omega)
    rw [tdiv_pos_eq _ _ hU0, w64u_in (U / (Y / 4294967296)) hq0 (by omega), w64u_in (U / (Y / 4294967296) * (Y / 4294967296)) hX (by omega), w64u_in (U - U / (Y / 4294967296) * (Y / 4294967296)) (by omega) (by omega)]
    rw [hk k hk0]
    -- what the digits tell
    obtain ⟨t1, t2⟩ := two_digits Y U (L / 4294967296) (L % 4294967296) hYp
    have hN : U * 18446744073709551616 + L / 4294967296 * 4294967296 + L % 4294967296 = (hi * 18446744073709551616 + lo) * 2 ^ s := by
      rw [Int.add_mul (hi * 18446744073709551616), hlp, ← hU, Int.add_mul (hi * 2 ^ s), Int.mul_right_comm hi]
      omega
    rw [hN, ← hY, Int.mul_ediv_mul_of_pos_left _ _ hp0] at t1
    rw [hN, ← hY, Int.mul_comm _ (2 ^ s), Int.mul_comm y, Int.mul_emod_mul_of_pos _ _ hp0] at t2
    rw [hY] at t1
    rw [Int.mul_comm (2 ^ s) y, hY, Int.mul_comm (2 ^ s)] at t2
    have hd1 := digit_lt (y := Y) (u := U) (un1 := L / 4294967296) hYp hu32 (by omega)
    have hd0 := digit_nonneg (y := Y) (u := U) (un1 := L / 4294967296) hYp hU0 (by omega)
    obtain ⟨hr0, hr1⟩ := rest_bounds (y := Y) (u := U) (un1 := L / 4294967296) hYp
    have he1 := digit_lt (y := Y) (u := rest Y U (L / 4294967296)) (un1 := L % 4294967296) hYp hr1 (by omega)
    have he0 := digit_nonneg (y := Y) (u := rest Y U (L / 4294967296)) (un1 := L % 4294967296) hYp hr0 (by omega)
    unfold outOf
    rw [rest_wrap hYp (by omega), w64u_in (digit Y U (L / 4294967296) * 4294967296) (by omega) (by omega), w64u_in _ (by omega) (by omega), ← t1, ← t2, shr_u64 _ _ (by omega), Int.mul_ediv_cancel _ (by omega)]
theorem mul64 (x y : Int) (h0 : 0 ≤ x) (h1 : x < 18446744073709551616) (h2 : 0 ≤ y) (h3 : y < 18446744073709551616) :
    F_math_bits_Mul64 (x, y, ()) = some (x * y / 18446744073709551616, x * y % 18446744073709551616, ()) := by
  have h32 : ∀ a, shr .u64 a 32 = a / 4294967296 := fun a => by simpa using shr_nat .u64 a 32 (by decide)
  unfold F_math_bits_Mul64 f_math_bits_Mul64 f_math_bits_Mul64_b
  simp only [h32]
  rw [u64_low x h0 h1, u64_low y h2 h3]
  obtain ⟨x1, hx1⟩ : ∃ a, a = x / 4294967296 := ⟨_, rfl⟩
  obtain ⟨x0, hx0⟩ : ∃ a, a = x % 4294967296 := ⟨_, rfl⟩
  obtain ⟨y1, hy1⟩ : ∃ a, a = y / 4294967296 := ⟨_, rfl⟩
  obtain ⟨y0, hy0⟩ : ∃ a, a = y % 4294967296 := ⟨_, rfl⟩
  rw [← hx1, ← hx0, ← hy1, ← hy0]
  have ex : x = x1 * 4294967296 + x0 := by omega
  have ey : y = y1 * 4294967296 + y0 := by omega
  have e : x * y = x1 * y1 * 18446744073709551616 + x1 * y0 * 4294967296 + x0 * y1 * 4294967296 + x0 * y0 := by
    rw [ex, ey, Int.add_mul, Int.mul_add, Int.mul_add, Int.mul_right_comm x1 4294967296 y0, ← Int.mul_assoc x0, ← Int.mul_assoc (x1 * 4294967296), Int.mul_right_comm x1 4294967296 y1]
    omega
  have b11 : 0 ≤ x1 * y1 ∧ x1 * y1 ≤ 4294967295 * 4294967295 := ⟨Int.mul_nonneg (by omega) (by omega), Int.mul_le_mul (by omega) (by omega) (by omega) (by omega)⟩
  have b10 : 0 ≤ x1 * y0 ∧ x1 * y0 ≤ 4294967295 * 4294967295 := ⟨Int.mul_nonneg (by omega) (by omega), Int.mul_le_mul (by omega) (by omega) (by omega) (by omega)⟩
  have b01 : 0 ≤ x0 * y1 ∧ x0 * y1 ≤ 4294967295 * 4294967295 := ⟨Int.mul_nonneg (by omega) (by omega), Int.mul_le_mul (by omega) (by omega) (by omega) (by omega)⟩
  have b00 : 0 ≤ x0 * y0 ∧ x0 * y0 ≤ 4294967295 * 4294967295 := ⟨Int.mul_nonneg (by omega) (by omega), Int.mul_le_mul (by omega) (by omega) (by omega) (by omega)⟩
  rw [e]
  generalize x1 * y1 = p11 at b11 ⊢
  generalize x1 * y0 = p10 at b10 ⊢
  generalize x0 * y1 = p01 at b01 ⊢
  generalize x0 * y0 = p00 at b00 ⊢
  rw [w64u_in p00 (by omega) (by omega), w64u_in p10 (by omega) (by omega), w64u_in p01 (by omega) (by omega), w64u_in p11 (by omega) (by omega)]
  rw [w64u_in (p10 + p00 / 4294967296) (by omega) (by omega)]
  rw [u64_low _ (by omega) (by omega)]
  rw [w64u_in (p11 + (p10 + p00 / 4294967296) / 4294967296) (by omega) (by omega), w64u_in ((p10 + p00 / 4294967296) % 4294967296 + p01) (by omega) (by omega)]
  rw [w64u_in (p11 + (p10 + p00 / 4294967296) / 4294967296 + _) (by omega) (by omega), w64u]
  congr 2
  omega


theorem rem64 (hi lo y : Int) (h0 : 0 ≤ hi) (hy : 0 < y) (h2 : y < 18446744073709551616) (h3 : 0 ≤ lo) (h4 : lo < 18446744073709551616) :
    F_math_bits_Rem64 (hi, lo, y, ()) = some ((hi * 18446744073709551616 + lo) % y, ()) := by
  unfold F_math_bits_Rem64 f_math_bits_Rem64 f_math_bits_Rem64_b
  dsimp only
  have hm0 := Int.emod_nonneg hi (show y ≠ 0 by omega)
  have hm1 := Int.emod_lt_of_pos hi hy
  rw [bif_ne (by omega), tmod_pos h0, andK_some (div64 (hi % y) lo y hm0 hm1 h2 h3 h4)]
  dsimp only
  congr 2
  rw [Int.add_emod, Int.mul_emod, Int.emod_emod, ← Int.mul_emod, ← Int.add_emod]

end Go.Proofs.YtnebpmcmdmpoaaaDoor.R
