import Derived.Test.YthmbleephognnaaTools
import Derived.Test.YthmbleephognnaaQx4
import Derived.Test.YthmbleephognnaaQx5
import Derived.Test.YthmbleephognnaaQx12
import Derived.Laws.BitsAllLaws
import Derived.Laws.BitsLemmas
import Derived.Lib.ItoaNum
namespace Go.Proofs.Ythmbleephognnaa.Num
set_option linter.unusedSimpArgs false
set_option linter.unusedVariables false
open Go Go.RowKit Go.Proofs.Ythmbleephognnaa.Q Go.Proofs.Ythmbleephognnaa.Tools Go.Proofs.YthmbleephognnaaW.PrintWords Go.Proofs.YthmbleephognnaaW.PrintLast

theorem w64u (x : Int) : IntKind.u64.wrap x = x % 18446744073709551616 := IntKind.wrap_u64 x
theorem w64u_in (x : Int) (h0 : 0 ≤ x) (h1 : x < 18446744073709551616) : IntKind.u64.wrap x = x := by rw [w64u]; omega

/-- One digit of the long division: what holds of the first guess and of each later one. -/
structure Dig (y yn1 yn0 u un1 q rh : Int) : Prop where
  hy : y = yn1 * 4294967296 + yn0
  h10 : 2147483648 ≤ yn1
  h11 : yn1 < 4294967296
  h00 : 0 ≤ yn0
  h01 : yn0 < 4294967296
  hu0 : 0 ≤ u
  hu1 : u < y
  hn0 : 0 ≤ un1
  hn1 : un1 < 4294967296
  hr : u = q * yn1 + rh
  hr0 : 0 ≤ rh
  hr1 : rh < 4294967296
  hq0 : 0 ≤ q
  hq1 : q ≤ 4294967297

theorem mul_lt_of (a b c d : Int) (h0 : 0 ≤ a) (h1 : a < c) (h2 : 0 ≤ b) (h3 : b < d) : a * b < c * d := by
  have e1 : a * b ≤ a * d := Int.mul_le_mul_of_nonneg_left (by omega) h0
  have e2 : a * d < c * d := Int.mul_lt_mul_of_pos_right h1 (by omega)
  omega

theorem Dig.prod {y yn1 yn0 u un1 q rh : Int} (h : Dig y yn1 yn0 u un1 q rh) : q * y = (u - rh) * 4294967296 + q * yn0 := by
  have e : q * y = q * yn1 * 4294967296 + q * yn0 := by rw [h.hy, Int.mul_add, ← Int.mul_assoc]
  have hr := h.hr
  rw [e]
  omega

/-- The true digit. -/
def digit (y u un1 : Int) : Int := (u * 4294967296 + un1) / y
theorem digit_le {y u un1 : Int} (hy : 0 < y) : digit y u un1 * y ≤ u * 4294967296 + un1 := Int.ediv_mul_le _ (by omega)
theorem lt_digit {y u un1 : Int} (hy : 0 < y) : u * 4294967296 + un1 < (digit y u un1 + 1) * y := Int.lt_ediv_add_one_mul_self _ hy
theorem digit_lt {y u un1 : Int} (hy : 0 < y) (h1 : u < y) (hn1 : un1 < 4294967296) : digit y u un1 < 4294967296 := Int.ediv_lt_of_lt_mul hy (by omega)
theorem digit_nonneg {y u un1 : Int} (hy : 0 < y) (h0 : 0 ≤ u) (hn0 : 0 ≤ un1) : 0 ≤ digit y u un1 := Int.ediv_nonneg (by omega) (by omega)

theorem Dig.ypos {y yn1 yn0 u un1 q rh : Int} (h : Dig y yn1 yn0 u un1 q rh) : 0 < y := by have := h.hu0; have := h.hu1; omega

/-- The test at the loop's head: is the guess too great? -/
theorem Dig.test {y yn1 yn0 u un1 q rh : Int} (h : Dig y yn1 yn0 u un1 q rh) (hq : q < 4294967296) :
    IntKind.u64.wrap (q * yn0) = q * yn0 ∧ IntKind.u64.wrap (IntKind.u64.wrap (4294967296 * rh) + un1) = 4294967296 * rh + un1 ∧ (q * yn0 > 4294967296 * rh + un1 ↔ q > digit y u un1) := by
  have hp := h.prod
  have hy := h.ypos
  have hZ0 : 0 ≤ q * yn0 := Int.mul_nonneg h.hq0 h.h00
  have hZ1 : q * yn0 < 4294967296 * 4294967296 := mul_lt_of _ _ _ _ h.hq0 hq h.h00 h.h01
  have := h.hr0; have := h.hr1; have := h.hn0; have := h.hn1
  refine ⟨w64u_in _ hZ0 (by omega), ?_, ?_⟩
  · rw [w64u_in (4294967296 * rh) (by omega) (by omega), w64u_in _ (by omega) (by omega)]
  · have e : q * yn0 > 4294967296 * rh + un1 ↔ q * y > u * 4294967296 + un1 := by rw [hp]; omega
    rw [e]
    constructor
    · intro hgt
      refine Int.not_le.mp fun hle => ?_
      have := Int.mul_le_mul_of_nonneg_right hle (show 0 ≤ y by omega)
      have := digit_le (u := u) (un1 := un1) hy
      omega
    · intro hgt
      have : (digit y u un1 + 1) * y ≤ q * y := Int.mul_le_mul_of_nonneg_right (by omega) (by omega)
      have := lt_digit (u := u) (un1 := un1) hy
      omega

/-- The guess lowered by one. -/
theorem Dig.next {y yn1 yn0 u un1 q rh : Int} (h : Dig y yn1 yn0 u un1 q rh) (hq : 1 ≤ q) (hr : rh + yn1 < 4294967296) : Dig y yn1 yn0 u un1 (q - 1) (rh + yn1) :=
  ⟨h.hy, h.h10, h.h11, h.h00, h.h01, h.hu0, h.hu1, h.hn0, h.hn1, by have := h.hr; rw [Int.sub_mul]; omega, by have := h.hr0; have := h.h10; omega, hr, by omega, by have := h.hq1; omega⟩
/-- Where the rest is no digit any more, the lowered guess is not too great. -/
theorem Dig.stop {y yn1 yn0 u un1 q rh : Int} (h : Dig y yn1 yn0 u un1 q rh) (hq : q > digit y u un1) (hr : 4294967296 ≤ rh + yn1) : q - 1 = digit y u un1 := by
  have hy := h.ypos
  have hp := h.prod
  have h1 := h.h10; have h2 := h.h11; have h3 := h.h00; have h4 := h.h01; have h5 := h.hn0; have h6 := h.hr0; have h7 := h.hr1; have h8 := h.hq1
  have hD := digit_nonneg hy h.hu0 h.hn0
  have e : (q - 1) * y = (u - rh - yn1) * 4294967296 + (q - 1) * yn0 := by
    have e1 : (q - 1) * y = q * y - y := by rw [Int.sub_mul]; omega
    have e2 : (q - 1) * yn0 = q * yn0 - yn0 := by rw [Int.sub_mul]; omega
    have e3 := h.hy
    rw [e1, hp, e2]; omega
  have hle : (q - 1) * yn0 ≤ 4294967296 * yn0 := Int.mul_le_mul_of_nonneg_right (by omega) h3
  have hlt : (q - 1) * y ≤ u * 4294967296 + un1 := by rw [e]; omega
  have : q - 1 ≤ digit y u un1 := (Int.le_ediv_iff_mul_le hy).mpr hlt
  omega
theorem Dig.first {y yn1 yn0 u un1 : Int} (hy : y = yn1 * 4294967296 + yn0) (h10 : 2147483648 ≤ yn1) (h11 : yn1 < 4294967296) (h00 : 0 ≤ yn0) (h01 : yn0 < 4294967296) (hu0 : 0 ≤ u) (hu1 : u < y) (hn0 : 0 ≤ un1) (hn1 : un1 < 4294967296) :
    Dig y yn1 yn0 u un1 (u / yn1) (u - u / yn1 * yn1) ∧ digit y u un1 ≤ u / yn1 := by
  have hm := Int.emod_def u yn1
  have hm0 := Int.emod_nonneg u (show yn1 ≠ 0 by omega)
  have hm1 := Int.emod_lt_of_pos u (show 0 < yn1 by omega)
  have hc : yn1 * (u / yn1) = u / yn1 * yn1 := Int.mul_comm _ _
  have hq0 : 0 ≤ u / yn1 := Int.ediv_nonneg hu0 (by omega)
  refine ⟨⟨hy, h10, h11, h00, h01, hu0, hu1, hn0, hn1, by omega, by omega, by omega, hq0, ?_⟩, ?_⟩
  · refine Int.not_lt.mp fun hgt => ?_
    have : 4294967298 * yn1 ≤ u / yn1 * yn1 := Int.mul_le_mul_of_nonneg_right (by omega) (by omega)
    omega
  · have hyp : 0 < y := by omega
    have : digit y u un1 < u / yn1 + 1 := by
      refine Int.ediv_lt_of_lt_mul hyp ?_
      have e : (u / yn1 + 1) * y = (u / yn1 + 1) * yn1 * 4294967296 + (u / yn1 + 1) * yn0 := by rw [hy, Int.mul_add, ← Int.mul_assoc]
      have e2 : (u / yn1 + 1) * yn1 = u / yn1 * yn1 + yn1 := by rw [Int.add_mul]; omega
      have e3 : 0 ≤ (u / yn1 + 1) * yn0 := Int.mul_nonneg (by omega) h00
      rw [e, e2]; omega
    omega
/-- What is left behind a digit. -/
def rest (y u un1 : Int) : Int := (u * 4294967296 + un1) % y
theorem rest_eq (y u un1 : Int) : rest y u un1 = u * 4294967296 + un1 - digit y u un1 * y := by
  unfold rest digit
  rw [Int.emod_def, Int.mul_comm y]
theorem rest_bounds {y u un1 : Int} (hy : 0 < y) : 0 ≤ rest y u un1 ∧ rest y u un1 < y := ⟨Int.emod_nonneg _ (by omega), Int.emod_lt_of_pos _ hy⟩
theorem rest_wrap {y u un1 : Int} (hy : 0 < y) (hy1 : y ≤ 18446744073709551616) :
    IntKind.u64.wrap (IntKind.u64.wrap (IntKind.u64.wrap (u * 4294967296) + un1) - IntKind.u64.wrap (digit y u un1 * y)) = rest y u un1 := by
  have h1 := rest_eq y u un1
  have h2 := rest_bounds (u := u) (un1 := un1) hy
  simp only [w64u]
  omega

theorem tdiv_pos_eq (a b : Int) (h : 0 ≤ a) : a.tdiv b = a / b := Int.tdiv_eq_ediv_of_nonneg h

/-- The first digit's loop. -/
theorem div_l0 (y s yn1 yn0 u un1 un0 : Int) (r : Int × Int) (d : Nat) : ∀ (k : Nat) (q rh : Int), Dig y yn1 yn0 u un1 q rh → q = digit y u un1 + d →
    bits_Div64.j2 k y s yn1 yn0 u un1 un0 (digit y u un1) = some r → bits_Div64.l0 (k + 2 * d + 2) y s yn1 yn0 u un1 un0 q rh = some r := by
  induction d with
  | zero =>
    intro k q rh h hq hj
    have hy := h.ypos
    have hlt : q < 4294967296 := by have := digit_lt hy h.hu1 h.hn1; omega
    obtain ⟨e1, e2, e3⟩ := h.test hlt
    simp only [Nat.mul_zero, Nat.add_zero, bits_Div64.l0]
    rw [if_neg (by omega)]
    rw [e1, e2, decide_eq_false (by rw [e3]; omega)]
    simp only [bits_Div64.j1]
    rw [if_neg (by simp)]
    have : q = digit y u un1 := by omega
    rw [this]; exact hj
  | succ d ih =>
    intro k q rh h hq hj
    have hy := h.ypos
    have hD := digit_nonneg hy h.hu0 h.hn0
    have h9 := h.h10
    have h10 := h.h11
    have h6 := h.hr0
    have h7 := h.hr1
    have hg : ∀ m, bits_Div64.l0 (m + 1) y s yn1 yn0 u un1 un0 q rh = bits_Div64.j1 m y s yn1 yn0 u un1 un0 q rh true := by
      intro m
      simp only [bits_Div64.l0]
      by_cases hlt : q ≥ 4294967296
      · rw [if_pos hlt]
      · obtain ⟨e1, e2, e3⟩ := h.test (by omega)
        rw [if_neg hlt, e1, e2, decide_eq_true (e3.mpr (by omega))]
    have hk : k + 2 * (d + 1) + 2 = (k + 2 * d + 3) + 1 := by omega
    rw [hk, hg]
    have hk2 : k + 2 * d + 3 = (k + 2 * d + 2) + 1 := by omega
    rw [hk2]
    simp only [bits_Div64.j1]
    have hq8 := h.hq1
    rw [if_pos trivial, w64u_in (rh + yn1) (by omega) (by omega), w64u_in (q - 1) (by omega) (by omega)]
    by_cases hr : rh + yn1 ≥ 4294967296
    · rw [if_pos hr, h.stop (by omega) hr]
      have : ∀ n, bits_Div64.j2 (k + n) y s yn1 yn0 u un1 un0 (digit y u un1) = some r := by
        intro n
        induction n with
        | zero => exact hj
        | succ n ihn => exact (bits_Div64.mono_l (k + n)).1 _ _ _ _ _ _ _ _ _ ihn
      exact this (2 * d + 2)
    · rw [if_neg hr]
      exact ih k (q - 1) (rh + yn1) (h.next (by omega) (by omega)) (by omega) hj

/-- What the second digit's loop hands back. -/
def outOf (y s u un0 q1 q0 : Int) : Int × Int := (IntKind.u64.wrap (IntKind.u64.wrap (q1 * 4294967296) + q0), shr .u64 (IntKind.u64.wrap (IntKind.u64.wrap (IntKind.u64.wrap (u * 4294967296) + un0) - IntKind.u64.wrap (q0 * y))) s)
/-- The second digit's loop. -/
theorem div_l1 (y s yn1 yn0 u un0 q1 : Int) (hs : 0 ≤ s) (d : Nat) : ∀ (k : Nat) (q rh : Int), Dig y yn1 yn0 u un0 q rh → q = digit y u un0 + d →
    bits_Div64.l1 (k + 2 * d + 2) y s yn1 yn0 un0 q1 rh u q = some (outOf y s u un0 q1 (digit y u un0)) := by
  induction d with
  | zero =>
    intro k q rh h hq
    have hy := h.ypos
    have hlt : q < 4294967296 := by have := digit_lt hy h.hu1 h.hn1; omega
    obtain ⟨e1, e2, e3⟩ := h.test hlt
    simp only [Nat.mul_zero, Nat.add_zero, bits_Div64.l1]
    rw [if_neg (by omega)]
    rw [e1, e2, decide_eq_false (by rw [e3]; omega)]
    simp only [bits_Div64.j4]
    rw [if_neg (by simp), if_pos hs]
    have : q = digit y u un0 := by omega
    rw [this]; rfl
  | succ d ih =>
    intro k q rh h hq
    have hy := h.ypos
    have hD := digit_nonneg hy h.hu0 h.hn0
    have h9 := h.h10
    have h10 := h.h11
    have h6 := h.hr0
    have h7 := h.hr1
    have hg : ∀ m, bits_Div64.l1 (m + 1) y s yn1 yn0 un0 q1 rh u q = bits_Div64.j4 m y s yn1 yn0 un0 q1 rh u q true := by
      intro m
      simp only [bits_Div64.l1]
      by_cases hlt : q ≥ 4294967296
      · rw [if_pos hlt]
      · obtain ⟨e1, e2, e3⟩ := h.test (by omega)
        rw [if_neg hlt, e1, e2, decide_eq_true (e3.mpr (by omega))]
    have hk : k + 2 * (d + 1) + 2 = (k + 2 * d + 3) + 1 := by omega
    rw [hk, hg]
    have hk2 : k + 2 * d + 3 = (k + 2 * d + 2) + 1 := by omega
    rw [hk2]
    simp only [bits_Div64.j4]
    have hq8 := h.hq1
    rw [if_pos trivial, w64u_in (rh + yn1) (by omega) (by omega), w64u_in (q - 1) (by omega) (by omega)]
    by_cases hr : rh + yn1 ≥ 4294967296
    · rw [if_pos hr, if_pos hs, h.stop (by omega) hr]; rfl
    · rw [if_neg hr]
      exact ih k (q - 1) (rh + yn1) (h.next (by omega) (by omega)) (by omega)

/-- Both digits. -/
theorem div_two (y s yn1 yn0 u un1 un0 : Int) (hs : 0 ≤ s) (hy : y = yn1 * 4294967296 + yn0) (h10 : 2147483648 ≤ yn1) (h11 : yn1 < 4294967296) (h00 : 0 ≤ yn0) (h01 : yn0 < 4294967296) (hu0 : 0 ≤ u) (hu1 : u < y) (hn0 : 0 ≤ un1) (hn1 : un1 < 4294967296) (hm0 : 0 ≤ un0) (hm1 : un0 < 4294967296) :
    ∃ k, bits_Div64.l0 k y s yn1 yn0 u un1 un0 (u / yn1) (u - u / yn1 * yn1) = some (outOf y s (rest y u un1) un0 (digit y u un1) (digit y (rest y u un1) un0)) := by
  have hyp : 0 < y := by omega
  obtain ⟨f1, g1⟩ := Dig.first (un1 := un1) hy h10 h11 h00 h01 hu0 hu1 hn0 hn1
  obtain ⟨hr0, hr1⟩ := rest_bounds (u := u) (un1 := un1) hyp
  obtain ⟨f2, g2⟩ := Dig.first (un1 := un0) hy h10 h11 h00 h01 hr0 hr1 hm0 hm1
  obtain ⟨d2, e2⟩ : ∃ d : Nat, rest y u un1 / yn1 = digit y (rest y u un1) un0 + d := ⟨(rest y u un1 / yn1 - digit y (rest y u un1) un0).toNat, by omega⟩
  obtain ⟨d1, e1⟩ : ∃ d : Nat, u / yn1 = digit y u un1 + d := ⟨(u / yn1 - digit y u un1).toNat, by omega⟩
  have h2 := div_l1 y s yn1 yn0 (rest y u un1) un0 (digit y u un1) hs d2 0 _ _ f2 e2
  refine ⟨(0 + 2 * d2 + 2 + 1) + 2 * d1 + 2, ?_⟩
  refine div_l0 y s yn1 yn0 u un1 un0 _ d1 _ _ _ f1 e1 ?_
  have hw := rest_wrap (u := u) (un1 := un1) hyp (by omega)
  simp only [bits_Div64.j2]
  rw [if_neg (by omega), hw]
  have hq0 : 0 ≤ rest y u un1 / yn1 := Int.ediv_nonneg hr0 (by omega)
  have hq1 := f2.hq1
  have hrr := f2.hr
  have hrr0 := f2.hr0
  have hrr1 := f2.hr1
  have hXp : 0 ≤ rest y u un1 / yn1 * yn1 := Int.mul_nonneg hq0 (by omega)
  rw [tdiv_pos_eq _ _ hr0, w64u_in (rest y u un1 / yn1) hq0 (by omega), w64u_in (rest y u un1 / yn1 * yn1) hXp (by omega), w64u_in (rest y u un1 - rest y u un1 / yn1 * yn1) (by omega) (by omega)]
  exact h2

theorem wraps_u64 (n : Int) (h0 : 0 ≤ n) (h1 : n < 2 ^ 64) : IntKind.u64.wrap n = n := w64u_in n h0 (by simpa using h1)
theorem u64_low (x : Int) (h0 : 0 ≤ x) (h1 : x < 18446744073709551616) : Go.bits .and .u64 x 4294967295 = x % 4294967296 :=
  bits_mask .u64 64 (by decide) wraps_u64 32 (by decide) x h0 h1
theorem u64_glue (a b : Int) (s : Nat) (hs : s ≤ 64) (ha : 0 ≤ a) (ha1 : a * 2 ^ s < 18446744073709551616) (hb : 0 ≤ b) (hb1 : b < 2 ^ s) : Go.bits .or .u64 (a * 2 ^ s) b = a * 2 ^ s + b := by
  obtain ⟨a, rfl⟩ := Int.eq_ofNat_of_zero_le ha
  obtain ⟨b, rfl⟩ := Int.eq_ofNat_of_zero_le hb
  have hb2 : b < 2 ^ s := by
    have : (b : Int) < ((2 ^ s : Nat) : Int) := by simpa using hb1
    omega
  have hp : (2 ^ s : Nat) ≤ 2 ^ 64 := Nat.pow_le_pow_right (by decide) hs
  have e : ((a : Int) * 2 ^ s) = ((a * 2 ^ s : Nat) : Int) := by simp
  rw [e] at ha1 ⊢
  rw [u64_or_nat _ _ (by omega) (by omega), Nat.mul_comm a, ← Nat.two_pow_add_eq_or_of_lt hb2]
  simp

/-- Quotient and rest of what was shifted up are told digit by digit. -/
theorem two_digits (y u un1 un0 : Int) (hy : 0 < y) :
    (u * 18446744073709551616 + un1 * 4294967296 + un0) / y = digit y u un1 * 4294967296 + digit y (rest y u un1) un0 ∧ (u * 18446744073709551616 + un1 * 4294967296 + un0) % y = rest y (rest y u un1) un0 := by
  have e1 := rest_eq y u un1
  have e2 := rest_eq y (rest y u un1) un0
  obtain ⟨b0, b1⟩ := rest_bounds (y := y) (u := rest y u un1) (un1 := un0) hy
  have e : u * 18446744073709551616 + un1 * 4294967296 + un0 = rest y (rest y u un1) un0 + y * (digit y u un1 * 4294967296 + digit y (rest y u un1) un0) := by
    rw [e2, Int.mul_add, Int.mul_comm y, Int.mul_comm y (digit y (rest y u un1) un0), Int.mul_assoc, Int.mul_comm 4294967296 y, ← Int.mul_assoc]
    omega
  constructor
  · rw [e, Int.add_mul_ediv_left _ _ (by omega), Int.ediv_eq_zero_of_lt b0 b1, Int.zero_add]
  · rw [e, Int.add_mul_emod_self_left, Int.emod_eq_of_lt b0 b1]

theorem len_facts (y : Int) (h0 : 0 < y) (h1 : y < 18446744073709551616) :
    ∃ s : Nat, s ≤ 63 ∧ bits_LeadingZeros64.f y = some (s : Int) ∧ 9223372036854775808 ≤ y * 2 ^ s ∧ y * 2 ^ s < 18446744073709551616 := by
  have hy : y.toNat < 2 ^ 64 := by have : (2 : Nat) ^ 64 = 18446744073709551616 := by decide
                                   omega
  obtain ⟨b1, b2, b3⟩ := Lib.bitLenAux_bounds 64 y.toNat hy (by omega)
  have b4 := Lib.bitLen_le y.toNat 64 (by decide) hy
  unfold Lib.bitLen at b4
  refine ⟨64 - Lib.bitLenAux 64 y.toNat, by omega, ?_, ?_, ?_⟩
  · unfold bits_LeadingZeros64.f bits_Len64.f
    rw [if_pos (by omega), if_pos (by omega)]
    simp only [Option.bind_some]
    unfold Lib.bitLen wrap64
    congr 1
    omega
  · generalize Lib.bitLenAux 64 y.toNat = L at b1 b2 b3 b4 ⊢
    have e : (2 : Nat) ^ (L - 1) * 2 ^ (64 - L) = 2 ^ 63 := by rw [← Nat.pow_add]; congr 1; omega
    have h : 2 ^ (L - 1) * 2 ^ (64 - L) ≤ y.toNat * 2 ^ (64 - L) := Nat.mul_le_mul_right _ b2
    rw [e] at h
    have hz : ((y.toNat * 2 ^ (64 - L) : Nat) : Int) = y * 2 ^ (64 - L) := by
      rw [Int.natCast_mul, Int.toNat_of_nonneg (by omega)]; simp
    have e63 : (2 : Nat) ^ 63 = 9223372036854775808 := by decide
    omega
  · generalize Lib.bitLenAux 64 y.toNat = L at b1 b2 b3 b4 ⊢
    have e : (2 : Nat) ^ L * 2 ^ (64 - L) = 2 ^ 64 := by rw [← Nat.pow_add]; congr 1; omega
    have h : y.toNat * 2 ^ (64 - L) < 2 ^ L * 2 ^ (64 - L) := Nat.mul_lt_mul_of_pos_right b3 (Nat.two_pow_pos _)
    rw [e] at h
    have hz : ((y.toNat * 2 ^ (64 - L) : Nat) : Int) = y * 2 ^ (64 - L) := by
      rw [Int.natCast_mul, Int.toNat_of_nonneg (by omega)]; simp
    have e64 : (2 : Nat) ^ 64 = 18446744073709551616 := by decide
    omega

theorem shl_u64 (a : Int) (s : Nat) (hs : s ≤ 64) : shl .u64 a (s : Int) = a * 2 ^ s % 18446744073709551616 := by
  unfold shl
  rw [w64u, Int.toNat_natCast, Nat.min_eq_left (show s ≤ IntKind.u64.bits from hs)]
theorem shr_u64 (a : Int) (s : Nat) (hs : s ≤ 64) : shr .u64 a (s : Int) = a / 2 ^ s := by
  unfold shr
  rw [Int.toNat_natCast, Nat.min_eq_left (show s ≤ IntKind.u64.bits from hs)]

/-- math/bits.Div64: the quotient and the rest. -/
theorem div64 (hi lo y : Int) (h0 : 0 ≤ hi) (h1 : hi < y) (h2 : y < 18446744073709551616) (h3 : 0 ≤ lo) (h4 : lo < 18446744073709551616) :
    ∃ k, bits_Div64.f k hi lo y = some ((hi * 18446744073709551616 + lo) / y, (hi * 18446744073709551616 + lo) % y) := by
  by_cases hz : hi = 0
  · refine ⟨0, ?_⟩
    unfold bits_Div64.f
    rw [if_neg (by omega), if_neg (by omega), if_pos hz, hz]
    have hq : 0 ≤ lo / y := Int.ediv_nonneg h3 (by omega)
    have hq2 : lo / y ≤ lo := Int.ediv_le_self _ h3
    rw [tdiv_pos_eq _ _ h3, Int.tmod_eq_emod_of_nonneg h3, w64u_in _ hq (by omega)]
    simp
  · obtain ⟨s, hs, hlz, hn0, hn1⟩ := len_facts y (by omega) h2
    have hp0 : (0 : Int) < 2 ^ s := Int.pow_pos (by decide)
    have hm0 : (0 : Int) < 2 ^ (64 - s) := Int.pow_pos (by decide)
    have hpm : (2 : Int) ^ s * 2 ^ (64 - s) = 18446744073709551616 := by
      rw [← Int.pow_add, show s + (64 - s) = 64 by omega]; decide
    -- the shifted parts
    have hhi : hi * 2 ^ s < y * 2 ^ s := Int.mul_lt_mul_of_pos_right h1 hp0
    have hhi0 : 0 ≤ hi * 2 ^ s := Int.mul_nonneg h0 (by omega)
    have hsy : shl .u64 y (s : Int) = y * 2 ^ s := by rw [shl_u64 _ _ (by omega)]; omega
    have hsh : shl .u64 hi (s : Int) = hi * 2 ^ s := by rw [shl_u64 _ _ (by omega)]; omega
    have hlm0 : 0 ≤ lo / 2 ^ (64 - s) := Int.ediv_nonneg h3 (by omega)
    have hlm1 : lo / 2 ^ (64 - s) < 2 ^ s := Int.ediv_lt_of_lt_mul hm0 (by rw [hpm]; exact h4)
    have hld := Int.emod_add_mul_ediv lo (2 ^ (64 - s))
    have hlr0 := Int.emod_nonneg lo (show (2 : Int) ^ (64 - s) ≠ 0 by omega)
    have hlr1 := Int.emod_lt_of_pos lo hm0
    have hun0 : 0 ≤ lo % 2 ^ (64 - s) * 2 ^ s := Int.mul_nonneg hlr0 (by omega)
    have hun1 : lo % 2 ^ (64 - s) * 2 ^ s < 18446744073709551616 := by
      have := Int.mul_lt_mul_of_pos_right hlr1 hp0
      rw [Int.mul_comm (2 ^ (64 - s)), hpm] at this
      exact this
    have hlp : lo * 2 ^ s = lo / 2 ^ (64 - s) * 18446744073709551616 + lo % 2 ^ (64 - s) * 2 ^ s := by
      have : lo * 2 ^ s = (lo % 2 ^ (64 - s) + 2 ^ (64 - s) * (lo / 2 ^ (64 - s))) * 2 ^ s := by rw [hld]
      rw [this, Int.add_mul, Int.mul_comm (2 ^ (64 - s)), Int.mul_assoc, Int.mul_comm (2 ^ (64 - s)), hpm]
      omega
    have hslo : shl .u64 lo (s : Int) = lo % 2 ^ (64 - s) * 2 ^ s := by
      rw [shl_u64 _ _ (by omega), hlp]; omega
    have hsr : shr .u64 lo (IntKind.u64.wrap (64 - IntKind.u64.wrap (s : Int))) = lo / 2 ^ (64 - s) := by
      rw [w64u_in (s : Int) (by omega) (by omega), w64u_in (64 - (s : Int)) (by omega) (by omega), show (64 - (s : Int)) = ((64 - s : Nat) : Int) by omega, shr_u64 _ _ (by omega)]
    have hws : IntKind.u64.wrap (s : Int) = (s : Int) := w64u_in _ (by omega) (by omega)
    have hor : Go.bits .or .u64 (hi * 2 ^ s) (lo / 2 ^ (64 - s)) = hi * 2 ^ s + lo / 2 ^ (64 - s) := u64_glue hi _ s (by omega) h0 (by omega) hlm0 hlm1
    have hu32 : hi * 2 ^ s + lo / 2 ^ (64 - s) < y * 2 ^ s := by
      have : (hi + 1) * 2 ^ s ≤ y * 2 ^ s := Int.mul_le_mul_of_nonneg_right (by omega) (by omega)
      rw [Int.add_mul] at this
      omega
    generalize hU : hi * 2 ^ s + lo / 2 ^ (64 - s) = U at hor hu32
    generalize hL : lo % 2 ^ (64 - s) * 2 ^ s = L at hun0 hun1 hlp hslo
    generalize hY : y * 2 ^ s = Y at hn0 hn1 hhi hsy hu32
    have hU0 : 0 ≤ U := by omega
    have hYp : 0 < Y := by omega
    obtain ⟨k, hk⟩ := div_two Y (s : Int) (Y / 4294967296) (Y % 4294967296) U (L / 4294967296) (L % 4294967296) (by omega) (by omega) (by omega) (by omega) (by omega) (by omega) hU0 hu32 (by omega) (by omega) (by omega) (by omega)
    refine ⟨k, ?_⟩
    unfold bits_Div64.f
    rw [if_neg (by omega), if_neg (by omega), if_neg hz, hlz]
    simp only [Option.bind_some]
    rw [hws, if_pos (by omega), if_pos (by rw [w64u]; omega), hsy, hsh, hslo]
    rw [if_neg (by omega)]
    have hsr2 := hsr
    rw [hws] at hsr2
    rw [hsr2, hor, u64_low Y (by omega) (by omega), u64_low L (by omega) (by omega)]
    have hq0 : 0 ≤ U / (Y / 4294967296) := Int.ediv_nonneg hU0 (by omega)
    obtain ⟨f1, _⟩ := Dig.first (y := Y) (yn1 := Y / 4294967296) (yn0 := Y % 4294967296) (u := U) (un1 := 0) (by omega) (by omega) (by omega) (by omega) (by omega) hU0 hu32 (by omega) (by omega)
    have hq1 := f1.hq1
    have hrr := f1.hr
    have hrr0 := f1.hr0
    have hX : 0 ≤ U / (Y / 4294967296) * (Y / 4294967296) := Int.mul_nonneg hq0 (by omega)
    rw [tdiv_pos_eq _ _ hU0, w64u_in (U / (Y / 4294967296)) hq0 (by omega), w64u_in (U / (Y / 4294967296) * (Y / 4294967296)) hX (by omega), w64u_in (U - U / (Y / 4294967296) * (Y / 4294967296)) (by omega) (by omega)]
    rw [hk]
    -- what the digits tell
    obtain ⟨t1, t2⟩ := two_digits Y U (L / 4294967296) (L % 4294967296) hYp
    have hN : U * 18446744073709551616 + L / 4294967296 * 4294967296 + L % 4294967296 = (hi * 18446744073709551616 + lo) * 2 ^ s := by
      rw [Int.add_mul (hi * 18446744073709551616), hlp, ← hU, Int.add_mul (hi * 2 ^ s), Int.mul_right_comm hi]
      omega
    rw [hN, ← hY, Int.mul_ediv_mul_of_pos_left _ _ hp0] at t1
    rw [hN, ← hY, Int.mul_comm _ (2 ^ s), Int.mul_comm y, Int.mul_emod_mul_of_pos _ _ hp0] at t2
    rw [hY] at t1
    rw [Int.mul_comm (2 ^ s) y, hY, Int.mul_comm (2 ^ s)] at t2
    have hd1 := digit_lt (y := Y) (u := U) (un1 := L / 4294967296) hYp hu32 (by omega)
    have hd0 := digit_nonneg (y := Y) (u := U) (un1 := L / 4294967296) hYp hU0 (by omega)
    obtain ⟨hr0, hr1⟩ := rest_bounds (y := Y) (u := U) (un1 := L / 4294967296) hYp
    have he1 := digit_lt (y := Y) (u := rest Y U (L / 4294967296)) (un1 := L % 4294967296) hYp hr1 (by omega)
    have he0 := digit_nonneg (y := Y) (u := rest Y U (L / 4294967296)) (un1 := L % 4294967296) hYp hr0 (by omega)
    unfold outOf
    rw [rest_wrap hYp (by omega), w64u_in (digit Y U (L / 4294967296) * 4294967296) (by omega) (by omega), w64u_in _ (by omega) (by omega), ← t1, ← t2, shr_u64 _ _ (by omega), Int.mul_ediv_cancel _ (by omega)]
theorem mul64 (x y : Int) (h0 : 0 ≤ x) (h1 : x < 18446744073709551616) (h2 : 0 ≤ y) (h3 : y < 18446744073709551616) :
    bits_Mul64.f x y = some (x * y / 18446744073709551616, x * y % 18446744073709551616) := by
  unfold bits_Mul64.f
  rw [u64_low x h0 h1, u64_low y h2 h3]
  obtain ⟨x1, hx1⟩ : ∃ a, a = x / 4294967296 := ⟨_, rfl⟩
  obtain ⟨x0, hx0⟩ : ∃ a, a = x % 4294967296 := ⟨_, rfl⟩
  obtain ⟨y1, hy1⟩ : ∃ a, a = y / 4294967296 := ⟨_, rfl⟩
  obtain ⟨y0, hy0⟩ : ∃ a, a = y % 4294967296 := ⟨_, rfl⟩
  rw [← hx1, ← hx0, ← hy1, ← hy0]
  have ex : x = x1 * 4294967296 + x0 := by omega
  have ey : y = y1 * 4294967296 + y0 := by omega
  have e : x * y = x1 * y1 * 18446744073709551616 + x1 * y0 * 4294967296 + x0 * y1 * 4294967296 + x0 * y0 := by
    rw [ex, ey, Int.add_mul, Int.mul_add, Int.mul_add, Int.mul_right_comm x1 4294967296 y0, ← Int.mul_assoc x0, ← Int.mul_assoc (x1 * 4294967296), Int.mul_right_comm x1 4294967296 y1]
    omega
  have b11 : 0 ≤ x1 * y1 ∧ x1 * y1 ≤ 4294967295 * 4294967295 := ⟨Int.mul_nonneg (by omega) (by omega), Int.mul_le_mul (by omega) (by omega) (by omega) (by omega)⟩
  have b10 : 0 ≤ x1 * y0 ∧ x1 * y0 ≤ 4294967295 * 4294967295 := ⟨Int.mul_nonneg (by omega) (by omega), Int.mul_le_mul (by omega) (by omega) (by omega) (by omega)⟩
  have b01 : 0 ≤ x0 * y1 ∧ x0 * y1 ≤ 4294967295 * 4294967295 := ⟨Int.mul_nonneg (by omega) (by omega), Int.mul_le_mul (by omega) (by omega) (by omega) (by omega)⟩
  have b00 : 0 ≤ x0 * y0 ∧ x0 * y0 ≤ 4294967295 * 4294967295 := ⟨Int.mul_nonneg (by omega) (by omega), Int.mul_le_mul (by omega) (by omega) (by omega) (by omega)⟩
  rw [e]
  generalize x1 * y1 = p11 at b11 ⊢
  generalize x1 * y0 = p10 at b10 ⊢
  generalize x0 * y1 = p01 at b01 ⊢
  generalize x0 * y0 = p00 at b00 ⊢
  rw [w64u_in p00 (by omega) (by omega), w64u_in p10 (by omega) (by omega), w64u_in p01 (by omega) (by omega), w64u_in p11 (by omega) (by omega)]
  rw [w64u_in (p10 + p00 / 4294967296) (by omega) (by omega)]
  rw [u64_low _ (by omega) (by omega)]
  rw [w64u_in (p11 + (p10 + p00 / 4294967296) / 4294967296) (by omega) (by omega), w64u_in ((p10 + p00 / 4294967296) % 4294967296 + p01) (by omega) (by omega)]
  rw [w64u_in (p11 + (p10 + p00 / 4294967296) / 4294967296 + _) (by omega) (by omega), w64u]
  congr 2
  omega

/-- What Scale answers. -/
def scaleM (a num den : Int) : Int × Int × Bool :=
  if a < 0 ∨ a > 1125899906842624 ∨ num < 0 ∨ num > 1125899906842624 ∨ den < 1 ∨ den > 1125899906842624 then (0, 0, false)
  else if a * num / den > 1125899906842624 then (0, 0, false) else (a * num / den, a * num % den, true)

theorem scaleM_bad {a num den : Int} (h : a < 0 ∨ a > 1125899906842624 ∨ num < 0 ∨ num > 1125899906842624 ∨ den < 1 ∨ den > 1125899906842624) : scaleM a num den = (0, 0, false) := if_pos h
theorem scaleM_good {a num den : Int} (h1 : 0 ≤ a) (h2 : a ≤ 1125899906842624) (h3 : 0 ≤ num) (h4 : num ≤ 1125899906842624) (h5 : 1 ≤ den) (h6 : den ≤ 1125899906842624) :
    scaleM a num den = if a * num / den > 1125899906842624 then (0, 0, false) else (a * num / den, a * num % den, true) := if_neg (by omega)
theorem exact_Scale_tells (a num den : Int) : ∃ k, exact_Scale.f k a num den = some (scaleM a num den) := by
  unfold exact_Scale.f exact_in.f
  by_cases h1 : 0 ≤ a
  · by_cases h2 : a ≤ 1125899906842624
    · by_cases h3 : 0 ≤ num
      · by_cases h4 : num ≤ 1125899906842624
        · by_cases h5 : 1 ≤ den
          · by_cases h6 : den ≤ 1125899906842624
            · rw [if_pos h1, if_pos h3, if_pos h5, scaleM_good h1 h2 h3 h4 h5 h6]
              simp only [Option.bind_some, decide_eq_true h2, decide_eq_true h4, decide_eq_true h6, if_true, Bool.not_true]
              have hp0 : 0 ≤ a * num := Int.mul_nonneg h1 h3
              have hp1 : a * num ≤ 1125899906842624 * 1125899906842624 := Int.mul_le_mul h2 h4 h3 (by omega)
              have hm := mul64 a num h1 (by omega) h3 (by omega)
              by_cases hb : a * num / 18446744073709551616 ≥ den
              · refine ⟨1, ?_⟩
                simp only [exact_Scale.j0]
                rw [if_neg (by simp), w64u_in a h1 (by omega), w64u_in num h3 (by omega), w64u_in den (by omega) (by omega), hm]
                simp only [Option.bind_some]
                have : a * num / den > 1125899906842624 := by
                  have h7 : 1125899906842625 * den ≤ a * num := by
                    have := Int.mul_ediv_self_le (x := a * num) (k := 18446744073709551616) (by omega)
                    omega
                  have := (Int.le_ediv_iff_mul_le (show 0 < den by omega)).mpr h7
                  omega
                rw [if_pos hb, if_pos this]
              · obtain ⟨k, hk⟩ := div64 (a * num / 18446744073709551616) (a * num % 18446744073709551616) den (by omega) (by omega) (by omega) (by omega) (by omega)
                refine ⟨k + 1, ?_⟩
                simp only [exact_Scale.j0]
                rw [if_neg (by simp), w64u_in a h1 (by omega), w64u_in num h3 (by omega), w64u_in den (by omega) (by omega), hm]
                simp only [Option.bind_some]
                rw [if_neg hb, hk]
                simp only [Option.bind_some]
                have he : a * num / 18446744073709551616 * 18446744073709551616 + a * num % 18446744073709551616 = a * num := by omega
                rw [he]
                by_cases hq : a * num / den > 1125899906842624
                · rw [if_pos hq, if_pos hq]
                · rw [if_neg hq, if_neg hq]
                  have hq0 : 0 ≤ a * num / den := Int.ediv_nonneg hp0 (by omega)
                  have hr0 := Int.emod_nonneg (a * num) (show den ≠ 0 by omega)
                  have hr1 := Int.emod_lt_of_pos (a * num) (show 0 < den by omega)
                  have w1 : wrap64 (a * num / den) = a * num / den := by unfold wrap64; omega
                  have w2 : wrap64 (a * num % den) = a * num % den := by unfold wrap64; omega
                  rw [w1, w2]
            · refine ⟨1, ?_⟩
              rw [if_pos h1, if_pos h3, if_pos h5, scaleM_bad (by omega)]
              simp [exact_Scale.j0, h2, h4, h6]
          · refine ⟨1, ?_⟩
            rw [if_pos h1, if_pos h3, if_neg h5, scaleM_bad (by omega)]
            simp [exact_Scale.j0, h2, h4]
        · refine ⟨1, ?_⟩
          rw [if_pos h1, if_pos h3, scaleM_bad (by omega)]
          simp [exact_Scale.j0, h2, h4]
      · refine ⟨1, ?_⟩
        rw [if_pos h1, if_neg h3, scaleM_bad (by omega)]
        simp [exact_Scale.j0, h2]
    · refine ⟨1, ?_⟩
      rw [if_pos h1, scaleM_bad (by omega)]
      simp [exact_Scale.j0, h2]
  · refine ⟨1, ?_⟩
    rw [if_neg h1, scaleM_bad (by omega)]
    simp [exact_Scale.j0]
theorem wraps_i64 (n : Int) (h0 : 0 ≤ n) (h1 : n < 2 ^ 63) : IntKind.i64.wrap n = n := by
  have e : (2 : Int) ^ 63 = 9223372036854775808 := by decide
  rw [IntKind.wrap_i64]; omega
theorem w64_in (x : Int) (h0 : -9223372036854775808 ≤ x) (h1 : x < 9223372036854775808) : wrap64 x = x := by unfold wrap64; omega
theorem nat_and_two_pow (n j : Nat) : n &&& 2 ^ j = if n / 2 ^ j % 2 = 1 then 2 ^ j else 0 := by
  apply Nat.eq_of_testBit_eq
  intro i
  rw [Nat.testBit_and, Nat.testBit_two_pow]
  by_cases h : j = i
  · subst h
    rw [Nat.testBit_eq_decide_div_mod_eq]
    by_cases hb : n / 2 ^ j % 2 = 1
    · simp [hb, Nat.testBit_two_pow]
    · simp [hb]
  · by_cases hb : n / 2 ^ j % 2 = 1
    · simp [hb, h, Nat.testBit_two_pow]
    · simp [hb, h]
theorem and_bit (num : Int) (j : Nat) (h0 : 0 ≤ num) (h1 : num < 9223372036854775808) (hj : j < 63) : Go.bits .and .i64 num (2 ^ j) = 0 ↔ num / 2 ^ j % 2 = 0 := by
  obtain ⟨n, rfl⟩ := Int.eq_ofNat_of_zero_le h0
  have e63 : (2 : Nat) ^ 63 = 9223372036854775808 := by decide
  have hb : (2 : Nat) ^ j < 2 ^ 63 := Nat.pow_lt_pow_right (by decide) hj
  have e : ((2 : Int) ^ j) = ((2 ^ j : Nat) : Int) := by simp
  rw [e, (bits_nat .i64 63 (by decide) wraps_i64 n (2 ^ j) (by omega) hb).1, nat_and_two_pow]
  have hp : 0 < 2 ^ j := Nat.two_pow_pos j
  have e2 : ((n : Int) / ((2 ^ j : Nat) : Int) % 2) = ((n / 2 ^ j % 2 : Nat) : Int) := by simp
  rw [e2]
  by_cases h : n / 2 ^ j % 2 = 1
  · rw [if_pos h, h]; simp; omega
  · have h0 : n / 2 ^ j % 2 = 0 := by omega
    rw [if_neg h, h0]
theorem half_step (num : Int) (j : Nat) (h0 : 0 ≤ num) : num / 2 ^ j = 2 * (num / 2 ^ (j + 1)) + num / 2 ^ j % 2 := by
  have : num / 2 ^ (j + 1) = num / 2 ^ j / 2 := by rw [Int.pow_succ, Int.ediv_ediv_of_nonneg (Int.le_of_lt (Int.pow_pos (by decide)))]
  omega

theorem refScale_step (a num den : Int) (h1 : 0 ≤ a) (h2 : a ≤ 1125899906842624) (h3 : 0 ≤ num) (h4 : num ≤ 1125899906842624) (h5 : 1 ≤ den) (h6 : den ≤ 1125899906842624) (j : Nat) (q r : Int)
    (hj : j ≤ 50) (he : q * den + r = a * (num / 2 ^ (j + 1))) (hr0 : 0 ≤ r) (hr1 : r < den) (hq0 : 0 ≤ q) (hq1 : q ≤ 1125899906842624)
    (next : ∀ q' r', q' * den + r' = a * (num / 2 ^ j) → 0 ≤ r' → r' < den → 0 ≤ q' → q' ≤ 1125899906842624 → bourneref01_Scale.l0 (j + 1) a num den q' r' (2 ^ j / 2) = some (scaleM a num den)) :
    bourneref01_Scale.l0 (j + 2) a num den q r (2 ^ j) = some (scaleM a num den) := by
  have hp : (0 : Int) < 2 ^ j := Int.pow_pos (by decide)
  have hp1 : (2 : Int) ^ j ≤ 2 ^ 50 := by
    have : (2 : Nat) ^ j ≤ 2 ^ 50 := Nat.pow_le_pow_right (by decide) hj
    exact_mod_cast this
  have e50 : (2 : Int) ^ 50 = 1125899906842624 := by decide
  have hs := half_step num j h3
  have hbit := and_bit num j h3 (by omega) (by omega)
  have htd : wrap64 (Int.tdiv (2 ^ j) 2) = 2 ^ j / 2 := by
    rw [Int.tdiv_eq_ediv_of_nonneg (by omega)]; exact w64_in _ (by omega) (by omega)
  -- one round, with what the bit adds
  have go : ∀ x : Int, 0 ≤ x → x ≤ a → a * (num / 2 ^ j) = 2 * (a * (num / 2 ^ (j + 1))) + x →
      (if den = 0 then none else if wrap64 (wrap64 (2 * q) + wrap64 (Int.tdiv (2 * r + x) den)) > 1125899906842624 then some (0, 0, false) else bourneref01_Scale.l0 (j + 1) a num den (wrap64 (wrap64 (2 * q) + wrap64 (Int.tdiv (2 * r + x) den))) (Int.tmod (2 * r + x) den) (wrap64 (Int.tdiv (2 ^ j) 2))) = some (scaleM a num den) := by
    intro x hx0 hx1 hx
    have hd0 : 0 ≤ (2 * r + x) / den := Int.ediv_nonneg (by omega) (by omega)
    have hd1 : (2 * r + x) / den ≤ 2 * r + x := Int.ediv_le_self _ (by omega)
    have hm0 := Int.emod_nonneg (2 * r + x) (show den ≠ 0 by omega)
    have hm1 := Int.emod_lt_of_pos (2 * r + x) (show 0 < den by omega)
    have hdm := Int.emod_add_mul_ediv (2 * r + x) den
    rw [Int.tdiv_eq_ediv_of_nonneg (by omega), Int.tmod_eq_emod_of_nonneg (by omega), w64_in (2 * q) (by omega) (by omega), w64_in ((2 * r + x) / den) (by omega) (by omega), w64_in (2 * q + (2 * r + x) / den) (by omega) (by omega), htd, if_neg (by omega)]
    have hinv : (2 * q + (2 * r + x) / den) * den + (2 * r + x) % den = a * (num / 2 ^ j) := by
      rw [hx, ← he, Int.add_mul, Int.mul_assoc, Int.mul_comm ((2 * r + x) / den) den]
      omega
    by_cases hbig : 2 * q + (2 * r + x) / den > 1125899906842624
    · rw [if_pos hbig, scaleM_good h1 h2 h3 h4 h5 h6]
      have hmono : a * (num / 2 ^ j) ≤ a * num := Int.mul_le_mul_of_nonneg_left (Int.ediv_le_self _ h3) h1
      have hle : (2 * q + (2 * r + x) / den) * den ≤ a * num := by omega
      have := (Int.le_ediv_iff_mul_le (show 0 < den by omega)).mpr hle
      rw [if_pos (by omega)]
    · rw [if_neg hbig]
      exact next _ _ hinv hm0 hm1 (by omega) (by omega)
  simp only [bourneref01_Scale.l0]
  rw [if_pos hp]
  by_cases hb : num / 2 ^ j % 2 = 0
  · rw [if_pos (hbit.mpr hb)]
    have := go 0 (by omega) h1 (by rw [hs, hb, Int.add_zero, Int.mul_left_comm]; omega)
    rw [Int.add_zero] at this
    rw [w64_in (2 * r) (by omega) (by omega)]
    exact this
  · rw [if_neg (fun h => hb (hbit.mp h))]
    have hb1 : num / 2 ^ j % 2 = 1 := by omega
    have := go a h1 (Int.le_refl _) (by rw [hs, hb1, Int.mul_add, Int.mul_left_comm, Int.mul_one])
    rw [w64_in (2 * r) (by omega) (by omega), w64_in (2 * r + a) (by omega) (by omega)]
    exact this
theorem refScale_l0 (a num den : Int) (h1 : 0 ≤ a) (h2 : a ≤ 1125899906842624) (h3 : 0 ≤ num) (h4 : num ≤ 1125899906842624) (h5 : 1 ≤ den) (h6 : den ≤ 1125899906842624) (j : Nat) :
    ∀ (q r : Int), j ≤ 50 → q * den + r = a * (num / 2 ^ (j + 1)) → 0 ≤ r → r < den → 0 ≤ q → q ≤ 1125899906842624 →
      bourneref01_Scale.l0 (j + 2) a num den q r (2 ^ j) = some (scaleM a num den) := by
  induction j with
  | zero =>
    intro q r hj he hr0 hr1 hq0 hq1
    exact refScale_step a num den h1 h2 h3 h4 h5 h6 0 q r hj he hr0 hr1 hq0 hq1 (fun q' r' he' hr0' hr1' hq0' hq1' => by
      simp only [bourneref01_Scale.l0]
      rw [if_neg (by decide)]
      rw [scaleM_good h1 h2 h3 h4 h5 h6]
      have e1 : num / 2 ^ 0 = num := by simp
      rw [e1] at he'
      have hq : a * num / den = q' := by
        rw [← he', Int.mul_comm q', Int.add_comm, Int.add_mul_ediv_left _ _ (by omega), Int.ediv_eq_zero_of_lt hr0' hr1', Int.zero_add]
      have hr : a * num % den = r' := by
        rw [← he', Int.mul_comm q', Int.add_comm, Int.add_mul_emod_self_left, Int.emod_eq_of_lt hr0' hr1']
      rw [hq, hr, if_neg (by omega)])
  | succ j ih =>
    intro q r hj he hr0 hr1 hq0 hq1
    exact refScale_step a num den h1 h2 h3 h4 h5 h6 (j + 1) q r hj he hr0 hr1 hq0 hq1 (fun q' r' he' hr0' hr1' hq0' hq1' => by
      have e : (2 : Int) ^ (j + 1) / 2 = 2 ^ j := by rw [Int.pow_succ]; omega
      rw [e]
      exact ih q' r' (by omega) he' hr0' hr1' hq0' hq1')
theorem refScale_tells (a num den : Int) : ∃ k, bourneref01_Scale.f k a num den = some (scaleM a num den) := by
  unfold bourneref01_Scale.f
  have bad : ∀ k, bourneref01_Scale.j0 (k + 1) a num den true = some (0, 0, false) := fun k => by simp [bourneref01_Scale.j0]
  by_cases h1 : a < 0
  · exact ⟨1, by rw [if_pos h1, bad, scaleM_bad (by omega)]⟩
  by_cases h2 : a > 1125899906842624
  · exact ⟨1, by rw [if_neg h1, if_pos h2, bad, scaleM_bad (by omega)]⟩
  by_cases h3 : num < 0
  · exact ⟨1, by rw [if_neg h1, if_neg h2, if_pos h3, bad, scaleM_bad (by omega)]⟩
  by_cases h4 : num > 1125899906842624
  · exact ⟨1, by rw [if_neg h1, if_neg h2, if_neg h3, if_pos h4, bad, scaleM_bad (by omega)]⟩
  by_cases h5 : den < 1
  · exact ⟨1, by rw [if_neg h1, if_neg h2, if_neg h3, if_neg h4, if_pos h5, bad, scaleM_bad (by omega)]⟩
  by_cases h6 : den > 1125899906842624
  · exact ⟨1, by rw [if_neg h1, if_neg h2, if_neg h3, if_neg h4, if_neg h5, decide_eq_true h6, bad, scaleM_bad (by omega)]⟩
  refine ⟨50 + 2 + 1, ?_⟩
  rw [if_neg h1, if_neg h2, if_neg h3, if_neg h4, if_neg h5, decide_eq_false h6]
  simp only [bourneref01_Scale.j0]
  rw [if_neg (by simp)]
  have e : (1125899906842624 : Int) = 2 ^ 50 := by decide
  have hz : num / 2 ^ (50 + 1) = 0 := Int.ediv_eq_zero_of_lt (by omega) (by have : (2 : Int) ^ (50 + 1) = 2251799813685248 := by decide
                                                                            omega)
  have := refScale_l0 a num den (by omega) (by omega) (by omega) (by omega) (by omega) (by omega) 50 0 0 (by omega) (by rw [hz]; simp) (by omega) (by omega) (by omega) (by omega)
  rw [e]
  exact this

theorem exact_Scale_ev (a num den : Int) : Ev (fun k => exact_Scale.f k a num den) (scaleM a num den) := by
  obtain ⟨k, hk⟩ := exact_Scale_tells a num den
  exact Ev.of (fun k => exact_Scale.mono a num den k) hk
theorem refScale_ev (a num den : Int) : Ev (fun k => bourneref01_Scale.f k a num den) (scaleM a num den) := by
  obtain ⟨k, hk⟩ := refScale_tells a num den
  exact Ev.of (fun k => bourneref01_Scale.mono a num den k) hk
end Go.Proofs.Ythmbleephognnaa.Num
