/- The group: the program's and the reference's functions, as powers modulo P. -/
import Derived.Test.YtnebpmcmdmpoaaaDoorPBits
import Derived.Test.YtnebpmcmdmpoaaaDoorNum
import Derived.Test.YtnebpmcmdmpoaaaDoorG6
namespace Go.Proofs.YtnebpmcmdmpoaaaDoor.R
open Go
set_option linter.unusedSimpArgs false
set_option linter.unusedVariables false
set_option maxRecDepth 10000

abbrev PP : Int := 2305843009213691579
abbrev QQ : Int := 1152921504606845789

theorem tmod_neg {a m : Int} (ha : a < 0) (hm : 0 < m) : Int.tmod a m = if a % m = 0 then 0 else a % m - m := by
  have h1 : Int.tmod a m = -((-a) % m) := by
    have := Int.neg_tmod (-a) m
    rw [Int.neg_neg] at this
    rw [this, Int.tmod_eq_emod_of_nonneg (by omega)]
  rw [h1]
  have e1 := Int.emod_add_mul_ediv a m
  have e2 := Int.emod_add_mul_ediv (-a) m
  have b1 := Int.emod_nonneg a (show m ≠ 0 by omega)
  have b2 := Int.emod_lt_of_pos a hm
  have b3 := Int.emod_nonneg (-a) (show m ≠ 0 by omega)
  have b4 := Int.emod_lt_of_pos (-a) hm
  have hs : a % m + (-a) % m = m * (-(a / m) - (-a) / m) := by
    rw [Int.mul_sub, Int.mul_neg]; omega
  generalize -(a / m) - (-a) / m = c at hs
  generalize a % m = x at *
  generalize (-a) % m = y at *
  have hc0 : 0 ≤ c := by
    refine Int.not_lt.mp fun h => ?_
    have : m * c ≤ m * (-1) := Int.mul_le_mul_of_nonneg_left (by omega) (by omega)
    omega
  have hc1 : c < 2 := by
    refine Int.not_le.mp fun h => ?_
    have : m * 2 ≤ m * c := Int.mul_le_mul_of_nonneg_left h (by omega)
    omega
  have : c = 0 ∨ c = 1 := by omega
  rcases this with rfl | rfl
  · rw [Int.mul_zero] at hs; rw [if_pos (by omega)]; omega
  · rw [Int.mul_one] at hs; rw [if_neg (by omega)]; omega

/-- the least residue, as both texts have it -/
theorem resid {Ω : Type} (K : Int × Unit → Option Ω) {a m : Int} (ha : Fits a) (hm : 0 < m) (hm1 : m ≤ 4611686018427387904) :
    (bif m == 0 then none else bif decide (Int.tmod a m < 0) then K (IntKind.wrap .i64 (Int.tmod a m + m), ()) else K (Int.tmod a m, ())) = K (a % m, ()) := by
  have b1 := Int.emod_nonneg a (show m ≠ 0 by omega)
  have b2 := Int.emod_lt_of_pos a hm
  rw [bif_ne (by omega)]
  by_cases h : 0 ≤ a
  · rw [tmod_pos h, bif_neg (by omega)]
  · rw [tmod_neg (by omega) hm]
    by_cases h0 : a % m = 0
    · rw [if_pos h0, bif_neg (by omega), h0]
    · rw [if_neg h0, bif_pos (by omega), w64 (by omega) (by omega)]
      congr 2
      omega

theorem residue_ok {a m : Int} (ha : Fits a) (hm : 0 < m) (hm1 : m ≤ 4611686018427387904) : F_group_residue (a, m, ()) = some (a % m, ()) := resid some ha hm hm1
theorem Mod_ok {a m : Int} (ha : Fits a) (hm : 0 < m) (hm1 : m ≤ 4611686018427387904) : F_bourneref04_Mod (a, m, ()) = some (a % m, ()) := resid some ha hm hm1

theorem product_ok {a b m : Int} (ha0 : 0 ≤ a) (ha : a < m) (hb0 : 0 ≤ b) (hb : b < m) (hm1 : m ≤ 4611686018427387904) : F_group_product (a, b, m, ()) = some (a * b % m, ()) := by
  have hm : 0 < m := by omega
  have hab : 0 ≤ a * b := Int.mul_nonneg ha0 hb0
  unfold F_group_product f_group_product f_group_product_b
  dsimp only
  rw [wu64_in ha0 (by omega), wu64_in hb0 (by omega), andK_some (mul64 a b ha0 (by omega) hb0 (by omega))]
  dsimp only
  rw [wu64_in (x := m) (by omega) (by omega), andK_some (rem64 _ _ _ (Int.ediv_nonneg hab (by omega)) hm (by omega) (Int.emod_nonneg _ (by omega)) (Int.emod_lt_of_pos _ (by omega)))]
  dsimp only
  have e : a * b / 18446744073709551616 * 18446744073709551616 + a * b % 18446744073709551616 = a * b := by omega
  rw [e]
  have b1 := Int.emod_nonneg (a * b) (show m ≠ 0 by omega)
  have b2 := Int.emod_lt_of_pos (a * b) hm
  rw [w64 (by omega) (by omega)]

/-- the reference doubles and adds -/
theorem times_l0 {Ω : Type} (ret : Int × Unit → Option Ω) (k : Nat) (m : Int) (hm0 : 0 < m) (hm1 : m ≤ 4611686018427387904) : ∀ (n : Nat) (a b x : Int), 0 ≤ a → a < m → 0 ≤ x → x < m → 0 ≤ b → b < 2 ^ n → b < 9223372036854775808 →
    f_bourneref04_times_l0 ret k (n + 1) a b m x = ret ((x + a * b) % m, ())
  | 0, a, b, x, ha0, ha, hx0, hx, hb0, hb, hb1 => by
    have : b = 0 := by simp at hb; omega
    subst this
    simp only [f_bourneref04_times_l0, f_bourneref04_times_l0s]
    rw [bif_neg (by omega), Int.mul_zero, Int.add_zero, Int.emod_eq_of_lt hx0 hx]
  | n + 1, a, b, x, ha0, ha, hx0, hx, hb0, hb, hb1 => by
    by_cases hz : b = 0
    · subst hz
      rw [f_bourneref04_times_l0]
      simp only [f_bourneref04_times_l0s]
      rw [bif_neg (by omega), Int.mul_zero, Int.add_zero, Int.emod_eq_of_lt hx0 hx]
    · have hhalf : b / 2 < 2 ^ n := by rw [Int.pow_succ] at hb; omega
      have h1 : shr .i64 b 1 = b / 2 := by simpa using shr_i64 b 1 (by decide)
      -- the doubled number
      have step : ∀ y : Int, 0 ≤ y → y < m →
          (bif decide (IntKind.wrap .i64 (a + a) ≥ m) then f_bourneref04_times_l0 ret k (n + 1) (IntKind.wrap .i64 (IntKind.wrap .i64 (a + a) - m)) (b / 2) m y else f_bourneref04_times_l0 ret k (n + 1) (IntKind.wrap .i64 (a + a)) (b / 2) m y) = ret ((y + 2 * a * (b / 2)) % m, ()) := by
        intro y hy0 hy
        rw [w64 (x := a + a) (by omega) (by omega)]
        by_cases hge : a + a ≥ m
        · rw [bif_pos hge, w64 (by omega) (by omega), times_l0 ret k m hm0 hm1 n (a + a - m) (b / 2) y (by omega) (by omega) hy0 hy (by omega) hhalf (by omega)]
          congr 2
          have : y + 2 * a * (b / 2) = y + (a + a - m) * (b / 2) + m * (b / 2) := by rw [Int.sub_mul, show 2 * a = a + a by omega]; omega
          rw [this, Int.add_mul_emod_self_left]
        · rw [bif_neg hge, times_l0 ret k m hm0 hm1 n (a + a) (b / 2) y (by omega) (by omega) hy0 hy (by omega) hhalf (by omega), show a + a = 2 * a by omega]
      rw [f_bourneref04_times_l0]
      simp only [f_bourneref04_times_l0s]
      rw [bif_pos (by omega), iand_one b hb0 hb1, h1]
      have hab : a * b = 2 * a * (b / 2) + a * (b % 2) := by
        rw [Int.mul_comm 2 a, Int.mul_assoc, ← Int.mul_add]
        congr 1; omega
      by_cases hbit : b % 2 = 1
      · rw [bif_eq hbit, w64 (x := x + a) (by omega) (by omega)]
        rw [hbit, Int.mul_one] at hab
        by_cases hge : x + a ≥ m
        · rw [bif_pos hge, w64 (x := x + a - m) (by omega) (by omega), step (x + a - m) (by omega) (by omega)]
          congr 2
          have : x + a * b = x + a - m + 2 * a * (b / 2) + m * 1 := by omega
          rw [this, Int.add_mul_emod_self_left]
        · rw [bif_neg hge, step (x + a) (by omega) (by omega)]
          congr 2
          rw [hab]; congr 1; omega
      · rw [bif_ne hbit, step x hx0 hx]
        have : b % 2 = 0 := by omega
        rw [this, Int.mul_zero, Int.add_zero] at hab
        rw [hab]

theorem times_ok {a b m : Int} (ha0 : 0 ≤ a) (ha : a < m) (hb0 : 0 ≤ b) (hb : b < m) (hm1 : m ≤ 4611686018427387904) : F_bourneref04_times (a, b, m, ()) = some (a * b % m, ()) := by
  refine ends_of (.from 64 fun k hk => ?_)
  obtain ⟨k, rfl⟩ : ∃ j, k = j + 1 := ⟨k - 1, by omega⟩
  have hp : (9223372036854775808 : Int) ≤ 2 ^ k := by
    have h1 : (2 : Int) ^ 63 ≤ 2 ^ k := by exact_mod_cast Nat.pow_le_pow_right (by decide) (by omega : 63 ≤ k)
    have h2 : (2 : Int) ^ 63 = 9223372036854775808 := by decide
    omega
  have := times_l0 some (k + 1) m (by omega) hm1 k a b 0 ha0 ha (by omega) (by omega) hb0 (by omega) (by omega)
  rw [Int.zero_add] at this
  exact this

/-! ### Powers -/

/-- the power of the residue of a, modulo P -/
def gx (a : Int) (e : Nat) : Int := (((a % PP).toNat ^ e % Num.Pm : Nat) : Int)
/-- the exponent as it is taken -/
def expo (e : Int) : Nat := (if e < 0 then e % QQ else e).toNat

theorem gx_bounds (a : Int) (e : Nat) : 0 ≤ gx a e ∧ gx a e < PP := by
  unfold gx
  have := Nat.mod_lt ((a % PP).toNat ^ e) (show 0 < Num.Pm by decide)
  have h : (Num.Pm : Int) = PP := rfl
  omega

theorem gx_mul (a : Int) (i j : Nat) : gx a i * gx a j % PP = gx a (i + j) := by
  unfold gx
  rw [show PP = ((Num.Pm : Nat) : Int) from rfl, ← Int.natCast_mul, ← Int.natCast_emod, ← Nat.mul_mod, ← Nat.pow_add]

theorem gx_zero (a : Int) : gx a 0 = 1 := by unfold gx; rw [Nat.pow_zero]; rfl
theorem gx_one (a : Int) : gx a 1 = a % PP := by
  unfold gx
  have b1 := Int.emod_nonneg a (show PP ≠ 0 by decide)
  have b2 := Int.emod_lt_of_pos a (show 0 < PP by decide)
  rw [Nat.pow_one, Nat.mod_eq_of_lt (by have : (Num.Pm : Int) = PP := rfl
                                        omega)]
  omega

theorem Exp_l0 {Ω : Type} (ret : Int × Unit → Option Ω) (k : Nat) (a : Int) (e : Nat) (he : e < 9223372036854775808) : ∀ (d n i : Nat), i + d = 63 → d < n →
    f_group_Exp_l0 ret k n (a % PP) (e : Int) (gx a (e / 2 ^ (63 - i))) (i : Int) = ret (gx a e, ())
  | 0, n, i, hi, hn => by
    obtain ⟨n, rfl⟩ : ∃ m, n = m + 1 := ⟨n - 1, by omega⟩
    have : i = 63 := by omega
    subst this
    simp only [f_group_Exp_l0, f_group_Exp_l0s]
    rw [bif_neg (by omega)]
    simp
  | d + 1, n, i, hi, hn => by
    obtain ⟨n, rfl⟩ : ∃ m, n = m + 1 := ⟨n - 1, by omega⟩
    have ih := Exp_l0 ret k a e he d n (i + 1) (by omega) (by omega)
    obtain ⟨g0, g1⟩ := gx_bounds a (e / 2 ^ (63 - i))
    have b1 := Int.emod_nonneg a (show PP ≠ 0 by decide)
    have b2 := Int.emod_lt_of_pos a (show 0 < PP by decide)
    have hdiv : e / 2 ^ (63 - i) = e / 2 ^ (62 - i) / 2 := by
      rw [Nat.div_div_eq_div_mul, ← Nat.pow_succ, show (62 - i).succ = 63 - i by omega]
    have hsh : shr .i64 (e : Int) (62 - (i : Int)) = ((e / 2 ^ (62 - i) : Nat) : Int) := by
      have := shr_i64 (e : Int) (62 - i) (by omega)
      rw [show (62 - (i : Int)) = ((62 - i : Nat) : Int) by omega, this]
      simp
    have hq : e / 2 ^ (62 - i) ≤ e := Nat.div_le_self _ _
    have hz0 : 0 ≤ ((e / 2 ^ (62 - i) : Nat) : Int) := Int.natCast_nonneg _
    have hz1 : ((e / 2 ^ (62 - i) : Nat) : Int) < 9223372036854775808 := by
      generalize e / 2 ^ (62 - i) = z at hq
      omega
    simp only [f_group_Exp_l0, f_group_Exp_l0s]
    rw [bif_pos (by omega), andK_some (product_ok g0 g1 g0 g1 (by decide)), gx_mul, w64 (x := 62 - (i : Int)) (by omega) (by omega), bif_neg (by omega), hsh, iand_one ((e / 2 ^ (62 - i) : Nat) : Int) hz0 hz1, w64 (x := (i : Int) + 1) (by omega) (by omega)]
    dsimp only
    rw [show (63 - (i + 1)) = 62 - i by omega] at ih
    have e1 : ((i + 1 : Nat) : Int) = (i : Int) + 1 := by omega
    rw [e1] at ih
    obtain ⟨q0, q1⟩ := gx_bounds a (e / 2 ^ (63 - i) + e / 2 ^ (63 - i))
    by_cases hb : ((e / 2 ^ (62 - i) : Nat) : Int) % 2 = 1
    · rw [bif_eq hb, andK_some (product_ok q0 q1 b1 b2 (by decide)), ← gx_one a, gx_mul]
      dsimp only
      rw [gx_one]
      rw [show e / 2 ^ (63 - i) + e / 2 ^ (63 - i) + 1 = e / 2 ^ (62 - i) by omega]
      exact ih
    · rw [bif_ne hb]
      rw [show e / 2 ^ (63 - i) + e / 2 ^ (63 - i) = e / 2 ^ (62 - i) by omega]
      exact ih

theorem expo_lt {e : Int} (he : Fits e) : expo e < 9223372036854775808 := by
  unfold expo
  unfold Fits at he
  have b2 := Int.emod_lt_of_pos e (show 0 < QQ by decide)
  have hq : QQ = 1152921504606845789 := rfl
  split <;> omega

theorem Exp_ok {a e : Int} (ha : Fits a) (he : Fits e) : F_group_Exp (a, e, ()) = some (gx a (expo e), ()) := by
  have hx := expo_lt he
  refine ends_of (.from 64 fun k hk => ?_)
  have hl := Exp_l0 some k a (expo e) hx 63 k 0 (by omega) (by omega)
  rw [show (63 - 0) = 63 by omega, Nat.div_eq_of_lt (by have : (2 : Nat) ^ 63 = 9223372036854775808 := by decide
                                                        omega), gx_zero] at hl
  unfold f_group_Exp f_group_Exp_b
  dsimp only
  by_cases hn : e < 0
  · have b1 := Int.emod_nonneg e (show QQ ≠ 0 by decide)
    rw [bif_pos hn, andK_some (residue_ok he (by decide) (by decide)), andK_some (residue_ok ha (by decide) (by decide))]
    dsimp only
    have : ((expo e : Nat) : Int) = e % QQ := by unfold expo; rw [if_pos hn]; omega
    rw [this] at hl
    exact hl
  · rw [bif_neg hn, andK_some (residue_ok ha (by decide) (by decide))]
    dsimp only
    have : ((expo e : Nat) : Int) = e := by unfold expo; rw [if_neg hn]; omega
    rw [this] at hl
    exact hl

/-- squares from the least bit on -/
theorem rExp_l0 {Ω : Type} (ret : Int × Unit → Option Ω) (k : Nat) (a : Int) : ∀ (n e i j : Nat), e < 2 ^ n → e < 9223372036854775808 →
    f_bourneref04_Exp_l0 ret k (n + 1) (e : Int) (gx a i) (gx a j) = ret (gx a (i + j * e), ())
  | 0, e, i, j, he, he1 => by
    have : e = 0 := by simpa using he
    subst this
    simp only [f_bourneref04_Exp_l0, f_bourneref04_Exp_l0s]
    rw [bif_neg (by omega)]
    simp
  | n + 1, e, i, j, he, he1 => by
    rw [f_bourneref04_Exp_l0]
    simp only [f_bourneref04_Exp_l0s]
    obtain ⟨g0, g1⟩ := gx_bounds a i
    obtain ⟨q0, q1⟩ := gx_bounds a j
    by_cases hz : e = 0
    · subst hz
      rw [bif_neg (by omega)]
      simp
    · have ih := fun i => rExp_l0 ret k a n (e / 2) i (j + j) (by rw [Nat.pow_succ] at he; omega) (by omega)
      rw [bif_pos (by omega), tmod_pos (by omega), tdiv_pos (by omega), w64 (by omega) (by omega)]
      have e1 : (e : Int) / 2 = ((e / 2 : Nat) : Int) := by omega
      rw [e1]
      have e2 : (j + j) * (e / 2) = j * (2 * (e / 2)) := by rw [Nat.mul_left_comm, ← Nat.mul_assoc, ← Nat.two_mul]
      by_cases hb : (e : Int) % 2 = 1
      · rw [bif_eq hb, andK_some (times_ok g0 g1 q0 q1 (by decide)), andK_some (times_ok q0 q1 q0 q1 (by decide)), gx_mul, gx_mul]
        dsimp only
        have : j * e = j * (2 * (e / 2)) + j := by
          rw [← Nat.mul_succ]; congr 1; omega
        rw [ih, e2, this, show i + j + j * (2 * (e / 2)) = i + (j * (2 * (e / 2)) + j) by omega]
      · rw [bif_ne hb, andK_some (times_ok q0 q1 q0 q1 (by decide)), gx_mul]
        dsimp only
        rw [ih, e2, show 2 * (e / 2) = e by omega]

theorem rExp_ok {a e : Int} (ha : Fits a) (he : Fits e) : F_bourneref04_Exp (a, e, ()) = some (gx a (expo e), ()) := by
  have hx := expo_lt he
  refine ends_of (.from 64 fun k hk => ?_)
  obtain ⟨k, rfl⟩ : ∃ j, k = j + 1 := ⟨k - 1, by omega⟩
  have hp : expo e < 2 ^ k := by
    have h1 : 2 ^ 63 ≤ 2 ^ k := Nat.pow_le_pow_right (by decide) (by omega : 63 ≤ k)
    have h2 : (2 : Nat) ^ 63 = 9223372036854775808 := by decide
    omega
  have hl := rExp_l0 some (k + 1) a k (expo e) 0 1 hp hx
  rw [gx_zero, gx_one, Nat.zero_add, Nat.one_mul] at hl
  unfold f_bourneref04_Exp f_bourneref04_Exp_b
  dsimp only
  by_cases hn : e < 0
  · have b1 := Int.emod_nonneg e (show QQ ≠ 0 by decide)
    rw [bif_pos hn, andK_some (Mod_ok he (by decide) (by decide)), andK_some (Mod_ok ha (by decide) (by decide))]
    dsimp only
    have : ((expo e : Nat) : Int) = e % QQ := by unfold expo; rw [if_pos hn]; omega
    rw [this] at hl
    exact hl
  · rw [bif_neg hn, andK_some (Mod_ok ha (by decide) (by decide))]
    dsimp only
    have : ((expo e : Nat) : Int) = e := by unfold expo; rw [if_neg hn]; omega
    rw [this] at hl
    exact hl

/-! ### Membership, products -/

theorem fitsQ : Fits 1152921504606845789 := ⟨by decide, by decide⟩

def inM (y : Int) : Bool := decide (0 < y) && (decide (y < PP) && gx y 1152921504606845789 == 1)

theorem In_ok {y : Int} (hy : Fits y) : F_group_In (y, ()) = some (inM y, ()) := by
  unfold F_group_In f_group_In f_group_In_b inM
  dsimp only
  have he : expo 1152921504606845789 = 1152921504606845789 := by decide
  by_cases h0 : 0 < y
  · by_cases h1 : y < PP
    · rw [bif_pos h0, bif_pos h1, andK_some (Exp_ok hy fitsQ), he]; simp [h0, h1]
    · rw [bif_pos h0, bif_neg h1]; simp [h1]
  · rw [bif_neg h0]; simp [h0]

theorem rIn_ok {y : Int} (hy : Fits y) : F_bourneref04_In (y, ()) = some (inM y, ()) := by
  unfold F_bourneref04_In f_bourneref04_In f_bourneref04_In_b inM
  dsimp only
  have he : expo 1152921504606845789 = 1152921504606845789 := by decide
  by_cases h0 : 0 < y
  · by_cases h1 : y < PP
    · rw [bif_pos (by omega), bif_pos h1, andK_some (rExp_ok hy fitsQ), he]; simp [h0, h1]
    · rw [bif_pos (by omega), bif_neg h1]; simp [h1]
  · rw [bif_neg (by omega)]; simp [h0]

theorem emod_b (a : Int) {m : Int} (hm : 0 < m) : 0 ≤ a % m ∧ a % m < m := ⟨Int.emod_nonneg a (by omega), Int.emod_lt_of_pos a hm⟩

theorem Mul_ok {a b : Int} (ha : Fits a) (hb : Fits b) : F_group_Mul (a, b, ()) = some (a * b % PP, ()) := by
  obtain ⟨p, q⟩ := emod_b a (show 0 < PP by decide)
  obtain ⟨p', q'⟩ := emod_b b (show 0 < PP by decide)
  unfold F_group_Mul f_group_Mul f_group_Mul_b
  dsimp only
  rw [andK_some (residue_ok ha (by decide) (by decide)), andK_some (residue_ok hb (by decide) (by decide)), andK_some (product_ok p q p' q' (by decide)), ← Int.mul_emod]
theorem rMul_ok {a b : Int} (ha : Fits a) (hb : Fits b) : F_bourneref04_Mul (a, b, ()) = some (a * b % PP, ()) := by
  obtain ⟨p, q⟩ := emod_b a (show 0 < PP by decide)
  obtain ⟨p', q'⟩ := emod_b b (show 0 < PP by decide)
  unfold F_bourneref04_Mul f_bourneref04_Mul f_bourneref04_Mul_b
  dsimp only
  rw [andK_some (Mod_ok ha (by decide) (by decide)), andK_some (Mod_ok hb (by decide) (by decide)), andK_some (times_ok p q p' q' (by decide)), ← Int.mul_emod]
theorem MulQ_ok {a b : Int} (ha : Fits a) (hb : Fits b) : F_group_MulQ (a, b, ()) = some (a * b % QQ, ()) := by
  obtain ⟨p, q⟩ := emod_b a (show 0 < QQ by decide)
  obtain ⟨p', q'⟩ := emod_b b (show 0 < QQ by decide)
  unfold F_group_MulQ f_group_MulQ f_group_MulQ_b
  dsimp only
  rw [andK_some (residue_ok ha (by decide) (by decide)), andK_some (residue_ok hb (by decide) (by decide)), andK_some (product_ok p q p' q' (by decide)), ← Int.mul_emod]
theorem rMulQ_ok {a b : Int} (ha : Fits a) (hb : Fits b) : F_bourneref04_MulQ (a, b, ()) = some (a * b % QQ, ()) := by
  obtain ⟨p, q⟩ := emod_b a (show 0 < QQ by decide)
  obtain ⟨p', q'⟩ := emod_b b (show 0 < QQ by decide)
  unfold F_bourneref04_MulQ f_bourneref04_MulQ f_bourneref04_MulQ_b
  dsimp only
  rw [andK_some (Mod_ok ha (by decide) (by decide)), andK_some (Mod_ok hb (by decide) (by decide)), andK_some (times_ok p q p' q' (by decide)), ← Int.mul_emod]
theorem AddQ_ok {a b : Int} (ha : Fits a) (hb : Fits b) : F_group_AddQ (a, b, ()) = some ((a + b) % QQ, ()) := by
  obtain ⟨p, q⟩ := emod_b a (show 0 < QQ by decide)
  obtain ⟨p', q'⟩ := emod_b b (show 0 < QQ by decide)
  unfold F_group_AddQ f_group_AddQ f_group_AddQ_b
  dsimp only
  rw [andK_some (residue_ok ha (by decide) (by decide)), andK_some (residue_ok hb (by decide) (by decide))]
  dsimp only
  rw [w64 (by omega) (by omega), andK_some (residue_ok ⟨by omega, by omega⟩ (by decide) (by decide)), ← Int.add_emod]
theorem rAddQ_ok {a b : Int} (ha : Fits a) (hb : Fits b) : F_bourneref04_AddQ (a, b, ()) = some ((a + b) % QQ, ()) := by
  obtain ⟨p, q⟩ := emod_b a (show 0 < QQ by decide)
  obtain ⟨p', q'⟩ := emod_b b (show 0 < QQ by decide)
  unfold F_bourneref04_AddQ f_bourneref04_AddQ f_bourneref04_AddQ_b
  dsimp only
  rw [andK_some (Mod_ok ha (by decide) (by decide)), andK_some (Mod_ok hb (by decide) (by decide))]
  dsimp only
  rw [w64 (by omega) (by omega), andK_some (Mod_ok ⟨by omega, by omega⟩ (by decide) (by decide)), ← Int.add_emod]
end Go.Proofs.YtnebpmcmdmpoaaaDoor.R
