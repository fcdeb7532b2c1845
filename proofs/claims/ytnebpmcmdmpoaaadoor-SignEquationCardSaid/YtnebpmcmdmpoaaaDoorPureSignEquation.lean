/- The law SignEquation in plain Lean. -/
import Derived.Test.YtnebpmcmdmpoaaaDoorPSign2
import Derived.Test.YtnebpmcmdmpoaaaDoorRFrame
import Derived.Test.YtnebpmcmdmpoaaaDoorG6
namespace Go.Proofs.YtnebpmcmdmpoaaaDoor.R
open Go
set_option linter.unusedSimpArgs false
set_option linter.unusedVariables false
set_option maxRecDepth 10000
theorem Inv_ok {a : Int} (h : Fits a) (h0 : a % PP ≠ 0) : F_group_Inv (a, ()) = some (gx a 2305843009213691577, true, ()) := by
  unfold F_group_Inv f_group_Inv f_group_Inv_b
  dsimp only
  rw [andK_some (residue_ok h (by decide) (by decide)), bif_ne h0, andK_some (Exp_ok h ⟨by decide, by decide⟩)]
  rw [expo_nn (by decide)]
  rfl

theorem core_SignEquation (p : Int) (c m : ByteArray) (s : Int × Int) (fp : Fits p) (hc : c.size ≤ reachBytes) (hm : m.size ≤ reachBytes) : f_bournelaw05_SignEquation_b some 0 p c m s = some (true, ()) := by
  have hq : QQ = 1152921504606845789 := rfl
  have hpp : PP = 2305843009213691579 := rfl
  have hz : (⟨#[]⟩ : ByteArray).size = 0 := rfl
  unfold f_bournelaw05_SignEquation_b
  rw [andK_some small_ok, andK_some (short_ok ⟨#[]⟩ c m (by decide) hc hm)]
  dsimp only
  by_cases hl : (⟨#[]⟩ : ByteArray).size + c.size + m.size ≤ 2000
  · rw [decide_eq_true hl, Bool.not_true, cond_false, andK_some (Verify_ok fp (c := c) (m := m) (by omega) (by omega) s)]
    dsimp only
    cases hv : verM p c m s with
    | false => rfl
    | true =>
      unfold verM at hv
      simp only [Bool.and_eq_true, decide_eq_true_eq] at hv
      obtain ⟨hr, hch⟩ := hv
      obtain ⟨p1, hin, b1, b2, b3, b4⟩ := ranges_of hr
      obtain ⟨i0, i1, i2⟩ := in_of hin
      have fe : Fits s.1 := ⟨by omega, by omega⟩
      have fs : Fits s.2 := ⟨by omega, by omega⟩
      have hpm : gx p s.1.toNat % PP = gx p s.1.toNat := Int.emod_eq_of_lt (gx_bounds _ _).1 (gx_bounds _ _).2
      -- the inverse of a power of p
      have hinv : gx (gx p s.1.toNat) 2305843009213691577 = gx p (QQ - s.1).toNat := by
        rw [gx_pow]
        refine gx_congr i2 ?_
        rw [Int.natCast_mul, Int.toNat_of_nonneg b1, Int.toNat_of_nonneg (by omega)]
        have : s.1 * ((2305843009213691577 : Nat) : Int) = (QQ - s.1) + QQ * (2 * s.1 - 1) := by rw [hq]; omega
        rw [this, Int.add_mul_emod_self_left]
      have hmul : ∀ i : Nat, ∀ j : Nat, gx p i * gx p j % PP = gx p (i + j) := gx_mul p
      have hne : gx p s.1.toNat % PP ≠ 0 := by
        rw [hpm]
        intro e
        have h1 := hmul s.1.toNat (QQ - s.1).toNat
        rw [e, Int.zero_mul, show s.1.toNat + (QQ - s.1).toNat = 1152921504606845789 by omega, i2] at h1
        exact absurd h1 (by decide)
      -- the element
      have helem : gx 4 s.2.toNat * gx p (QQ - s.1).toNat % PP = elemM p s := rfl
      have hback : elemM p s * gx p s.1.toNat % PP = gx 4 s.2.toNat := by
        rw [← helem, Int.mul_emod, Int.emod_emod, ← Int.mul_emod, Int.mul_assoc, Int.mul_emod, hmul, show (QQ - s.1).toNat + s.1.toNat = 1152921504606845789 by omega, i2, Int.mul_one, Int.emod_emod, Int.emod_eq_of_lt (gx_bounds _ _).1 (gx_bounds _ _).2]
      have hb0 := emod_b (gx 4 s.2.toNat * gx p (QQ - s.1).toNat) (show 0 < PP by decide)
      have hrin : inM (elemM p s) = true := by
        refine in_mk hb0.1 hb0.2 ?_
        rw [← helem]
        have hprod : ∀ (x y : Int) (e : Nat), 0 ≤ x → 0 ≤ y → gx (x * y % PP) e = gx x e * gx y e % PP := by
          intro x y e hx hy
          have : ∀ z : Int, 0 ≤ z → ((z % PP).toNat : Int) = z % PP := fun z hz => Int.toNat_of_nonneg (Int.emod_nonneg _ (by decide))
          have ex : (x * y % PP % PP).toNat = (x % PP).toNat * (y % PP).toNat % Num.Pm := by
            apply Int.natCast_inj.1
            rw [Int.natCast_emod, Int.natCast_mul, this x hx, this y hy, Int.emod_emod, Int.toNat_of_nonneg (Int.emod_nonneg _ (by decide)), show ((Num.Pm : Nat) : Int) = PP from rfl, ← Int.mul_emod]
          unfold gx
          rw [ex, ← Nat.pow_mod, Nat.mul_pow, show PP = ((Num.Pm : Nat) : Int) from rfl, ← Int.natCast_mul, ← Int.natCast_emod, ← Nat.mul_mod]
        rw [hprod _ _ _ (gx_bounds _ _).1 (gx_bounds _ _).1, gx_pow, gx_pow]
        have g4 := gx_Qmul 4 gx4_Q s.2.toNat 0
        have gp := gx_Qmul p i2 (QQ - s.1).toNat 0
        rw [Nat.add_zero, Nat.mul_comm, gx_zero] at g4 gp
        rw [g4, gp]; decide
      rw [Bool.not_true, cond_false, andK_some (In_ok fp)]
      dsimp only
      rw [hin, Bool.not_true, cond_false, bif_ne p1, bif_neg (by omega), bif_neg (by omega), bif_neg (by omega), bif_neg (by omega), andK_some (Exp_ok fp fe), expo_nn b1]
      dsimp only
      rw [andK_some (Inv_ok (gx_fits _ _) hne), andK_some (Exp_ok four_fits fs), expo_nn b3, hinv]
      dsimp only
      rw [andK_some (Mul_ok (gx_fits _ _) (gx_fits _ _)), helem, cond_true, cond_true]
      dsimp only
      rw [andK_some (In_ok (elem_fits p s))]
      dsimp only
      rw [hrin, cond_true, andK_some (rChallenge_ok (elem_fits p s) fp (c := c) (m := m) (by omega) (by omega))]
      dsimp only
      rw [bif_eq hch, andK_some (Exp_ok four_fits fs), andK_some (Exp_ok fp fe), expo_nn b3, expo_nn b1]
      dsimp only
      rw [andK_some (Mul_ok (elem_fits p s) (gx_fits _ _)), hback]
      simp
  · rw [decide_eq_false hl]; rfl

theorem law_SignEquation (a : Tys [.int .i64, .str, .str, .pair (.int .i64) (.int .i64)]) (h : okL _ a) : F_bournelaw05_SignEquation a = some (true, ()) := core_SignEquation a.1 a.2.1 a.2.2.1 a.2.2.2.1 (okT_i64 h.1) h.2.1 h.2.2.1
end Go.Proofs.YtnebpmcmdmpoaaaDoor.R
