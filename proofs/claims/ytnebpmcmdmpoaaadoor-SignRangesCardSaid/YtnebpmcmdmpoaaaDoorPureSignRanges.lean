/- The law SignRanges in plain Lean. -/
import Derived.Test.YtnebpmcmdmpoaaaDoorPSign2
import Derived.Test.YtnebpmcmdmpoaaaDoorRFrame
import Derived.Test.YtnebpmcmdmpoaaaDoorG6
namespace Go.Proofs.YtnebpmcmdmpoaaaDoor.R
open Go
set_option linter.unusedSimpArgs false
set_option linter.unusedVariables false
set_option maxRecDepth 10000
theorem ver_out {p : Int} {c m : ByteArray} {s : Int × Int} (h : ¬ (0 ≤ s.1 ∧ s.1 < QQ ∧ 0 ≤ s.2 ∧ s.2 < QQ)) : verM p c m s = false := by
  unfold verM rangesM
  rw [decide_eq_false h]; simp
theorem ver_notin {p : Int} {c m : ByteArray} {s : Int × Int} (h : inM p = false) : verM p c m s = false := by
  unfold verM rangesM
  rw [h]; simp

/-- the negative of an element of the group is none -/
theorem neg_pow (y : Nat) (hy : y ≤ Num.Pm) : ∀ k : Nat, (Num.Pm - y) ^ (2 * k + 1) % Num.Pm = (Num.Pm - y ^ (2 * k + 1) % Num.Pm) % Num.Pm := by
  have hp : 0 < Num.Pm := by decide
  have sq : (Num.Pm - y) * (Num.Pm - y) % Num.Pm = y * y % Num.Pm := by
    obtain ⟨z, hz⟩ : ∃ z, Num.Pm = y + z := ⟨Num.Pm - y, by omega⟩
    have e : Num.Pm - y = z := by omega
    rw [e]
    have h1 : z * z + y * (y + z) = y * y + z * (y + z) := by rw [Nat.mul_add, Nat.mul_add, Nat.mul_comm z y]; omega
    have h2 : (z * z + y * Num.Pm) % Num.Pm = (y * y + z * Num.Pm) % Num.Pm := by rw [hz] at *; rw [h1]
    rwa [Nat.add_mul_mod_self_right, Nat.add_mul_mod_self_right] at h2
  intro k
  have hpow : (Num.Pm - y) ^ (2 * k) % Num.Pm = y ^ (2 * k) % Num.Pm := by
    rw [Nat.pow_mul, Nat.pow_mul, Nat.pow_mod, Nat.pow_two, sq, ← Nat.pow_two, ← Nat.pow_mod]
  rw [Nat.pow_succ, Nat.mul_mod, hpow, ← Nat.mul_mod, Nat.pow_succ]
  generalize y ^ (2 * k) = w
  -- w * (P - y) = - w * y
  have h1 : w * (Num.Pm - y) + w * y = w * Num.Pm := by rw [← Nat.mul_add]; congr 1; omega
  have h2 : (w * (Num.Pm - y) + w * y) % Num.Pm = 0 := by rw [h1]; exact Nat.mul_mod_left _ _
  have a := Nat.mod_lt (w * (Num.Pm - y)) hp
  have b := Nat.mod_lt (w * y) hp
  rw [Nat.add_mod] at h2
  generalize w * (Num.Pm - y) % Num.Pm = A at *
  generalize w * y % Num.Pm = B at *
  rcases Nat.lt_or_ge (A + B) Num.Pm with hlt | hge
  · rw [Nat.mod_eq_of_lt hlt] at h2
    have : A = 0 ∧ B = 0 := by omega
    rw [this.1, this.2, Nat.sub_zero, Nat.mod_self]
  · have : A + B - Num.Pm = 0 ∨ A + B - Num.Pm < Num.Pm := by omega
    rw [Nat.mod_eq_sub_mod hge, Nat.mod_eq_of_lt (by omega)] at h2
    rcases Nat.eq_zero_or_pos B with hb | hb
    · omega
    · rw [Nat.mod_eq_of_lt (by omega)]; omega

theorem neg_notin {y : Int} (h : inM y = true) : inM (PP - y) = false := by
  obtain ⟨h0, h1, h2⟩ := in_of h
  have hpp : PP = 2305843009213691579 := rfl
  have hPm : (Num.Pm : Int) = PP := rfl
  cases hc : inM (PP - y) with
  | false => rfl
  | true =>
    obtain ⟨_, _, g2⟩ := in_of hc
    exfalso
    unfold gx at h2 g2
    have e1 : (y % PP).toNat = y.toNat := by rw [Int.emod_eq_of_lt (by omega) h1]
    have e2 : ((PP - y) % PP).toNat = Num.Pm - y.toNat := by rw [Int.emod_eq_of_lt (by omega) (by omega)]; omega
    rw [e1] at h2
    rw [e2] at g2
    have hn := neg_pow y.toNat (by omega) 576460752303422894
    have e3 : 2 * 576460752303422894 + 1 = 1152921504606845789 := rfl
    rw [e3] at hn
    generalize (Num.Pm - y.toNat) ^ 1152921504606845789 % Num.Pm = A at *
    generalize y.toNat ^ 1152921504606845789 % Num.Pm = B at *
    have hA : A = 1 := by omega
    have hB : B = 1 := by omega
    rw [hA, hB] at hn
    exact absurd hn (by decide)

theorem core_SignRanges (seed c m : ByteArray) (n : Int) (hs : seed.size ≤ reachBytes) (hc : c.size ≤ reachBytes) (hm : m.size ≤ reachBytes) : f_bournelaw05_SignRanges_b some 0 seed c m n = some (true, ()) := by
  have hq : QQ = 1152921504606845789 := rfl
  have hpp : PP = 2305843009213691579 := rfl
  unfold f_bournelaw05_SignRanges_b
  rw [andK_some small_ok, andK_some (short_ok seed c m hs hc hm)]
  dsimp only
  by_cases hl : seed.size + c.size + m.size ≤ 2000
  · rw [decide_eq_true hl, Bool.not_true, cond_false]
    by_cases h0 : n = 0
    · rw [bif_eq h0]
    · rw [bif_ne h0]
      by_cases h1 : n < -3
      · rw [bif_pos h1]
      · rw [bif_neg h1]
        by_cases h2 : n > 3
        · rw [bif_pos h2]
        · rw [bif_neg h2]
          have hr := right_key seed
          obtain ⟨f1, f2⟩ := key_fits hr
          obtain ⟨b1, b2, b3, b4⟩ := sign_b hr c m
          obtain ⟨p1, p2⟩ := right_pub hr
          obtain ⟨i0, i1, i2⟩ := in_of p1
          rw [andK_some (Key_ok (by omega))]
          dsimp only
          rw [andK_some (Sign_ok f1 (c := c) (m := m) (by omega) (by omega))]
          dsimp only
          rw [andK_some (Verify_ok f2 (c := c) (m := m) (by omega) (by omega) _), andK_some (Verify_ok f2 (c := c) (m := m) (by omega) (by omega) _)]
          rw [w64 (x := n * 1152921504606845789) (by omega) (by omega), w64 (x := (signM (keyM seed) c m).1 + n * 1152921504606845789) (by omega) (by omega), w64 (x := (signM (keyM seed) c m).2 + n * 1152921504606845789) (by omega) (by omega)]
          rw [ver_out (s := ((signM (keyM seed) c m).1 + n * 1152921504606845789, (signM (keyM seed) c m).2)) (by dsimp only; omega), ver_out (s := ((signM (keyM seed) c m).1, (signM (keyM seed) c m).2 + n * 1152921504606845789)) (by dsimp only; omega)]
          have hneg := neg_notin p1
          have vneg : F_sign_Verify (IntKind.wrap .i64 (2305843009213691579 - (keyM seed).2), c, m, signM (keyM seed) c m, ()) = some (false, ()) := by
            rw [w64 (by omega) (by omega), Verify_ok ⟨by omega, by omega⟩ (c := c) (m := m) (by omega) (by omega) _]
            rw [← hpp, ver_notin hneg]
          dsimp only
          by_cases hn0 : n < 0
          · have vlow : F_sign_Verify (IntKind.wrap .i64 ((keyM seed).2 + IntKind.wrap .i64 (n * 2305843009213691579)), c, m, signM (keyM seed) c m, ()) = some (false, ()) := by
              rw [w64 (x := n * 2305843009213691579) (by omega) (by omega), w64 (by omega) (by omega), Verify_ok ⟨by omega, by omega⟩ (c := c) (m := m) (by omega) (by omega) _, ver_notin]
              unfold inM
              rw [decide_eq_false (by omega), Bool.false_and]
            rw [bif_pos hn0, andK_some vlow, andK_some vneg]; rfl
          · rw [bif_neg hn0, andK_some vneg]; rfl
  · rw [decide_eq_false hl]; rfl

theorem law_SignRanges (a : Tys [.str, .str, .str, .int .i64]) (h : okL _ a) : F_bournelaw05_SignRanges a = some (true, ()) := core_SignRanges a.1 a.2.1 a.2.2.1 a.2.2.2.1 h.1 h.2.1 h.2.2.1
end Go.Proofs.YtnebpmcmdmpoaaaDoor.R
