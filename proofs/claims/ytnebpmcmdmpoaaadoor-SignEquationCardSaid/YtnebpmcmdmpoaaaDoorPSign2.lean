/- Signatures: what the group gives, and the fixed example. -/
import Derived.Test.YtnebpmcmdmpoaaaDoorPSign
namespace Go.Proofs.YtnebpmcmdmpoaaaDoor.R
open Go
set_option linter.unusedSimpArgs false
set_option linter.unusedVariables false
set_option maxRecDepth 10000

/-! ### Powers -/

theorem gx_pow (a : Int) (i j : Nat) : gx (gx a i) j = gx a (i * j) := by
  have b := gx_bounds a i
  unfold gx
  rw [show ((((a % PP).toNat ^ i % Num.Pm : Nat) : Int) % PP).toNat = (a % PP).toNat ^ i % Num.Pm by
    have h : gx a i % PP = gx a i := Int.emod_eq_of_lt b.1 b.2
    unfold gx at h
    rw [h, Int.toNat_natCast], ← Nat.pow_mod, ← Nat.pow_mul]

theorem gx_pm (a : Int) (e : Nat) (h : e < 2 ^ 64) : gx a e = (Num.pm 64 (a % PP).toNat e Num.Pm : Int) := by
  unfold gx; rw [Num.pm_eq _ _ 64 e h]
theorem gx4_Q : gx 4 1152921504606845789 = 1 := by rw [gx_pm _ _ (by decide)]; decide +kernel
theorem gx_Qmul (a : Int) (h : gx a 1152921504606845789 = 1) (k r : Nat) : gx a (1152921504606845789 * k + r) = gx a r := by
  have hT : Num.T (a % PP).toNat Num.Pm 1152921504606845789 := by
    unfold Num.T
    unfold gx at h
    rw [show 1 % Num.Pm = 1 by decide]
    omega
  unfold gx
  rw [(hT.mul k).add]
theorem gx_congr {a : Int} (h : gx a 1152921504606845789 = 1) {i j : Nat} (e : (i : Int) % QQ = (j : Int) % QQ) : gx a i = gx a j := by
  have hq : QQ = 1152921504606845789 := rfl
  rw [hq] at e
  have e1 : i % 1152921504606845789 = j % 1152921504606845789 := by omega
  have h1 := gx_Qmul a h (i / 1152921504606845789) (i % 1152921504606845789)
  have h2 := gx_Qmul a h (j / 1152921504606845789) (j % 1152921504606845789)
  rw [Nat.div_add_mod] at h1 h2
  rw [h1, h2, e1]

theorem in_of {y : Int} (h : inM y = true) : 0 < y ∧ y < PP ∧ gx y 1152921504606845789 = 1 := by
  unfold inM at h
  simpa [Bool.and_eq_true] using h
theorem gx_nil (e : Nat) (h : 0 < e) : gx 0 e = 0 := by
  unfold gx
  rw [show ((0 : Int) % PP).toNat = 0 by decide, Nat.zero_pow h]; rfl
theorem in_mk {y : Int} (h0 : 0 ≤ y) (h1 : y < PP) (h2 : gx y 1152921504606845789 = 1) : inM y = true := by
  have : y ≠ 0 := by
    intro e
    subst e
    have := gx_nil 1152921504606845789 (by decide)
    omega
  unfold inM
  simp only [Bool.and_eq_true, decide_eq_true_eq, beq_iff_eq]
  exact ⟨by omega, h1, h2⟩

/-- the public part of a key with a secret in range -/
theorem pub_ok {x : Nat} (h1 : 1 ≤ x) (h2 : x < 1152921504606845789) : inM (gx 4 x) = true ∧ gx 4 x ≠ 1 := by
  have b := gx_bounds 4 x
  refine ⟨in_mk b.1 b.2 ?_, fun e => ?_⟩
  · rw [gx_pow, Nat.mul_comm]
    have := gx_Qmul 4 gx4_Q x 0
    rw [Nat.add_zero] at this
    rw [this, gx_zero]
  · refine Num.four_ne h1 h2 ?_
    unfold gx at e
    rw [show ((4 : Int) % PP).toNat = 4 by decide] at e
    omega

theorem right_pub {k : Int × Int} (h : rightM k = true) : inM k.2 = true ∧ k.2 ≠ 1 := by
  obtain ⟨h1, h2, h3, _⟩ := right_fits h
  have hq : QQ = 1152921504606845789 := rfl
  rw [h3]
  exact pub_ok (by omega) (by omega)

theorem right_of {n : Int} : rightM (ofM n) = decide (1 ≤ n ∧ n < QQ) := by
  unfold rightM ofM
  by_cases h : 1 ≤ n ∧ n < QQ
  · rw [if_pos h]
    dsimp only
    rw [if_pos h]
    simp [h]; omega
  · rw [if_neg h]
    simp [h]
theorem right_key (s : ByteArray) : rightM (keyM s) = true := by
  unfold keyM
  rw [right_of]
  exact decide_eq_true (secM_b _)

theorem sign_eq {k : Int × Int} (h : rightM k = true) (c m : ByteArray) : signM k c m = (chalM (gx 4 (nonceM k.1 c m).toNat) k.2 c m, (nonceM k.1 c m + chalM (gx 4 (nonceM k.1 c m).toNat) k.2 c m * k.1 % QQ) % QQ) := by
  unfold signM; rw [if_pos h]
theorem sign_b {k : Int × Int} (h : rightM k = true) (c m : ByteArray) : 0 ≤ (signM k c m).1 ∧ (signM k c m).1 < QQ ∧ 0 ≤ (signM k c m).2 ∧ (signM k c m).2 < QQ := by
  rw [sign_eq h]
  have a := chalM_b (gx 4 (nonceM k.1 c m).toNat) k.2 c m
  have b := emod_b (nonceM k.1 c m + chalM (gx 4 (nonceM k.1 c m).toNat) k.2 c m * k.1 % QQ) (show 0 < QQ by decide)
  exact ⟨a.1, a.2, b.1, b.2⟩

/-- the element that a signature stands for -/
theorem elem_of {x n e : Int} (hx : 1 ≤ x) (hn : 0 ≤ n) (he0 : 0 ≤ e) (he : e < QQ) : elemM (gx 4 x.toNat) (e, (n + e * x % QQ) % QQ) = gx 4 n.toNat := by
  have hq : QQ = 1152921504606845789 := rfl
  have b := emod_b (n + e * x % QQ) (show 0 < QQ by decide)
  unfold elemM
  dsimp only
  rw [gx_pow, gx_mul]
  refine gx_congr gx4_Q ?_
  have hc : ((((n + e * x % QQ) % QQ).toNat + x.toNat * (QQ - e).toNat : Nat) : Int) = (n + e * x % QQ) % QQ + x * (QQ - e) := by
    rw [Int.natCast_add, Int.natCast_mul, Int.toNat_of_nonneg b.1, Int.toNat_of_nonneg (by omega), Int.toNat_of_nonneg (by omega)]
  rw [hc, Int.toNat_of_nonneg hn, Int.emod_add_emod, Int.mul_sub, Int.mul_comm x e]
  have h1 : n + e * x % QQ + (x * QQ - e * x) = n + QQ * (x - e * x / QQ) := by
    have := Int.emod_add_mul_ediv (e * x) QQ
    rw [Int.mul_sub, Int.mul_comm QQ x]
    omega
  rw [h1, Int.add_mul_emod_self_left]

theorem elem_sign {k : Int × Int} (h : rightM k = true) (c m : ByteArray) : elemM k.2 (signM k c m) = gx 4 (nonceM k.1 c m).toNat := by
  obtain ⟨h1, h2, h3, _⟩ := right_fits h
  have a := chalM_b (gx 4 (nonceM k.1 c m).toNat) k.2 c m
  have n1 := secM_b (nonceL k.1 c m)
  have n0 : 0 ≤ nonceM k.1 c m := by unfold nonceM; omega
  rw [sign_eq h]
  rw [h3] at a ⊢
  exact elem_of h1 n0 a.1 a.2

theorem ranges_sign {k : Int × Int} (h : rightM k = true) (c m : ByteArray) : rangesM k.2 (signM k c m) = true := by
  obtain ⟨p1, p2⟩ := right_pub h
  have b := sign_b h c m
  unfold rangesM
  simp only [Bool.and_eq_true, decide_eq_true_eq]
  exact ⟨p2, p1, b⟩

theorem ver_other {k : Int × Int} (h : rightM k = true) (c m c2 m2 : ByteArray) : verM k.2 c2 m2 (signM k c m) = decide (chalM (elemM k.2 (signM k c m)) k.2 c2 m2 = (signM k c m).1) := by
  unfold verM; rw [ranges_sign h, Bool.true_and]
theorem ver_own {k : Int × Int} (h : rightM k = true) (c m : ByteArray) : verM k.2 c m (signM k c m) = true := by
  rw [ver_other h, elem_sign h]
  apply decide_eq_true
  rw [sign_eq h]

/-! ### The fixed example -/

abbrev tA : ByteArray := ⟨#[97]⟩
abbrev tC : ByteArray := ⟨#[99]⟩
abbrev tM : ByteArray := ⟨#[109]⟩
abbrev tN : ByteArray := ⟨#[110]⟩

theorem ex_sec : secM [textB tKey, textB tA] = 358115012204568414 := by decide +kernel
theorem ex_pub : gx 4 358115012204568414 = 5322311199030329 := by rw [gx_pm _ _ (by decide)]; decide +kernel
theorem ex_key : keyM tA = (358115012204568414, 5322311199030329) := by
  unfold keyM ofM
  rw [ex_sec, if_pos (by decide)]
  have : Int.toNat 358115012204568414 = 358115012204568414 := rfl
  rw [this, ex_pub]
theorem ex_nonce : nonceM 358115012204568414 tC tM = 507858151651448328 := by decide +kernel
theorem ex_r : gx 4 507858151651448328 = 121324261228073936 := by rw [gx_pm _ _ (by decide)]; decide +kernel
theorem ex_e : chalM 121324261228073936 5322311199030329 tC tM = 863586865880404946 := by decide +kernel
theorem ex_e2 : chalM 121324261228073936 5322311199030329 tC tN = 268455930870209848 := by decide +kernel

theorem ex_no : verM (keyM tA).2 tC tN (signM (keyM tA) tC tM) = false := by
  have hr := right_key tA
  rw [ver_other hr, elem_sign hr, sign_eq hr]
  dsimp only
  rw [ex_key]
  dsimp only
  rw [ex_nonce]
  have : Int.toNat 507858151651448328 = 507858151651448328 := rfl
  rw [this, ex_r, ex_e, ex_e2]
  decide

theorem ver_one (c m : ByteArray) (s : Int × Int) : verM 1 c m s = false := by
  unfold verM rangesM
  simp

theorem key_fits {k : Int × Int} (h : rightM k = true) : Fits k.1 ∧ Fits k.2 := by
  obtain ⟨h1, h2, _, h3⟩ := right_fits h
  have hq : QQ = 1152921504606845789 := rfl
  exact ⟨⟨by omega, by omega⟩, h3⟩

theorem small_ok : F_bournelaw05_small () = some (true, ()) := by
  have hr := right_key tA
  obtain ⟨f1, f2⟩ := key_fits hr
  unfold F_bournelaw05_small f_bournelaw05_small f_bournelaw05_small_b
  have o1 : ofM 1 = (1, 4) := by
    unfold ofM
    rw [if_pos (by decide), show Int.toNat 1 = 1 from rfl, gx_one]; rfl
  have o0 : ofM 0 = (0, 0) := by unfold ofM; rw [if_neg (by decide)]
  rw [andK_some (Key_ok (s := tA) (by decide))]
  dsimp only
  rw [andK_some (Sign_ok f1 (c := tC) (m := tM) (by decide) (by decide))]
  dsimp only
  rw [andK_some (Of_ok (n := 1) ⟨by decide, by decide⟩), o1]
  dsimp only
  rw [bif_of (by decide), andK_some (Of_ok (n := 0) ⟨by decide, by decide⟩), o0]
  dsimp only
  rw [bif_of (by decide), andK_some (Right_ok f1)]
  dsimp only
  rw [bif_of hr, andK_some (Verify_ok f2 (c := tC) (m := tM) (by decide) (by decide) _)]
  dsimp only
  rw [bif_of (ver_own hr _ _), andK_some (Verify_ok f2 (c := tC) (m := tN) (by decide) (by decide) _)]
  dsimp only
  rw [ex_no, bif_of (c := !false) rfl, andK_some (Verify_ok (p := 1) ⟨by decide, by decide⟩ (c := tC) (m := tM) (by decide) (by decide) _)]
  dsimp only
  rw [ver_one]
  rfl
end Go.Proofs.YtnebpmcmdmpoaaaDoor.R
