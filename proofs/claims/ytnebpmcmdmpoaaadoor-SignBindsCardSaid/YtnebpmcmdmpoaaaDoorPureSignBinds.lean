/- The law SignBinds in plain Lean. -/
import Derived.Test.YtnebpmcmdmpoaaaDoorPSign2
import Derived.Test.YtnebpmcmdmpoaaaDoorRFrame
import Derived.Test.YtnebpmcmdmpoaaaDoorG6
namespace Go.Proofs.YtnebpmcmdmpoaaaDoor.R
open Go
set_option linter.unusedSimpArgs false
set_option linter.unusedVariables false
set_option maxRecDepth 10000
theorem core_SignBinds (seed c m c2 m2 : ByteArray) (hs : seed.size ≤ reachBytes) (hc : c.size ≤ reachBytes) (hm : m.size ≤ reachBytes) (hc2 : c2.size ≤ reachBytes) (hm2 : m2.size ≤ reachBytes) : f_bournelaw05_SignBinds_b some 0 seed c m c2 m2 = some (true, ()) := by
  have hq : QQ = 1152921504606845789 := rfl
  unfold f_bournelaw05_SignBinds_b
  rw [andK_some small_ok, andK_some (short_ok seed c m hs hc hm), andK_some (short_ok c2 m2 ⟨#[]⟩ hc2 hm2 (by decide))]
  dsimp only
  by_cases hl : seed.size + c.size + m.size ≤ 2000
  · rw [decide_eq_true hl, Bool.not_true, cond_false]
    by_cases hl2 : c2.size + m2.size + (⟨#[]⟩ : ByteArray).size ≤ 2000
    · have hr := right_key seed
      obtain ⟨f1, f2⟩ := key_fits hr
      obtain ⟨b1, b2, b3, b4⟩ := sign_b hr c m
      rw [decide_eq_true hl2, Bool.not_true, cond_false, andK_some (Key_ok (by omega))]
      dsimp only
      rw [andK_some (Sign_ok f1 (c := c) (m := m) (by omega) (by omega))]
      dsimp only
      rw [andK_some (rElement_ok f2 b1 (by omega) b3 ⟨by omega, by omega⟩)]
      dsimp only
      rw [andK_some (rChallenge_ok (elem_fits _ _) f2 (c := c2) (m := m2) (by omega) (by omega)), cond_true, andK_some (Verify_ok f2 (c := c2) (m := m2) (by omega) (by omega) _), ver_other hr]
      simp [Bool.beq_eq_decide_eq]
    · rw [decide_eq_false hl2]; rfl
  · rw [decide_eq_false hl]; rfl

theorem law_SignBinds (a : Tys [.str, .str, .str, .str, .str]) (h : okL _ a) : F_bournelaw05_SignBinds a = some (true, ()) := core_SignBinds a.1 a.2.1 a.2.2.1 a.2.2.2.1 a.2.2.2.2.1 h.1 h.2.1 h.2.2.1 h.2.2.2.1 h.2.2.2.2.1
end Go.Proofs.YtnebpmcmdmpoaaaDoor.R
