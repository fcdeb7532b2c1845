/- The law SignHolds in plain Lean. -/
import Derived.Test.YtnebpmcmdmpoaaaDoorPSign2
import Derived.Test.YtnebpmcmdmpoaaaDoorRFrame
import Derived.Test.YtnebpmcmdmpoaaaDoorG6
namespace Go.Proofs.YtnebpmcmdmpoaaaDoor.R
open Go
set_option linter.unusedSimpArgs false
set_option linter.unusedVariables false
set_option maxRecDepth 10000
theorem core_SignHolds (seed : ByteArray) (n : Int) (ctx msg : ByteArray) (hs : seed.size ≤ reachBytes) (fn : Fits n) (hc : ctx.size ≤ reachBytes) (hm : msg.size ≤ reachBytes) : f_bournelaw05_SignHolds_b some 0 seed n ctx msg = some (true, ()) := by
  have hq : QQ = 1152921504606845789 := rfl
  unfold f_bournelaw05_SignHolds_b
  rw [andK_some small_ok, andK_some (short_ok seed ctx msg hs hc hm)]
  dsimp only
  by_cases hl : seed.size + ctx.size + msg.size ≤ 2000
  · have hr := right_key seed
    obtain ⟨f1, f2⟩ := key_fits hr
    have hro := right_of (n := n)
    have fo : Fits (ofM n).1 := by
      unfold ofM
      split
      · exact fn
      · exact ⟨by decide, by decide⟩
    obtain ⟨b1, b2, b3, b4⟩ := sign_b hr ctx msg
    have hown := ver_own hr ctx msg
    have kR := Right_ok f1
    have kS := Sign_ok f1 (c := ctx) (m := msg) (by omega) (by omega)
    have kV := Verify_ok f2 (c := ctx) (m := msg) (by omega) (by omega) (signM (keyM seed) ctx msg)
    have oR := Right_ok fo
    have oS := Sign_ok fo (c := ctx) (m := msg) (by omega) (by omega)
    rw [decide_eq_true hl, Bool.not_true, cond_false, andK_some (Key_ok (by omega)), andK_some (Of_ok fn)]
    dsimp only
    -- what is common to both ways
    have tail : (andK (F_sign_Right (keyM seed, ())) fun (r10 : Bool × Unit) =>
        bif !r10.1 then some (false, ()) else
        andK (F_sign_Sign (keyM seed, ctx, msg, ())) fun (r12 : (Int × Int) × Unit) =>
        andK (F_sign_Verify ((keyM seed).2, ctx, msg, r12.1, ())) fun (r13 : Bool × Unit) =>
        bif !r13.1 then some (false, ()) else
        andK (F_sign_Sign (keyM seed, ctx, msg, ())) fun (r15 : (Int × Int) × Unit) =>
        bif !((r12.1.1 == r15.1.1) && ((r12.1.2 == r15.1.2) && true)) then some (false, ()) else
        bif decide (r12.1.1 < 0) then some (false, ()) else
        bif decide (r12.1.1 ≥ 1152921504606845789) then some (false, ()) else
        bif decide (r12.1.2 < 0) then some (false, ()) else
        bif decide (r12.1.2 ≥ 1152921504606845789) then some (false, ()) else
        andK (F_sign_Sign (ofM n, ctx, msg, ())) fun (r21 : (Int × Int) × Unit) =>
        andK (F_sign_Right (ofM n, ())) fun (r22 : Bool × Unit) =>
        bif !r22.1 then bif true then some (((r21.1.1 == 0) && ((r21.1.2 == 0) && true)), ()) else some (false, ())
        else bif true then andK (F_sign_Verify ((ofM n).2, ctx, msg, r21.1, ())) fun (r25 : Bool × Unit) => some (r25.1, ()) else some (false, ())) = some (true, ()) := by
      rw [andK_some kR]
      dsimp only
      rw [hr, Bool.not_true, cond_false, andK_some kS]
      dsimp only
      rw [andK_some kV]
      dsimp only
      rw [hown, Bool.not_true, cond_false, andK_some kS]
      dsimp only
      rw [pair_eq, decide_eq_true rfl, Bool.not_true, cond_false, bif_neg (by omega), bif_neg (by omega), bif_neg (by omega), bif_neg (by omega), andK_some oS]
      dsimp only
      rw [andK_some oR]
      dsimp only
      cases hro2 : rightM (ofM n) with
      | false =>
        have : signM (ofM n) ctx msg = (0, 0) := by unfold signM; rw [hro2]; rfl
        rw [this]; rfl
      | true =>
        obtain ⟨g1, g2⟩ := key_fits hro2
        rw [Bool.not_true, cond_false, cond_true, andK_some (Verify_ok g2 (c := ctx) (m := msg) (by omega) (by omega) _), ver_own hro2]
    by_cases h1 : n ≥ 1
    · rw [bif_pos h1, andK_some oR]
      dsimp only
      rw [hro]
      have e : (decide (n < 1152921504606845789) == decide (1 ≤ n ∧ n < QQ)) = true := by
        rw [beq_iff_eq]
        apply decide_eq_decide.2
        omega
      rw [e, Bool.not_true, cond_false]
      exact tail
    · rw [bif_neg h1, andK_some oR]
      dsimp only
      rw [hro, decide_eq_false (show ¬ (1 ≤ n ∧ n < QQ) by omega)]
      exact tail
  · rw [decide_eq_false hl]; rfl

theorem law_SignHolds (a : Tys [.str, .int .i64, .str, .str]) (h : okL _ a) : F_bournelaw05_SignHolds a = some (true, ()) := core_SignHolds a.1 a.2.1 a.2.2.1 a.2.2.2.1 h.1 (okT_i64 h.2.1) h.2.2.1 h.2.2.2.1
end Go.Proofs.YtnebpmcmdmpoaaaDoor.R
