/- The law SignTells in plain Lean. -/
import Derived.Test.YtnebpmcmdmpoaaaDoorPSign2
import Derived.Test.YtnebpmcmdmpoaaaDoorRFrame
import Derived.Test.YtnebpmcmdmpoaaaDoorG6
namespace Go.Proofs.YtnebpmcmdmpoaaaDoor.R
open Go
set_option linter.unusedSimpArgs false
set_option linter.unusedVariables false
set_option maxRecDepth 10000
theorem core_SignTells (seed ctx msg : ByteArray) (k : Int × Int) (pub : Int) (s : Int × Int) (hs : seed.size ≤ reachBytes) (hc : ctx.size ≤ reachBytes) (hm : msg.size ≤ reachBytes) (fk : Fits k.1) (fp : Fits pub) : f_bournelaw05_SignTells_b some 0 seed ctx msg k pub s = some (true, ()) := by
  unfold f_bournelaw05_SignTells_b
  rw [andK_some small_ok, andK_some (short_ok seed ctx msg hs hc hm)]
  dsimp only
  by_cases hl : seed.size + ctx.size + msg.size ≤ 2000
  · rw [decide_eq_true hl, Bool.not_true, cond_false, andK_some (Key_ok (by omega)), andK_some (rKey_ok (by omega))]
    dsimp only
    rw [pair_eq, decide_eq_true rfl, Bool.not_true, cond_false, andK_some (Of_ok fk), andK_some (rOf_ok fk)]
    dsimp only
    rw [pair_eq, decide_eq_true rfl, Bool.not_true, cond_false, andK_some (Right_ok fk), andK_some (rRight_ok fk)]
    dsimp only
    rw [show (rightM k == rightM k) = true by simp, Bool.not_true, cond_false, cond_true, andK_some (Sign_ok fk (by omega) (by omega)), andK_some (rSign_ok fk (by omega) (by omega))]
    dsimp only
    rw [pair_eq, decide_eq_true rfl, cond_true, andK_some (Verify_ok fp (by omega) (by omega) s), andK_some (rVerify_ok fp (by omega) (by omega) s)]
    simp
  · rw [decide_eq_false hl]; rfl

theorem law_SignTells (a : Tys [.str, .str, .str, .pair (.int .i64) (.int .i64), .int .i64, .pair (.int .i64) (.int .i64)]) (h : okL _ a) : F_bournelaw05_SignTells a = some (true, ()) := core_SignTells a.1 a.2.1 a.2.2.1 a.2.2.2.1 a.2.2.2.2.1 a.2.2.2.2.2.1 h.1 h.2.1 h.2.2.1 (okT_i64 h.2.2.2.1.1) (okT_i64 h.2.2.2.2.1)
end Go.Proofs.YtnebpmcmdmpoaaaDoor.R
