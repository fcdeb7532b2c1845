/- The law SignEquation: for every input that reads as data the call returns true, and each argument reads behind it as it read before. No condition beyond the row's own (the listed variables hold what the program's text lays, and the card ties them to it). -/
import Derived.Test.YtnebpmcmdmpoaaaDoorRows
import Derived.Test.YtnebpmcmdmpoaaaDoorGlob
import Derived.Test.YtnebpmcmdmpoaaaDoorG6
import Derived.Test.YtnebpmcmdmpoaaaDoorPureSignEquation
import Derived.Test.YtnebpmcmdmpoaaaDoorCards
import Derived.Test.YtnebpmcmdmpoaaaDoorTie
import Derived.SevenTiedAt
import Derived.KernelRfl
namespace Go.Proofs.YtnebpmcmdmpoaaaDoor.signEquation
open Go Go.RowKit Go.ChangeShapes Go.WideShapes Go.ChangeAt Go.Proofs.YtnebpmcmdmpoaaaDoor.R
set_option linter.unusedVariables false
set_option maxRecDepth 100000
theorem argsOk : ArgsOk Tryd.prog Tryd.f7.params.toList [.int .i64, .str, .str, .pair (.int .i64) (.int .i64)] := by
  rw [Tryd.params7]
  exact ⟨⟨o3, Tryd.underlying3, by kernel_rfl, of_decide_eq_true (by kernel_rfl)⟩, ⟨o9, Tryd.underlying9, by kernel_rfl, of_decide_eq_true (by kernel_rfl)⟩, ⟨o9, Tryd.underlying9, by kernel_rfl, of_decide_eq_true (by kernel_rfl)⟩, ⟨o25, ⟨_, Tryd.underlying25⟩, by kernel_rfl, of_decide_eq_true (by kernel_rfl)⟩, trivial⟩
theorem specOk {H : Type} (ds : List (DataW H)) (h : ds.length = Tryd.f7.params.toList.length) : Rows.signEquationSpec.fn H ds = { results := [.lit (.bool true)], args := ds, vars := [] } := by
  rw [Tryd.params7] at h
  match ds, h with
  | [d0, d1, d2, d3], _ => rfl
theorem lifted (os : Os) (started : os.Started) (H : Type) (enc : TypeId × Value → H) :
    ReturnsInHanded {} Tryd.checked os 7 .any (fun w args => (Rows.signEquationSpec.pre enc Tryd.prog Tryd.f7 Rows.signEquationRow.domain false w args ∧ laidMetH Tryd.prog Rows.signEquationRow.laid w) ∧ sizedMet enc Tryd.prog Tryd.f7 (OpenSpec.ofChange Rows.signEquationSpec) false w args) (Rows.signEquationSpec.post enc Tryd.prog Tryd.f7 false true false false) :=
  lift_laid (C := Tryd.checked) (dom := Rows.signEquationRow.domain) own started (by kernel_rfl) Tryd.func7 laidOut argsOk (by kernel_rfl) Tryd.underlying4 rfl (fun ds h => specOk ds h)
    (ChangeSpec.witness_shaped (enc := enc) (C := Tryd.checked) (os := os) (X := fun w _ => laidMetH Tryd.prog Rows.signEquationRow.laid w) false (World.laidAll Tryd.prog os Rows.signEquationRow.laid) #[.int .i64 0, .string .empty, .string .empty, .agg #[.int .i64 0, .int .i64 0]] 8 (World.laidAll_os _ _ _) (World.shaped_of_ZipB (by kernel_rfl) (by kernel_rfl)) (by kernel_rfl) (by kernel_rfl) (by kernel_rfl)
      (by rw [MakeChecks.laidMetH_plain _ _ _ (by kernel_rfl)]; exact laidMet_laidAll _ (by kernel_rfl) (by kernel_rfl)))
    glob (fun a m ha => F_bournelaw05_SignEquation_ok a (true, ()) (law_SignEquation a ha) m)
theorem over : Rows.signEquationRow.holds Tryd.pinned (OpenSpec.ofChange Rows.signEquationSpec) :=
  OpenClaim.holds_of_wide 7 Tryd.f7 rfl rfl rfl rfl rfl rfl rfl ⟨rfl, rfl, rfl, rfl, rfl⟩ rfl rfl rfl rfl rfl (by kernel_rfl) Tryd.func7 (by kernel_rfl)
    (of_decide_eq_true (by kernel_rfl)) (by unfold Func.isWrapper; first | (rw [if_pos (by decide +kernel)]; kernel_rfl) | (rw [if_neg (by decide +kernel)]; exact ⟨rfl, rfl⟩))
    (fun os started H enc _ => lifted os started H enc)
theorem proved : Rows.SignEquationCardSaid :=
  Claim7.holds_tied_plain_at .later [] [.data, .widerDeep, .data, .pinned] true (true, "66e2132b46cd6d5169d9b6cac3bee52b440dabe4591e4fe5b5150d4aaa33d9bd") false over (fun _ h => by cases h) (by kernel_rfl) (fun _ h => by cases h) signEquation_row_tie rfl ⟨rfl, rfl⟩ (by kernel_rfl) rfl
    (fun f fn hf hfn => by
      obtain rfl : f = 7 := Option.some.inj ((show Tryd.prog.funcNamed "bourne/bournelaw05.SignEquation" = some 7 by kernel_rfl).symm.trans hf) |>.symm
      obtain rfl : fn = Tryd.f7 := (Option.some.inj (Tryd.func7.symm.trans hfn)).symm
      exact ⟨by kernel_rfl, fun j t ht => by
        rw [Tryd.params7] at ht
        have hm : t ∈ [3, 9, 9, 25] := by simpa using Array.mem_of_getElem? ht
        have hall : ([3, 9, 9, 25].all fun u => !Tryd.prog.wantsStandIn u) = true := by kernel_rfl
        exact (show Tryd.prog.wantsStandIn t = false by simpa using List.all_eq_true.1 hall t hm)⟩)
    (by kernel_rfl)
end Go.Proofs.YtnebpmcmdmpoaaaDoor.signEquation
namespace Go.Proofs.YtnebpmcmdmpoaaaDoor
/-- The statement, under a short name, for the claim. -/
theorem signEquation_holds : Rows.SignEquationCardSaid := signEquation.proved
end Go.Proofs.YtnebpmcmdmpoaaaDoor
