/- For every basin of at most 64 places, at most 40 rights and 80 grants: Reach, Day and Back hand back what the reference hands back; the fixed example holds for every input. -/
import Derived.Test.YthmbleephognnaaAllot
import Derived.Test.YthmbleephognnaaQFrame
import Derived.Test.YthmbleephognnaaQx14
namespace Go.Proofs.Ythmbleephognnaa.Pure
open Go Go.RowKit Go.Proofs.Ythmbleephognnaa.Q Go.Proofs.Ythmbleephognnaa.Tools Go.Proofs.Ythmbleephognnaa.Allot Go.Proofs.YthmbleephognnaaW.PrintWords Go.Proofs.YthmbleephognnaaW.PrintLast
set_option linter.unusedVariables false
theorem AllotTells (x0 : S31) (ok0_ : ok31 x0) (l1 : List (S45)) (m1 : l1.length ≤ maxLen) (ok1_ : ∀ x_ ∈ l1, ok45 x_) (l2 : List Int) (m2 : l2.length ≤ maxLen) (ok2_ : ∀ x_ ∈ l2, (Lit.int .i64 x_).wf = true) (l3 : List (S47)) (m3 : l3.length ≤ maxLen) (ok3_ : ∀ x_ ∈ l3, ok47 x_) (a4 : Int) (w4 : (Lit.int .i64 a4).wf = true) : ∃ k, bournelaw37_AllotTells.f k x0.f0 x0.f1 x0.f2 x0.f3 x0.f4 x0.f5 x0.f6 x0.f7 x0.f8 x0.f9 x0.f10 l1 l2 l3 a4 = some true := by
  apply Ev.rounds
  unfold bournelaw37_AllotTells.f
  refine Ev.bind small_ev ?_
  simp only [few_tells, Option.bind_some]
  by_cases h : x0.f3.length ≤ 64 ∧ l1.length ≤ 40 ∧ l3.length ≤ 80
  · obtain ⟨h64, hro, hg⟩ := h
    simp only [decide_eq_true (show x0.f3.length ≤ 64 ∧ l1.length ≤ 40 ∧ l3.length ≤ 80 from ⟨h64, hro, hg⟩), if_true]
    have hs := fits_all ok2_
    refine Ev.bind (allot_Day_tells _ _ _ _ _ _ _ _ _ _ _ l1 l2 h64 hro hs) ?_
    refine Ev.bind (ref_Day_tells _ _ _ _ _ _ _ _ _ _ _ l1 l2 h64 hro hs) ?_
    refine Ev.bind (allot_Reach_tells _ _ _ _ _ _ _ _ _ _ _ h64 a4) ?_
    refine Ev.bind (ref_Reach_tells _ _ _ _ _ _ _ _ _ _ _ h64 a4) ?_
    have hrl := reachM_len x0.f3 a4
    refine Ev.bind (sameInts_ev _ _ (by omega) rfl) ?_
    refine Ev.bind (allot_Back_tells _ _ _ _ _ _ _ _ _ _ _ l1 h64 hro l3 hg) ?_
    refine Ev.bind (ref_Back_tells _ _ _ _ _ _ _ _ _ _ _ l1 h64 hro l3 hg) ?_
    have hbl : (backM x0.f3 l1 l3).length = x0.f3.length := by
      unfold backM
      suffices ∀ (l : List S47) (out : List Int), (l.foldl (backStep x0.f3 l1) out).length = out.length by rw [this]; simp
      intro l
      induction l with
      | nil => intro out; rfl
      | cons g l ih => intro out; rw [List.foldl_cons, ih, backStep_len]
    refine Ev.bind (sameInts_ev _ _ (by omega) rfl) ?_
    simp only [if_true]
    have hd := day_same x0.f3 l1 l2
    refine Ev.bind (same_ev _ _ (by rw [day_len]; omega) (by rw [hd])) ?_
    simp only [if_true]
    refine Ev.bind (sameInts_ev _ _ (by rw [day_left_len]; omega) (by rw [hd])) ?_
    exact Ev.now _
  · simp only [decide_eq_false h, if_neg (show ¬ false = true by simp)]
    exact Ev.now _
end Go.Proofs.Ythmbleephognnaa.Pure
