/- For every basin of at most 64 places and at most 40 rights: the grants of the first rights of a roster are the same without the later ones, and the later ones are served out of what the first ones left; the fixed example holds for every input. -/
import Derived.Test.YthmbleephognnaaAllot
import Derived.Test.YthmbleephognnaaQFrame
import Derived.Test.YthmbleephognnaaQx16
namespace Go.Proofs.Ythmbleephognnaa.Pure
open Go Go.RowKit Go.Proofs.Ythmbleephognnaa.Q Go.Proofs.Ythmbleephognnaa.Tools Go.Proofs.Ythmbleephognnaa.Num Go.Proofs.Ythmbleephognnaa.Allot Go.Proofs.YthmbleephognnaaW.PrintWords Go.Proofs.YthmbleephognnaaW.PrintLast
set_option linter.unusedVariables false
set_option linter.unusedSimpArgs false
section
variable (b0 : ByteArray) (b1 : List ByteArray) (b2 : Int) (ps : List S58) (b4 : List S98) (b5 : List S100) (b6 : List S102) (b7 : List S104) (b8 : List S106) (b9 : List Int) (b10 : Int)
/-- The grants only grow. -/
theorem fold_pre : ∀ (l : List S45) (st : List S47 × List Int), ∃ t, (l.foldl (serveM ps) st).1 = st.1 ++ t
  | [], st => ⟨[], by simp⟩
  | r :: l, st => by
    obtain ⟨t, ht⟩ := fold_pre l (serveM ps st r)
    exact ⟨⟨r.f0, grantM ps st.2 r⟩ :: t, by rw [List.foldl_cons, ht]; simp [serveM]⟩
theorem take_day (roster : List S45) (supply : List Int) (n : Nat) : (roster.drop n).foldl (serveM ps) (dayM ps (roster.take n) supply) = dayM ps roster supply := by
  unfold dayM
  rw [← List.foldl_append, List.take_append_drop]
theorem take_grants (roster : List S45) (supply : List Int) (n : Nat) (hn : n ≤ roster.length) : (dayM ps roster supply).1.take n = (dayM ps (roster.take n) supply).1 := by
  rw [← take_day ps roster supply n]
  obtain ⟨t, ht⟩ := fold_pre ps (roster.drop n) (dayM ps (roster.take n) supply)
  rw [ht]
  have hl := day_len ps (roster.take n) supply
  rw [List.length_take, Nat.min_eq_left hn] at hl
  rw [List.take_append_of_le_length (by omega), List.take_of_length_le (by omega)]
/-- The grant of right i is made out of what the ones before it left. -/
theorem grant_at (roster : List S45) (supply : List Int) (i : Nat) (hi : i < roster.length) : (rd_T47 (dayM ps roster supply).1 i).f1 = grantM ps (dayM ps (roster.take i) supply).2 (rd_T45 roster i) := by
  rw [← take_day ps roster supply i, rd_T45_drop roster i hi, List.foldl_cons]
  obtain ⟨t, ht⟩ := fold_pre ps (roster.drop (i + 1)) (serveM ps (dayM ps (roster.take i) supply) (rd_T45 roster i))
  rw [ht]
  have hl := day_len ps (roster.take i) supply
  rw [List.length_take, Nat.min_eq_left (by omega)] at hl
  have e : ∀ (a : List S47) (x : S47) (t : List S47), a.length = i → rd_T47 ((a ++ [x]) ++ t) (i : Int) = x := by
    intro a x t ha
    subst ha
    simp [rd_T47, List.getD_eq_getElem?_getD]
  show (rd_T47 ((_ ++ [_]) ++ t) (i : Int)).f1 = _
  rw [e _ _ _ hl]
theorem day_next (roster : List S45) (supply : List Int) (i : Nat) (hi : i < roster.length) : dayM ps (roster.take (i + 1)) supply = serveM ps (dayM ps (roster.take i) supply) (rd_T45 roster i) := by
  have e : roster.take (i + 1) = roster.take i ++ [rd_T45 roster i] := by
    have h2 : rd_T45 roster (i : Int) = roster[i] := by simp [rd_T45, List.getD_eq_getElem?_getD, hi]
    rw [h2, List.take_succ_eq_append_getElem hi]
  rw [e]
  unfold dayM
  rw [List.foldl_append]
  rfl
theorem day_nn (roster : List S45) (supply : List Int) : NN (dayM ps roster supply).2 := serve_nn ps roster _ (fillM_len ps supply) (fillM_nn ps supply)
variable (roster : List S45) (g : List S47) (left : List Int)
theorem first_l2 (t : Bool) (i : Nat) (hi : i < roster.length) (h40 : roster.length ≤ 40) (hgl : g.length = roster.length) (n : Int) (hg : (rd_T47 g i).f1 = n) (l : List Int) (hll : l.length ≤ 64) (r : Bool) (d : Nat) :
    ∀ (j : Nat) (L : List Int), j + d = l.length → (∀ q ∈ l, 0 ≤ q ∧ q < L.length) →
      Ev (fun k => bournelaw37_AllotFirst.l0 k roster t g left ((l.drop j).foldl (takeAt n) L) ((i + 1 : Nat) : Int) b0 b1 b2 ps b4 b5 b6 b7 b8 b9 b10) r →
      Ev (fun k => bournelaw37_AllotFirst.l2 k roster t g left L (i : Int) l n (j : Int) b0 b1 b2 ps b4 b5 b6 b7 b8 b9 b10) r := by
  induction d with
  | zero =>
    intro j L hj hq hk
    refine ev_succ ?_
    simp only [bournelaw37_AllotFirst.l2, if_neg (show ¬ (j : Int) < (l.length : Int) by omega), if_pos (show (0 : Int) ≤ (i : Int) by omega), if_pos (show (i : Int) < (g.length : Int) by omega), if_pos hg, w64_succ i (by omega)]
    rw [List.drop_eq_nil_of_le (by omega)] at hk
    exact hk
  | succ d ih =>
    intro j L hj hq hk
    have hlt : j < l.length := by omega
    have hqj := hq (rd l (j : Int)) (rd_mem (by omega) (by omega))
    refine ev_succ ?_
    simp only [bournelaw37_AllotFirst.l2, if_pos (show (j : Int) < (l.length : Int) by omega), if_pos (show (0 : Int) ≤ (j : Int) by omega), if_pos hqj.1, if_pos hqj.2, w64_succ j (by omega)]
    refine ih (j + 1) (takeAt n L (rd l (j : Int))) (by omega) (fun q hqm => by rw [takeAt_len]; exact hq q hqm) ?_
    rw [drop_rd l j hlt, List.foldl_cons] at hk
    exact hk
theorem first_l1 (t : Bool) (i : Int) (l L : List Int) (hll : l.length ≤ 64) (hq : ∀ q ∈ l, 0 ≤ q ∧ q < L.length) (r : Bool) (d : Nat) :
    ∀ (j : Nat) (n : Int), j + d = l.length →
      Ev (fun k => bournelaw37_AllotFirst.l2 k roster t g left L i l (leastM n L (l.drop j)) 0 b0 b1 b2 ps b4 b5 b6 b7 b8 b9 b10) r →
      Ev (fun k => bournelaw37_AllotFirst.l1 k roster t g left L i l n (j : Int) b0 b1 b2 ps b4 b5 b6 b7 b8 b9 b10) r := by
  induction d with
  | zero =>
    intro j n hj hk
    refine ev_succ ?_
    simp only [bournelaw37_AllotFirst.l1, if_neg (show ¬ (j : Int) < (l.length : Int) by omega)]
    rw [List.drop_eq_nil_of_le (by omega)] at hk
    exact hk
  | succ d ih =>
    intro j n hj hk
    have hlt : j < l.length := by omega
    have hqj := hq (rd l (j : Int)) (rd_mem (by omega) (by omega))
    refine ev_succ ?_
    simp only [bournelaw37_AllotFirst.l1, if_pos (show (j : Int) < (l.length : Int) by omega), if_pos (show (0 : Int) ≤ (j : Int) by omega), if_pos hqj.1, if_pos hqj.2, w64_succ j (by omega)]
    refine ih (j + 1) _ (by omega) ?_
    rw [drop_rd l j hlt] at hk
    exact hk
theorem first_l0 (h64 : ps.length ≤ 64) (h40 : roster.length ≤ 40) (supply : List Int) (d : Nat) :
    ∀ i : Nat, i + d = roster.length →
      Ev (fun k => bournelaw37_AllotFirst.l0 k roster true (dayM ps roster supply).1 (dayM ps roster supply).2 (dayM ps (roster.take i) supply).2 (i : Int) b0 b1 b2 ps b4 b5 b6 b7 b8 b9 b10) true := by
  induction d with
  | zero =>
    intro i hi
    refine ev_succ ?_
    simp only [bournelaw37_AllotFirst.l0, if_neg (show ¬ (i : Int) < (roster.length : Int) by omega), if_true]
    rw [List.take_of_length_le (by omega)]
    refine Ev.bind (sameInts_ev _ _ (by rw [day_left_len]; omega) rfl) (Ev.now _)
  | succ d ih =>
    intro i hi
    have hlt : i < roster.length := by omega
    have hin := reachM_in ps (rd_T45 roster (i : Int)).f3
    have hrl := reachM_len ps (rd_T45 roster (i : Int)).f3
    have hL := day_left_len ps (roster.take i) supply
    have hq : ∀ q ∈ reachM ps (rd_T45 roster (i : Int)).f3, 0 ≤ q ∧ q < (dayM ps (roster.take i) supply).2.length := fun q hq => ⟨(hin q hq).1, by rw [hL]; exact (hin q hq).2⟩
    have hgr := grant_at ps roster supply i hlt
    rw [grant_same ps _ (day_nn ps _ _)] at hgr
    refine ev_succ ?_
    simp only [bournelaw37_AllotFirst.l0, if_pos (show (i : Int) < (roster.length : Int) by omega), if_pos (show (0 : Int) ≤ (i : Int) by omega)]
    refine Ev.bind (allot_Reach_tells b0 b1 b2 ps b4 b5 b6 b7 b8 b9 b10 h64 _) ?_
    have fin : ∀ n, n = (if ((reachM ps (rd_T45 roster (i : Int)).f3).length : Int) = 0 then 0 else mx 0 (rd_T45 roster (i : Int)).f4) →
        Ev (fun k => bournelaw37_AllotFirst.j3 k roster true (dayM ps roster supply).1 (dayM ps roster supply).2 (dayM ps (roster.take i) supply).2 (i : Int) (reachM ps (rd_T45 roster (i : Int)).f3) n b0 b1 b2 ps b4 b5 b6 b7 b8 b9 b10) true := by
      intro n hn
      refine ev_succ ?_
      simp only [bournelaw37_AllotFirst.j3]
      refine first_l1 b0 b1 b2 ps b4 b5 b6 b7 b8 b9 b10 roster _ _ true (i : Int) _ _ (by omega) hq true (reachM ps (rd_T45 roster (i : Int)).f3).length 0 n (by omega) ?_
      rw [List.drop_zero]
      have e : leastM n (dayM ps (roster.take i) supply).2 (reachM ps (rd_T45 roster (i : Int)).f3) = grantR ps (dayM ps (roster.take i) supply).2 (rd_T45 roster (i : Int)) := by rw [hn]; rfl
      rw [e]
      refine first_l2 b0 b1 b2 ps b4 b5 b6 b7 b8 b9 b10 roster _ _ true i hlt h40 (day_len ps roster supply) _ hgr _ (by omega) true (reachM ps (rd_T45 roster (i : Int)).f3).length 0 _ (by omega) hq ?_
      rw [List.drop_zero]
      have := ih (i + 1) (by omega)
      rw [day_next ps roster supply i hlt] at this
      unfold serveM at this
      rw [grant_same ps _ (day_nn ps _ _)] at this
      exact this
    by_cases he : ((reachM ps (rd_T45 roster (i : Int)).f3).length : Int) = 0
    · simp only [if_pos he]
      exact fin 0 (by rw [if_pos he])
    · simp only [if_neg he]
      exact fin _ (by rw [if_neg he])
end
theorem AllotFirst (x0 : S31) (ok0_ : ok31 x0) (l1 : List (S45)) (m1 : l1.length ≤ maxLen) (ok1_ : ∀ x_ ∈ l1, ok45 x_) (l2 : List Int) (m2 : l2.length ≤ maxLen) (ok2_ : ∀ x_ ∈ l2, (Lit.int .i64 x_).wf = true) (a3 : Int) (w3 : (Lit.int .i64 a3).wf = true) : ∃ k, bournelaw37_AllotFirst.f k x0.f0 x0.f1 x0.f2 x0.f3 x0.f4 x0.f5 x0.f6 x0.f7 x0.f8 x0.f9 x0.f10 l1 l2 a3 = some true := by
  apply Ev.rounds
  unfold bournelaw37_AllotFirst.f
  refine Ev.bind small_ev ?_
  simp only [few_tells, Option.bind_some]
  have skip : Ev (fun k => bournelaw37_AllotFirst.j0 k l1 l2 a3 true true x0.f0 x0.f1 x0.f2 x0.f3 x0.f4 x0.f5 x0.f6 x0.f7 x0.f8 x0.f9 x0.f10) true := by
    refine ev_succ ?_
    simp only [bournelaw37_AllotFirst.j0, if_true]
    exact Ev.now _
  by_cases h : x0.f3.length ≤ 64 ∧ l1.length ≤ 40 ∧ ([] : List S47).length ≤ 80
  · simp only [decide_eq_true h, if_true]
    obtain ⟨h64, hro, _⟩ := h
    have hs := fits_all ok2_
    by_cases h1 : a3 < 0
    · simp only [if_pos h1]; exact skip
    · by_cases h2 : a3 > (l1.length : Int)
      · simp only [if_neg h1, decide_eq_true h2]; exact skip
      · simp only [if_neg h1, decide_eq_false h2]
        obtain ⟨n, rfl⟩ := Int.eq_ofNat_of_zero_le (show 0 ≤ a3 by omega)
        have hn : n ≤ l1.length := by omega
        refine ev_succ ?_
        simp only [bournelaw37_AllotFirst.j0, if_neg (show ¬ false = true by simp)]
        refine Ev.bind (allot_Day_tells _ _ _ _ _ _ _ _ _ _ _ l1 l2 h64 hro hs) ?_
        have hdl := day_len x0.f3 l1 l2
        have hgl : ((dayM x0.f3 l1 l2).1.length : Int) = (l1.length : Int) := by rw [hdl]
        simp only [if_pos (show (0 : Int) ≤ ((n : Nat) : Int) by omega), if_pos (show ((n : Nat) : Int) ≤ (l1.length : Int) by omega), Int.toNat_natCast]
        refine Ev.bind (allot_Day_tells _ _ _ _ _ _ _ _ _ _ _ (l1.take n) l2 h64 (by rw [List.length_take]; omega) hs) ?_
        simp only [if_pos hgl, if_pos (show ((n : Nat) : Int) ≤ ((dayM x0.f3 l1 l2).1.length : Int) by omega)]
        refine Ev.bind (same_ev _ _ (by rw [List.length_take]; omega) (take_grants x0.f3 l1 l2 n hn)) ?_
        refine ev_succ ?_
        simp only [bournelaw37_AllotFirst.j1, Bool.not_true, if_neg (show ¬ false = true by simp)]
        exact first_l0 _ _ _ _ _ _ _ _ _ _ _ l1 h64 hro l2 (l1.length - n) n (by omega)
  · simp only [decide_eq_false h, if_neg (show ¬ false = true by simp)]
    exact skip
end Go.Proofs.Ythmbleephognnaa.Pure
