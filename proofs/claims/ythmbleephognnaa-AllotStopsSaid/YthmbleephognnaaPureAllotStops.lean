/- For every basin of at most 64 places and at most 40 rights: each right gets at most its rate, and less only if nothing is left at a place of its reach; what is left is what there was less the grants of all rights whose reach contains the place, and never negative; the fixed example holds for every input. -/
import Derived.Test.YthmbleephognnaaAllot
import Derived.Test.YthmbleephognnaaQFrame
import Derived.Test.YthmbleephognnaaQx15d
namespace Go.Proofs.Ythmbleephognnaa.Pure
open Go Go.RowKit Go.Proofs.Ythmbleephognnaa.Q Go.Proofs.Ythmbleephognnaa.Tools Go.Proofs.Ythmbleephognnaa.Num Go.Proofs.Ythmbleephognnaa.Allot Go.Proofs.YthmbleephognnaaW.PrintWords Go.Proofs.YthmbleephognnaaW.PrintLast
set_option linter.unusedVariables false
set_option linter.unusedSimpArgs false
section
variable (b0 : ByteArray) (b1 : List ByteArray) (b2 : Int) (ps : List S58) (b4 : List S98) (b5 : List S100) (b6 : List S102) (b7 : List S104) (b8 : List S106) (b9 : List Int) (b10 : Int)
theorem foldS_pre : ∀ (l : List S45) (st : List S47 × List Int), ∃ t, (l.foldl (serveM ps) st).1 = st.1 ++ t
  | [], st => ⟨[], by simp⟩
  | r :: l, st => by
    obtain ⟨t, ht⟩ := foldS_pre l (serveM ps st r)
    exact ⟨⟨r.f0, grantM ps st.2 r⟩ :: t, by rw [List.foldl_cons, ht]; simp [serveM]⟩
theorem takeS_day (roster : List S45) (supply : List Int) (n : Nat) : (roster.drop n).foldl (serveM ps) (dayM ps (roster.take n) supply) = dayM ps roster supply := by
  unfold dayM
  rw [← List.foldl_append, List.take_append_drop]
theorem grantS_at (roster : List S45) (supply : List Int) (i : Nat) (hi : i < roster.length) : rd_T47 (dayM ps roster supply).1 i = ⟨(rd_T45 roster i).f0, grantM ps (dayM ps (roster.take i) supply).2 (rd_T45 roster i)⟩ := by
  rw [← takeS_day ps roster supply i, rd_T45_drop roster i hi, List.foldl_cons]
  obtain ⟨t, ht⟩ := foldS_pre ps (roster.drop (i + 1)) (serveM ps (dayM ps (roster.take i) supply) (rd_T45 roster i))
  rw [ht]
  have hl := day_len ps (roster.take i) supply
  rw [List.length_take, Nat.min_eq_left (by omega)] at hl
  have e : ∀ (a : List S47) (x : S47) (t : List S47), a.length = i → rd_T47 ((a ++ [x]) ++ t) (i : Int) = x := by
    intro a x t ha
    subst ha
    simp [rd_T47, List.getD_eq_getElem?_getD]
  show rd_T47 ((_ ++ [_]) ++ t) (i : Int) = _
  rw [e _ _ _ hl]
theorem dayS_next (roster : List S45) (supply : List Int) (i : Nat) (hi : i < roster.length) : dayM ps (roster.take (i + 1)) supply = serveM ps (dayM ps (roster.take i) supply) (rd_T45 roster i) := by
  have e : roster.take (i + 1) = roster.take i ++ [rd_T45 roster i] := by
    have h2 : rd_T45 roster (i : Int) = roster[i] := by simp [rd_T45, List.getD_eq_getElem?_getD, hi]
    rw [h2, List.take_succ_eq_append_getElem hi]
  rw [e]
  unfold dayM
  rw [List.foldl_append]
  rfl
theorem dayS_nn (roster : List S45) (supply : List Int) : NN (dayM ps roster supply).2 := serve_nn ps roster _ (fillM_len ps supply) (fillM_nn ps supply)
/-- What a serving leaves at a place. -/
theorem serve_at (st : List S47 × List Int) (r : S45) (hl : st.2.length = ps.length) (hn : NN st.2) (x : Int) (hx : 0 ≤ x) : rd (serveM ps st r).2 x = if x ∈ reachM ps r.f3 then rd st.2 x - grantM ps st.2 r else rd st.2 x := by
  obtain ⟨g0, _, g2⟩ := grant_bounds ps st.2 hn r
  have hin := reachM_in ps r.f3
  exact (take_nn st.2 hn _ (reachM_nodup ps r.f3) (fun q hq => ⟨(hin q hq).1, by rw [hl]; exact (hin q hq).2⟩) _ g0 g2).2 x hx
/-- Where nothing is left, nothing is left behind more rights. -/
theorem stays_zero (q : Int) (hq : 0 ≤ q) : ∀ (l : List S45) (st : List S47 × List Int), st.2.length = ps.length → NN st.2 → rd st.2 q = 0 → rd (l.foldl (serveM ps) st).2 q = 0
  | [], st, _, _, h => h
  | r :: l, st, hl, hn, h => by
    rw [List.foldl_cons]
    refine stays_zero q hq l _ (by rw [serveM_len]; exact hl) (serveM_nn ps st r hl hn) ?_
    rw [serve_at ps st r hl hn q hq]
    obtain ⟨g0, _, g2⟩ := grant_bounds ps st.2 hn r
    split
    · rename_i hm; have := g2 q hm; omega
    · exact h
/-- Less than the rate is granted only where nothing is left at a place of the reach. -/
theorem stopped (roster : List S45) (supply : List Int) (i : Nat) (hi : i < roster.length) (hp : inB ps (rd_T45 roster i).f3) (hless : (rd_T47 (dayM ps roster supply).1 i).f1 < (rd_T45 roster i).f4) :
    ∃ q ∈ reachM ps (rd_T45 roster i).f3, rd (dayM ps roster supply).2 q = 0 := by
  have hg := grantS_at ps roster supply i hi
  rw [hg] at hless
  have hn := dayS_nn ps (roster.take i) supply
  have hL := day_left_len ps (roster.take i) supply
  have hne : ¬ ((reachM ps (rd_T45 roster i).f3).length : Int) = 0 := by
    intro h
    have h0 : reachM ps (rd_T45 roster i).f3 = [] := List.eq_nil_of_length_eq_zero (by omega)
    have := reachM_self ps hp
    rw [h0] at this
    simp at this
  have hgr : grantM ps (dayM ps (roster.take i) supply).2 (rd_T45 roster i) = leastM (mx 0 (rd_T45 roster i).f4) (dayM ps (roster.take i) supply).2 (reachM ps (rd_T45 roster i).f3) := by
    rw [grant_same ps _ hn]; unfold grantR; rw [if_neg hne]
  rcases leastM_is (dayM ps (roster.take i) supply).2 (reachM ps (rd_T45 roster i).f3) (mx 0 (rd_T45 roster i).f4) with h | ⟨q, hq, h⟩
  · rw [hgr, h] at hless
    dsimp only at hless
    unfold mx at hless
    split at hless <;> omega
  · refine ⟨q, hq, ?_⟩
    have hq0 := (reachM_in ps _ q hq).1
    rw [← takeS_day ps roster supply (i + 1)]
    refine stays_zero ps q hq0 _ _ (day_left_len ps _ _) (dayS_nn ps _ _) ?_
    rw [dayS_next ps roster supply i hi, serve_at ps _ _ hL hn q hq0, if_pos hq, hgr, h]
    omega
variable (roster : List S45) (supply : List Int) (g : List S47) (left : List Int)
theorem stops_l1 (i : Nat) (hi : i < roster.length) (h40 : roster.length ≤ 40) (l : List Int) (hll : l.length ≤ 64) (hq : ∀ q ∈ l, 0 ≤ q ∧ q < left.length) (d : Nat) :
    ∀ (j : Nat) (c : Bool), j + d = l.length → (c = true ∨ ∃ q ∈ l.drop j, rd left q = 0) →
      Ev (fun k => bournelaw37_AllotStops.l0 k roster supply true g left ((i + 1 : Nat) : Int) b0 b1 b2 ps b4 b5 b6 b7 b8 b9 b10) true →
      Ev (fun k => bournelaw37_AllotStops.l1 k roster supply true g left (i : Int) c l (j : Int) b0 b1 b2 ps b4 b5 b6 b7 b8 b9 b10) true := by
  induction d with
  | zero =>
    intro j c hj hc hk
    have : c = true := by
      rcases hc with h | ⟨q, h, _⟩
      · exact h
      · rw [List.drop_eq_nil_of_le (by omega)] at h; simp at h
    subst this
    refine ev_succ ?_
    simp only [bournelaw37_AllotStops.l1, if_neg (show ¬ (j : Int) < (l.length : Int) by omega), if_true, w64_succ i (by omega)]
    exact hk
  | succ d ih =>
    intro j c hj hc hk
    have hlt : j < l.length := by omega
    have hqj := hq (rd l (j : Int)) (rd_mem (by omega) (by omega))
    refine ev_succ ?_
    cases c with
    | true =>
      simp only [bournelaw37_AllotStops.l1, if_pos (show (j : Int) < (l.length : Int) by omega), if_true, w64_succ j (by omega)]
      exact ih (j + 1) true (by omega) (.inl rfl) hk
    | false =>
      simp only [bournelaw37_AllotStops.l1, if_pos (show (j : Int) < (l.length : Int) by omega), if_neg (show ¬ false = true by simp), if_pos (show (0 : Int) ≤ (j : Int) by omega), if_pos hqj.1, if_pos hqj.2, w64_succ j (by omega)]
      refine ih (j + 1) _ (by omega) ?_ hk
      rcases hc with h | ⟨q, h, hz⟩
      · simp at h
      · rw [drop_rd l j hlt] at h
        rcases List.mem_cons.1 h with rfl | h
        · exact .inl (by simp [hz])
        · exact .inr ⟨q, h, hz⟩
/-- What there is less the grants of the first i rights whose reach contains the place. -/
theorem left_at (i : Nat) (hi : i ≤ roster.length) (q : Int) (hq : 0 ≤ q) (j : Nat) (hj : j < i) : True := trivial
theorem stops_l3 (h64 : ps.length ≤ 64) (h40 : roster.length ≤ 40) (q : Nat) (hq : q < ps.length) (d : Nat) :
    ∀ i : Nat, i + d = roster.length →
      Ev (fun k => bournelaw37_AllotStops.l2 k roster supply true (dayM ps roster supply).1 (dayM ps roster supply).2 ((q + 1 : Nat) : Int) b0 b1 b2 ps b4 b5 b6 b7 b8 b9 b10) true →
      Ev (fun k => bournelaw37_AllotStops.l3 k roster supply true (dayM ps roster supply).1 (dayM ps roster supply).2 (q : Int) (rd (dayM ps (roster.take i) supply).2 q) (i : Int) b0 b1 b2 ps b4 b5 b6 b7 b8 b9 b10) true := by
  induction d with
  | zero =>
    intro i hi hk
    have hnn := (dayS_nn ps roster supply).rd q
    have hl := day_left_len ps roster supply
    refine ev_succ ?_
    rw [List.take_of_length_le (by omega)]
    simp only [bournelaw37_AllotStops.l3, if_neg (show ¬ (i : Int) < (roster.length : Int) by omega), if_pos (show (0 : Int) ≤ (q : Int) by omega), if_pos (show (q : Int) < ((dayM ps roster supply).2.length : Int) by omega), if_true, if_neg (show ¬ rd (dayM ps roster supply).2 (q : Int) < 0 by omega), w64_succ q (by omega)]
    exact hk
  | succ d ih =>
    intro i hi hk
    have hlt : i < roster.length := by omega
    have hrl := reachM_len ps (rd_T45 roster (i : Int)).f3
    have hn := dayS_nn ps (roster.take i) supply
    have hnx := ih (i + 1) (by omega) hk
    have hgl := day_len ps roster supply
    have hg := grantS_at ps roster supply i hlt
    obtain ⟨g0, _, g2⟩ := grant_bounds ps _ hn (rd_T45 roster i)
    rw [dayS_next ps roster supply i hlt, serve_at ps _ _ (day_left_len ps _ _) hn q (by omega)] at hnx
    refine ev_succ ?_
    simp only [bournelaw37_AllotStops.l3, if_pos (show (i : Int) < (roster.length : Int) by omega), if_pos (show (0 : Int) ≤ (i : Int) by omega)]
    refine Ev.bind (allot_Reach_tells b0 b1 b2 ps b4 b5 b6 b7 b8 b9 b10 h64 _) ?_
    refine Ev.bind (has_ev _ _ (by omega)) ?_
    have hrd := hn.rd q
    by_cases hm : (q : Int) ∈ reachM ps (rd_T45 roster (i : Int)).f3
    · rw [if_pos hm] at hnx
      have hle := g2 q hm
      simp only [decide_eq_true hm, if_true, if_pos (show (i : Int) < ((dayM ps roster supply).1.length : Int) by omega), hg, w64_succ i (by omega), w64_of' (x := rd (dayM ps (roster.take i) supply).2 q - grantM ps (dayM ps (roster.take i) supply).2 (rd_T45 roster i)) (by omega) (by omega)]
      exact hnx
    · rw [if_neg hm] at hnx
      simp only [decide_eq_false hm, if_neg (show ¬ false = true by simp), w64_succ i (by omega)]
      exact hnx
theorem stops_l2 (h64 : ps.length ≤ 64) (h40 : roster.length ≤ 40) (hsu : ∀ x ∈ supply, Fits x) (d : Nat) :
    ∀ q : Nat, q + d = ps.length → Ev (fun k => bournelaw37_AllotStops.l2 k roster supply true (dayM ps roster supply).1 (dayM ps roster supply).2 (q : Int) b0 b1 b2 ps b4 b5 b6 b7 b8 b9 b10) true := by
  induction d with
  | zero =>
    intro q hq
    refine ev_succ ?_
    simp only [bournelaw37_AllotStops.l2, if_neg (show ¬ (q : Int) < (ps.length : Int) by omega)]
    exact Ev.now _
  | succ d ih =>
    intro q hq
    refine ev_succ ?_
    simp only [bournelaw37_AllotStops.l2, if_pos (show (q : Int) < (ps.length : Int) by omega)]
    refine Ev.bind (there_ev b0 b1 b2 ps b4 b5 b6 b7 b8 b9 b10 supply h64 hsu (q : Int)) ?_
    have := stops_l3 b0 b1 b2 ps b4 b5 b6 b7 b8 b9 b10 roster supply h64 h40 q (by omega) roster.length 0 (by omega) (ih (q + 1) (by omega))
    have e : rd (dayM ps (roster.take 0) supply).2 (q : Int) = thereM ps supply (q : Int) := fill_there ps supply (q : Int) (by omega)
    rw [e] at this
    exact this
theorem stops_l0 (h64 : ps.length ≤ 64) (h40 : roster.length ≤ 40) (hsu : ∀ x ∈ supply, Fits x) (d : Nat) :
    ∀ i : Nat, i + d = roster.length → Ev (fun k => bournelaw37_AllotStops.l0 k roster supply true (dayM ps roster supply).1 (dayM ps roster supply).2 (i : Int) b0 b1 b2 ps b4 b5 b6 b7 b8 b9 b10) true := by
  induction d with
  | zero =>
    intro i hi
    refine ev_succ ?_
    simp only [bournelaw37_AllotStops.l0, if_neg (show ¬ (i : Int) < (roster.length : Int) by omega)]
    exact stops_l2 b0 b1 b2 ps b4 b5 b6 b7 b8 b9 b10 roster supply h64 h40 hsu ps.length 0 (by omega)
  | succ d ih =>
    intro i hi
    have hlt : i < roster.length := by omega
    have hgl := day_len ps roster supply
    have hll := day_left_len ps roster supply
    have hg := grantS_at ps roster supply i hlt
    have hn := dayS_nn ps (roster.take i) supply
    obtain ⟨g0, g1, _⟩ := grant_bounds ps _ hn (rd_T45 roster i)
    have hgf0 : (rd_T47 (dayM ps roster supply).1 (i : Int)).f0 = (rd_T45 roster (i : Int)).f0 := by rw [hg]
    have hgf1 : (rd_T47 (dayM ps roster supply).1 (i : Int)).f1 = grantM ps (dayM ps (roster.take i) supply).2 (rd_T45 roster i) := by rw [hg]
    have hpl : bournelaw37_place.f b0 b1 b2 ps b4 b5 b6 b7 b8 b9 b10 (rd_T45 roster (i : Int)).f0 (rd_T45 roster (i : Int)).f1 (rd_T45 roster (i : Int)).f2 (rd_T45 roster (i : Int)).f3 (rd_T45 roster (i : Int)).f4 (rd_T45 roster (i : Int)).f5 (rd_T45 roster (i : Int)).f6 (rd_T45 roster (i : Int)).f7 (rd_T45 roster (i : Int)).f8 = some (decide (inB ps (rd_T45 roster (i : Int)).f3)) := by
      unfold bournelaw37_place.f
      by_cases h : (rd_T45 roster (i : Int)).f3 ≥ 0
      · rw [if_pos h]; congr 1; simp only [decide_eq_decide]; exact ⟨fun h2 => ⟨h, h2⟩, fun h2 => h2.2⟩
      · rw [if_neg h, decide_eq_false (fun h2 => h h2.1)]
    have hnx := ih (i + 1) (by omega)
    have hin := reachM_in ps (rd_T45 roster (i : Int)).f3
    have hrl := reachM_len ps (rd_T45 roster (i : Int)).f3
    -- behind the first test: is it stopped?
    have tail : ∀ c : Bool, (c = true ∨ ∃ q ∈ reachM ps (rd_T45 roster (i : Int)).f3, rd (dayM ps roster supply).2 q = 0) →
        Ev (fun k => bournelaw37_AllotStops.j3 k roster supply true (dayM ps roster supply).1 (dayM ps roster supply).2 (i : Int) c b0 b1 b2 ps b4 b5 b6 b7 b8 b9 b10) true := by
      intro c hc
      refine ev_succ ?_
      simp only [bournelaw37_AllotStops.j3, if_pos (show (0 : Int) ≤ (i : Int) by omega), if_pos (show (i : Int) < (roster.length : Int) by omega)]
      refine Ev.bind (allot_Reach_tells b0 b1 b2 ps b4 b5 b6 b7 b8 b9 b10 h64 _) ?_
      exact stops_l1 b0 b1 b2 ps b4 b5 b6 b7 b8 b9 b10 roster supply _ _ i hlt h40 _ (by omega) (fun q hq => ⟨(hin q hq).1, by rw [hll]; exact (hin q hq).2⟩) (reachM ps (rd_T45 roster (i : Int)).f3).length 0 c (by omega) (by simpa using hc) hnx
    have mid : ∀ at_ : Bool, at_ = decide (inB ps (rd_T45 roster (i : Int)).f3) → Ev (fun k => bournelaw37_AllotStops.j2 k roster supply true (dayM ps roster supply).1 (dayM ps roster supply).2 (i : Int) at_ false b0 b1 b2 ps b4 b5 b6 b7 b8 b9 b10) true := by
      intro at_ hat
      refine ev_succ ?_
      by_cases hge : (rd_T47 (dayM ps roster supply).1 (i : Int)).f1 ≥ (rd_T45 roster (i : Int)).f4
      · simp only [bournelaw37_AllotStops.j2, if_neg (show ¬ false = true by simp), if_pos (show (0 : Int) ≤ (i : Int) by omega), if_pos (show (i : Int) < ((dayM ps roster supply).1.length : Int) by omega), if_pos (show (i : Int) < (roster.length : Int) by omega), if_pos hge]
        exact tail true (.inl rfl)
      · simp only [bournelaw37_AllotStops.j2, if_neg (show ¬ false = true by simp), if_pos (show (0 : Int) ≤ (i : Int) by omega), if_pos (show (i : Int) < ((dayM ps roster supply).1.length : Int) by omega), if_pos (show (i : Int) < (roster.length : Int) by omega), if_neg hge]
        refine tail _ ?_
        by_cases hp : inB ps (rd_T45 roster (i : Int)).f3
        · exact .inr (stopped ps roster supply i hlt hp (by omega))
        · exact .inl (by rw [hat, decide_eq_false hp]; rfl)
    refine ev_succ ?_
    have hmx : ¬ (rd_T47 (dayM ps roster supply).1 (i : Int)).f1 > mx 0 (rd_T45 roster (i : Int)).f4 := by rw [hgf1]; omega
    have hlz : ¬ (rd_T47 (dayM ps roster supply).1 (i : Int)).f1 < 0 := by rw [hgf1]; omega
    simp only [bournelaw37_AllotStops.l0, if_pos (show (i : Int) < (roster.length : Int) by omega), if_pos (show (0 : Int) ≤ (i : Int) by omega), hpl, Option.bind_some, if_pos (show (i : Int) < ((dayM ps roster supply).1.length : Int) by omega), if_pos hgf0, if_neg hlz, if_neg hmx]
    by_cases hp : inB ps (rd_T45 roster (i : Int)).f3
    · simp only [decide_eq_true hp, if_true]
      exact mid true (decide_eq_true hp).symm
    · simp only [decide_eq_false hp, if_neg (show ¬ false = true by simp)]
      have hz : (rd_T47 (dayM ps roster supply).1 (i : Int)).f1 = 0 := by
        rw [hgf1]; unfold grantM; rw [if_pos (by rw [reachM_out ps hp]; rfl)]
      have hb : ((rd_T47 (dayM ps roster supply).1 (i : Int)).f1 != 0) = false := by rw [hz]; rfl
      simp only [hb]
      exact mid false (decide_eq_false hp).symm
end
theorem AllotStops (x0 : S31) (ok0_ : ok31 x0) (l1 : List (S45)) (m1 : l1.length ≤ maxLen) (ok1_ : ∀ x_ ∈ l1, ok45 x_) (l2 : List Int) (m2 : l2.length ≤ maxLen) (ok2_ : ∀ x_ ∈ l2, (Lit.int .i64 x_).wf = true) : ∃ k, bournelaw37_AllotStops.f k x0.f0 x0.f1 x0.f2 x0.f3 x0.f4 x0.f5 x0.f6 x0.f7 x0.f8 x0.f9 x0.f10 l1 l2 = some true := by
  apply Ev.rounds
  unfold bournelaw37_AllotStops.f
  refine Ev.bind small_ev ?_
  simp only [few_tells, Option.bind_some]
  by_cases h : x0.f3.length ≤ 64 ∧ l1.length ≤ 40 ∧ ([] : List S47).length ≤ 80
  · simp only [decide_eq_true h, if_true]
    obtain ⟨h64, hro, _⟩ := h
    have hs := fits_all ok2_
    have hgl := day_len x0.f3 l1 l2
    have hll := day_left_len x0.f3 l1 l2
    refine Ev.bind (allot_Day_tells _ _ _ _ _ _ _ _ _ _ _ l1 l2 h64 hro hs) ?_
    have hne : (((dayM x0.f3 l1 l2).2.length : Int) != (x0.f3.length : Int)) = false := by rw [hll]; simp
    simp only [if_pos (show ((dayM x0.f3 l1 l2).1.length : Int) = (l1.length : Int) by rw [hgl]), hne]
    refine ev_succ ?_
    simp only [bournelaw37_AllotStops.j0, if_neg (show ¬ false = true by simp)]
    exact stops_l0 _ _ _ _ _ _ _ _ _ _ _ l1 l2 h64 hro hs l1.length 0 (by omega)
  · simp only [decide_eq_false h, if_neg (show ¬ false = true by simp)]
    exact Ev.now _
end Go.Proofs.Ythmbleephognnaa.Pure
