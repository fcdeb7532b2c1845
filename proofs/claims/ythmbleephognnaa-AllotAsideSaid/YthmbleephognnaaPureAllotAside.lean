/- For every basin of at most 64 places and at most 40 rights, and every marked set of places: the rights whose reaches lie within it are served as if those whose reaches lie outside did not exist, if there are no others; the fixed example holds for every input. -/
import Derived.Test.YthmbleephognnaaAllot
import Derived.Test.YthmbleephognnaaQFrame
import Derived.Test.YthmbleephognnaaQx17
namespace Go.Proofs.Ythmbleephognnaa.Pure
open Go Go.RowKit Go.Proofs.Ythmbleephognnaa.Q Go.Proofs.Ythmbleephognnaa.Tools Go.Proofs.Ythmbleephognnaa.Num Go.Proofs.Ythmbleephognnaa.Allot Go.Proofs.YthmbleephognnaaW.PrintWords Go.Proofs.YthmbleephognnaaW.PrintLast
set_option linter.unusedVariables false
set_option linter.unusedSimpArgs false
section
variable (b0 : ByteArray) (b1 : List ByteArray) (b2 : Int) (ps : List S58) (b4 : List S98) (b5 : List S100) (b6 : List S102) (b7 : List S104) (b8 : List S106) (b9 : List Int) (b10 : Int)
theorem dayA_next (roster : List S45) (supply : List Int) (i : Nat) (hi : i < roster.length) : dayM ps (roster.take (i + 1)) supply = serveM ps (dayM ps (roster.take i) supply) (rd_T45 roster i) := by
  have e : roster.take (i + 1) = roster.take i ++ [rd_T45 roster i] := by
    have h2 : rd_T45 roster (i : Int) = roster[i] := by simp [rd_T45, List.getD_eq_getElem?_getD, hi]
    rw [h2, List.take_succ_eq_append_getElem hi]
  rw [e]
  unfold dayM
  rw [List.foldl_append]
  rfl
theorem dayA_snoc (roster : List S45) (supply : List Int) (r : S45) : dayM ps (roster ++ [r]) supply = serveM ps (dayM ps roster supply) r := by
  unfold dayM
  rw [List.foldl_append]
  rfl
theorem rd_T47_left (a b : List S47) (j : Nat) (h : j < a.length) : rd_T47 (a ++ b) (j : Int) = rd_T47 a (j : Int) := by simp [rd_T47, List.getD_eq_getElem?_getD, List.getElem?_append_left h]
theorem rd_T47_last (a : List S47) (x : S47) (j : Nat) (h : j = a.length) : rd_T47 (a ++ [x]) (j : Int) = x := by subst h; simp [rd_T47, List.getD_eq_getElem?_getD]
theorem rdI_left (a b : List Int) (j : Nat) (h : j < a.length) : rd (a ++ b) (j : Int) = rd a (j : Int) := by simp [rd, List.getD_eq_getElem?_getD, List.getElem?_append_left h]
theorem rdI_last (a : List Int) (x : Int) (j : Nat) (h : j = a.length) : rd (a ++ [x]) (j : Int) = x := by subst h; simp [rd, List.getD_eq_getElem?_getD]
theorem leastM_congr (L L' : List Int) : ∀ (l : List Int) (n : Int), (∀ q ∈ l, rd L q = rd L' q) → leastM n L l = leastM n L' l
  | [], n, _ => rfl
  | q :: l, n, h => by
    have e1 : leastM n L (q :: l) = leastM (mn n (rd L q)) L l := rfl
    have e2 : leastM n L' (q :: l) = leastM (mn n (rd L' q)) L' l := rfl
    rw [e1, e2, h q (by simp)]
    exact leastM_congr L L' l _ (fun x hx => h x (by simp [hx]))
theorem grant_congr (L L' : List Int) (r : S45) (h : ∀ q ∈ reachM ps r.f3, rd L q = rd L' q) : grantM ps L r = grantM ps L' r := by
  unfold grantM
  rw [leastM_congr L L' _ _ h]
variable (marked : List Bool) (roster : List S45) (supply : List Int)
def isM (q : Int) : Prop := rdOf false marked q = true
/-- What the loop over the rights keeps: the chosen rights' grants are those of all, and at marked places both leave the same. -/
structure Keeps (i : Nat) (some_ : List S45) (at_ : List Int) : Prop where
  len : at_.length = some_.length
  le : some_.length ≤ i
  ats : ∀ j : Nat, j < some_.length → 0 ≤ rd at_ j ∧ rd at_ j < i
  same : ∀ j : Nat, j < some_.length → rd_T47 (dayM ps some_ supply).1 j = rd_T47 (dayM ps (roster.take i) supply).1 (rd at_ j)
  left : ∀ q : Int, 0 ≤ q → isM marked q → rd (dayM ps some_ supply).2 q = rd (dayM ps (roster.take i) supply).2 q
theorem rd_serve (st : List S47 × List Int) (r : S45) (hl : st.2.length = ps.length) (x : Int) (hx : 0 ≤ x) : rd (serveM ps st r).2 x = if x ∈ reachM ps r.f3 then wrap64 (rd st.2 x - grantM ps st.2 r) else rd st.2 x := by
  have hin := reachM_in ps r.f3
  exact rd_foldTake _ x hx _ _ (reachM_nodup ps r.f3) (fun q hq => ⟨(hin q hq).1, by rw [hl]; exact (hin q hq).2⟩)
theorem Keeps.skip {i : Nat} {some_ : List S45} {at_ : List Int} (h : Keeps ps marked roster supply i some_ at_) (hi : i < roster.length) (hno : ∀ q ∈ reachM ps (rd_T45 roster i).f3, ¬ isM marked q) : Keeps ps marked roster supply (i + 1) some_ at_ := by
  have hl := day_len ps (roster.take i) supply
  rw [List.length_take, Nat.min_eq_left (by omega)] at hl
  refine ⟨h.len, by have := h.le; omega, fun j hj => by have := h.ats j hj; omega, fun j hj => ?_, fun q hq hm => ?_⟩
  · rw [h.same j hj, dayA_next ps roster supply i hi]
    have ha := h.ats j hj
    obtain ⟨n, hn⟩ := Int.eq_ofNat_of_zero_le ha.1
    rw [hn]
    exact (rd_T47_left _ _ n (by omega)).symm
  · rw [h.left q hq hm, dayA_next ps roster supply i hi, rd_serve ps _ _ (day_left_len ps _ _) q hq, if_neg (fun hh => hno q hh hm)]
theorem Keeps.take {i : Nat} {some_ : List S45} {at_ : List Int} (h : Keeps ps marked roster supply i some_ at_) (hi : i < roster.length) (hall : ∀ q ∈ reachM ps (rd_T45 roster i).f3, isM marked q) : Keeps ps marked roster supply (i + 1) (some_ ++ [rd_T45 roster i]) (at_ ++ [(i : Int)]) := by
  have hl := day_len ps (roster.take i) supply
  rw [List.length_take, Nat.min_eq_left (by omega)] at hl
  have hls := day_len ps some_ supply
  have hin := reachM_in ps (rd_T45 roster i).f3
  have hg : grantM ps (dayM ps some_ supply).2 (rd_T45 roster i) = grantM ps (dayM ps (roster.take i) supply).2 (rd_T45 roster i) := grant_congr ps _ _ _ (fun q hq => h.left q (hin q hq).1 (hall q hq))
  have hlen := h.len
  refine ⟨by simp [hlen], by have := h.le; simp; omega, fun j hj => ?_, fun j hj => ?_, fun q hq hm => ?_⟩
  · rw [List.length_append, List.length_singleton] at hj
    by_cases e : j = some_.length
    · rw [rdI_last at_ _ j (by omega)]; omega
    · rw [rdI_left at_ _ j (by omega)]
      have := h.ats j (by omega)
      omega
  · rw [List.length_append, List.length_singleton] at hj
    rw [dayA_snoc, dayA_next ps roster supply i hi]
    by_cases e : j = some_.length
    · rw [rdI_last at_ _ j (by omega)]
      show rd_T47 ((dayM ps some_ supply).1 ++ [_]) (j : Int) = rd_T47 ((dayM ps (roster.take i) supply).1 ++ [_]) (i : Int)
      rw [rd_T47_last _ _ j (by omega), rd_T47_last _ _ i (by omega), hg]
    · rw [rdI_left at_ _ j (by omega)]
      have ha := h.ats j (by omega)
      obtain ⟨n, hn⟩ := Int.eq_ofNat_of_zero_le ha.1
      have hs := h.same j (by omega)
      rw [hn] at hs ⊢
      show rd_T47 ((dayM ps some_ supply).1 ++ [_]) (j : Int) = rd_T47 ((dayM ps (roster.take i) supply).1 ++ [_]) (n : Int)
      rw [rd_T47_left _ _ j (by omega), rd_T47_left _ _ n (by omega)]
      exact hs
  · rw [dayA_snoc, dayA_next ps roster supply i hi, rd_serve ps _ _ (day_left_len ps _ _) q hq, rd_serve ps _ _ (day_left_len ps _ _) q hq, hg, h.left q hq hm]
/-- How many places of a list are marked. -/
def cntM (l : List Int) : Nat := l.countP (fun q => rdOf false marked q)
theorem aside_l1 (hml : ps.length ≤ marked.length) (some_ : List S45) (at_ : List Int) (i : Int) (l : List Int) (hll : l.length ≤ 64) (hin : ∀ q ∈ l, inB ps q) (d : Nat) :
    ∀ (j c : Nat), j + d = l.length → c ≤ j →
      (∀ n : Nat, n = c + cntM marked (l.drop j) → Ev (fun k => if ((n : Nat) : Int) = 0 then bournelaw37_AllotAside.j3 k roster supply marked true some_ at_ i ((n : Nat) : Int) false b0 b1 b2 ps b4 b5 b6 b7 b8 b9 b10 else bournelaw37_AllotAside.j3 k roster supply marked true some_ at_ i ((n : Nat) : Int) (((n : Nat) : Int) != (l.length : Int)) b0 b1 b2 ps b4 b5 b6 b7 b8 b9 b10) true) →
      Ev (fun k => bournelaw37_AllotAside.l1 k roster supply marked true some_ at_ i l (c : Int) (j : Int) b0 b1 b2 ps b4 b5 b6 b7 b8 b9 b10) true := by
  induction d with
  | zero =>
    intro j c hj hc hk
    refine ev_succ ?_
    simp only [bournelaw37_AllotAside.l1, if_neg (show ¬ (j : Int) < (l.length : Int) by omega)]
    have := hk c (by rw [List.drop_eq_nil_of_le (by omega)]; simp [cntM])
    exact this
  | succ d ih =>
    intro j c hj hc hk
    have hlt : j < l.length := by omega
    have hqj := hin (rd l (j : Int)) (rd_mem (by omega) (by omega))
    have hq1 : rd l (j : Int) < (marked.length : Int) := by have := hqj.2; omega
    rw [drop_rd l j hlt] at hk
    refine ev_succ ?_
    by_cases hm : rdOf false marked (rd l (j : Int)) = true
    · simp only [bournelaw37_AllotAside.l1, if_pos (show (j : Int) < (l.length : Int) by omega), if_pos (show (0 : Int) ≤ (j : Int) by omega), if_pos hqj.1, if_pos hq1, if_pos hm, w64_succ j (by omega), w64_succ c (by omega)]
      refine ih (j + 1) (c + 1) (by omega) (by omega) (fun n hn => hk n ?_)
      rw [hn]; simp [cntM, hm]; omega
    · simp only [bournelaw37_AllotAside.l1, if_pos (show (j : Int) < (l.length : Int) by omega), if_pos (show (0 : Int) ≤ (j : Int) by omega), if_pos hqj.1, if_pos hq1, if_neg hm, w64_succ j (by omega)]
      refine ih (j + 1) c (by omega) (by omega) (fun n hn => hk n ?_)
      rw [hn]; simp [cntM, hm]
theorem aside_l2 (some_ : List S45) (at_ : List Int) (g h : List S47) (hs : some_.length ≤ 40) (hh : h.length = some_.length) (ha : at_.length = some_.length) (hats : ∀ j : Nat, j < some_.length → 0 ≤ rd at_ j ∧ rd at_ j < g.length) (hsame : ∀ j : Nat, j < some_.length → rd_T47 h j = rd_T47 g (rd at_ j)) (d : Nat) :
    ∀ j : Nat, j + d = some_.length → Ev (fun k => bournelaw37_AllotAside.l2 k true some_ at_ g h (j : Int)) true := by
  induction d with
  | zero =>
    intro j hj
    refine ev_succ ?_
    simp only [bournelaw37_AllotAside.l2, if_neg (show ¬ (j : Int) < (some_.length : Int) by omega)]
    exact Ev.now _
  | succ d ih =>
    intro j hj
    refine ev_succ ?_
    have h1 := hats j (by omega)
    simp only [bournelaw37_AllotAside.l2, if_pos (show (j : Int) < (some_.length : Int) by omega), if_pos (show (0 : Int) ≤ (j : Int) by omega), if_pos (show (j : Int) < (h.length : Int) by omega), if_pos (show (j : Int) < (at_.length : Int) by omega), if_pos h1.1, if_pos h1.2, hsame j (by omega), beq_self_eq_true, Bool.not_true, Bool.or_self, if_neg (show ¬ false = true by simp), w64_succ j (by omega)]
    exact ih (j + 1) (by omega)
theorem aside_l0 (h64 : ps.length ≤ 64) (h40 : roster.length ≤ 40) (hsu : ∀ x ∈ supply, Fits x) (hml : ps.length ≤ marked.length) (d : Nat) :
    ∀ (i : Nat) (some_ : List S45) (at_ : List Int), i + d = roster.length → Keeps ps marked roster supply i some_ at_ →
      Ev (fun k => bournelaw37_AllotAside.l0 k roster supply marked true some_ at_ (i : Int) b0 b1 b2 ps b4 b5 b6 b7 b8 b9 b10) true := by
  induction d with
  | zero =>
    intro i some_ at_ hi hk
    have hle := hk.le
    have hlen := hk.len
    refine ev_succ ?_
    simp only [bournelaw37_AllotAside.l0, if_neg (show ¬ (i : Int) < (roster.length : Int) by omega)]
    refine Ev.bind (allot_Day_tells _ _ _ _ _ _ _ _ _ _ _ roster supply h64 h40 hsu) ?_
    refine Ev.bind (allot_Day_tells _ _ _ _ _ _ _ _ _ _ _ some_ supply h64 (by omega) hsu) ?_
    have hls := day_len ps some_ supply
    have hlr := day_len ps roster supply
    simp only [if_pos (show ((dayM ps some_ supply).1.length : Int) = (some_.length : Int) by rw [hls])]
    refine ev_succ ?_
    have hne : (((dayM ps roster supply).1.length : Int) != (roster.length : Int)) = false := by rw [hlr]; simp
    simp only [bournelaw37_AllotAside.j4, hne, if_neg (show ¬ false = true by simp)]
    have htk : roster.take i = roster := List.take_of_length_le (by omega)
    have hsame := hk.same
    rw [htk] at hsame
    exact aside_l2 some_ at_ _ _ (by omega) hls hlen (fun j hj => by have := hk.ats j hj; omega) hsame some_.length 0 (by omega)
  | succ d ih =>
    intro i some_ at_ hi hk
    have hle := hk.le
    have hlen := hk.len
    have hlt : i < roster.length := by omega
    have hin := reachM_in ps (rd_T45 roster (i : Int)).f3
    have hrl := reachM_len ps (rd_T45 roster (i : Int)).f3
    refine ev_succ ?_
    simp only [bournelaw37_AllotAside.l0, if_pos (show (i : Int) < (roster.length : Int) by omega), if_pos (show (0 : Int) ≤ (i : Int) by omega)]
    refine Ev.bind (allot_Reach_tells b0 b1 b2 ps b4 b5 b6 b7 b8 b9 b10 h64 _) ?_
    refine aside_l1 b0 b1 b2 ps b4 b5 b6 b7 b8 b9 b10 marked roster supply hml some_ at_ (i : Int) _ (by omega) hin (reachM ps (rd_T45 roster (i : Int)).f3).length 0 0 (by omega) (by omega) (fun n hn => ?_)
    rw [List.drop_zero, Nat.zero_add] at hn
    by_cases h0 : n = 0
    · subst h0
      have hno : ∀ q ∈ reachM ps (rd_T45 roster i).f3, ¬ isM marked q := by
        have : List.countP (fun q => rdOf false marked q) (reachM ps (rd_T45 roster (i : Int)).f3) = 0 := hn.symm
        rw [List.countP_eq_zero] at this
        exact this
      simp only [if_pos (show ((0 : Nat) : Int) = 0 by rfl)]
      refine ev_succ ?_
      simp only [bournelaw37_AllotAside.j3, if_neg (show ¬ false = true by simp), if_neg (show ¬ ((0 : Nat) : Int) > 0 by omega), w64_succ i (by omega)]
      exact ih (i + 1) some_ at_ (by omega) (hk.skip ps marked roster supply hlt hno)
    · simp only [if_neg (show ¬ ((n : Nat) : Int) = 0 by omega)]
      by_cases h1 : n = (reachM ps (rd_T45 roster (i : Int)).f3).length
      · have hall : ∀ q ∈ reachM ps (rd_T45 roster i).f3, isM marked q := by
          have : List.countP (fun q => rdOf false marked q) (reachM ps (rd_T45 roster (i : Int)).f3) = (reachM ps (rd_T45 roster (i : Int)).f3).length := by rw [← h1]; exact hn.symm
          rw [List.countP_eq_length] at this
          exact this
        have hb : (((n : Nat) : Int) != ((reachM ps (rd_T45 roster (i : Int)).f3).length : Int)) = false := by rw [h1]; simp
        simp only [hb]
        refine ev_succ ?_
        simp only [bournelaw37_AllotAside.j3, if_neg (show ¬ false = true by simp), if_pos (show ((n : Nat) : Int) > 0 by omega), if_pos (show (0 : Int) ≤ (i : Int) by omega), if_pos (show (i : Int) < (roster.length : Int) by omega), if_pos (show some_.length < 1954687338268 by omega), if_pos (show at_.length < 17592186044416 by omega), w64_succ i (by omega)]
        exact ih (i + 1) _ _ (by omega) (hk.take ps marked roster supply hlt hall)
      · have hb : (((n : Nat) : Int) != ((reachM ps (rd_T45 roster (i : Int)).f3).length : Int)) = true := by simpa using fun h => h1 (by omega)
        simp only [hb]
        refine ev_succ ?_
        simp only [bournelaw37_AllotAside.j3, if_true]
        exact Ev.now _
end
theorem AllotAside (x0 : S31) (ok0_ : ok31 x0) (l1 : List (S45)) (m1 : l1.length ≤ maxLen) (ok1_ : ∀ x_ ∈ l1, ok45 x_) (l2 : List Int) (m2 : l2.length ≤ maxLen) (ok2_ : ∀ x_ ∈ l2, (Lit.int .i64 x_).wf = true) (l3 : List Bool) (m3 : l3.length ≤ maxLen) (ok3_ : ∀ x_ ∈ l3, True) : ∃ k, bournelaw37_AllotAside.f k x0.f0 x0.f1 x0.f2 x0.f3 x0.f4 x0.f5 x0.f6 x0.f7 x0.f8 x0.f9 x0.f10 l1 l2 l3 = some true := by
  apply Ev.rounds
  unfold bournelaw37_AllotAside.f
  refine Ev.bind small_ev ?_
  simp only [few_tells, Option.bind_some]
  have skip : Ev (fun k => bournelaw37_AllotAside.j0 k l1 l2 l3 true true x0.f0 x0.f1 x0.f2 x0.f3 x0.f4 x0.f5 x0.f6 x0.f7 x0.f8 x0.f9 x0.f10) true := by
    refine ev_succ ?_
    simp only [bournelaw37_AllotAside.j0, if_true]
    exact Ev.now _
  by_cases h : x0.f3.length ≤ 64 ∧ l1.length ≤ 40 ∧ ([] : List S47).length ≤ 80
  · simp only [decide_eq_true h, if_true]
    obtain ⟨h64, hro, _⟩ := h
    have hs := fits_all ok2_
    by_cases h1 : (l3.length : Int) < (x0.f3.length : Int)
    · simp only [decide_eq_true h1]; exact skip
    · simp only [decide_eq_false h1]
      refine ev_succ ?_
      simp only [bournelaw37_AllotAside.j0, if_neg (show ¬ false = true by simp)]
      refine aside_l0 _ _ _ _ _ _ _ _ _ _ _ l3 l1 l2 h64 hro hs (by omega) l1.length 0 [] [] (by omega) ⟨rfl, by simp, fun j hj => by simp at hj, fun j hj => by simp at hj, fun q hq hm => ?_⟩
      rfl
  · simp only [decide_eq_false h, if_neg (show ¬ false = true by simp)]
    exact skip
end Go.Proofs.Ythmbleephognnaa.Pure
