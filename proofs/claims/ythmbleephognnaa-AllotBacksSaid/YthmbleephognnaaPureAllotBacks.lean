/- For every basin of at most 64 places and at most 40 rights with different Ids: what returns from a day's grants is at most the sum of the grants of the rights that return there; the fixed example holds for every input. -/
import Derived.Test.YthmbleephognnaaAllot
import Derived.Test.YthmbleephognnaaQFrame
import Derived.Test.YthmbleephognnaaQx18
namespace Go.Proofs.Ythmbleephognnaa.Pure
open Go Go.RowKit Go.Proofs.Ythmbleephognnaa.Q Go.Proofs.Ythmbleephognnaa.Tools Go.Proofs.Ythmbleephognnaa.Num Go.Proofs.Ythmbleephognnaa.Allot Go.Proofs.YthmbleephognnaaW.PrintWords Go.Proofs.YthmbleephognnaaW.PrintLast
set_option linter.unusedVariables false
set_option linter.unusedSimpArgs false
section
variable (b0 : ByteArray) (b1 : List ByteArray) (b2 : Int) (ps : List S58) (b4 : List S98) (b5 : List S100) (b6 : List S102) (b7 : List S104) (b8 : List S106) (b9 : List Int) (b10 : Int)
/-- The sum of the grants of the rights that return to q, from right i on. -/
def mostStep (roster : List S45) (g : List S47) (q : Int) (m : Int) (i : Nat) : Int := if (rd_T45 roster i).f8 = q ∧ (rd_T45 roster i).f7 > 0 then addM m (rd_T47 g i).f1 else m
theorem idx_self : ∀ (l : List S45) (i : Nat), i < l.length → (∀ a b : Nat, a < l.length → b < l.length → (rd_T45 l a).f0 = (rd_T45 l b).f0 → a = b) → idxRight l (rd_T45 l i).f0 = i := by
  intro l i hi hd
  exact idxRight_hit l _ i (fun j hj h => by have := hd j i (by omega) hi h; omega) hi rfl
/-- The grants carry the rights' Ids, in the roster's order. -/
theorem day_ids : ∀ (l : List S45) (st : List S47 × List Int) (i : Nat), i < l.length → (rd_T47 (l.foldl (serveM ps) st).1 (st.1.length + i : Nat)).f0 = (rd_T45 l i).f0
  | [], st, i, h => by simp at h
  | r :: l, st, i, h => by
    rw [List.foldl_cons]
    cases i with
    | zero =>
      have hk : ∀ (l : List S45) (st : List S47 × List Int) (j : Nat), j < st.1.length → rd_T47 (l.foldl (serveM ps) st).1 (j : Int) = rd_T47 st.1 (j : Int) := by
        intro l
        induction l with
        | nil => intro st j _; rfl
        | cons r l ih =>
          intro st j hj
          rw [List.foldl_cons, ih (serveM ps st r) j (by simp [serveM]; omega)]
          simp [serveM, rd_T47, List.getD_eq_getElem?_getD, List.getElem?_append_left hj]
      rw [hk l (serveM ps st r) (st.1.length + 0) (by simp [serveM])]
      simp [serveM, rd_T47, rd_T45]
    | succ i =>
      have := day_ids l (serveM ps st r) i (by simpa using h)
      have e : (serveM ps st r).1.length + i = st.1.length + (i + 1) := by simp [serveM]; omega
      rw [e] at this
      rw [this]
      simp [rd_T45]
theorem day_litres : ∀ (l : List S45) (st : List S47 × List Int), st.2.length = ps.length → NN st.2 → (∀ x ∈ st.1, 0 ≤ x.f1) → ∀ x ∈ (l.foldl (serveM ps) st).1, 0 ≤ x.f1
  | [], st, _, _, h => h
  | r :: l, st, hl, hn, h => by
    rw [List.foldl_cons]
    refine day_litres l _ (by rw [serveM_len]; exact hl) (serveM_nn ps st r hl hn) (fun x hx => ?_)
    rcases List.mem_append.1 hx with hx | hx
    · exact h x hx
    · simp at hx; subst hx; exact (grant_bounds ps st.2 hn r).1
theorem scale_le (a num : Int) (h0 : 0 ≤ a) (h1 : 0 ≤ num) (h2 : num ≤ 1000) : (scaleM a num 1000).1 ≤ a ∧ (num = 0 → (scaleM a num 1000).1 = 0) := by
  unfold scaleM
  split
  · exact ⟨h0, fun _ => rfl⟩
  · split
    · exact ⟨h0, fun _ => rfl⟩
    · refine ⟨?_, fun e => by rw [e]; simp⟩
      have : a * num ≤ a * 1000 := Int.mul_le_mul_of_nonneg_left h2 h0
      show a * num / 1000 ≤ a
      omega
theorem addM_mono {a b c d : Int} (h1 : a ≤ b) (h2 : c ≤ d) (ha : 0 ≤ a) (hc : 0 ≤ c) : addM a c ≤ addM b d := by unfold addM; (repeat' split) <;> omega
theorem clamp_le {n : Int} (h : 0 ≤ n) : clampM n 0 1125899906842624 ≤ n := by unfold clampM; split <;> (try split) <;> omega
/-- What has returned behind the first n grants is at most their sum. -/
theorem back_le (roster : List S45) (g : List S47) (hro : roster.length = g.length) (hid : ∀ i : Nat, i < roster.length → (rd_T47 g i).f0 = (rd_T45 roster i).f0) (hg : ∀ x ∈ g, 0 ≤ x.f1)
    (hd : ∀ a b : Nat, a < roster.length → b < roster.length → (rd_T45 roster a).f0 = (rd_T45 roster b).f0 → a = b) (q : Int) (hq : 0 ≤ q) (d : Nat) :
    ∀ (j : Nat) (out : List Int) (m : Int), j + d = g.length → out.length = ps.length → NN out → rd out q ≤ m → 0 ≤ m →
      NN ((g.drop j).foldl (backStep ps roster) out) ∧ rd ((g.drop j).foldl (backStep ps roster) out) q ≤ (List.range' j d).foldl (mostStep roster g q) m := by
  induction d with
  | zero =>
    intro j out m hj hl hn hm hm0
    rw [List.drop_eq_nil_of_le (by omega)]
    exact ⟨hn, hm⟩
  | succ d ih =>
    intro j out m hj hl hn hm hm0
    rw [rd_T47_drop g j (by omega), List.foldl_cons, List.range'_succ, List.foldl_cons]
    have hi : idxRight roster (rd_T47 g (j : Int)).f0 = (j : Int) := by rw [hid j (by omega)]; exact idx_self roster j (by omega) hd
    have hgj : 0 ≤ (rd_T47 g (j : Int)).f1 := hg _ (by
      have : rd_T47 g (j : Int) = g[j]'(by omega) := by simp [rd_T47, List.getD_eq_getElem?_getD, show j < g.length by omega]
      rw [this]; exact List.getElem_mem _)
    refine ih (j + 1) _ _ (by omega) (by rw [backStep_len]; exact hl) (backStep_nn ps roster out _ hn) ?_ ?_
    · unfold backStep mostStep
      rw [hi, if_neg (by omega)]
      have hc := clampM_in (n := (rd_T45 roster (j : Int)).f7) (lo := 0) (hi := 1000) (by omega)
      have hcg := clampM_in (n := (rd_T47 g (j : Int)).f1) (lo := 0) (hi := 1125899906842624) (by omega)
      obtain ⟨s1, s2⟩ := scale_le (clampM (rd_T47 g (j : Int)).f1 0 1125899906842624) (clampM (rd_T45 roster (j : Int)).f7 0 1000) hcg.1 hc.1 hc.2
      have s0 := (scaleM_nn (clampM (rd_T47 g (j : Int)).f1 0 1125899906842624) (clampM (rd_T45 roster (j : Int)).f7 0 1000) 1000).1
      have hcl := clamp_le hgj
      have hmono : m ≤ addM m (rd_T47 g (j : Int)).f1 ∨ 9223372036854775807 < m := by unfold addM; (repeat' split) <;> omega
      have hrq := hn.rd q
      by_cases hin : inB ps (rd_T45 roster (j : Int)).f8
      · rw [if_pos hin, rd_set out _ q _ hin.1 (by rw [hl]; exact hin.2) hq]
        by_cases he : (rd_T45 roster (j : Int)).f8 = q
        · rw [if_pos he, he]
          by_cases h7 : (rd_T45 roster (j : Int)).f7 > 0
          · rw [if_pos ⟨rfl, h7⟩]
            exact addM_mono hm (by omega) hrq.1 s0
          · rw [if_neg (fun h => h7 h.2)]
            have : clampM (rd_T45 roster (j : Int)).f7 0 1000 = 0 := by unfold clampM; split <;> (try split) <;> omega
            rw [s2 this, addM_zero hrq]
            exact hm
        · rw [if_neg he, if_neg (fun h => he h.1)]
          exact hm
      · rw [if_neg hin]
        split
        · rcases hmono with h | h
          · omega
          · unfold addM; (repeat' split) <;> omega
        · exact hm
    · unfold mostStep
      split
      · unfold addM; (repeat' split) <;> omega
      · exact hm0
theorem backs_l3 (roster : List S45) (g : List S47) (back : List Int) (q : Nat) (hq : q < back.length) (hbl : back.length ≤ 64) (hro : roster.length = g.length) (h40 : roster.length ≤ 40) (hg : ∀ x ∈ g, 0 ≤ x.f1 ∧ Fits x.f1) (hb0 : 0 ≤ rd back q) (t : Bool) (r : Bool) (d : Nat) :
    ∀ (j : Nat) (m : Int), j + d = roster.length → 0 ≤ m ∧ m ≤ 9223372036854775807 → rd back q ≤ (List.range' j d).foldl (mostStep roster g q) m →
      Ev (fun k => bournelaw37_AllotBacks.l2 k roster t g back ((q + 1 : Nat) : Int)) r →
      Ev (fun k => bournelaw37_AllotBacks.l3 k roster t g back (q : Int) m (j : Int)) r := by
  induction d with
  | zero =>
    intro j m hj hm hle hk
    have hle : rd back q ≤ m := hle
    refine ev_succ ?_
    simp only [bournelaw37_AllotBacks.l3, if_neg (show ¬ (j : Int) < (roster.length : Int) by omega), if_pos (show (0 : Int) ≤ (q : Int) by omega), if_pos (show (q : Int) < (back.length : Int) by omega), if_neg (show ¬ rd back (q : Int) < 0 by omega), if_neg (show ¬ rd back (q : Int) > m by omega), w64_succ q (by omega)]
    exact hk
  | succ d ih =>
    intro j m hj hm hle hk
    rw [List.range'_succ, List.foldl_cons] at hle
    have hmem : rd_T47 g (j : Int) ∈ g := by
      have : rd_T47 g (j : Int) = g[j]'(by omega) := by simp [rd_T47, List.getD_eq_getElem?_getD, show j < g.length by omega]
      rw [this]; exact List.getElem_mem _
    refine ev_succ ?_
    by_cases h8 : (rd_T45 roster (j : Int)).f8 = (q : Int)
    · by_cases h7 : (rd_T45 roster (j : Int)).f7 > 0
      · have e : mostStep roster g q m j = addM m (rd_T47 g (j : Int)).f1 := by unfold mostStep; rw [if_pos ⟨h8, h7⟩]
        rw [e] at hle
        simp only [bournelaw37_AllotBacks.l3, if_pos (show (j : Int) < (roster.length : Int) by omega), if_pos (show (0 : Int) ≤ (j : Int) by omega), if_pos h8, if_pos h7, if_pos (show (j : Int) < (g.length : Int) by omega), exact_Add_tells (fits_small hm.1 hm.2) (hg _ hmem).2, Option.bind_some, w64_succ j (by omega)]
        exact ih (j + 1) _ (by omega) (addM_nn hm.1 (hg _ hmem).1) hle hk
      · have e : mostStep roster g q m j = m := by unfold mostStep; rw [if_neg (fun h => h7 h.2)]
        rw [e] at hle
        simp only [bournelaw37_AllotBacks.l3, if_pos (show (j : Int) < (roster.length : Int) by omega), if_pos (show (0 : Int) ≤ (j : Int) by omega), if_pos h8, if_neg h7, w64_succ j (by omega)]
        exact ih (j + 1) m (by omega) hm hle hk
    · have e : mostStep roster g q m j = m := by unfold mostStep; rw [if_neg (fun h => h8 h.1)]
      rw [e] at hle
      simp only [bournelaw37_AllotBacks.l3, if_pos (show (j : Int) < (roster.length : Int) by omega), if_pos (show (0 : Int) ≤ (j : Int) by omega), if_neg h8, w64_succ j (by omega)]
      exact ih (j + 1) m (by omega) hm hle hk
/-- Either two Ids are equal, and the answer is the example's, or the loop over the pairs ends. -/
theorem backs_l1 (roster : List S45) (supply : List Int) (h40 : roster.length ≤ 40) (i : Nat) (hi : i < roster.length) (d : Nat) :
    ∀ j : Nat, j + d = i → (∀ a : Nat, a < j → (rd_T45 roster i).f0 ≠ (rd_T45 roster a).f0) →
      ((∀ a : Nat, a < i → (rd_T45 roster i).f0 ≠ (rd_T45 roster a).f0) → Ev (fun k => bournelaw37_AllotBacks.l0 k roster supply true ((i + 1 : Nat) : Int) b0 b1 b2 ps b4 b5 b6 b7 b8 b9 b10) true) →
      Ev (fun k => bournelaw37_AllotBacks.l1 k roster supply true (i : Int) (j : Int) b0 b1 b2 ps b4 b5 b6 b7 b8 b9 b10) true := by
  induction d with
  | zero =>
    intro j hj hn hk
    refine ev_succ ?_
    simp only [bournelaw37_AllotBacks.l1, if_neg (show ¬ (j : Int) < (i : Int) by omega), w64_succ i (by omega)]
    exact hk (fun a ha => hn a (by omega))
  | succ d ih =>
    intro j hj hn hk
    refine ev_succ ?_
    by_cases he : (rd_T45 roster (i : Int)).f0 = (rd_T45 roster (j : Int)).f0
    · simp only [bournelaw37_AllotBacks.l1, if_pos (show (j : Int) < (i : Int) by omega), if_pos (show (0 : Int) ≤ (i : Int) by omega), if_pos (show (i : Int) < (roster.length : Int) by omega), if_pos (show (0 : Int) ≤ (j : Int) by omega), if_pos (show (j : Int) < (roster.length : Int) by omega), if_pos he]
      exact Ev.now _
    · simp only [bournelaw37_AllotBacks.l1, if_pos (show (j : Int) < (i : Int) by omega), if_pos (show (0 : Int) ≤ (i : Int) by omega), if_pos (show (i : Int) < (roster.length : Int) by omega), if_pos (show (0 : Int) ≤ (j : Int) by omega), if_pos (show (j : Int) < (roster.length : Int) by omega), if_neg he, w64_succ j (by omega)]
      refine ih (j + 1) (by omega) (fun a ha => ?_) hk
      by_cases e : a = j
      · subst e; exact he
      · exact hn a (by omega)
end
theorem AllotBacks (x0 : S31) (ok0_ : ok31 x0) (l1 : List (S45)) (m1 : l1.length ≤ maxLen) (ok1_ : ∀ x_ ∈ l1, ok45 x_) (l2 : List Int) (m2 : l2.length ≤ maxLen) (ok2_ : ∀ x_ ∈ l2, (Lit.int .i64 x_).wf = true) : ∃ k, bournelaw37_AllotBacks.f k x0.f0 x0.f1 x0.f2 x0.f3 x0.f4 x0.f5 x0.f6 x0.f7 x0.f8 x0.f9 x0.f10 l1 l2 = some true := by
  apply Ev.rounds
  unfold bournelaw37_AllotBacks.f
  refine Ev.bind small_ev ?_
  simp only [few_tells, Option.bind_some]
  by_cases h : x0.f3.length ≤ 64 ∧ l1.length ≤ 40 ∧ ([] : List S47).length ≤ 80
  · simp only [decide_eq_true h, if_true]
    obtain ⟨h64, hro, _⟩ := h
    have hs := fits_all ok2_
    have key : ∀ (d i : Nat), i + d = l1.length → (∀ a b : Nat, a < i → b < i → (rd_T45 l1 a).f0 = (rd_T45 l1 b).f0 → a = b) →
        Ev (fun k => bournelaw37_AllotBacks.l0 k l1 l2 true (i : Int) x0.f0 x0.f1 x0.f2 x0.f3 x0.f4 x0.f5 x0.f6 x0.f7 x0.f8 x0.f9 x0.f10) true := by
      intro d
      induction d with
      | zero =>
        intro i hi hd
        refine ev_succ ?_
        simp only [bournelaw37_AllotBacks.l0, if_neg (show ¬ (i : Int) < (l1.length : Int) by omega)]
        refine Ev.bind (allot_Day_tells _ _ _ _ _ _ _ _ _ _ _ l1 l2 h64 hro hs) ?_
        have hdl := day_len x0.f3 l1 l2
        refine Ev.bind (allot_Back_tells _ _ _ _ _ _ _ _ _ _ _ l1 h64 hro _ (by rw [hdl]; omega)) ?_
        have hbl : ∀ (l : List S47) (out : List Int), (l.foldl (backStep x0.f3 l1) out).length = out.length := by
          intro l
          induction l with
          | nil => intro out; rfl
          | cons g l ih => intro out; rw [List.foldl_cons, ih, backStep_len]
        have hlen : (backM x0.f3 l1 (dayM x0.f3 l1 l2).1).length = x0.f3.length := by unfold backM; rw [hbl]; simp
        simp only [if_pos (show ((backM x0.f3 l1 (dayM x0.f3 l1 l2).1).length : Int) = (x0.f3.length : Int) by rw [hlen])]
        refine ev_succ ?_
        have hne : (((dayM x0.f3 l1 l2).1.length : Int) != (l1.length : Int)) = false := by rw [hdl]; simp
        simp only [bournelaw37_AllotBacks.j2, hne, if_neg (show ¬ false = true by simp)]
        have hids : ∀ i : Nat, i < l1.length → (rd_T47 (dayM x0.f3 l1 l2).1 i).f0 = (rd_T45 l1 i).f0 := by
          intro i hi
          have := day_ids x0.f3 l1 ([], fillM x0.f3 l2) i hi
          simpa [dayM] using this
        have hlit : ∀ x ∈ (dayM x0.f3 l1 l2).1, 0 ≤ x.f1 := day_litres x0.f3 l1 _ (fillM_len x0.f3 l2) (fillM_nn x0.f3 l2) (by simp)
        have hlit2 : ∀ (l : List S45) (st : List S47 × List Int), st.2.length = x0.f3.length → NN st.2 → (∀ r ∈ l, Fits r.f4) → (∀ x ∈ st.1, Fits x.f1) → ∀ x ∈ (l.foldl (serveM x0.f3) st).1, Fits x.f1 := by
          intro l
          induction l with
          | nil => intro st _ _ _ h; exact h
          | cons r l ih =>
            intro st hl hn hr h
            rw [List.foldl_cons]
            refine ih _ (by rw [serveM_len]; exact hl) (serveM_nn x0.f3 st r hl hn) (fun y hy => hr y (by simp [hy])) (fun x hx => ?_)
            rcases List.mem_append.1 hx with hx | hx
            · exact h x hx
            · simp at hx; subst hx
              obtain ⟨g0, g1, _⟩ := grant_bounds x0.f3 st.2 hn r
              have := hr r (by simp)
              unfold Fits at this ⊢
              unfold mx at g1
              show -9223372036854775808 ≤ grantM x0.f3 st.2 r ∧ grantM x0.f3 st.2 r ≤ 9223372036854775807
              split at g1 <;> omega
        have hfit : ∀ x ∈ (dayM x0.f3 l1 l2).1, Fits x.f1 := hlit2 l1 _ (fillM_len x0.f3 l2) (fillM_nn x0.f3 l2) (fun r hr => fits_of_wf (ok1_ r hr).2.2.2.2.1) (by simp)
        have hdist : ∀ a b : Nat, a < l1.length → b < l1.length → (rd_T45 l1 a).f0 = (rd_T45 l1 b).f0 → a = b := fun a b ha hb h => hd a b (by omega) (by omega) h
        have hall : ∀ q : Nat, rd (backM x0.f3 l1 (dayM x0.f3 l1 l2).1) q ≤ (List.range' 0 l1.length).foldl (mostStep l1 (dayM x0.f3 l1 l2).1 q) 0 ∧ NN (backM x0.f3 l1 (dayM x0.f3 l1 l2).1) := by
          intro q
          obtain ⟨a, b⟩ := back_le x0.f3 l1 (dayM x0.f3 l1 l2).1 hdl.symm hids hlit hdist q (by omega) (dayM x0.f3 l1 l2).1.length 0 (List.replicate x0.f3.length 0) 0 (by omega) (by simp) (fun y hy => by rw [List.mem_replicate] at hy; omega) (by rw [rd_replicate]; exact Int.le_refl 0) (by omega)
          rw [List.drop_zero, hdl] at b
          exact ⟨b, a⟩
        have fin : ∀ (e q : Nat), q + e = x0.f3.length → Ev (fun k => bournelaw37_AllotBacks.l2 k l1 true (dayM x0.f3 l1 l2).1 (backM x0.f3 l1 (dayM x0.f3 l1 l2).1) (q : Int)) true := by
          intro e
          induction e with
          | zero =>
            intro q hq
            refine ev_succ ?_
            simp only [bournelaw37_AllotBacks.l2, if_neg (show ¬ (q : Int) < ((backM x0.f3 l1 (dayM x0.f3 l1 l2).1).length : Int) by omega)]
            exact Ev.now _
          | succ e ihe =>
            intro q hq
            refine ev_succ ?_
            simp only [bournelaw37_AllotBacks.l2, if_pos (show (q : Int) < ((backM x0.f3 l1 (dayM x0.f3 l1 l2).1).length : Int) by omega)]
            refine backs_l3 l1 (dayM x0.f3 l1 l2).1 (backM x0.f3 l1 (dayM x0.f3 l1 l2).1) q (by omega) (by omega) hdl.symm hro (fun x hx => ⟨hlit x hx, hfit x hx⟩) ((hall q).2.rd q).1 true true l1.length 0 0 (by omega) (by omega) (hall q).1 ?_
            exact ihe (q + 1) (by omega)
        exact fin x0.f3.length 0 (by omega)
      | succ d ih =>
        intro i hi hd
        refine ev_succ ?_
        simp only [bournelaw37_AllotBacks.l0, if_pos (show (i : Int) < (l1.length : Int) by omega)]
        refine backs_l1 _ _ _ _ _ _ _ _ _ _ _ l1 l2 hro i (by omega) i 0 (by omega) (fun a ha => absurd ha (by omega)) (fun hne => ?_)
        refine ih (i + 1) (by omega) (fun a b ha hb he => ?_)
        by_cases h1 : a = i
        · by_cases h2 : b = i
          · omega
          · subst h1; exact absurd he (hne b (by omega))
        · by_cases h2 : b = i
          · subst h2; exact absurd he.symm (hne a (by omega))
          · exact hd a b (by omega) (by omega) he
    exact key l1.length 0 (by omega) (fun a b ha => absurd ha (by omega))
  · simp only [decide_eq_false h, if_neg (show ¬ false = true by simp)]
    exact Ev.now _
end Go.Proofs.Ythmbleephognnaa.Pure
