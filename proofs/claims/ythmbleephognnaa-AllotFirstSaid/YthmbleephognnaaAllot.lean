import Derived.Test.YthmbleephognnaaTools
import Derived.KernelRfl
import Derived.Test.YthmbleephognnaaNum
import Derived.Test.YthmbleephognnaaQx8
import Derived.Test.YthmbleephognnaaQx2
import Derived.Test.YthmbleephognnaaQx5
import Derived.Test.YthmbleephognnaaQx12
import Derived.Test.YthmbleephognnaaQx6
import Derived.Test.YthmbleephognnaaQx13
import Derived.Test.YthmbleephognnaaQx9
import Derived.Test.YthmbleephognnaaQx3
import Derived.Test.YthmbleephognnaaQx10
import Derived.Test.YthmbleephognnaaQx11
import Derived.Test.YthmbleephognnaaQx4
import Derived.Test.YthmbleephognnaaQx7
namespace Go.Proofs.Ythmbleephognnaa.Allot
open Go Go.RowKit Go.Proofs.Ythmbleephognnaa.Q Go.Proofs.Ythmbleephognnaa.Tools Go.Proofs.Ythmbleephognnaa.Num Go.Proofs.YthmbleephognnaaW.PrintWords Go.Proofs.YthmbleephognnaaW.PrintLast
set_option linter.unusedSimpArgs false
set_option linter.unusedVariables false
section
variable (b0 : ByteArray) (b1 : List ByteArray) (b2 : Int) (ps : List S58) (b4 : List S98) (b5 : List S100) (b6 : List S102) (b7 : List S104) (b8 : List S106) (b9 : List Int) (b10 : Int)

/-! ### Adding that stops at the ends -/
def addM (a b : Int) : Int := if a + b > 9223372036854775807 then 9223372036854775807 else if a + b < -9223372036854775808 then -9223372036854775808 else a + b
theorem addM_fits {a b : Int} : Fits (addM a b) := by unfold addM Fits; split <;> (try split) <;> omega
theorem exact_Add_tells {a b : Int} (ha : Fits a) (hb : Fits b) : exact_Add.f a b = some (addM a b) := by
  unfold exact_Add.f exact_end.f addM
  unfold Fits at ha hb
  by_cases h1 : a < 0
  · by_cases h2 : b < 0
    · simp only [decide_eq_true h1, decide_eq_true h2, beq_self_eq_true, if_true]
      by_cases h3 : a + b < -9223372036854775808
      · have : ¬ wrap64 (a + b) < 0 := by unfold wrap64; omega
        simp [this, h3]; omega
      · have h4 : wrap64 (a + b) = a + b := by unfold wrap64; omega
        have h5 : a + b < 0 := by omega
        rw [h4]; simp [h5, h3]; omega
    · have h4 : wrap64 (a + b) = a + b := by unfold wrap64; omega
      simp only [decide_eq_true h1, decide_eq_false h2]
      rw [h4]; simp; omega
  · by_cases h2 : b < 0
    · have h4 : wrap64 (a + b) = a + b := by unfold wrap64; omega
      simp only [decide_eq_false h1, decide_eq_true h2]
      rw [h4]; simp; omega
    · simp only [decide_eq_false h1, decide_eq_false h2, beq_self_eq_true, if_true]
      by_cases h3 : a + b > 9223372036854775807
      · have : wrap64 (a + b) < 0 := by unfold wrap64; omega
        simp [this, h3]
      · have h4 : wrap64 (a + b) = a + b := by unfold wrap64; omega
        have h5 : ¬ a + b < 0 := by omega
        rw [h4]; simp [h5, h3]; omega
theorem ref_Add_tells {a b : Int} (ha : Fits a) (hb : Fits b) : Ev (fun k => bourneref01_Add.f k a b) (addM a b) := by
  unfold Fits at ha hb
  have hj : ∀ k c, bourneref01_Add.j0 (k + 1) a b c = if c = true then some 9223372036854775807 else (if b < 0 then (if a < wrap64 (-9223372036854775808 - b) then some (-9223372036854775808) else some (wrap64 (a + b))) else some (wrap64 (a + b))) := fun k c => by simp only [bourneref01_Add.j0]
  refine ⟨1, fun k hk => ?_⟩
  obtain ⟨k, rfl⟩ : ∃ m, k = m + 1 := ⟨k - 1, by omega⟩
  unfold bourneref01_Add.f addM
  simp only [hj]
  by_cases h1 : b > 0
  · have e : wrap64 (9223372036854775807 - b) = 9223372036854775807 - b := by unfold wrap64; omega
    rw [if_pos h1, e]
    by_cases h2 : a > 9223372036854775807 - b
    · rw [decide_eq_true h2, if_pos rfl, if_pos (by omega)]
    · have e2 : wrap64 (a + b) = a + b := by unfold wrap64; omega
      rw [decide_eq_false h2, if_neg (by simp), if_neg (by omega), e2, if_neg (by omega), if_neg (by omega)]
  · rw [if_neg h1, if_neg (by simp)]
    by_cases h2 : b < 0
    · have e : wrap64 (-9223372036854775808 - b) = -9223372036854775808 - b := by unfold wrap64; omega
      rw [if_pos h2, e]
      by_cases h3 : a < -9223372036854775808 - b
      · rw [if_pos h3, if_neg (by omega), if_pos (by omega)]
      · have e2 : wrap64 (a + b) = a + b := by unfold wrap64; omega
        rw [if_neg h3, if_neg (by omega), if_neg (by omega), e2]
    · have e2 : wrap64 (a + b) = a + b := by unfold wrap64; omega
      rw [if_neg h2, if_neg (by omega), if_neg (by omega), e2]

/-! ### Lists of numbers: is one there? -/
theorem index_ev (xs : List Int) (v : Int) (hl : xs.length ≤ 9223372036854775806) (d : Nat) : ∀ j : Nat, j + d = xs.length → (∀ i : Nat, i < j → rd xs i ≠ v) →
    Ev (fun k => slices_Index_int_int.l0 k xs v (xs.length : Int) (j : Int)) (if v ∈ xs.drop j then ((j + (xs.drop j).idxOf v : Nat) : Int) else -1) := by
  induction d with
  | zero =>
    intro j hj hn
    refine Ev.step (f := fun _ => some (-1)) (fun k => by simp only [slices_Index_int_int.l0]; rw [if_neg (by omega)]) (ev_some ?_)
    rw [List.drop_eq_nil_of_le (by omega)]; simp
  | succ d ih =>
    intro j hj hn
    have hlt : j < xs.length := by omega
    have hd := drop_rd xs j hlt
    by_cases he : v = rd xs (j : Int)
    · refine Ev.step (f := fun _ => some (j : Int)) (fun k => by simp only [slices_Index_int_int.l0]; rw [if_pos (by omega), if_pos (by omega), if_pos (by omega), if_pos he]) (ev_some ?_)
      rw [hd, ← he]; simp
    · have := ih (j + 1) (by omega) (fun i hi => by
        by_cases e : i = j
        · subst e; exact fun h => he h.symm
        · exact hn i (by omega))
      refine Ev.step (fun k => by simp only [slices_Index_int_int.l0]; rw [if_pos (by omega), if_pos (by omega), if_pos (by omega), if_neg he, w64_succ j (by omega)]) ?_
      rw [hd]
      have e1 : (rd xs (j : Int) == v) = false := by simpa using fun h => he h.symm
      by_cases hm : v ∈ xs.drop (j + 1)
      · rw [if_pos hm] at this
        rw [if_pos (by simp [hm])]
        rw [List.idxOf_cons, e1]
        simpa [Nat.add_assoc, Nat.add_comm 1] using this
      · rw [if_neg hm] at this
        rw [if_neg (by simp [hm, he])]
        exact this
theorem contains_ev (xs : List Int) (v : Int) (hl : xs.length ≤ 9223372036854775806) : Ev (fun k => slices_Contains_int_int.f k xs v) (decide (v ∈ xs)) := by
  unfold slices_Contains_int_int.f slices_Index_int_int.f
  have h := index_ev xs v hl xs.length 0 (by omega) (fun i hi => absurd hi (by omega))
  refine Ev.bind h (ev_some ?_)
  simp only [List.drop_zero]
  by_cases hm : v ∈ xs
  · rw [if_pos hm]; simp [hm]
  · rw [if_neg hm]; simp [hm]
theorem has_ev (xs : List Int) (v : Int) (hl : xs.length ≤ 9223372036854775806) : Ev (fun k => bourneref37_Has.f k xs v) (decide (v ∈ xs)) := by
  unfold bourneref37_Has.f
  suffices ∀ d j : Nat, j + d = xs.length → Ev (fun k => bourneref37_Has.l0 k xs v (j : Int)) (decide (v ∈ xs.drop j)) by
    simpa using this xs.length 0 (by omega)
  intro d
  induction d with
  | zero =>
    intro j hj
    refine Ev.step (f := fun _ => some false) (fun k => by simp only [bourneref37_Has.l0]; rw [if_neg (by omega)]) (ev_some ?_)
    rw [List.drop_eq_nil_of_le (by omega)]; simp
  | succ d ih =>
    intro j hj
    have hlt : j < xs.length := by omega
    rw [drop_rd xs j hlt]
    by_cases he : rd xs (j : Int) = v
    · refine Ev.step (f := fun _ => some true) (fun k => by simp only [bourneref37_Has.l0]; rw [if_pos (by omega), if_pos (by omega), if_pos he]) (ev_some ?_)
      simp [he]
    · refine Ev.step (fun k => by simp only [bourneref37_Has.l0]; rw [if_pos (by omega), if_pos (by omega), if_neg he, w64_succ j (by omega)]) ?_
      have := ih (j + 1) (by omega)
      have e : decide (v ∈ rd xs (j : Int) :: xs.drop (j + 1)) = decide (v ∈ xs.drop (j + 1)) := by
        simp [show ¬ v = rd xs (j : Int) from fun h => he h.symm]
      rw [e]; exact this

/-! ### The reach of a place -/
def inB (ps : List S58) (p : Int) : Prop := 0 ≤ p ∧ p < ps.length
instance (p : Int) : Decidable (inB ps p) := by unfold inB; infer_instance
def reachGo (ps : List S58) : Nat → List Int → Int → List Int
  | 0, out, _ => out
  | n + 1, out, p => if inB ps p ∧ p ∉ out then (if (rd_T58 ps p).f9 ≥ 24 then out ++ [p] else reachGo ps n (out ++ [p]) (rd_T58 ps p).f8) else out
def reachM (ps : List S58) (p : Int) : List Int := reachGo ps (ps.length + 1) [] p
theorem reach_ev (h64 : ps.length ≤ 64) : ∀ (n : Nat) (out : List Int) (p : Int), out.Nodup → (∀ x ∈ out, inB ps x) → ps.length < n + out.length →
    Ev (fun k => allot_Reach.l0 k p out b0 b1 b2 ps b4 b5 b6 b7 b8 b9 b10) (reachGo ps n out p) ∧ Ev (fun k => bourneref37_Reach.l0 k p out b0 b1 b2 ps b4 b5 b6 b7 b8 b9 b10) (reachGo ps n out p) := by
  intro n
  induction n with
  | zero =>
    intro out p hd hin hlt
    have := nodup_bound ps.length out hd hin
    omega
  | succ n ih =>
    intro out p hd hin hlt
    have hol := nodup_bound ps.length out hd hin
    have hc := contains_ev out p (by omega)
    have hh := has_ev out p (by omega)
    have hcap : out.length < 17592186044416 := by omega
    by_cases hp : inB ps p
    · have hp' := hp
      unfold inB at hp'
      have hp0 : p ≥ 0 := hp'.1
      by_cases hm : p ∈ out
      · simp only [decide_eq_true hm] at hc hh
        have e : reachGo ps (n + 1) out p = out := by simp only [reachGo]; rw [if_neg (fun h => h.2 hm)]
        rw [e]
        constructor
        · refine ev_succ ?_
          simp only [allot_Reach.l0, allot_is.f, if_pos hp0, decide_eq_true hp'.2, Option.bind_some, if_true]
          refine Ev.bind hc (ev_succ ?_)
          simp only [allot_Reach.j1, Bool.not_true, if_neg (show ¬ false = true by simp)]
          exact Ev.now _
        · refine ev_succ ?_
          simp only [bourneref37_Reach.l0, if_pos hp0, if_pos hp'.2]
          refine Ev.bind hh (ev_succ ?_)
          simp only [bourneref37_Reach.j1, Bool.not_true, if_neg (show ¬ false = true by simp)]
          exact Ev.now _
      · simp only [decide_eq_false hm] at hc hh
        have hnd : (out ++ [p]).Nodup := by
          rw [List.nodup_append]
          exact ⟨hd, by simp, fun a ha b hb => by simp at hb; subst hb; exact fun h => hm (h ▸ ha)⟩
        have hin' : ∀ x ∈ out ++ [p], inB ps x := by
          intro x hx
          rcases List.mem_append.1 hx with h | h
          · exact hin x h
          · simp at h; subst h; exact hp
        have hlen : ps.length < n + (out ++ [p]).length := by simp; omega
        have e : reachGo ps (n + 1) out p = if (rd_T58 ps p).f9 ≥ 24 then out ++ [p] else reachGo ps n (out ++ [p]) (rd_T58 ps p).f8 := by
          simp only [reachGo]; rw [if_pos ⟨hp, hm⟩]
        rw [e]
        obtain ⟨i1, i2⟩ := ih (out ++ [p]) (rd_T58 ps p).f8 hnd hin' hlen
        constructor
        · refine ev_succ ?_
          simp only [allot_Reach.l0, allot_is.f, if_pos hp0, decide_eq_true hp'.2, Option.bind_some, if_true]
          refine Ev.bind hc (ev_succ ?_)
          simp only [allot_Reach.j1, Bool.not_false, if_true, if_pos hcap, Option.bind_some, if_pos hp'.1, if_pos hp'.2]
          by_cases hdl : (rd_T58 ps p).f9 ≥ 24
          · simp only [if_pos hdl]; exact Ev.now _
          · simp only [if_neg hdl]; exact i1
        · refine ev_succ ?_
          simp only [bourneref37_Reach.l0, if_pos hp0, if_pos hp'.2]
          refine Ev.bind hh (ev_succ ?_)
          simp only [bourneref37_Reach.j1, Bool.not_false, if_true, if_pos hcap, Option.bind_some, if_pos hp'.1, if_pos hp'.2]
          by_cases hdl : (rd_T58 ps p).f9 ≥ 24
          · simp only [if_pos hdl]; exact Ev.now _
          · simp only [if_neg hdl]; exact i2
    · have e : reachGo ps (n + 1) out p = out := by simp only [reachGo]; rw [if_neg (fun h => hp h.1)]
      rw [e]
      unfold inB at hp
      by_cases h0 : p ≥ 0
      · have h1 : ¬ p < (ps.length : Int) := by omega
        constructor
        · refine ev_succ ?_
          simp only [allot_Reach.l0, allot_is.f, if_pos h0, decide_eq_false h1, Option.bind_some, if_neg (show ¬ false = true by simp)]
          refine ev_succ ?_
          simp only [allot_Reach.j1, if_neg (show ¬ false = true by simp)]
          exact Ev.now _
        · refine ev_succ ?_
          simp only [bourneref37_Reach.l0, if_pos h0, if_neg h1]
          refine ev_succ ?_
          simp only [bourneref37_Reach.j1, if_neg (show ¬ false = true by simp)]
          exact Ev.now _
      · constructor
        · refine ev_succ ?_
          simp only [allot_Reach.l0, allot_is.f, if_neg h0, Option.bind_some, if_neg (show ¬ false = true by simp)]
          refine ev_succ ?_
          simp only [allot_Reach.j1, if_neg (show ¬ false = true by simp)]
          exact Ev.now _
        · refine ev_succ ?_
          simp only [bourneref37_Reach.l0, if_neg h0]
          refine ev_succ ?_
          simp only [bourneref37_Reach.j1, if_neg (show ¬ false = true by simp)]
          exact Ev.now _
theorem allot_Reach_tells (h64 : ps.length ≤ 64) (p : Int) : Ev (fun k => allot_Reach.f k b0 b1 b2 ps b4 b5 b6 b7 b8 b9 b10 p) (reachM ps p) :=
  (reach_ev b0 b1 b2 ps b4 b5 b6 b7 b8 b9 b10 h64 (ps.length + 1) [] p (by simp) (by simp) (by simp)).1
theorem ref_Reach_tells (h64 : ps.length ≤ 64) (p : Int) : Ev (fun k => bourneref37_Reach.f k b0 b1 b2 ps b4 b5 b6 b7 b8 b9 b10 p) (reachM ps p) :=
  (reach_ev b0 b1 b2 ps b4 b5 b6 b7 b8 b9 b10 h64 (ps.length + 1) [] p (by simp) (by simp) (by simp)).2
/-! ### What the days compute -/
def NN (L : List Int) : Prop := ∀ x ∈ L, 0 ≤ x ∧ x ≤ 9223372036854775807
theorem NN.rd {L : List Int} (h : NN L) (q : Int) : 0 ≤ rd L q ∧ rd L q ≤ 9223372036854775807 := by
  unfold Go.Proofs.YthmbleephognnaaW.PrintWords.rd
  rw [List.getD_eq_getElem?_getD]
  by_cases hq : q.toNat < L.length
  · rw [List.getElem?_eq_getElem hq]; exact h _ (List.getElem_mem hq)
  · rw [List.getElem?_eq_none (by omega)]; simp
theorem NN.set {L : List Int} (h : NN L) (i : Nat) (v : Int) (hv : 0 ≤ v ∧ v ≤ 9223372036854775807) : NN (L.set i v) := by
  intro x hx
  rcases List.mem_or_eq_of_mem_set hx with h1 | rfl
  · exact h x h1
  · exact hv
def addAt (s : Int) (L : List Int) (q : Int) : List Int := L.set q.toNat (addM (rd L q) s)
def takeAt (n : Int) (L : List Int) (q : Int) : List Int := L.set q.toNat (wrap64 (rd L q - n))
theorem addAt_len (s : Int) (L : List Int) (q : Int) : (addAt s L q).length = L.length := by simp [addAt]
theorem takeAt_len (s : Int) (L : List Int) (q : Int) : (takeAt s L q).length = L.length := by simp [takeAt]
theorem addM_nn {a b : Int} (ha : 0 ≤ a) (hb : 0 ≤ b) : 0 ≤ addM a b ∧ addM a b ≤ 9223372036854775807 := by unfold addM; split <;> (try split) <;> omega
theorem addAt_nn {L : List Int} (h : NN L) (s q : Int) (hs : 0 ≤ s) : NN (addAt s L q) := h.set _ _ (addM_nn (h.rd q).1 hs)
theorem fold_addAt_len (s : Int) : ∀ (l : List Int) (L : List Int), (l.foldl (addAt s) L).length = L.length
  | [], L => rfl
  | q :: l, L => by rw [List.foldl_cons, fold_addAt_len s l, addAt_len]
theorem fold_takeAt_len (s : Int) : ∀ (l : List Int) (L : List Int), (l.foldl (takeAt s) L).length = L.length
  | [], L => rfl
  | q :: l, L => by rw [List.foldl_cons, fold_takeAt_len s l, takeAt_len]
theorem fold_addAt_nn (s : Int) (hs : 0 ≤ s) : ∀ (l : List Int) (L : List Int), NN L → NN (l.foldl (addAt s) L)
  | [], L, h => h
  | q :: l, L, h => by rw [List.foldl_cons]; exact fold_addAt_nn s hs l _ (addAt_nn h s q hs)

theorem reachGo_inv : ∀ (n : Nat) (out : List Int) (p : Int), out.Nodup → (∀ x ∈ out, inB ps x) → (reachGo ps n out p).Nodup ∧ (∀ x ∈ reachGo ps n out p, inB ps x) ∧ (∀ x ∈ out, x ∈ reachGo ps n out p)
  | 0, out, p, h1, h2 => ⟨h1, h2, fun x hx => hx⟩
  | n + 1, out, p, h1, h2 => by
    simp only [reachGo]
    by_cases h : inB ps p ∧ p ∉ out
    · rw [if_pos h]
      have hnd : (out ++ [p]).Nodup := by
        rw [List.nodup_append]
        exact ⟨h1, by simp, fun a ha b hb => by simp at hb; subst hb; exact fun e => h.2 (e ▸ ha)⟩
      have hin : ∀ x ∈ out ++ [p], inB ps x := by
        intro x hx
        rcases List.mem_append.1 hx with h' | h'
        · exact h2 x h'
        · simp at h'; subst h'; exact h.1
      split
      · exact ⟨hnd, hin, fun x hx => List.mem_append_left _ hx⟩
      · obtain ⟨i1, i2, i3⟩ := reachGo_inv n (out ++ [p]) _ hnd hin
        exact ⟨i1, i2, fun x hx => i3 x (List.mem_append_left _ hx)⟩
    · rw [if_neg h]; exact ⟨h1, h2, fun x hx => hx⟩
theorem reachM_nodup (p : Int) : (reachM ps p).Nodup := (reachGo_inv ps _ [] p (by simp) (by simp)).1
theorem reachM_in (p : Int) : ∀ x ∈ reachM ps p, inB ps x := (reachGo_inv ps _ [] p (by simp) (by simp)).2.1
theorem reachM_len (p : Int) : (reachM ps p).length ≤ ps.length := nodup_bound _ _ (reachM_nodup ps p) (reachM_in ps p)
theorem reachM_out {p : Int} (h : ¬ inB ps p) : reachM ps p = [] := by unfold reachM; simp only [reachGo]; rw [if_neg (fun hh => h hh.1)]
theorem reachM_self {p : Int} (h : inB ps p) : p ∈ reachM ps p := by
  unfold reachM
  simp only [reachGo]
  rw [if_pos ⟨h, by simp⟩]
  split
  · simp
  · exact (reachGo_inv ps _ _ _ (by simp) (by simp; exact h)).2.2 p (by simp)

def fillP (supply : List Int) (L : List Int) (p : Nat) : List Int := if (p : Int) < supply.length ∧ 0 ≤ rd supply p then (reachM ps p).foldl (addAt (rd supply p)) L else L
def fillM (supply : List Int) : List Int := (List.range ps.length).foldl (fillP ps supply) (List.replicate ps.length 0)
def leastM (n : Int) (L : List Int) (l : List Int) : Int := l.foldl (fun n q => mn n (rd L q)) n
def grantM (L : List Int) (r : S45) : Int := if ((reachM ps r.f3).length : Int) = 0 then 0 else mx 0 (leastM r.f4 L (reachM ps r.f3))
def serveM (st : List S47 × List Int) (r : S45) : List S47 × List Int := (st.1 ++ [⟨r.f0, grantM ps st.2 r⟩], (reachM ps r.f3).foldl (takeAt (grantM ps st.2 r)) st.2)
def dayM (roster : List S45) (supply : List Int) : List S47 × List Int := roster.foldl (serveM ps) ([], fillM ps supply)

theorem fillP_len (supply L : List Int) (p : Nat) : (fillP ps supply L p).length = L.length := by unfold fillP; split <;> simp [fold_addAt_len]
theorem fillP_nn (supply L : List Int) (p : Nat) (h : NN L) : NN (fillP ps supply L p) := by
  unfold fillP; split
  · rename_i hc; exact fold_addAt_nn _ hc.2 _ _ h
  · exact h
theorem foldFill_inv (supply : List Int) : ∀ (l : List Nat) (L : List Int), NN L → NN (l.foldl (fillP ps supply) L) ∧ (l.foldl (fillP ps supply) L).length = L.length
  | [], L, h => ⟨h, rfl⟩
  | p :: l, L, h => by
    rw [List.foldl_cons]
    obtain ⟨i1, i2⟩ := foldFill_inv supply l _ (fillP_nn ps supply L p h)
    exact ⟨i1, by rw [i2, fillP_len]⟩
theorem fillM_nn (supply : List Int) : NN (fillM ps supply) := (foldFill_inv ps supply _ _ (fun x hx => by rw [List.mem_replicate] at hx; omega)).1
theorem fillM_len (supply : List Int) : (fillM ps supply).length = ps.length := by
  have := (foldFill_inv ps supply (List.range ps.length) (List.replicate ps.length 0) (fun x hx => by rw [List.mem_replicate] at hx; omega)).2
  simpa [fillM] using this
theorem serveM_len (st : List S47 × List Int) (r : S45) : (serveM ps st r).2.length = st.2.length := by simp [serveM, fold_takeAt_len]

/-! ### Day -/
variable (roster : List S45) (supply : List Int)
theorem day_l1 (h64 : ps.length ≤ 64) (hs : ∀ x ∈ supply, Fits x) (p : Nat) (hp : p < supply.length) (hs0 : 0 ≤ rd supply p) (l : List Int) (hll : l.length ≤ 64) (r : List S47 × List Int) (d : Nat) :
    ∀ (j : Nat) (L : List Int), j + d = l.length → (∀ q ∈ l, 0 ≤ q ∧ q < L.length) → NN L →
      Ev (fun k => allot_Day.l0 k roster supply ((l.drop j).foldl (addAt (rd supply p)) L) (ps.length : Int) (wrap64 ((p : Int) + 1)) b0 b1 b2 ps b4 b5 b6 b7 b8 b9 b10) r →
      Ev (fun k => allot_Day.l1 k roster supply L (p : Int) (ps.length : Int) (p : Int) l (l.length : Int) (j : Int) b0 b1 b2 ps b4 b5 b6 b7 b8 b9 b10) r := by
  induction d with
  | zero =>
    intro j L hj hq hn hk
    refine ev_succ ?_
    simp only [allot_Day.l1, if_neg (show ¬ (j : Int) < (l.length : Int) by omega)]
    rw [List.drop_eq_nil_of_le (by omega)] at hk
    exact hk
  | succ d ih =>
    intro j L hj hq hn hk
    have hlt : j < l.length := by omega
    have hqj := hq (rd l (j : Int)) (rd_mem (by omega) (by omega))
    have hadd := exact_Add_tells (a := rd L (rd l (j : Int))) (b := rd supply p) ⟨by have := (hn.rd (rd l (j : Int))); omega, (hn.rd _).2⟩ (hs _ (rd_mem (by omega) (by omega)))
    refine ev_succ ?_
    simp only [allot_Day.l1, if_pos (show (j : Int) < (l.length : Int) by omega), if_pos (show (0 : Int) ≤ (j : Int) by omega), if_pos hqj.1, if_pos hqj.2, if_pos (show (0 : Int) ≤ (p : Int) by omega), if_pos (show (p : Int) < (supply.length : Int) by omega), hadd, Option.bind_some, w64_succ j (by omega)]
    refine ih (j + 1) (addAt (rd supply p) L (rd l (j : Int))) (by omega) (fun q hqm => by rw [addAt_len]; exact hq q hqm) (addAt_nn hn _ _ hs0) ?_
    rw [drop_rd l j hlt, List.foldl_cons] at hk
    exact hk
theorem day_l0 (h64 : ps.length ≤ 64) (hs : ∀ x ∈ supply, Fits x) (r : List S47 × List Int) (d : Nat) :
    ∀ (j : Nat) (L : List Int), j + d = ps.length → L.length = ps.length → NN L →
      Ev (fun k => allot_Day.l2 k ((List.range' j d).foldl (fillP ps supply) L) ([] : List S47) roster (roster.length : Int) 0 b0 b1 b2 ps b4 b5 b6 b7 b8 b9 b10) r →
      Ev (fun k => allot_Day.l0 k roster supply L (ps.length : Int) (j : Int) b0 b1 b2 ps b4 b5 b6 b7 b8 b9 b10) r := by
  induction d with
  | zero =>
    intro j L hj hl hn hk
    refine ev_succ ?_
    simp only [allot_Day.l0, if_neg (show ¬ (j : Int) < (ps.length : Int) by omega)]
    exact hk
  | succ d ih =>
    intro j L hj hl hn hk
    rw [List.range'_succ, List.foldl_cons] at hk
    have hnx := ih (j + 1) (fillP ps supply L j) (by omega) (by rw [fillP_len]; exact hl) (fillP_nn ps supply L j hn) hk
    refine ev_succ ?_
    by_cases h1 : (j : Int) ≥ (supply.length : Int)
    · simp only [allot_Day.l0, if_pos (show (j : Int) < (ps.length : Int) by omega), if_pos h1]
      refine ev_succ ?_
      simp only [allot_Day.j1, if_true, w64_succ j (by omega)]
      have e : fillP ps supply L j = L := by unfold fillP; rw [if_neg (by omega)]
      rw [e] at hnx; exact hnx
    · simp only [allot_Day.l0, if_pos (show (j : Int) < (ps.length : Int) by omega), if_neg h1, if_pos (show (0 : Int) ≤ (j : Int) by omega), if_pos (show (j : Int) < (supply.length : Int) by omega)]
      by_cases h2 : rd supply (j : Int) < 0
      · simp only [decide_eq_true h2]
        refine ev_succ ?_
        simp only [allot_Day.j1, if_true, w64_succ j (by omega)]
        have e : fillP ps supply L j = L := by unfold fillP; rw [if_neg (by omega)]
        rw [e] at hnx; exact hnx
      · simp only [decide_eq_false h2]
        refine ev_succ ?_
        simp only [allot_Day.j1, if_neg (show ¬ false = true by simp)]
        refine Ev.bind (allot_Reach_tells b0 b1 b2 ps b4 b5 b6 b7 b8 b9 b10 h64 (j : Int)) ?_
        have hin := reachM_in ps (j : Int)
        have hrl := reachM_len ps (j : Int)
        refine day_l1 b0 b1 b2 ps b4 b5 b6 b7 b8 b9 b10 roster supply h64 hs j (by omega) (by omega) (reachM ps (j : Int)) (by omega) r (reachM ps (j : Int)).length 0 L (by omega) (fun q hq => ⟨(hin q hq).1, by rw [hl]; exact (hin q hq).2⟩) hn ?_
        have e : fillP ps supply L j = (reachM ps (j : Int)).foldl (addAt (rd supply (j : Int))) L := by unfold fillP; rw [if_pos ⟨by omega, by omega⟩]
        rw [e] at hnx
        rw [w64_succ j (by omega)]
        exact hnx
theorem least_ev (n : Int) (L l : List Int) (hll : l.length ≤ 64) (hq : ∀ q ∈ l, 0 ≤ q ∧ q < L.length) : Ev (fun k => allot_least.f k n L l) (leastM n L l) := by
  unfold allot_least.f
  suffices ∀ (d j : Nat) (n : Int), j + d = l.length → Ev (fun k => allot_least.l0 k n L l (l.length : Int) (j : Int)) (leastM n L (l.drop j)) by
    simpa using this l.length 0 n (by omega)
  intro d
  induction d with
  | zero =>
    intro j n hj
    refine ev_succ ?_
    simp only [allot_least.l0, if_neg (show ¬ (j : Int) < (l.length : Int) by omega)]
    rw [List.drop_eq_nil_of_le (by omega)]
    exact Ev.now _
  | succ d ih =>
    intro j n hj
    have hlt : j < l.length := by omega
    have hqj := hq (rd l (j : Int)) (rd_mem (by omega) (by omega))
    refine ev_succ ?_
    simp only [allot_least.l0, if_pos (show (j : Int) < (l.length : Int) by omega), if_pos (show (0 : Int) ≤ (j : Int) by omega), if_pos hqj.1, if_pos hqj.2, w64_succ j (by omega)]
    rw [drop_rd l j hlt]
    exact ih (j + 1) _ (by omega)
theorem day_l3 (h64 : ps.length ≤ 64) (out : List S47) (hout : out.length < 8796093022208) (n : Int) (i : Nat) (hi : i < 9223372036854775807) (l : List Int) (hll : l.length ≤ 64) (x0 x1 x2 x3 x4 x5 x6 x7 x8 : Int) (r : List S47 × List Int) (d : Nat) :
    ∀ (j : Nat) (L : List Int), j + d = l.length → (∀ q ∈ l, 0 ≤ q ∧ q < L.length) →
      Ev (fun k => allot_Day.l2 k ((l.drop j).foldl (takeAt n) L) (out ++ [(⟨x0, n⟩ : S47)]) roster (roster.length : Int) ((i + 1 : Nat) : Int) b0 b1 b2 ps b4 b5 b6 b7 b8 b9 b10) r →
      Ev (fun k => allot_Day.l3 k L out n roster (roster.length : Int) (i : Int) l (l.length : Int) (j : Int) b0 b1 b2 ps b4 b5 b6 b7 b8 b9 b10 x0 x1 x2 x3 x4 x5 x6 x7 x8) r := by
  induction d with
  | zero =>
    intro j L hj hq hk
    refine ev_succ ?_
    simp only [allot_Day.l3, if_neg (show ¬ (j : Int) < (l.length : Int) by omega), if_pos hout, w64_succ i hi]
    rw [List.drop_eq_nil_of_le (by omega)] at hk
    exact hk
  | succ d ih =>
    intro j L hj hq hk
    have hlt : j < l.length := by omega
    have hqj := hq (rd l (j : Int)) (rd_mem (by omega) (by omega))
    refine ev_succ ?_
    simp only [allot_Day.l3, if_pos (show (j : Int) < (l.length : Int) by omega), if_pos (show (0 : Int) ≤ (j : Int) by omega), if_pos hqj.1, if_pos hqj.2, w64_succ j (by omega)]
    refine ih (j + 1) (takeAt n L (rd l (j : Int))) (by omega) (fun q hqm => by rw [takeAt_len]; exact hq q hqm) ?_
    rw [drop_rd l j hlt, List.foldl_cons] at hk
    exact hk
theorem rd_T45_drop (xs : List S45) (j : Nat) (h : j < xs.length) : xs.drop j = rd_T45 xs (j : Int) :: xs.drop (j + 1) := by
  have : rd_T45 xs (j : Int) = xs[j] := by simp [rd_T45, List.getD_eq_getElem?_getD, h]
  rw [this]; exact List.drop_eq_getElem_cons h
theorem day_l2 (h64 : ps.length ≤ 64) (hro : roster.length ≤ 40) (d : Nat) :
    ∀ (i : Nat) (L : List Int) (out : List S47), i + d = roster.length → L.length = ps.length → out.length ≤ i →
      Ev (fun k => allot_Day.l2 k L out roster (roster.length : Int) (i : Int) b0 b1 b2 ps b4 b5 b6 b7 b8 b9 b10) ((roster.drop i).foldl (serveM ps) (out, L)) := by
  induction d with
  | zero =>
    intro i L out hi hl ho
    refine ev_succ ?_
    simp only [allot_Day.l2, if_neg (show ¬ (i : Int) < (roster.length : Int) by omega)]
    rw [List.drop_eq_nil_of_le (by omega)]
    exact Ev.now _
  | succ d ih =>
    intro i L out hi hl ho
    have hlt : i < roster.length := by omega
    have hin := reachM_in ps (rd_T45 roster (i : Int)).f3
    have hrl := reachM_len ps (rd_T45 roster (i : Int)).f3
    have hq : ∀ q ∈ reachM ps (rd_T45 roster (i : Int)).f3, 0 ≤ q ∧ q < L.length := fun q hq => ⟨(hin q hq).1, by rw [hl]; exact (hin q hq).2⟩
    rw [rd_T45_drop roster i hlt, List.foldl_cons]
    refine ev_succ ?_
    simp only [allot_Day.l2, if_pos (show (i : Int) < (roster.length : Int) by omega), if_pos (show (0 : Int) ≤ (i : Int) by omega)]
    refine Ev.bind (allot_Reach_tells b0 b1 b2 ps b4 b5 b6 b7 b8 b9 b10 h64 _) ?_
    refine Ev.bind (least_ev _ L _ (by omega) hq) ?_
    have fin : ∀ n, n = grantM ps L (rd_T45 roster (i : Int)) → Ev (fun k => allot_Day.j4 k L out (reachM ps (rd_T45 roster (i : Int)).f3) n roster (roster.length : Int) (i : Int) b0 b1 b2 ps b4 b5 b6 b7 b8 b9 b10 (rd_T45 roster (i : Int)).f0 (rd_T45 roster (i : Int)).f1 (rd_T45 roster (i : Int)).f2 (rd_T45 roster (i : Int)).f3 (rd_T45 roster (i : Int)).f4 (rd_T45 roster (i : Int)).f5 (rd_T45 roster (i : Int)).f6 (rd_T45 roster (i : Int)).f7 (rd_T45 roster (i : Int)).f8) (List.foldl (serveM ps) (serveM ps (out, L) (rd_T45 roster (i : Int))) (List.drop (i + 1) roster)) := by
      intro n hn
      refine ev_succ ?_
      simp only [allot_Day.j4]
      refine day_l3 b0 b1 b2 ps b4 b5 b6 b7 b8 b9 b10 roster h64 out (by omega) n i (by omega) _ (by omega) _ _ _ _ _ _ _ _ _ _ (reachM ps (rd_T45 roster (i : Int)).f3).length 0 L (by omega) hq ?_
      rw [List.drop_zero]
      have := ih (i + 1) ((reachM ps (rd_T45 roster (i : Int)).f3).foldl (takeAt n) L) (out ++ [(⟨(rd_T45 roster (i : Int)).f0, n⟩ : S47)]) (by omega) (by rw [fold_takeAt_len]; exact hl) (by simp; omega)
      rw [hn] at this ⊢
      exact this
    by_cases he : ((reachM ps (rd_T45 roster (i : Int)).f3).length : Int) = 0
    · simp only [if_pos he]
      exact fin 0 (by unfold grantM; rw [if_pos he])
    · simp only [if_neg he]
      exact fin _ (by unfold grantM; rw [if_neg he])
theorem allot_Day_tells (h64 : ps.length ≤ 64) (hro : roster.length ≤ 40) (hs : ∀ x ∈ supply, Fits x) : Ev (fun k => allot_Day.f k b0 b1 b2 ps b4 b5 b6 b7 b8 b9 b10 roster supply) (dayM ps roster supply) := by
  unfold allot_Day.f
  have e : ((ps.length : Int)).toNat = ps.length := by omega
  simp only [if_pos (show (0 : Int) ≤ (ps.length : Int) by omega), e, if_pos (show ps.length ≤ 35184372088832 by omega)]
  refine day_l0 b0 b1 b2 ps b4 b5 b6 b7 b8 b9 b10 roster supply h64 hs _ ps.length 0 _ (by omega) (by simp) (fun x hx => by rw [List.mem_replicate] at hx; omega) ?_
  have := day_l2 b0 b1 b2 ps b4 b5 b6 b7 b8 b9 b10 roster h64 hro roster.length 0 (fillM ps supply) [] (by omega) (fillM_len ps supply) (by simp)
  rw [← List.range_eq_range']
  exact this
/-! ### The reference's day -/
def thereStep (supply : List Int) (q : Int) (n : Int) (p : Nat) : Int := if q ∈ reachM ps p ∧ rd supply p > 0 then addM n (rd supply p) else n
def thereM (supply : List Int) (q : Int) : Int := (List.range (min ps.length supply.length)).foldl (thereStep ps supply q) 0
theorem thereStep_nn {n : Int} (supply : List Int) (q : Int) (p : Nat) (h : 0 ≤ n ∧ n ≤ 9223372036854775807) : 0 ≤ thereStep ps supply q n p ∧ thereStep ps supply q n p ≤ 9223372036854775807 := by
  unfold thereStep; split
  · rename_i hc; exact addM_nn h.1 (by omega)
  · exact h
theorem foldThere_nn (supply : List Int) (q : Int) : ∀ (l : List Nat) (n : Int), 0 ≤ n ∧ n ≤ 9223372036854775807 → 0 ≤ l.foldl (thereStep ps supply q) n ∧ l.foldl (thereStep ps supply q) n ≤ 9223372036854775807
  | [], n, h => h
  | p :: l, n, h => by rw [List.foldl_cons]; exact foldThere_nn supply q l _ (thereStep_nn ps supply q p h)
theorem there_ev (h64 : ps.length ≤ 64) (hs : ∀ x ∈ supply, Fits x) (q : Int) : Ev (fun k => bourneref37_There.f k b0 b1 b2 ps b4 b5 b6 b7 b8 b9 b10 supply q) (thereM ps supply q) := by
  unfold bourneref37_There.f
  suffices ∀ (d j : Nat) (n : Int), j + d = min ps.length supply.length → 0 ≤ n ∧ n ≤ 9223372036854775807 → Ev (fun k => bourneref37_There.l0 k supply q n (j : Int) b0 b1 b2 ps b4 b5 b6 b7 b8 b9 b10) ((List.range' j d).foldl (thereStep ps supply q) n) by
    have := this (min ps.length supply.length) 0 0 (by omega) (by omega)
    rw [← List.range_eq_range'] at this
    exact this
  intro d
  induction d with
  | zero =>
    intro j n hj hn
    refine ev_succ ?_
    by_cases h1 : (j : Int) < (ps.length : Int)
    · simp only [bourneref37_There.l0, if_pos h1, decide_eq_false (show ¬ (j : Int) < (supply.length : Int) by omega)]
      refine ev_succ ?_
      simp only [bourneref37_There.j1, if_neg (show ¬ false = true by simp)]
      exact Ev.now _
    · simp only [bourneref37_There.l0, if_neg h1]
      refine ev_succ ?_
      simp only [bourneref37_There.j1, if_neg (show ¬ false = true by simp)]
      exact Ev.now _
  | succ d ih =>
    intro j n hj hn
    rw [List.range'_succ, List.foldl_cons]
    have hnx := ih (j + 1) (thereStep ps supply q n j) (by omega) (thereStep_nn ps supply q j hn)
    refine ev_succ ?_
    simp only [bourneref37_There.l0, if_pos (show (j : Int) < (ps.length : Int) by omega), decide_eq_true (show (j : Int) < (supply.length : Int) by omega)]
    refine ev_succ ?_
    simp only [bourneref37_There.j1, if_true]
    refine Ev.bind (ref_Reach_tells b0 b1 b2 ps b4 b5 b6 b7 b8 b9 b10 h64 (j : Int)) ?_
    have hrl := reachM_len ps (j : Int)
    refine Ev.bind (has_ev (reachM ps (j : Int)) q (by omega)) ?_
    by_cases hm : q ∈ reachM ps (j : Int)
    · simp only [decide_eq_true hm, if_true, if_pos (show (0 : Int) ≤ (j : Int) by omega), if_pos (show (j : Int) < (supply.length : Int) by omega)]
      by_cases h2 : rd supply (j : Int) > 0
      · simp only [if_pos h2]
        refine Ev.bind (ref_Add_tells ⟨by omega, hn.2⟩ (hs _ (rd_mem (by omega) (by omega)))) ?_
        simp only [w64_succ j (by omega)]
        have e : thereStep ps supply q n j = addM n (rd supply (j : Int)) := by unfold thereStep; rw [if_pos ⟨hm, h2⟩]
        rw [e] at hnx ⊢; exact hnx
      · simp only [if_neg h2, w64_succ j (by omega)]
        have e : thereStep ps supply q n j = n := by unfold thereStep; rw [if_neg (fun h => h2 h.2)]
        rw [e] at hnx ⊢; exact hnx
    · simp only [decide_eq_false hm, if_neg (show ¬ false = true by simp), w64_succ j (by omega)]
      have e : thereStep ps supply q n j = n := by unfold thereStep; rw [if_neg (fun h => hm h.1)]
      rw [e] at hnx ⊢; exact hnx
def leftR (supply : List Int) : List Int := (List.range ps.length).map fun q : Nat => thereM ps supply (q : Int)
def grantR (L : List Int) (r : S45) : Int := leastM (if ((reachM ps r.f3).length : Int) = 0 then 0 else mx 0 r.f4) L (reachM ps r.f3)
def serveR (st : List S47 × List Int) (r : S45) : List S47 × List Int := (st.1 ++ [⟨r.f0, grantR ps st.2 r⟩], (reachM ps r.f3).foldl (takeAt (grantR ps st.2 r)) st.2)
def dayR (roster : List S45) (supply : List Int) : List S47 × List Int := roster.foldl (serveR ps) ([], leftR ps supply)
theorem refday_l3 (h64 : ps.length ≤ 64) (out : List S47) (hout : out.length < 8796093022208) (n : Int) (i : Nat) (hi : i < roster.length) (hro : roster.length ≤ 40) (l : List Int) (hll : l.length ≤ 64) (r : List S47 × List Int) (d : Nat) :
    ∀ (j : Nat) (L : List Int), j + d = l.length → (∀ q ∈ l, 0 ≤ q ∧ q < L.length) →
      Ev (fun k => bourneref37_Day.l1 k roster ((l.drop j).foldl (takeAt n) L) (out ++ [(⟨(rd_T45 roster (i : Int)).f0, n⟩ : S47)]) ((i + 1 : Nat) : Int) b0 b1 b2 ps b4 b5 b6 b7 b8 b9 b10) r →
      Ev (fun k => bourneref37_Day.l3 k roster L out (i : Int) l n (j : Int) b0 b1 b2 ps b4 b5 b6 b7 b8 b9 b10) r := by
  induction d with
  | zero =>
    intro j L hj hq hk
    refine ev_succ ?_
    simp only [bourneref37_Day.l3, if_neg (show ¬ (j : Int) < (l.length : Int) by omega), if_pos (show (0 : Int) ≤ (i : Int) by omega), if_pos (show (i : Int) < (roster.length : Int) by omega), if_pos hout, w64_succ i (by omega)]
    rw [List.drop_eq_nil_of_le (by omega)] at hk
    exact hk
  | succ d ih =>
    intro j L hj hq hk
    have hlt : j < l.length := by omega
    have hqj := hq (rd l (j : Int)) (rd_mem (by omega) (by omega))
    refine ev_succ ?_
    simp only [bourneref37_Day.l3, if_pos (show (j : Int) < (l.length : Int) by omega), if_pos (show (0 : Int) ≤ (j : Int) by omega), if_pos hqj.1, if_pos hqj.2, w64_succ j (by omega)]
    refine ih (j + 1) (takeAt n L (rd l (j : Int))) (by omega) (fun q hqm => by rw [takeAt_len]; exact hq q hqm) ?_
    rw [drop_rd l j hlt, List.foldl_cons] at hk
    exact hk
theorem refday_l2 (L : List Int) (out : List S47) (i : Int) (l : List Int) (hll : l.length ≤ 64) (hq : ∀ q ∈ l, 0 ≤ q ∧ q < L.length) (r : List S47 × List Int) (d : Nat) :
    ∀ (j : Nat) (n : Int), j + d = l.length →
      Ev (fun k => bourneref37_Day.l3 k roster L out i l (leastM n L (l.drop j)) 0 b0 b1 b2 ps b4 b5 b6 b7 b8 b9 b10) r →
      Ev (fun k => bourneref37_Day.l2 k roster L out i l n (j : Int) b0 b1 b2 ps b4 b5 b6 b7 b8 b9 b10) r := by
  induction d with
  | zero =>
    intro j n hj hk
    refine ev_succ ?_
    simp only [bourneref37_Day.l2, if_neg (show ¬ (j : Int) < (l.length : Int) by omega)]
    rw [List.drop_eq_nil_of_le (by omega)] at hk
    exact hk
  | succ d ih =>
    intro j n hj hk
    have hlt : j < l.length := by omega
    have hqj := hq (rd l (j : Int)) (rd_mem (by omega) (by omega))
    refine ev_succ ?_
    simp only [bourneref37_Day.l2, if_pos (show (j : Int) < (l.length : Int) by omega), if_pos (show (0 : Int) ≤ (j : Int) by omega), if_pos hqj.1, if_pos hqj.2, w64_succ j (by omega)]
    refine ih (j + 1) _ (by omega) ?_
    rw [drop_rd l j hlt] at hk
    exact hk
theorem refday_l1 (h64 : ps.length ≤ 64) (hro : roster.length ≤ 40) (d : Nat) :
    ∀ (i : Nat) (L : List Int) (out : List S47), i + d = roster.length → L.length = ps.length → out.length ≤ i →
      Ev (fun k => bourneref37_Day.l1 k roster L out (i : Int) b0 b1 b2 ps b4 b5 b6 b7 b8 b9 b10) ((roster.drop i).foldl (serveR ps) (out, L)) := by
  induction d with
  | zero =>
    intro i L out hi hl ho
    refine ev_succ ?_
    simp only [bourneref37_Day.l1, if_neg (show ¬ (i : Int) < (roster.length : Int) by omega)]
    rw [List.drop_eq_nil_of_le (by omega)]
    exact Ev.now _
  | succ d ih =>
    intro i L out hi hl ho
    have hlt : i < roster.length := by omega
    have hin := reachM_in ps (rd_T45 roster (i : Int)).f3
    have hrl := reachM_len ps (rd_T45 roster (i : Int)).f3
    have hq : ∀ q ∈ reachM ps (rd_T45 roster (i : Int)).f3, 0 ≤ q ∧ q < L.length := fun q hq => ⟨(hin q hq).1, by rw [hl]; exact (hin q hq).2⟩
    rw [rd_T45_drop roster i hlt, List.foldl_cons]
    refine ev_succ ?_
    simp only [bourneref37_Day.l1, if_pos (show (i : Int) < (roster.length : Int) by omega), if_pos (show (0 : Int) ≤ (i : Int) by omega)]
    refine Ev.bind (ref_Reach_tells b0 b1 b2 ps b4 b5 b6 b7 b8 b9 b10 h64 _) ?_
    have fin : ∀ n, n = (if ((reachM ps (rd_T45 roster (i : Int)).f3).length : Int) = 0 then 0 else mx 0 (rd_T45 roster (i : Int)).f4) →
        Ev (fun k => bourneref37_Day.j2 k roster L out (i : Int) (reachM ps (rd_T45 roster (i : Int)).f3) n b0 b1 b2 ps b4 b5 b6 b7 b8 b9 b10) (List.foldl (serveR ps) (serveR ps (out, L) (rd_T45 roster (i : Int))) (List.drop (i + 1) roster)) := by
      intro n hn
      refine ev_succ ?_
      simp only [bourneref37_Day.j2]
      refine refday_l2 b0 b1 b2 ps b4 b5 b6 b7 b8 b9 b10 roster L out (i : Int) _ (by omega) hq _ (reachM ps (rd_T45 roster (i : Int)).f3).length 0 n (by omega) ?_
      rw [List.drop_zero]
      refine refday_l3 b0 b1 b2 ps b4 b5 b6 b7 b8 b9 b10 roster h64 out (by omega) _ i hlt hro _ (by omega) _ (reachM ps (rd_T45 roster (i : Int)).f3).length 0 L (by omega) hq ?_
      rw [List.drop_zero]
      have := ih (i + 1) ((reachM ps (rd_T45 roster (i : Int)).f3).foldl (takeAt (grantR ps L (rd_T45 roster (i : Int)))) L) (out ++ [(⟨(rd_T45 roster (i : Int)).f0, grantR ps L (rd_T45 roster (i : Int))⟩ : S47)]) (by omega) (by rw [fold_takeAt_len]; exact hl) (by simp; omega)
      have e : leastM n L (reachM ps (rd_T45 roster (i : Int)).f3) = grantR ps L (rd_T45 roster (i : Int)) := by rw [hn]; rfl
      rw [e]
      exact this
    by_cases he : ((reachM ps (rd_T45 roster (i : Int)).f3).length : Int) = 0
    · simp only [if_pos he]
      exact fin 0 (by rw [if_pos he])
    · simp only [if_neg he]
      exact fin _ (by rw [if_neg he])
theorem ref_Day_tells (h64 : ps.length ≤ 64) (hro : roster.length ≤ 40) (hs : ∀ x ∈ supply, Fits x) : Ev (fun k => bourneref37_Day.f k b0 b1 b2 ps b4 b5 b6 b7 b8 b9 b10 roster supply) (dayR ps roster supply) := by
  unfold bourneref37_Day.f
  suffices ∀ (d j : Nat) (L : List Int), j + d = ps.length → L.length = j → Ev (fun k => bourneref37_Day.l0 k roster supply L (j : Int) b0 b1 b2 ps b4 b5 b6 b7 b8 b9 b10) (roster.foldl (serveR ps) ([], L ++ (List.range' j d).map fun q : Nat => thereM ps supply (q : Int))) by
    have := this ps.length 0 [] (by omega) (by simp)
    rw [← List.range_eq_range'] at this
    exact this
  intro d
  induction d with
  | zero =>
    intro j L hj hl
    refine ev_succ ?_
    simp only [bourneref37_Day.l0, if_neg (show ¬ (j : Int) < (ps.length : Int) by omega)]
    have := refday_l1 b0 b1 b2 ps b4 b5 b6 b7 b8 b9 b10 roster h64 hro roster.length 0 L [] (by omega) (by omega) (by simp)
    simpa using this
  | succ d ih =>
    intro j L hj hl
    have := ih (j + 1) (L ++ [thereM ps supply (j : Int)]) (by omega) (by simp [hl])
    refine ev_succ ?_
    simp only [bourneref37_Day.l0, if_pos (show (j : Int) < (ps.length : Int) by omega)]
    refine Ev.bind (there_ev b0 b1 b2 ps b4 b5 b6 b7 b8 b9 b10 supply h64 hs (j : Int)) ?_
    simp only [if_pos (show L.length < 17592186044416 by omega), w64_succ j (by omega)]
    rw [List.range'_succ, List.map_cons]
    simpa using this

/-! ### The two days are one -/
theorem rd_addAt (s : Int) (L : List Int) (q x : Int) (h0 : 0 ≤ q) (h1 : q < L.length) (hx : 0 ≤ x) : rd (addAt s L q) x = if q = x then addM (rd L q) s else rd L x := rd_set L q x _ h0 h1 hx
theorem rd_foldAdd (s x : Int) (hx : 0 ≤ x) : ∀ (l : List Int) (L : List Int), l.Nodup → (∀ q ∈ l, 0 ≤ q ∧ q < L.length) → rd (l.foldl (addAt s) L) x = if x ∈ l then addM (rd L x) s else rd L x
  | [], L, _, _ => by simp
  | q :: l, L, hn, hq => by
    rw [List.foldl_cons, rd_foldAdd s x hx l _ (List.nodup_cons.1 hn).2 (fun y hy => by rw [addAt_len]; exact hq y (by simp [hy])), rd_addAt s L q x (hq q (by simp)).1 (hq q (by simp)).2 hx]
    have hql := (List.nodup_cons.1 hn).1
    by_cases h : q = x
    · subst h; simp [hql]
    · simp [h, show ¬ x = q from fun e => h e.symm]
theorem rd_takeAt (s : Int) (L : List Int) (q x : Int) (h0 : 0 ≤ q) (h1 : q < L.length) (hx : 0 ≤ x) : rd (takeAt s L q) x = if q = x then wrap64 (rd L q - s) else rd L x := rd_set L q x _ h0 h1 hx
theorem rd_foldTake (s x : Int) (hx : 0 ≤ x) : ∀ (l : List Int) (L : List Int), l.Nodup → (∀ q ∈ l, 0 ≤ q ∧ q < L.length) → rd (l.foldl (takeAt s) L) x = if x ∈ l then wrap64 (rd L x - s) else rd L x
  | [], L, _, _ => by simp
  | q :: l, L, hn, hq => by
    rw [List.foldl_cons, rd_foldTake s x hx l _ (List.nodup_cons.1 hn).2 (fun y hy => by rw [takeAt_len]; exact hq y (by simp [hy])), rd_takeAt s L q x (hq q (by simp)).1 (hq q (by simp)).2 hx]
    have hql := (List.nodup_cons.1 hn).1
    by_cases h : q = x
    · subst h; simp [hql]
    · simp [h, show ¬ x = q from fun e => h e.symm]
theorem addM_zero {a : Int} (h : 0 ≤ a ∧ a ≤ 9223372036854775807) : addM a 0 = a := by unfold addM; rw [if_neg (by omega), if_neg (by omega)]; omega
theorem rd_fill (supply : List Int) (x : Int) (hx : 0 ≤ x) : ∀ (l : List Nat) (L : List Int), L.length = ps.length → NN L → (∀ p ∈ l, (p : Int) < supply.length) →
    rd (l.foldl (fillP ps supply) L) x = l.foldl (thereStep ps supply x) (rd L x)
  | [], L, _, _, _ => rfl
  | p :: l, L, hl, hn, hp => by
    have hpp := hp p (by simp)
    rw [List.foldl_cons, List.foldl_cons, rd_fill supply x hx l _ (by rw [fillP_len]; exact hl) (fillP_nn ps supply L p hn) (fun q hq => hp q (by simp [hq]))]
    congr 1
    have hin := reachM_in ps (p : Int)
    unfold fillP thereStep
    by_cases h0 : 0 ≤ rd supply (p : Int)
    · rw [if_pos ⟨hpp, h0⟩, rd_foldAdd _ x hx _ L (reachM_nodup ps p) (fun q hq => ⟨(hin q hq).1, by rw [hl]; exact (hin q hq).2⟩)]
      by_cases hm : x ∈ reachM ps (p : Int)
      · by_cases h1 : rd supply (p : Int) > 0
        · rw [if_pos hm, if_pos ⟨hm, h1⟩]
        · rw [if_pos hm, if_neg (fun h => h1 h.2), show rd supply (p : Int) = 0 by omega, addM_zero (hn.rd x)]
      · rw [if_neg hm, if_neg (fun h => hm h.1)]
    · rw [if_neg (fun h => h0 h.2), if_neg (fun h => h0 (by omega))]
theorem fold_skip (supply : List Int) : ∀ (l : List Nat) (L : List Int), (∀ p ∈ l, ¬ (p : Int) < supply.length) → l.foldl (fillP ps supply) L = L
  | [], L, _ => rfl
  | p :: l, L, h => by
    rw [List.foldl_cons]
    have e : fillP ps supply L p = L := by unfold fillP; rw [if_neg (fun hh => h p (by simp) hh.1)]
    rw [e]
    exact fold_skip supply l L (fun q hq => h q (by simp [hq]))
theorem fill_there (supply : List Int) (x : Int) (hx : 0 ≤ x) : rd (fillM ps supply) x = thereM ps supply x := by
  unfold fillM thereM
  have e : List.range ps.length = List.range (min ps.length supply.length) ++ (List.range (ps.length - min ps.length supply.length)).map (min ps.length supply.length + ·) := by
    rw [← List.range_add]; congr 1; omega
  rw [e, List.foldl_append, fold_skip]
  · rw [rd_fill ps supply x hx _ _ (by simp) (fun y hy => by rw [List.mem_replicate] at hy; omega) (fun p hp => by have := List.mem_range.1 hp; omega), rd_replicate]
  · intro p hp
    obtain ⟨a, ha, rfl⟩ := List.mem_map.1 hp
    have := List.mem_range.1 ha
    omega
theorem fill_left (supply : List Int) : fillM ps supply = leftR ps supply := by
  apply ext_rd
  · rw [fillM_len]; simp [leftR]
  · intro q hq
    rw [fillM_len] at hq
    rw [fill_there ps supply q (by omega)]
    unfold leftR
    rw [rd_range_map _ _ _ hq]
theorem mx_least (L : List Int) (hn : NN L) : ∀ (l : List Int) (n : Int), mx 0 (leastM n L l) = leastM (mx 0 n) L l
  | [], n => rfl
  | q :: l, n => by
    have e1 : leastM n L (q :: l) = leastM (mn n (rd L q)) L l := rfl
    have e2 : leastM (mx 0 n) L (q :: l) = leastM (mn (mx 0 n) (rd L q)) L l := rfl
    rw [e1, e2, mx_least L hn l]
    congr 1
    have := hn.rd q
    unfold mx mn; (repeat' split) <;> omega
theorem grant_same (L : List Int) (hn : NN L) (r : S45) : grantM ps L r = grantR ps L r := by
  unfold grantM grantR
  by_cases h : ((reachM ps r.f3).length : Int) = 0
  · rw [if_pos h, if_pos h]
    have : reachM ps r.f3 = [] := List.eq_nil_of_length_eq_zero (by omega)
    rw [this]; rfl
  · rw [if_neg h, if_neg h]
    exact mx_least L hn _ _
theorem leastM_le (L : List Int) : ∀ (l : List Int) (n : Int), leastM n L l ≤ n ∧ ∀ q ∈ l, leastM n L l ≤ rd L q
  | [], n => ⟨Int.le_refl _, by simp⟩
  | q :: l, n => by
    have e1 : leastM n L (q :: l) = leastM (mn n (rd L q)) L l := rfl
    obtain ⟨i1, i2⟩ := leastM_le L l (mn n (rd L q))
    have hm : mn n (rd L q) ≤ n ∧ mn n (rd L q) ≤ rd L q := by unfold mn; split <;> omega
    rw [e1]
    refine ⟨by omega, fun x hx => ?_⟩
    rcases List.mem_cons.1 hx with rfl | h
    · omega
    · exact i2 x h
theorem leastM_is (L : List Int) : ∀ (l : List Int) (n : Int), leastM n L l = n ∨ ∃ q ∈ l, leastM n L l = rd L q
  | [], n => .inl rfl
  | q :: l, n => by
    have e1 : leastM n L (q :: l) = leastM (mn n (rd L q)) L l := rfl
    rw [e1]
    rcases leastM_is L l (mn n (rd L q)) with h | ⟨x, hx, h⟩
    · unfold mn at h ⊢
      split at h
      · exact .inr ⟨q, by simp, by rw [if_pos ‹_›]; exact h⟩
      · exact .inl (by rw [if_neg ‹_›]; exact h)
    · exact .inr ⟨x, by simp [hx], h⟩
theorem grant_bounds (L : List Int) (hn : NN L) (r : S45) : 0 ≤ grantM ps L r ∧ grantM ps L r ≤ mx 0 r.f4 ∧ ∀ q ∈ reachM ps r.f3, grantM ps L r ≤ rd L q := by
  rw [grant_same ps L hn]
  unfold grantR
  by_cases h : ((reachM ps r.f3).length : Int) = 0
  · have : reachM ps r.f3 = [] := List.eq_nil_of_length_eq_zero (by omega)
    rw [if_pos h, this]
    refine ⟨Int.le_refl 0, ?_, by simp⟩
    show (0 : Int) ≤ mx 0 r.f4
    unfold mx; split <;> omega
  · rw [if_neg h]
    obtain ⟨h1, h2⟩ := leastM_le L (reachM ps r.f3) (mx 0 r.f4)
    refine ⟨?_, h1, h2⟩
    rcases leastM_is L (reachM ps r.f3) (mx 0 r.f4) with e | ⟨q, _, e⟩
    · rw [e]; unfold mx; split <;> omega
    · rw [e]; exact (hn.rd q).1
theorem take_nn (L : List Int) (hn : NN L) (l : List Int) (hd : l.Nodup) (hq : ∀ q ∈ l, 0 ≤ q ∧ q < L.length) (g : Int) (hg0 : 0 ≤ g) (hg : ∀ q ∈ l, g ≤ rd L q) : NN (l.foldl (takeAt g) L) ∧ ∀ x : Int, 0 ≤ x → rd (l.foldl (takeAt g) L) x = if x ∈ l then rd L x - g else rd L x := by
  have key : ∀ x : Int, 0 ≤ x → rd (l.foldl (takeAt g) L) x = if x ∈ l then rd L x - g else rd L x := by
    intro x hx
    rw [rd_foldTake g x hx l L hd hq]
    by_cases h : x ∈ l
    · rw [if_pos h, if_pos h]
      have := hg x h
      have := hn.rd x
      exact w64_of' (by omega) (by omega)
    · rw [if_neg h, if_neg h]
  refine ⟨fun y hy => ?_, key⟩
  obtain ⟨i, hi, rfl⟩ := List.getElem_of_mem hy
  have e := key (i : Int) (by omega)
  rw [rd_get _ _ hi] at e
  rw [e]
  have := hn.rd (i : Int)
  split
  · rename_i h; have := hg _ h; omega
  · exact this
theorem serveM_nn (st : List S47 × List Int) (r : S45) (hl : st.2.length = ps.length) (hn : NN st.2) : NN (serveM ps st r).2 := by
  obtain ⟨g0, _, g2⟩ := grant_bounds ps st.2 hn r
  have hin := reachM_in ps r.f3
  exact (take_nn st.2 hn _ (reachM_nodup ps r.f3) (fun q hq => ⟨(hin q hq).1, by rw [hl]; exact (hin q hq).2⟩) _ g0 g2).1
theorem fold_serve_same : ∀ (l : List S45) (st : List S47 × List Int), st.2.length = ps.length → NN st.2 → l.foldl (serveM ps) st = l.foldl (serveR ps) st
  | [], st, _, _ => rfl
  | r :: l, st, hl, hn => by
    rw [List.foldl_cons, List.foldl_cons, fold_serve_same l _ (by rw [serveM_len]; exact hl) (serveM_nn ps st r hl hn)]
    congr 1
    unfold serveM serveR
    rw [grant_same ps st.2 hn]
theorem day_same (roster : List S45) (supply : List Int) : dayM ps roster supply = dayR ps roster supply := by
  unfold dayM dayR
  rw [fold_serve_same ps roster _ (fillM_len ps supply) (fillM_nn ps supply), fill_left]
/-! ### What returns -/
def clampM (n lo hi : Int) : Int := if n < lo then lo else if n > hi then hi else n
def backStep (roster : List S45) (out : List Int) (g : S47) : List Int :=
  if idxRight roster g.f0 < 0 then out else if inB ps (rd_T45 roster (idxRight roster g.f0)).f8 then out.set (rd_T45 roster (idxRight roster g.f0)).f8.toNat (addM (rd out (rd_T45 roster (idxRight roster g.f0)).f8) (scaleM (clampM g.f1 0 1125899906842624) (clampM (rd_T45 roster (idxRight roster g.f0)).f7 0 1000) 1000).1) else out
def backM (roster : List S45) (grants : List S47) : List Int := grants.foldl (backStep ps roster) (List.replicate ps.length 0)
theorem clampM_in {n lo hi : Int} (h : lo ≤ hi) : lo ≤ clampM n lo hi ∧ clampM n lo hi ≤ hi := by unfold clampM; split <;> (try split) <;> omega
theorem scaleM_nn (a num den : Int) : 0 ≤ (scaleM a num den).1 ∧ (scaleM a num den).1 ≤ 1125899906842624 := by
  unfold scaleM
  split
  · simp
  · rename_i h
    split
    · simp
    · rename_i h2
      refine ⟨Int.ediv_nonneg (Int.mul_nonneg (by omega) (by omega)) (by omega), ?_⟩
      simp only
      omega
theorem backStep_len (roster : List S45) (out : List Int) (g : S47) : (backStep ps roster out g).length = out.length := by unfold backStep; split <;> (try split) <;> simp
theorem backStep_nn (roster : List S45) (out : List Int) (g : S47) (h : NN out) : NN (backStep ps roster out g) := by
  unfold backStep
  split
  · exact h
  · split
    · exact h.set _ _ (addM_nn (h.rd _).1 (scaleM_nn _ _ _).1)
    · exact h
theorem idx_bounds : ∀ (l : List S45) (id : Int), -1 ≤ idxRight l id ∧ idxRight l id < l.length
  | [], id => by simp [idxRight]
  | x :: l, id => by
    have := idx_bounds l id
    simp only [idxRight, List.length_cons]
    split
    · omega
    · split <;> omega
theorem find_ev (roster : List S45) (hro : roster.length ≤ 40) (id : Int) : Ev (fun k => bourneref37_Find.f k roster id) (idxRight roster id) := by
  unfold bourneref37_Find.f
  suffices ∀ (d j : Nat), j + d = roster.length → (∀ i : Nat, i < j → (rd_T45 roster i).f0 ≠ id) → Ev (fun k => bourneref37_Find.l0 k roster id (j : Int)) (idxRight roster id) by
    exact this roster.length 0 (by omega) (fun i hi => absurd hi (by omega))
  intro d
  induction d with
  | zero =>
    intro j hj hn
    refine ev_succ ?_
    simp only [bourneref37_Find.l0, if_neg (show ¬ (j : Int) < (roster.length : Int) by omega)]
    exact ev_some (idxRight_miss roster id (fun i hi => hn i (by omega))).symm
  | succ d ih =>
    intro j hj hn
    refine ev_succ ?_
    by_cases h : (rd_T45 roster (j : Int)).f0 = id
    · simp only [bourneref37_Find.l0, if_pos (show (j : Int) < (roster.length : Int) by omega), if_pos (show (0 : Int) ≤ (j : Int) by omega), if_pos h]
      exact ev_some (idxRight_hit roster id j hn (by omega) h).symm
    · simp only [bourneref37_Find.l0, if_pos (show (j : Int) < (roster.length : Int) by omega), if_pos (show (0 : Int) ≤ (j : Int) by omega), if_neg h, w64_succ j (by omega)]
      refine ih (j + 1) (by omega) (fun i hi => ?_)
      by_cases e : i = j
      · subst e; exact h
      · exact hn i (by omega)
theorem rd_T47_drop (xs : List S47) (j : Nat) (h : j < xs.length) : xs.drop j = rd_T47 xs (j : Int) :: xs.drop (j + 1) := by
  have : rd_T47 xs (j : Int) = xs[j] := by simp [rd_T47, List.getD_eq_getElem?_getD, h]
  rw [this]; exact List.drop_eq_getElem_cons h
theorem fits_small {x : Int} (h0 : 0 ≤ x) (h1 : x ≤ 9223372036854775807) : Fits x := ⟨by omega, h1⟩
theorem allot_Back_tells (h64 : ps.length ≤ 64) (hro : roster.length ≤ 40) (grants : List S47) (hg : grants.length ≤ 80) : Ev (fun k => allot_Back.f k b0 b1 b2 ps b4 b5 b6 b7 b8 b9 b10 roster grants) (backM ps roster grants) := by
  unfold allot_Back.f
  have e : ((ps.length : Int)).toNat = ps.length := by omega
  simp only [if_pos (show (0 : Int) ≤ (ps.length : Int) by omega), e, if_pos (show ps.length ≤ 35184372088832 by omega)]
  suffices ∀ (d j : Nat) (out : List Int), j + d = grants.length → out.length = ps.length → NN out → Ev (fun k => allot_Back.l0 k roster out grants (grants.length : Int) (j : Int) b0 b1 b2 ps b4 b5 b6 b7 b8 b9 b10) ((grants.drop j).foldl (backStep ps roster) out) by
    exact this grants.length 0 _ (by omega) (by simp) (fun x hx => by rw [List.mem_replicate] at hx; omega)
  intro d
  induction d with
  | zero =>
    intro j out hj hl hn
    refine ev_succ ?_
    simp only [allot_Back.l0, if_neg (show ¬ (j : Int) < (grants.length : Int) by omega)]
    rw [List.drop_eq_nil_of_le (by omega)]
    exact Ev.now _
  | succ d ih =>
    intro j out hj hl hn
    rw [rd_T47_drop grants j (by omega), List.foldl_cons]
    have hnx := ih (j + 1) (backStep ps roster out (rd_T47 grants (j : Int))) (by omega) (by rw [backStep_len]; exact hl) (backStep_nn ps roster out _ hn)
    have hlt1 : (j : Int) < (grants.length : Int) := by omega
    have hlt0 : (0 : Int) ≤ (j : Int) := by omega
    have hw := w64_succ j (by omega)
    obtain ⟨hi0, hi1⟩ := idx_bounds roster (rd_T47 grants (j : Int)).f0
    -- the ways that leave all as it is
    have skip : ∀ x : Int, backStep ps roster out (rd_T47 grants (j : Int)) = out → Ev (fun k => allot_Back.j1 k roster out x grants (grants.length : Int) (j : Int) true b0 b1 b2 ps b4 b5 b6 b7 b8 b9 b10 (rd_T47 grants (j : Int)).f0 (rd_T47 grants (j : Int)).f1) (List.foldl (backStep ps roster) (backStep ps roster out (rd_T47 grants (j : Int))) (List.drop (j + 1) grants)) := by
      intro x he
      refine ev_succ ?_
      simp only [allot_Back.j1, if_true, hw]
      rw [he] at hnx ⊢
      exact hnx
    refine ev_succ ?_
    simp only [allot_Back.l0, if_pos hlt1, if_pos hlt0, slices_IndexFunc.f, Option.bind_some]
    by_cases h1 : idxRight roster (rd_T47 grants (j : Int)).f0 < 0
    · simp only [if_pos h1]
      exact skip _ (by unfold backStep; rw [if_pos h1])
    · have h2 : 0 ≤ idxRight roster (rd_T47 grants (j : Int)).f0 := by omega
      simp only [if_neg h1, if_pos h2, if_pos hi1, allot_is.f]
      by_cases h3 : (rd_T45 roster (idxRight roster (rd_T47 grants (j : Int)).f0)).f8 ≥ 0
      · by_cases h4 : (rd_T45 roster (idxRight roster (rd_T47 grants (j : Int)).f0)).f8 < (ps.length : Int)
        · simp only [if_pos h3, decide_eq_true h4, Option.bind_some, Bool.not_true]
          refine ev_succ ?_
          have c1 : exact_Clamp.f (rd_T47 grants (j : Int)).f1 0 1125899906842624 = some (clampM (rd_T47 grants (j : Int)).f1 0 1125899906842624) := by unfold exact_Clamp.f clampM; split <;> (try split) <;> rfl
          have c2 : exact_Clamp.f (rd_T45 roster (idxRight roster (rd_T47 grants (j : Int)).f0)).f7 0 1000 = some (clampM (rd_T45 roster (idxRight roster (rd_T47 grants (j : Int)).f0)).f7 0 1000) := by unfold exact_Clamp.f clampM; split <;> (try split) <;> rfl
          simp only [allot_Back.j1, if_neg (show ¬ false = true by simp), c1, c2, Option.bind_some, if_pos h2, if_pos hi1]
          refine Ev.bind (exact_Scale_ev _ _ _) ?_
          have hsn := scaleM_nn (clampM (rd_T47 grants (j : Int)).f1 0 1125899906842624) (clampM (rd_T45 roster (idxRight roster (rd_T47 grants (j : Int)).f0)).f7 0 1000) 1000
          have hon := hn.rd (rd_T45 roster (idxRight roster (rd_T47 grants (j : Int)).f0)).f8
          have hadd := exact_Add_tells (fits_small hon.1 hon.2) (fits_small hsn.1 (by omega))
          simp only [if_pos h3, if_pos (show (rd_T45 roster (idxRight roster (rd_T47 grants (j : Int)).f0)).f8 < (out.length : Int) by rw [hl]; exact h4), hadd, Option.bind_some, hw]
          have e : backStep ps roster out (rd_T47 grants (j : Int)) = out.set (rd_T45 roster (idxRight roster (rd_T47 grants (j : Int)).f0)).f8.toNat (addM (rd out (rd_T45 roster (idxRight roster (rd_T47 grants (j : Int)).f0)).f8) (scaleM (clampM (rd_T47 grants (j : Int)).f1 0 1125899906842624) (clampM (rd_T45 roster (idxRight roster (rd_T47 grants (j : Int)).f0)).f7 0 1000) 1000).1) := by
            unfold backStep; rw [if_neg h1, if_pos (show inB ps _ from ⟨h3, h4⟩)]
          rw [e] at hnx ⊢
          exact hnx
        · simp only [if_pos h3, decide_eq_false h4, Option.bind_some, Bool.not_false]
          exact skip _ (by unfold backStep; rw [if_neg h1, if_neg (fun h => h4 h.2)])
      · simp only [if_neg h3, Option.bind_some, Bool.not_false]
        exact skip _ (by unfold backStep; rw [if_neg h1, if_neg (fun h => h3 h.1)])
theorem ref_Back_tells (h64 : ps.length ≤ 64) (hro : roster.length ≤ 40) (grants : List S47) (hg : grants.length ≤ 80) : Ev (fun k => bourneref37_Back.f k b0 b1 b2 ps b4 b5 b6 b7 b8 b9 b10 roster grants) (backM ps roster grants) := by
  unfold bourneref37_Back.f
  have e : ((ps.length : Int)).toNat = ps.length := by omega
  simp only [if_pos (show (0 : Int) ≤ (ps.length : Int) by omega), e, if_pos (show ps.length ≤ 35184372088832 by omega)]
  suffices ∀ (d j : Nat) (out : List Int), j + d = grants.length → out.length = ps.length → NN out → Ev (fun k => bourneref37_Back.l0 k roster grants out (j : Int) b0 b1 b2 ps b4 b5 b6 b7 b8 b9 b10) ((grants.drop j).foldl (backStep ps roster) out) by
    exact this grants.length 0 _ (by omega) (by simp) (fun x hx => by rw [List.mem_replicate] at hx; omega)
  intro d
  induction d with
  | zero =>
    intro j out hj hl hn
    refine ev_succ ?_
    simp only [bourneref37_Back.l0, if_neg (show ¬ (j : Int) < (grants.length : Int) by omega)]
    rw [List.drop_eq_nil_of_le (by omega)]
    exact Ev.now _
  | succ d ih =>
    intro j out hj hl hn
    rw [rd_T47_drop grants j (by omega), List.foldl_cons]
    have hnx := ih (j + 1) (backStep ps roster out (rd_T47 grants (j : Int))) (by omega) (by rw [backStep_len]; exact hl) (backStep_nn ps roster out _ hn)
    have hlt1 : (j : Int) < (grants.length : Int) := by omega
    have hlt0 : (0 : Int) ≤ (j : Int) := by omega
    have hw := w64_succ j (by omega)
    obtain ⟨hi0, hi1⟩ := idx_bounds roster (rd_T47 grants (j : Int)).f0
    have skip : ∀ x : Int, backStep ps roster out (rd_T47 grants (j : Int)) = out → Ev (fun k => bourneref37_Back.j1 k roster grants out (j : Int) x true b0 b1 b2 ps b4 b5 b6 b7 b8 b9 b10) (List.foldl (backStep ps roster) (backStep ps roster out (rd_T47 grants (j : Int))) (List.drop (j + 1) grants)) := by
      intro x he
      refine ev_succ ?_
      simp only [bourneref37_Back.j1, if_true, hw]
      rw [he] at hnx ⊢
      exact hnx
    refine ev_succ ?_
    simp only [bourneref37_Back.l0, if_pos hlt1, if_pos hlt0]
    refine Ev.bind (find_ev roster hro _) ?_
    by_cases h1 : idxRight roster (rd_T47 grants (j : Int)).f0 < 0
    · simp only [if_pos h1]
      exact skip _ (by unfold backStep; rw [if_pos h1])
    · have h2 : 0 ≤ idxRight roster (rd_T47 grants (j : Int)).f0 := by omega
      simp only [if_neg h1, if_pos h2, if_pos hi1]
      by_cases h3 : (rd_T45 roster (idxRight roster (rd_T47 grants (j : Int)).f0)).f8 < 0
      · simp only [if_pos h3]
        exact skip _ (by unfold backStep; rw [if_neg h1, if_neg (fun h => by have := h.1; omega)])
      · by_cases h4 : (rd_T45 roster (idxRight roster (rd_T47 grants (j : Int)).f0)).f8 ≥ (ps.length : Int)
        · simp only [if_neg h3, decide_eq_true h4]
          exact skip _ (by unfold backStep; rw [if_neg h1, if_neg (fun h => by have := h.2; omega)])
        · have h5 : 0 ≤ (rd_T45 roster (idxRight roster (rd_T47 grants (j : Int)).f0)).f8 := by omega
          have h6 : (rd_T45 roster (idxRight roster (rd_T47 grants (j : Int)).f0)).f8 < (ps.length : Int) := by omega
          simp only [if_neg h3, decide_eq_false h4]
          refine ev_succ ?_
          have c1 : bourneref01_Clamp.f (rd_T47 grants (j : Int)).f1 0 1125899906842624 = some (clampM (rd_T47 grants (j : Int)).f1 0 1125899906842624) := by unfold bourneref01_Clamp.f clampM; split <;> (try split) <;> rfl
          have c2 : bourneref01_Clamp.f (rd_T45 roster (idxRight roster (rd_T47 grants (j : Int)).f0)).f7 0 1000 = some (clampM (rd_T45 roster (idxRight roster (rd_T47 grants (j : Int)).f0)).f7 0 1000) := by unfold bourneref01_Clamp.f clampM; split <;> (try split) <;> rfl
          simp only [bourneref37_Back.j1, if_neg (show ¬ false = true by simp), c1, c2, Option.bind_some, if_pos h2, if_pos hi1, if_pos hlt1, if_pos hlt0]
          refine Ev.bind (refScale_ev _ _ _) ?_
          have hsn := scaleM_nn (clampM (rd_T47 grants (j : Int)).f1 0 1125899906842624) (clampM (rd_T45 roster (idxRight roster (rd_T47 grants (j : Int)).f0)).f7 0 1000) 1000
          have hon := hn.rd (rd_T45 roster (idxRight roster (rd_T47 grants (j : Int)).f0)).f8
          simp only [if_pos h5, if_pos (show (rd_T45 roster (idxRight roster (rd_T47 grants (j : Int)).f0)).f8 < (out.length : Int) by rw [hl]; exact h6)]
          refine Ev.bind (ref_Add_tells (fits_small hon.1 hon.2) (fits_small hsn.1 (by omega))) ?_
          simp only [hw]
          have e : backStep ps roster out (rd_T47 grants (j : Int)) = out.set (rd_T45 roster (idxRight roster (rd_T47 grants (j : Int)).f0)).f8.toNat (addM (rd out (rd_T45 roster (idxRight roster (rd_T47 grants (j : Int)).f0)).f8) (scaleM (clampM (rd_T47 grants (j : Int)).f1 0 1125899906842624) (clampM (rd_T45 roster (idxRight roster (rd_T47 grants (j : Int)).f0)).f7 0 1000) 1000).1) := by
            unfold backStep; rw [if_neg h1, if_pos (show inB ps _ from ⟨h5, h6⟩)]
          rw [e] at hnx ⊢
          exact hnx

/-! ### Equal lists -/
theorem sameInts_ev (a b : List Int) (hl : a.length ≤ 64) (h : a = b) : Ev (fun k => bourneref37_SameInts.f k a b) true := by
  subst h
  unfold bourneref37_SameInts.f
  simp only [if_true]
  suffices ∀ (d j : Nat), j + d = a.length → Ev (fun k => bourneref37_SameInts.l0 k a a (j : Int)) true by exact this a.length 0 (by omega)
  intro d
  induction d with
  | zero =>
    intro j hj
    refine ev_succ ?_
    simp only [bourneref37_SameInts.l0, if_neg (show ¬ (j : Int) < (a.length : Int) by omega)]
    exact Ev.now _
  | succ d ih =>
    intro j hj
    refine ev_succ ?_
    simp only [bourneref37_SameInts.l0, if_pos (show (j : Int) < (a.length : Int) by omega), if_pos (show (0 : Int) ≤ (j : Int) by omega), if_true, w64_succ j (by omega)]
    exact ih (j + 1) (by omega)
theorem same_ev (a b : List S47) (hl : a.length ≤ 64) (h : a = b) : Ev (fun k => bourneref37_Same.f k a b) true := by
  subst h
  unfold bourneref37_Same.f
  simp only [if_true]
  suffices ∀ (d j : Nat), j + d = a.length → Ev (fun k => bourneref37_Same.l0 k a a (j : Int)) true by exact this a.length 0 (by omega)
  intro d
  induction d with
  | zero =>
    intro j hj
    refine ev_succ ?_
    simp only [bourneref37_Same.l0, if_neg (show ¬ (j : Int) < (a.length : Int) by omega)]
    exact Ev.now _
  | succ d ih =>
    intro j hj
    refine ev_succ ?_
    simp only [bourneref37_Same.l0, if_pos (show (j : Int) < (a.length : Int) by omega), if_pos (show (0 : Int) ≤ (j : Int) by omega), beq_self_eq_true, Bool.not_true, Bool.or_self, if_neg (show ¬ false = true by simp), w64_succ j (by omega)]
    exact ih (j + 1) (by omega)
/-! ### What all laws share -/
theorem few_tells (l1 : List S45) (l2 : List S47) : bournelaw37_few.f b0 b1 b2 ps b4 b5 b6 b7 b8 b9 b10 l1 l2 = some (decide (ps.length ≤ 64 ∧ l1.length ≤ 40 ∧ l2.length ≤ 80)) := by
  unfold bournelaw37_few.f
  by_cases h1 : (ps.length : Int) ≤ 64
  · by_cases h2 : (l1.length : Int) ≤ 40
    · rw [if_pos h1, if_pos h2]
      congr 1
      simp only [decide_eq_decide]
      omega
    · rw [if_pos h1, if_neg h2, decide_eq_false (by omega)]
  · rw [if_neg h1, decide_eq_false (by omega)]
theorem day_fst_len : ∀ (l : List S45) (st : List S47 × List Int), (l.foldl (serveM ps) st).1.length = st.1.length + l.length
  | [], st => rfl
  | r :: l, st => by rw [List.foldl_cons, day_fst_len l]; simp [serveM]; omega
theorem day_len (roster : List S45) (supply : List Int) : (dayM ps roster supply).1.length = roster.length := by unfold dayM; rw [day_fst_len]; simp
theorem day_snd_len : ∀ (l : List S45) (st : List S47 × List Int), (l.foldl (serveM ps) st).2.length = st.2.length
  | [], st => rfl
  | r :: l, st => by rw [List.foldl_cons, day_snd_len l, serveM_len]
theorem day_left_len (roster : List S45) (supply : List Int) : (dayM ps roster supply).2.length = ps.length := by unfold dayM; rw [day_snd_len, fillM_len]
theorem serve_nn : ∀ (l : List S45) (st : List S47 × List Int), st.2.length = ps.length → NN st.2 → NN (l.foldl (serveM ps) st).2
  | [], st, _, h => h
  | r :: l, st, hl, h => by rw [List.foldl_cons]; exact serve_nn l _ (by rw [serveM_len]; exact hl) (serveM_nn ps st r hl h)
theorem fits_all {l : List Int} (h : ∀ x ∈ l, (Lit.int .i64 x).wf = true) : ∀ x ∈ l, Fits x := fun x hx => fits_of_wf (h x hx)
end
theorem small_ev : Ev (fun k => bournelaw37_small.f k) true := Ev.of (fun k => bournelaw37_small.mono k) (show bournelaw37_small.f 70 = some true by kernel_rfl)
end Go.Proofs.Ythmbleephognnaa.Allot
