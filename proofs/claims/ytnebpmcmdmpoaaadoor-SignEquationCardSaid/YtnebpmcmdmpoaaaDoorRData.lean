/- Cells and data; types; what is known of a slot's value. -/
import Derived.Test.YtnebpmcmdmpoaaaDoorRRel
import Derived.Laws.StructEq
import Derived.Laws.Entries
namespace Go.Proofs.YtnebpmcmdmpoaaaDoor.R
open Go
set_option linter.unusedVariables false
set_option linter.unusedSimpArgs false

/-- cells and what is known of them -/
def Reps (w : World) (U : Nat → Prop) (σ : Sig) (vs : List Value) (cs : List V) : Prop :=
  vs.length = cs.length ∧ ∀ (j : Nat) (v : Value) (x : V), vs[j]? = some v → cs[j]? = some x → Rep w U σ v x

section
variable {w : World} {U : Nat → Prop} {σ : Sig}

theorem Reps.nil : Reps w U σ [] [] := ⟨rfl, fun j v x h => by simp at h⟩
theorem Reps.cons {v : Value} {x : V} {vs : List Value} {cs : List V} (h : Rep w U σ v x) (hr : Reps w U σ vs cs) : Reps w U σ (v :: vs) (x :: cs) :=
  ⟨by simp [hr.1], fun j v' x' hv hx => by
    cases j with
    | zero => simp at hv hx; subst hv; subst hx; exact h
    | succ j => exact hr.2 j v' x' (by simpa using hv) (by simpa using hx)⟩
theorem Reps.one {v : Value} {x : V} (h : Rep w U σ v x) : Reps w U σ [v] [x] := .cons h .nil
theorem Reps.head {v : Value} {x : V} {vs : List Value} {cs : List V} (h : Reps w U σ (v :: vs) (x :: cs)) : Rep w U σ v x := h.2 0 v x rfl rfl
theorem Reps.tail {v : Value} {x : V} {vs : List Value} {cs : List V} (h : Reps w U σ (v :: vs) (x :: cs)) : Reps w U σ vs cs :=
  ⟨by have := h.1; simpa using this, fun j v' x' hv hx => h.2 (j + 1) v' x' (by simpa using hv) (by simpa using hx)⟩
theorem Reps.inv_cons {x : V} {vs : List Value} {cs : List V} (h : Reps w U σ vs (x :: cs)) : ∃ v r, vs = v :: r ∧ Rep w U σ v x ∧ Reps w U σ r cs := by
  cases vs with
  | nil => have := h.1; simp at this
  | cons v r => exact ⟨v, r, rfl, h.head, h.tail⟩
theorem Reps.inv_nil {vs : List Value} (h : Reps w U σ vs []) : vs = [] := List.length_eq_zero_iff.1 h.1
theorem Reps.append {a b : List Value} {c d : List V} (h : Reps w U σ a c) (k : Reps w U σ b d) : Reps w U σ (a ++ b) (c ++ d) := by
  refine ⟨by simp [h.1, k.1], fun j v x hv hx => ?_⟩
  by_cases hj : j < a.length
  · rw [List.getElem?_append_left hj] at hv
    rw [List.getElem?_append_left (by rw [← h.1]; exact hj)] at hx
    exact h.2 j v x hv hx
  · rw [List.getElem?_append_right (by omega)] at hv
    rw [List.getElem?_append_right (by rw [← h.1]; omega), ← h.1] at hx
    exact k.2 _ v x hv hx
theorem Reps.take {a : List Value} {c : List V} (h : Reps w U σ a c) (n : Nat) : Reps w U σ (a.take n) (c.take n) := by
  refine ⟨by simp [h.1], fun j v x hv hx => ?_⟩
  rw [List.getElem?_take] at hv hx
  split at hv
  · rename_i hj; rw [if_pos hj] at hx; exact h.2 j v x hv hx
  · cases hv
theorem Reps.drop {a : List Value} {c : List V} (h : Reps w U σ a c) (n : Nat) : Reps w U σ (a.drop n) (c.drop n) := by
  refine ⟨by simp [h.1], fun j v x hv hx => ?_⟩
  rw [List.getElem?_drop] at hv hx
  exact h.2 _ v x hv hx
theorem Reps.mono {w' : World} {U' : Nat → Prop} {σ' : Sig} (hk : Keeps w w' U U') (hσ : Later σ σ') {a : List Value} {c : List V} (h : Reps w U σ a c) : Reps w' U' σ' a c :=
  ⟨h.1, fun j v x hv hx => (h.2 j v x hv hx).mono hk hσ⟩
theorem Reps.get {a : List Value} {c : List V} (h : Reps w U σ a c) {j : Nat} {x : V} (hx : c[j]? = some x) : ∃ v, a[j]? = some v ∧ Rep w U σ v x := by
  have hj : j < a.length := by rw [h.1]; exact (List.getElem?_eq_some_iff.1 hx).1
  exact ⟨a[j], List.getElem?_eq_getElem hj, h.2 j _ x (List.getElem?_eq_getElem hj) hx⟩
theorem Reps.splice {a b : List Value} {c d : List V} (h : Reps w U σ a c) (k : Reps w U σ b d) (n : Nat) : Reps w U σ (splice a n b) (splice c n d) := by
  unfold R.splice
  rw [← k.1]
  exact (h.take n).append (k.append (h.drop _))

theorem RepT.reps : ∀ {t : Ty} {x : t.den} {cs : List Value}, RepT w U t x cs → Reps w U σ cs (explode t x)
  | .int k, n, _, h => by cases h; exact .one (.int k n)
  | .bool, b, _, h => by cases h; exact .one (.bool b)
  | .str, s, _, h => by cases h; exact .one (.str s)
  | .sl t, s, _, h => by obtain ⟨A, n, c, rfl, h⟩ := h; exact .one (.sl t false s A n c h (by simp))
  | .pair a b, x, _, h => by obtain ⟨c1, c2, rfl, h1, h2⟩ := h; exact (RepT.reps h1).append (RepT.reps h2)
  | .unit, _, _, h => by cases h; exact .nil

theorem explode_length : ∀ (t : Ty) (x : t.den), (explode t x).length = t.size
  | .int _, _ => rfl
  | .bool, _ => rfl
  | .str, _ => rfl
  | .sl _, _ => rfl
  | .pair a b, x => by simp [explode, Ty.size, explode_length a, explode_length b]
  | .unit, _ => rfl

theorem RepT.nilSl (t : Ty) : RepT w U (.sl t) (⟨true, []⟩ : Sl t.den) [.slice none 0 0] := ⟨none, 0, 0, rfl, rfl, rfl, rfl, rfl⟩

theorem implode_ok : ∀ {t : Ty} {cs : List V} {x : t.den} {r : List V} {vs : List Value}, implode t cs = some (x, r) → Reps w U σ vs cs →
    ∃ c1 c2, vs = c1 ++ c2 ∧ RepT w U t x c1 ∧ Reps w U σ c2 r := by
  intro t
  induction t with
  | int k =>
    intro cs x r vs h hr
    unfold implode takeInt at h
    split at h <;> try cases h
    split at h
    · rename_i hk; subst hk; cases h
      obtain ⟨v, r', rfl, hv, hr'⟩ := hr.inv_cons
      cases hv; exact ⟨[_], r', rfl, rfl, hr'⟩
    · cases h
  | bool =>
    intro cs x r vs h hr
    unfold implode takeBool at h
    split at h <;> cases h
    obtain ⟨v, r', rfl, hv, hr'⟩ := hr.inv_cons
    cases hv; exact ⟨[_], r', rfl, rfl, hr'⟩
  | str =>
    intro cs x r vs h hr
    unfold implode takeStr at h
    split at h <;> cases h
    obtain ⟨v, r', rfl, hv, hr'⟩ := hr.inv_cons
    cases hv; exact ⟨[_], r', rfl, rfl, hr'⟩
  | sl t ih =>
    intro cs x r vs h hr
    unfold implode takeSl at h
    split at h
    · rename_i t' capd s r0
      split at h
      · rename_i e; subst e; cases h
        obtain ⟨v, r', rfl, hv, hr'⟩ := hr.inv_cons
        cases hv with
        | sl _ _ _ A n c hs hc => exact ⟨[_], r', rfl, ⟨A, n, c, rfl, hs⟩, hr'⟩
      · cases h
    · cases h
      obtain ⟨v, r', rfl, hv, hr'⟩ := hr.inv_cons
      cases hv
      exact ⟨[_], r', rfl, RepT.nilSl t, hr'⟩
    · cases h
  | pair a b iha ihb =>
    intro cs x r vs h hr
    unfold implode at h
    cases h1 : implode a cs with
    | none => rw [h1] at h; cases h
    | some p =>
      obtain ⟨x1, r1⟩ := p
      rw [h1] at h
      dsimp only at h
      cases h2 : implode b r1 with
      | none => rw [h2] at h; cases h
      | some q =>
        obtain ⟨x2, r2⟩ := q
        rw [h2] at h
        cases h
        obtain ⟨c1, c2, rfl, g1, g2⟩ := iha h1 hr
        obtain ⟨c3, c4, rfl, g3, g4⟩ := ihb h2 g2
        exact ⟨c1 ++ c3, c4, by rw [List.append_assoc], ⟨c1, c3, rfl, g1, g3⟩, g4⟩
  | unit =>
    intro cs x r vs h hr
    unfold implode at h
    cases h
    exact ⟨[], vs, rfl, rfl, hr⟩

theorem listOf_ok {t : Ty} : ∀ {n : Nat} {cs : List V} {l : List t.den} {vs : List Value}, listOf t n cs = some l → Reps w U σ vs cs →
    l.length = n ∧ vs.length = n * t.size ∧ ∀ i x, l[i]? = some x → ∃ ce, RepT w U t x ce ∧ ∀ j v, ce[j]? = some v → vs[i * t.size + j]? = some v := by
  intro n
  induction n with
  | zero =>
    intro cs l vs h hr
    cases cs with
    | nil => cases h; have := hr.inv_nil; subst this; exact ⟨rfl, by simp, fun i x h => by simp at h⟩
    | cons c r => cases h
  | succ n ih =>
    intro cs l vs h hr
    simp only [listOf] at h
    cases h1 : implode t cs with
    | none => rw [h1] at h; cases h
    | some p =>
      obtain ⟨x, r⟩ := p
      rw [h1] at h
      dsimp only at h
      cases h2 : listOf t n r with
      | none => rw [h2] at h; cases h
      | some l' =>
        rw [h2] at h
        cases h
        obtain ⟨c1, c2, rfl, g1, g2⟩ := implode_ok h1 hr
        obtain ⟨e1, e2, e3⟩ := ih h2 g2
        refine ⟨by simp [e1], by rw [List.length_append, g1.length, e2, Nat.succ_mul]; omega, fun i y hy => ?_⟩
        cases i with
        | zero =>
          simp at hy; subst hy
          refine ⟨c1, g1, fun j v hv => ?_⟩
          rw [Nat.zero_mul, Nat.zero_add, List.getElem?_append_left (List.getElem?_eq_some_iff.1 hv).1]; exact hv
        | succ i =>
          obtain ⟨ce, g3, g4⟩ := e3 i y (by simpa using hy)
          refine ⟨ce, g3, fun j v hv => ?_⟩
          rw [List.getElem?_append_right (by rw [g1.length, Nat.succ_mul]; omega), g1.length]
          have := g4 j v hv
          rw [show (i + 1) * t.size + j - t.size = i * t.size + j by rw [Nat.succ_mul]; omega]
          exact this

/-- a value that is a data value of a kind -/
def RepV (w : World) (U : Nat → Prop) (t : Ty) (x : t.den) (v : Value) : Prop :=
  ∃ cs, RepT w U t x cs ∧ ((t.isAgg = true ∧ v = .agg cs.toArray) ∨ (t.isAgg = false ∧ cs = [v]))

theorem RepV.inject {t : Ty} {x : t.den} {v : Value} (h : RepV w U t x v) : Rep w U σ v (inject t x) := by
  obtain ⟨cs, h, ⟨ha, rfl⟩ | ⟨ha, rfl⟩⟩ := h
  · cases t <;> simp [Ty.isAgg] at ha
    · obtain ⟨hl, hr⟩ := RepT.reps (σ := σ) h
      exact .agg _ _ (by simpa using hl) fun j v V hv hV => hr j v V (by simpa using hv) hV
    · cases h; exact .agg _ _ rfl fun j v V hv hV => by simp at hv
  · cases t <;> simp [Ty.isAgg] at ha
    · cases h; exact .int _ _
    · cases h; exact .bool _
    · cases h; exact .str _
    · obtain ⟨A, n, c, e, h⟩ := h
      simp at e; subst e
      exact .sl _ _ _ _ _ _ h (by simp)

theorem Rep.agg_reps {v : Value} {cs : List V} (h : Rep w U σ v (.agg cs)) : ∃ vs, v = .agg vs ∧ Reps w U σ vs.toList cs := by
  cases h with
  | agg vs _ hl h => exact ⟨vs, rfl, by simpa using hl, fun j v x hv hx => h j v x (by simpa using hv) hx⟩

theorem Rep.agg_mk {vs : List Value} {cs : List V} (h : Reps w U σ vs cs) : Rep w U σ (.agg vs.toArray) (.agg cs) :=
  .agg _ _ (by simpa using h.1) fun j v x hv hx => h.2 j v x (by simpa using hv) hx

theorem aggOf_some {x : V} {cs : List V} (h : aggOf x = some cs) : x = .agg cs := by
  unfold aggOf at h; split at h <;> cases h; rfl
theorem wholly_some {α : Type} {o : Option (α × List V)} {x : α} (h : wholly o = some x) : o = some (x, []) := by
  unfold wholly at h; split at h <;> cases h; rfl

theorem read_ok {t : Ty} {V : V} {x : t.den} {v : Value} (h : read t V = some x) (hr : Rep w U σ v V) : RepV w U t x v := by
  unfold read at h
  split at h
  · rename_i cs ha hc
    rw [aggOf_some hc] at hr
    obtain ⟨vs, rfl, hvs⟩ := hr.agg_reps
    obtain ⟨c1, c2, e, h1, h2⟩ := implode_ok (wholly_some h) hvs
    have := h2.inv_nil; subst this
    refine ⟨c1, h1, .inl ⟨ha, ?_⟩⟩
    simp at e; rw [← e]
  · rename_i ha hc
    obtain ⟨c1, c2, e, h1, h2⟩ := implode_ok (wholly_some h) (Reps.one hr)
    have := h2.inv_nil; subst this
    simp at e; subst e
    exact ⟨[v], h1, .inr ⟨ha, rfl⟩⟩
  · cases h

theorem Rep.cells {v : Value} {x : V} (h : Rep w U σ v x) (hs : ∀ y ∈ x.cells, y = x → v.oneCell' = true) (hu : x.cells ≠ [] ∨ ∃ cs, x = .agg cs) : Reps w U σ v.cells.toList x.cells := by
  have one : v.oneCell' = true → x.cells = [x] → Reps w U σ v.cells.toList x.cells := by
    intro h1 h2
    rw [h2]
    have : v.cells = #[v] := by cases v <;> simp [Value.oneCell'] at h1 <;> rfl
    rw [this]; exact .one h
  cases h
  case agg vs cs hl h => exact ⟨by simpa [Value.cells, V.cells] using hl, fun j v x hv hx => h j v x (by simpa [Value.cells] using hv) hx⟩
  case undef => simp [V.cells] at hu
  case tup => simp [V.cells] at hu
  case lit =>
    by_cases ho : v.oneCell' = true
    · exact one ho (by simp [V.cells, ho])
    · simp [V.cells, ho] at hu
  all_goals exact one (hs _ (by simp [V.cells]) rfl) rfl

end
end Go.Proofs.YtnebpmcmdmpoaaaDoor.R
