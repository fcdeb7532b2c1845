/- Statements in a row, and statements whose order is open. -/
import Derived.Test.YtnebpmcmdmpoaaaDoorRStill
namespace Go.Proofs.YtnebpmcmdmpoaaaDoor.R
open Go
set_option linter.unusedVariables false
set_option linter.unusedSimpArgs false

section
variable {P : Program} {Ω : Type} {E : Env Ω}

/-! ### Slots -/

theorem getD_set_list {l : List V} {d t : Nat} {v : V} : (l.set d v).getD t .undef = if d = t ∧ t < l.length then v else l.getD t .undef := by
  rw [List.getD_eq_getElem?_getD, List.getD_eq_getElem?_getD, List.getElem?_set]
  by_cases h : d = t
  · subst h
    by_cases hl : d < l.length
    · simp [hl]
    · simp [hl]
  · simp [h]

theorem getD_set_arr {l : Array Value} {d t : Nat} {v : Value} : (l.setIfInBounds d v).getD t undef = if d = t ∧ t < l.size then v else l.getD t undef := by
  rw [Array.getD_eq_getD_getElem?, Array.getD_eq_getD_getElem?, Array.getElem?_setIfInBounds]
  by_cases h : d = t
  · subst h
    by_cases hl : d < l.size
    · simp [hl]
    · simp [hl]
  · simp [h]

structure StR (gl : List (Nat × List V)) (M : Nat → Prop) (σ : Sig) (w : World) (s : St) (a : Act) : Prop where
  hr : HR w M σ s.heap
  gok : GOk gl w (Un M σ)
  size : a.tmps.size = s.tmps.length
  sl : ∀ t, Rep w (Un M σ) σ (a.tmps.getD t undef) (s.tmps.getD t .undef)

theorem Keeps.refl (w : World) (U : Nat → Prop) : Keeps w w U U := ⟨fun _ _ h _ => h, fun _ _ h => h⟩

theorem ofValue_ok {w : World} {U : Nat → Prop} {σ : Sig} (v : Value) : Rep w U σ v (ofValue v) := by
  unfold ofValue
  split
  · exact .int _ _
  · exact .bool _
  · exact .str _
  · exact .lit _

theorem aEval_ok {gl : List (Nat × List V)} {w : World} {U : Nat → Prop} {σ : Sig} {tm : List V} {a : Act} (hg : GOk gl w U) (x : Operand)
    (h : ∀ t, x = .tmp t → Rep w U σ (a.tmps.getD t undef) (tm.getD t .undef)) : Rep w U σ (a.eval x) (aEval gl tm x) := by
  cases x with
  | tmp t => exact h t rfl
  | const v => exact ofValue_ok v
  | func f => exact .fn f #[] [] rfl fun j v V hv _ => by simp at hv
  | global g =>
    simp only [aEval]
    cases hl : gl.lookup g with
    | none => exact .undef _
    | some cs => exact (hg g cs hl).mono (.refl _ _) (.nil _)

theorem StR.put {gl : List (Nat × List V)} {M : Nat → Prop} {σ σ' : Sig} {w w' : World} {s : St} {a : Act} (h : StR gl M σ w s a) (hs : Step w w' σ σ') {v' : Value} {v : V} {h' : Heap}
    (hr : HR w' M σ' h') (hv : Rep w' (Un M σ') σ' v' v) (d : Option Tmp) : StR gl M σ' w' (s.put d v h') (a.put d v') := by
  cases d with
  | none => exact ⟨hr, h.gok.mono (hs.keeps M), h.size, fun t => hs.rep (h.sl t)⟩
  | some d =>
    refine ⟨hr, h.gok.mono (hs.keeps M), ?_, fun t => ?_⟩
    · simp only [Act.put, St.put, Array.size_setIfInBounds, List.length_set]; exact h.size
    · simp only [Act.put, St.put, getD_set_list, getD_set_arr, h.size]
      split
      · exact hv
      · exact hs.rep (h.sl t)

/-! ### One statement -/

/-- the guard lets it -/
def Want (ops : Array Oper) (o : Oper) (tm : List V) : Prop := ∀ j b, o.guard = some (j, b) → ∃ t, (ops[j]?).bind (·.dst) = some t ∧ tm.getD t .undef = .bool b
/-- the guard does not -/
def Skips (ops : Array Oper) (o : Oper) (tm : List V) : Prop := ∃ j b t, o.guard = some (j, b) ∧ (ops[j]?).bind (·.dst) = some t ∧ tm.getD t .undef = .bool (!b)

inductive Did (P : Program) (E : Env Ω) (dr : Bool) (ops : Array Oper) (o : Oper) (s : St) : St → Prop
  | ran (v : V) (h' : Heap) (hw : Want ops o s.tmps) (hs : ∀ K, stepS E dr o (aEval E.gl s.tmps) s.heap K = K v h') (hp : Spec P E.gl o (aEval E.gl s.tmps) s.heap v h') :
      Did P E dr ops o s (s.put o.dst v h')
  | skipped (hk : Skips ops o s.tmps) : Did P E dr ops o s (s.put o.dst .undef s.heap)

theorem stepS_ok (hE : EnvOk P E) (dr : Bool) (o : Oper) (ρ : Operand → V) (h : Heap) : OneW (Ω := Ω) (stepS E dr o ρ h) (Spec P E.gl o ρ h) := by
  intro K r hr
  unfold stepS at hr
  split at hr
  · cases hr
  · rename_i hn
    obtain ⟨v, h', h1, h2, h3⟩ := step_ok hE dr o ρ h K r hr
    exact ⟨v, h', h1, fun K' => by unfold stepS; rw [if_neg hn]; exact h2 K', h3⟩

theorem know_same {s : St} {t : Tmp} {b : Bool} (h : s.tmps.getD t .undef = .bool b) : s.know t b = s := by
  unfold St.know
  have hl : t < s.tmps.length := by
    rcases Nat.lt_or_ge t s.tmps.length with hl | hl
    · exact hl
    · rw [List.getD_eq_getElem?_getD, List.getElem?_eq_none hl] at h; cases h
  have : s.tmps[t] = V.bool b := by
    rw [List.getD_eq_getElem?_getD, List.getElem?_eq_getElem hl] at h; exact h
  have e : s.tmps.set t (.bool b) = s.tmps := by rw [← this]; exact List.set_getElem_self hl
  rw [e]

theorem oper_ok (hE : EnvOk P E) (dr : Bool) (ops : Array Oper) (o : Oper) (s : St) (K : St → Option Ω) (r : Ω) (h : oper E dr ops o s K = some r) :
    ∃ s', K s' = some r ∧ (∀ K' : St → Option Ω, oper E dr ops o s K' = K' s') ∧ Did P E dr ops o s s' := by
  unfold oper at h ⊢
  cases hg : o.guard with
  | none =>
    simp only [hg] at h ⊢
    obtain ⟨v, h', h1, h2, h3⟩ := stepS_ok hE dr o _ _ _ r h
    exact ⟨_, h1, fun K' => h2 _, .ran v h' (fun j b hj => by rw [hg] at hj; cases hj) h2 h3⟩
  | some jw =>
    obtain ⟨j, want⟩ := jw
    simp only [hg] at h ⊢
    cases ht : (ops[j]?).bind (·.dst) with
    | none => simp only [ht] at h; cases h
    | some t =>
      simp only [ht] at h ⊢
      cases hv : s.tmps.getD t .undef with
      | bool b =>
        simp only [hv] at h ⊢
        have hk := know_same hv
        cases b
        · rw [hk] at h ⊢
          simp only [cond_false] at h ⊢
          cases want
          · simp only [Bool.false_eq_true, if_false] at h ⊢
            obtain ⟨v, h', h1, h2, h3⟩ := stepS_ok hE dr o _ _ _ r h
            exact ⟨_, h1, fun K' => h2 _, .ran v h' (fun j' b hj => by rw [hg] at hj; cases hj; exact ⟨t, ht, hv⟩) h2 h3⟩
          · simp only [if_true] at h ⊢
            exact ⟨_, h, fun _ => rfl, .skipped ⟨j, true, t, hg, ht, hv⟩⟩
        · rw [hk] at h ⊢
          simp only [cond_true] at h ⊢
          cases want
          · simp only [Bool.false_eq_true, if_false] at h ⊢
            exact ⟨_, h, fun _ => rfl, .skipped ⟨j, false, t, hg, ht, hv⟩⟩
          · simp only [if_true] at h ⊢
            obtain ⟨v, h', h1, h2, h3⟩ := stepS_ok hE dr o _ _ _ r h
            exact ⟨_, h1, fun K' => h2 _, .ran v h' (fun j' b hj => by rw [hg] at hj; cases hj; exact ⟨t, ht, hv⟩) h2 h3⟩
      | _ => simp only [hv] at h; cases h

theorem yields_of {w : World} {U : Nat → Prop} {σ : Sig} {ops : Array Oper} {a : Act} {tm : List V} {j t : Nat} {b : Bool} (ht : (ops[j]?).bind (·.dst) = some t)
    (hv : tm.getD t .undef = .bool b) (hr : Rep w U σ (a.tmps.getD t undef) (tm.getD t .undef)) : yielded ops a.tmps j = some b := by
  rw [hv] at hr
  unfold yielded
  rw [ht]
  simp only [Option.bind_some]
  rw [Array.getD_eq_getD_getElem?] at hr
  cases he : a.tmps[t]? with
  | none => rw [he] at hr; simp only [Option.getD_none] at hr; generalize hu : undef = u at hr; cases hr; cases hu
  | some x => rw [he] at hr; simp only [Option.getD_some] at hr; cases hr; rfl

theorem want_ok {w : World} {U : Nat → Prop} {σ : Sig} {ops : Array Oper} {o : Oper} {a : Act} {tm : List V} (hw : Want ops o tm)
    (h : ∀ t ∈ o.looksAt ops, Rep w U σ (a.tmps.getD t undef) (tm.getD t .undef)) : Region.wanted o (yielded ops a.tmps) = true := by
  unfold Region.wanted
  cases hg : o.guard with
  | none => rfl
  | some jw =>
    obtain ⟨j, b⟩ := jw
    obtain ⟨t, ht, hv⟩ := hw j b hg
    have := yields_of ht hv (h t (by simp [Oper.looksAt, hg, ht]))
    simp [this]

theorem skips_ok {w : World} {U : Nat → Prop} {σ : Sig} {ops : Array Oper} {o : Oper} {a : Act} {tm : List V} (hw : Skips ops o tm)
    (h : ∀ t ∈ o.looksAt ops, Rep w U σ (a.tmps.getD t undef) (tm.getD t .undef)) : Region.wanted o (yielded ops a.tmps) = false := by
  obtain ⟨j, b, t, hg, ht, hv⟩ := hw
  unfold Region.wanted
  have := yields_of ht hv (h t (by simp [Oper.looksAt, hg, ht]))
  rw [hg]
  simp only [this]
  cases b <;> rfl

theorem operand_looks {ops : Array Oper} {o : Oper} {t : Nat} (h : Operand.tmp t ∈ o.op.operands) : t ∈ o.looksAt ops :=
  List.mem_append_left _ (List.mem_filterMap.2 ⟨.tmp t, by simpa using h, rfl⟩)

/-- what it does in a world that may hold more than its own -/
theorem wpOp_ran {ops : Array Oper} {Q : Exit → Act → World → Prop} {i : Nat} {o : Oper} (hi : ops[i]? = some o) {M : Nat → Prop} {σ : Sig} {w : World} {a : Act} {tm : List V} {h : Heap}
    {v : V} {h' : Heap} (hr : HR w M σ h) (hg : GOk E.gl w (Un M σ)) (hl : ∀ t ∈ o.looksAt ops, Rep w (Un M σ) σ (a.tmps.getD t undef) (tm.getD t .undef))
    (hw : Want ops o tm) (hp : Spec P E.gl o (aEval E.gl tm) h v h') {K : Act → World → Prop}
    (hK : ∀ v' w' σ', HR w' M σ' h' → Rep w' (Un M σ') σ' v' v → Step w w' σ σ' → K (a.put o.dst v') w') : wpOp P ops Q i K a w := by
  unfold wpOp
  rw [hi]
  simp only [want_ok hw hl, if_true]
  exact .inl (hp M σ w a K Q hr hg (fun x hx => aEval_ok hg x fun t ht => hl t (operand_looks (ht ▸ hx))) hK)

theorem wpOp_skips {ops : Array Oper} {Q : Exit → Act → World → Prop} {i : Nat} {o : Oper} (hi : ops[i]? = some o) {U : Nat → Prop} {σ : Sig} {w : World} {a : Act} {tm : List V}
    (hl : ∀ t ∈ o.looksAt ops, Rep w U σ (a.tmps.getD t undef) (tm.getD t .undef)) (hw : Skips ops o tm) {K : Act → World → Prop} (hK : K (a.put o.dst undef) w) : wpOp P ops Q i K a w := by
  unfold wpOp
  rw [hi]
  simp only [skips_ok hw hl, Bool.false_eq_true, if_false]
  exact hK

/-! ### One after the other -/

inductive Tr (P : Program) (E : Env Ω) (dr : Bool) (ops : Array Oper) : List Oper → St → St → Prop
  | nil (s : St) : Tr P E dr ops [] s s
  | cons {o : Oper} {r : List Oper} {s s1 s2 : St} (h : Did P E dr ops o s s1) (k : Tr P E dr ops r s1 s2) : Tr P E dr ops (o :: r) s s2

theorem execOps_ok (hE : EnvOk P E) (dr : Bool) (ops : Array Oper) : ∀ (l : List Oper) (s : St) (K : St → Option Ω) (r : Ω), execOps E dr ops l s K = some r →
    ∃ s', K s' = some r ∧ (∀ K' : St → Option Ω, execOps E dr ops l s K' = K' s') ∧ Tr P E dr ops l s s'
  | [], s, K, r, h => ⟨s, h, fun _ => rfl, .nil s⟩
  | o :: l, s, K, r, h => by
    simp only [execOps] at h ⊢
    obtain ⟨s1, h1, h2, h3⟩ := oper_ok hE dr ops o s _ r h
    obtain ⟨s2, k1, k2, k3⟩ := execOps_ok hE dr ops l s1 K r h1
    exact ⟨s2, k1, fun K' => by rw [h2, k2], .cons h3 k3⟩

theorem Act.put_defers' (a : Act) (d : Option Tmp) (v : Value) : (a.put d v).defers = a.defers := by cases d <;> rfl

theorem tr_wp {dr : Bool} {ops : Array Oper} {Q : Exit → Act → World → Prop} {M : Nat → Prop} {l : List Oper} {s s' : St} (h : Tr P E dr ops l s s') : ∀ {i : Nat} (hl : ∀ j, l[j]? = none ∨ ops[i + j]? = l[j]?) {σ : Sig} {w : World} {a : Act},
    StR E.gl M σ w s a → (∀ a' w' σ', StR E.gl M σ' w' s' a' → a'.defers = a.defers → Step w w' σ σ' → Q .normal a' w') → wpOps P ops Q (List.range' i l.length) a w := by
  induction h with
  | nil s => intro i hl σ w a hs hQ; exact hQ a w σ hs rfl (.refl _ _)
  | @cons o r s s1 s2 h k ih =>
    intro i hl σ w a hs hQ
    have h0 : ops[i]? = some o := by
      rcases hl 0 with h | h
      · cases h
      · exact h
    have hl' : ∀ j, r[j]? = none ∨ ops[i + 1 + j]? = r[j]? := fun j => by
      have := hl (j + 1)
      rw [show i + 1 + j = i + (j + 1) by omega]
      exact this
    rw [List.length_cons, List.range'_succ, wpOps_cons]
    cases h with
    | ran v h' hw hss hp =>
      refine wpOp_ran h0 hs.hr hs.gok (fun t _ => hs.sl t) hw hp fun v' w' σ' g1 g2 g3 => ?_
      exact ih hl' (hs.put g3 g1 g2 o.dst) fun a' w'' σ'' q1 q2 q3 => hQ a' w'' σ'' q1 (q2.trans (Act.put_defers' _ _ _)) (g3.trans q3)
    | skipped hk =>
      refine wpOp_skips h0 (fun t _ => hs.sl t) hk ?_
      exact ih hl' (hs.put (.refl _ _) hs.hr (.undef _) o.dst) fun a' w'' σ'' q1 q2 q3 => hQ a' w'' σ'' q1 (q2.trans (Act.put_defers' _ _ _)) q3

theorem region_seq {id : Nat} {ops : Array Oper} {Q : Exit → Act → World → Prop} {M : Nat → Prop} {s s' : St} (h : Tr P E false ops ops.toList s s') {σ : Sig} {w : World} {a : Act}
    (hs : StR E.gl M σ w s a) (hQ : ∀ a' w' σ', StR E.gl M σ' w' s' a' → a'.defers = a.defers → Step w w' σ σ' → Q .normal a' w') : (Code.region id ops false).wp P Q a w := by
  refine wp_region ?_
  have := tr_wp (i := 0) h (fun j => .inr (by simp)) hs hQ
  rwa [Array.length_toList, ← List.range_eq_range'] at this
end
end Go.Proofs.YtnebpmcmdmpoaaaDoor.R
