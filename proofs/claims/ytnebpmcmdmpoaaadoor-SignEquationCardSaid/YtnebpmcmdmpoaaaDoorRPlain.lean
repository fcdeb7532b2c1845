/- Equality of structs of numbers, truth values and texts. -/
import Derived.Test.YtnebpmcmdmpoaaaDoorRTypes
import Derived.Laws.StructEq
namespace Go.Proofs.YtnebpmcmdmpoaaaDoor.R
open Go
set_option linter.unusedVariables false
set_option linter.unusedSimpArgs false

/-- fields side by side, each of one cell, of these kinds -/
def fieldsB (P : Program) : Nat → List Field → List Ty → Bool
  | _, [], [] => true
  | k, f :: fs, t :: ts => decide (f.offset = k) && (!decide (f.name = "_")) && (match P.underlying f.type, t with
      | some (.int _), .int _ => true
      | some .bool, .bool => true
      | some .string, .str => true
      | _, _ => false) && fieldsB P (k + 1) fs ts
  | _, _, _ => false

def plB (P : Program) (t : TypeId) (ks : List Ty) : Bool :=
  !P.eqGuardType P.depth t && !P.stoodInHeld t && (match P.underlying t with | some (.struct F) => fieldsB P 0 F.toList ks | _ => false)

theorem eqFields_ok {P : Program} {w : World} {vs us : Array Value} (d : Nat) : ∀ (fs : List Field) (ks : List Ty) (k : Nat) (e : Bool), fieldsB P k fs ks = true → kindsV ks (vs.toList.drop k) = true → cellEq (vs.toList.drop k) (us.toList.drop k) = some e →
    (Op.eqFields (d + 1) vs us fs).run P w = .ok e w := by
  intro fs
  induction fs with
  | nil =>
    intro ks k e h1 h2 h3
    cases ks with
    | nil =>
      generalize vs.toList.drop k = a at h2 h3
      generalize us.toList.drop k = b at h3
      cases a with
      | nil => cases b with
        | nil => cases h3; rfl
        | cons _ _ => cases h3
      | cons _ _ => cases h2
    | cons _ _ => cases h1
  | cons f fs ih =>
    intro ks k e h1 h2 h3
    cases ks with
    | nil => cases h1
    | cons t ts =>
      simp only [fieldsB, Bool.and_eq_true, decide_eq_true_eq, Bool.not_eq_true', decide_eq_false_iff_not] at h1
      obtain ⟨⟨⟨g1, g2⟩, g3⟩, g4⟩ := h1
      have nxt : ∀ {l : List Value} {x : Value} {r : List Value}, l.drop k = x :: r → l.drop (k + 1) = r ∧ l[k]? = some x := by
        intro l x r h
        refine ⟨by rw [← List.drop_drop, h]; rfl, ?_⟩
        have := congrArg (fun z => z[0]?) h
        simpa using this
      cases hv : vs.toList.drop k with
      | nil => rw [hv] at h2; cases h2
      | cons v vr =>
        cases hu : us.toList.drop k with
        | nil => rw [hv, hu] at h3; cases v <;> cases h3
        | cons u ur =>
          obtain ⟨hv1, hv2⟩ := nxt hv
          obtain ⟨hu1, hu2⟩ := nxt hu
          rw [hv, hu] at h3
          rw [hv] at h2
          simp only [kindsV, Bool.and_eq_true] at h2
          have ih' := fun e' he => ih ts (k + 1) e' g4 (by rw [hv1]; exact h2.2) (by rw [hv1, hu1]; exact he)
          have hv3 : vs[k]? = some v := by simpa using hv2
          have hu3 : us[k]? = some u := by simpa using hu2
          simp only [Op.eqFields, g1]
          split at g3
          · rename_i ki kt hty
            cases v <;> try (cases h2.1; done)
            cases u <;> simp only [cellEq] at h3 <;> try (cases h3; done)
            split at h3
            · rename_i hk
              subst hk
              obtain ⟨e', he, rfl⟩ := Option.map_eq_some_iff.1 h3
              have := ih' e' he
              simp [g2, part, isAgg, run_underlying hty, hv3, hu3, Op.equalIn, this]
              split <;> simp_all
            · cases h3
          · rename_i hty
            cases v <;> try (cases h2.1; done)
            cases u <;> simp only [cellEq] at h3 <;> try (cases h3; done)
            obtain ⟨e', he, rfl⟩ := Option.map_eq_some_iff.1 h3
            have := ih' e' he
            simp [g2, part, isAgg, run_underlying hty, hv3, hu3, Op.equalIn, this]
            split <;> simp_all
          · rename_i hty
            cases v <;> try (cases h2.1; done)
            cases u <;> simp only [cellEq] at h3 <;> try (cases h3; done)
            obtain ⟨e', he, rfl⟩ := Option.map_eq_some_iff.1 h3
            have := ih' e' he
            simp [g2, part, isAgg, run_underlying hty, hv3, hu3, Op.equalIn, this]
            split <;> simp_all
          · cases g3

theorem plain_ok {P : Program} {t : TypeId} {ks : List Ty} (h : plB P t ks = true) : PlainOk P t ks := by
  unfold plB at h
  simp only [Bool.and_eq_true, Bool.not_eq_true'] at h
  obtain ⟨⟨h1, h2⟩, h3⟩ := h
  refine ⟨h1, fun w vs us e hk he => ?_⟩
  split at h3
  · rename_i F hF
    have hf : P.fieldsOf t = F := by unfold Program.fieldsOf; rw [hF]
    have := run_equalIn_struct (P := P) w 9999 t vs us (by rw [hf, hF]) h2
    rw [hf] at this
    exact this.trans (eqFields_ok 9998 F.toList ks 0 e h3 (by simpa using hk) (by simpa using he))
  · cases h3

theorem tok_all {P : Program} {T : Types} (h : (T.all fun p => tdB P p.1 p.2) = true) (hp : (T.all fun p => p.2.plain.isEmpty || plB P p.1 p.2.plain) = true) : TOk P T :=
  tok_of h fun p hm hne => by
    rw [List.all_eq_true] at hp
    have := hp p hm
    rw [Bool.or_eq_true] at this
    rcases this with h | h
    · exact absurd (List.isEmpty_iff.1 h) hne
    · exact plain_ok h
end Go.Proofs.YtnebpmcmdmpoaaaDoor.R
