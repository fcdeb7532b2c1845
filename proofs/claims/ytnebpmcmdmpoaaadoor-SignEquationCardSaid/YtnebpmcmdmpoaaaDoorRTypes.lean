/- The table of types, checked by the kernel. -/
import Derived.Test.YtnebpmcmdmpoaaaDoorRFun
import Derived.Test.YtnebpmcmdmpoaaaDoorProg
import Derived.KernelRfl
namespace Go.Proofs.YtnebpmcmdmpoaaaDoor.R
open Go
set_option linter.unusedVariables false
set_option linter.unusedSimpArgs false

def valEq : Value → Value → Bool
  | .int k n, .int k' n' => decide (k = k') && decide (n = n')
  | .bool a, .bool b => decide (a = b)
  | .string a, .string b => decide (a.data.size = 0) && decide (b.data.size = 0)
  | .slice none 0 0, .slice none 0 0 => true
  | .pointer none, .pointer none => true
  | .nilFunc, .nilFunc => true
  | .nilIface, .nilIface => true
  | _, _ => false

theorem valEq_ok {a b : Value} (h : valEq a b = true) : a = b := by
  unfold valEq at h
  split at h
  · simp only [Bool.and_eq_true, decide_eq_true_eq] at h; rw [h.1, h.2]
  · rw [of_decide_eq_true h]
  · rename_i a b
    simp only [Bool.and_eq_true, decide_eq_true_eq] at h
    obtain ⟨⟨l⟩⟩ := a
    obtain ⟨⟨m⟩⟩ := b
    simp at h
    rw [h.1, h.2]
  · rfl
  · rfl
  · rfl
  · rfl
  · cases h

def valsEq : List Value → List Value → Bool
  | [], [] => true
  | a :: r, b :: s => valEq a b && valsEq r s
  | _, _ => false

theorem valsEq_ok : ∀ {a b : List Value}, valsEq a b = true → a = b
  | [], [], _ => rfl
  | a :: r, b :: s, h => by
    simp only [valsEq, Bool.and_eq_true] at h
    rw [valEq_ok h.1, valsEq_ok h.2]
  | [], _ :: _, h => by cases h
  | _ :: _, [], h => by cases h

def shB (P : Program) (t : TypeId) : Sh → Bool
  | .int k => match P.underlying t with | some (.int k') => decide (k = k') | _ => false
  | .bool => match P.underlying t with | some .bool => true | _ => false
  | .str => match P.underlying t with | some .string => true | _ => false
  | .sl e => match P.underlying t with | some (.slice e') => decide (e' = e) | _ => false
  | .arr n e => match P.underlying t with | some (.array n' e') => decide (n' = n) && decide (e' = e) | _ => false
  | .struct fs => match P.underlying t with | some (.struct F) => decide (F.toList.map (fun f => (f.offset, f.type)) = fs) && F.toList.all fun f => (P.info? f.type).isSome | _ => false
  | .ptr e => match P.underlying t with | some (.pointer e') => decide (e' = e) | _ => false
  | .func => match P.underlying t with | some (.func _ _ _) => true | _ => false
  | .other => match P.underlying t with | some (.struct _) => false | some (.array _ _) => false | some _ => true | none => false

theorem shB_ok {P : Program} {t : TypeId} {sh : Sh} (h : shB P t sh = true) : ShOk P t sh := by
  cases sh <;> simp only [shB] at h <;> simp only [ShOk]
  case int k => split at h <;> first | (cases h; done) | (rename_i k' e; rw [e, of_decide_eq_true h])
  case bool => split at h <;> first | (cases h; done) | assumption
  case str => split at h <;> first | (cases h; done) | assumption
  case sl e => split at h <;> first | (cases h; done) | (rename_i k' e'; rw [e', of_decide_eq_true h])
  case arr n e =>
    split at h
    · rename_i n' e' he
      simp only [Bool.and_eq_true, decide_eq_true_eq] at h
      rw [he, h.1, h.2]
    · cases h
  case struct fs =>
    split at h
    · rename_i F he
      simp only [Bool.and_eq_true, decide_eq_true_eq, List.all_eq_true] at h
      exact ⟨F, he, h.1, h.2⟩
    · cases h
  case ptr e => split at h <;> first | (cases h; done) | (rename_i k' e'; rw [e', of_decide_eq_true h])
  case func =>
    split at h
    · rename_i a b v he; exact ⟨a, b, v, he⟩
    · cases h
  case other =>
    split at h
    · cases h
    · cases h
    · rename_i d h1 h2 he
      exact ⟨d, he, fun F e => h1 F e, fun n e e' => h2 n e e'⟩
    · cases h

def tdB (P : Program) (t : TypeId) (d : TD) : Bool :=
  (match P.info? t with
   | some i => decide (i.size = d.size) && decide (i.bytes = d.bytes) && (match i.zero with | some z => valsEq z.cells.toList d.zero | none => false)
   | none => false) && shB P t d.sh &&
  (match d.ty with
   | some ty => decide (ty.size = d.size) && valsEq d.zero (zeroVals ty) && (!decide (ty = .int .u8) || decide (t = byteT))
   | none => true)

theorem tdB_ok {P : Program} {t : TypeId} {d : TD} (h : tdB P t d = true) (hp : d.plain ≠ [] → PlainOk P t d.plain) : TDOk P t d := by
  unfold tdB at h
  simp only [Bool.and_eq_true] at h
  obtain ⟨⟨h1, h2⟩, h3⟩ := h
  refine ⟨?_, shB_ok h2, fun ty hty => ?_, hp, fun ty hty hu => ?_⟩
  · split at h1
    · rename_i i hi
      simp only [Bool.and_eq_true, decide_eq_true_eq] at h1
      obtain ⟨⟨g1, g2⟩, g3⟩ := h1
      split at g3
      · rename_i z hz
        exact ⟨i, z, hi, g1, g2, hz, valsEq_ok g3⟩
      · cases g3
    · cases h1
  · rw [hty] at h3
    simp only [Bool.and_eq_true, decide_eq_true_eq] at h3
    exact ⟨h3.1.1, valsEq_ok h3.1.2⟩
  · rw [hty] at h3
    simp only [Bool.and_eq_true, Bool.or_eq_true, Bool.not_eq_true', decide_eq_true_eq, decide_eq_false_iff_not] at h3
    rcases h3.2 with h | h
    · exact absurd hu h
    · exact h

theorem tok_of {P : Program} {T : Types} (h : (T.all fun p => tdB P p.1 p.2) = true) (hp : ∀ p ∈ T, p.2.plain ≠ [] → PlainOk P p.1 p.2.plain) : TOk P T := by
  intro t d hd
  have hm := lookup_mem hd
  rw [List.all_eq_true] at h
  exact tdB_ok (h _ hm) (hp _ hm)

/-- a function that has a body, and is not the one name that the model looks for, is entered -/
theorem callOk_of {P : Program} {f : FuncId} {fn : Func} (hf : P.funcs[f]? = some fn) (hn : (fn.name == "runtime.NumGoroutine") = false) (hb : fn.body.isNone = false) : CallOk P f := by
  intro args w
  have h1 : ¬ (fn.name = "runtime.NumGoroutine") := by intro e; rw [e] at hn; simp at hn
  have h2 : ¬ (fn.body = none) := by intro e; rw [e] at hb; cases hb
  unfold callFunc
  simp [hf, h1, h2]
end Go.Proofs.YtnebpmcmdmpoaaaDoor.R
