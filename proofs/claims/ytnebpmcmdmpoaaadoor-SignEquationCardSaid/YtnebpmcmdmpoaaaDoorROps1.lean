/- Operations on numbers, texts and truth values: what the walk says is what the model does. -/
import Derived.Test.YtnebpmcmdmpoaaaDoorRData
import Derived.Laws.Small
import Derived.Laws.Shifts
import Derived.WalkSpells
namespace Go.Proofs.YtnebpmcmdmpoaaaDoor.R
open Go
set_option linter.unusedVariables false
set_option linter.unusedSimpArgs false

/-! ### Types -/

def zeroVals : Ty → List Value
  | .int k => [.int k 0]
  | .bool => [.bool false]
  | .str => [.string ByteArray.empty]
  | .sl _ => [.slice none 0 0]
  | .pair a b => zeroVals a ++ zeroVals b
  | .unit => []

theorem zero_rep {w : World} {U : Nat → Prop} : ∀ t : Ty, RepT w U t t.zero (zeroVals t)
  | .int _ => rfl
  | .bool => rfl
  | .str => rfl
  | .sl t => RepT.nilSl t
  | .pair a b => ⟨_, _, rfl, zero_rep a, zero_rep b⟩
  | .unit => rfl

def ShOk (P : Program) (t : TypeId) : Sh → Prop
  | .int k => P.underlying t = some (.int k)
  | .bool => P.underlying t = some .bool
  | .str => P.underlying t = some .string
  | .sl e => P.underlying t = some (.slice e)
  | .arr n e => P.underlying t = some (.array n e)
  | .struct fs => ∃ F : Array Field, P.underlying t = some (.struct F) ∧ F.toList.map (fun f => (f.offset, f.type)) = fs ∧ ∀ f ∈ F.toList, (P.info? f.type).isSome = true
  | .ptr e => P.underlying t = some (.pointer e)
  | .func => ∃ a b v, P.underlying t = some (.func a b v)
  | .other => ∃ d, P.underlying t = some d ∧ (∀ F, d ≠ .struct F) ∧ (∀ n e, d ≠ .array n e)

/-- two aggregates of numbers, truth values and texts -/
def cellEq : List Value → List Value → Option Bool
  | [], [] => some true
  | .int k a :: r, .int k' b :: r' => if k = k' then (cellEq r r').map fun e => (a == b) && e else none
  | .bool a :: r, .bool b :: r' => (cellEq r r').map fun e => (a == b) && e
  | .string a :: r, .string b :: r' => (cellEq r r').map fun e => (a == b) && e
  | _, _ => none

def kindV : Ty → Value → Bool
  | .int k, .int k' _ => decide (k' = k)
  | .bool, .bool _ => true
  | .str, .string _ => true
  | _, _ => false
def kindsV : List Ty → List Value → Bool
  | [], [] => true
  | t :: r, c :: s => kindV t c && kindsV r s
  | _, _ => false

def PlainOk (P : Program) (t : TypeId) (ks : List Ty) : Prop :=
  P.eqGuardType P.depth t = false ∧ ∀ (w : World) (vs us : Array Value) (e : Bool), kindsV ks vs.toList = true → cellEq vs.toList us.toList = some e → (Op.equal t (.agg vs) (.agg us)).run P w = .ok e w

structure TDOk (P : Program) (t : TypeId) (d : TD) : Prop where
  info : ∃ i z, P.info? t = some i ∧ i.size = d.size ∧ i.bytes = d.bytes ∧ i.zero = some z ∧ z.cells.toList = d.zero
  sh : ShOk P t d.sh
  ty : ∀ ty, d.ty = some ty → ty.size = d.size ∧ d.zero = zeroVals ty
  plain : d.plain ≠ [] → PlainOk P t d.plain
  lie : ∀ ty, d.ty = some ty → Lie ty t

def TOk (P : Program) (T : Types) : Prop := ∀ t d, T.get t = some d → TDOk P t d

section
variable {P : Program} {t : TypeId} {d : TD} (w : World)
theorem TDOk.run_size (h : TDOk P t d) : (sizeOf t).run P w = .ok d.size w := by
  obtain ⟨i, z, h1, h2, _⟩ := h.info
  simp [sizeOf, typeInfo, h1, h2]
theorem TDOk.run_info (h : TDOk P t d) : ∃ i, (typeInfo t).run P w = .ok i w ∧ i.bytes = d.bytes := by
  obtain ⟨i, z, h1, h2, h3, _⟩ := h.info
  exact ⟨i, by simp [typeInfo, h1], h3⟩
theorem TDOk.run_zero (h : TDOk P t d) : ∃ z, (zeroValue t).run P w = .ok z w ∧ z.cells.toList = d.zero := by
  obtain ⟨i, z, h1, h2, h3, h4, h5⟩ := h.info
  exact ⟨z, by simp [zeroValue, typeInfo, h1, h4], h5⟩
theorem TDOk.run_isAgg (h : TDOk P t d) : (isAgg t).run P w = .ok d.agg w := by
  have hs := h.sh
  unfold TD.agg
  cases e : d.sh <;> rw [e] at hs <;> simp only [ShOk] at hs
  case struct => obtain ⟨F, hF, _, _⟩ := hs; simp [isAgg, run_underlying hF]
  case func => obtain ⟨a, b, v, hF⟩ := hs; simp [isAgg, run_underlying hF]
  case other =>
    obtain ⟨d', hF, h1, h2⟩ := hs
    simp only [isAgg, Sem.run_bind, run_underlying hF, Result.andThen]
    cases d' <;> first | rfl | exact absurd rfl (h1 _) | exact absurd rfl (h2 _ _)
  all_goals simp [isAgg, run_underlying hs]
end

/-! ### One way on -/

/-- it goes on once, with one value -/
def One {Ω : Type} (f : (V → Option Ω) → Option Ω) (Φ : V → Prop) : Prop :=
  ∀ K r, f K = some r → ∃ v, K v = some r ∧ (∀ K', f K' = K' v) ∧ Φ v

section
variable {Ω : Type} {Φ : V → Prop}
theorem One.here {v : V} (h : Φ v) : One (Ω := Ω) (fun K => K v) Φ := fun K r hr => ⟨v, hr, fun _ => rfl, h⟩
theorem One.no : One (Ω := Ω) (fun _ => none) Φ := fun K r hr => by cases hr
theorem One.bif {b : Bool} {f g : (V → Option Ω) → Option Ω} (h1 : b = true → One f Φ) (h2 : b = false → One g Φ) : One (fun K => bif b then f K else g K) Φ := by
  cases b
  · simpa using h2 rfl
  · simpa using h1 rfl
theorem One.ite {c : Prop} [Decidable c] {f g : (V → Option Ω) → Option Ω} (h1 : c → One f Φ) (h2 : ¬ c → One g Φ) : One (fun K => if c then f K else g K) Φ := by
  by_cases h : c
  · simpa [h] using h1 h
  · simpa [h] using h2 h
theorem One.opt {o : Option V} (h : ∀ v, o = some v → Φ v) : One (Ω := Ω) (fun K => match (generalizing := false) o with | some v => K v | none => none) Φ := by
  cases o with
  | none => exact One.no
  | some v => exact One.here (h v rfl)
theorem One.optB {α : Type} {o : Option α} {g : α → V} (h : ∀ e, o = some e → Φ (g e)) : One (Ω := Ω) (fun K => match (generalizing := false) o with | some e => K (g e) | none => none) Φ := by
  cases o with
  | none => exact One.no
  | some v => exact One.here (h v rfl)
theorem One.mono {f : (V → Option Ω) → Option Ω} {Ψ : V → Prop} (h : One f Φ) (hh : ∀ v, Φ v → Ψ v) : One f Ψ := fun K r hr => by
  obtain ⟨v, h1, h2, h3⟩ := h K r hr; exact ⟨v, h1, h2, hh v h3⟩
end

/-! ### Numbers -/

section
variable {P : Program} {w : World} {U : Nat → Prop} {σ : Sig} {Ω : Type}

/-- a computation that leaves the world alone and gives a known value -/
def Gives (P : Program) (w : World) (U : Nat → Prop) (σ : Sig) (s : Sem Value) (v : V) : Prop := ∃ v', s.run P w = .ok v' w ∧ Rep w U σ v' v

theorem Gives.int {s : Sem Value} {k : IntKind} {n : Int} (h : s.run P w = .ok (.int k n) w) : Gives P w U σ s (.int k n) := ⟨_, h, .int _ _⟩
theorem Gives.bool {s : Sem Value} {b : Bool} (h : s.run P w = .ok (.bool b) w) : Gives P w U σ s (.bool b) := ⟨_, h, .bool _⟩
theorem Gives.str {s : Sem Value} {b : ByteArray} (h : s.run P w = .ok (.string b) w) : Gives P w U σ s (.str b) := ⟨_, h, .str _⟩

theorem intOp_ok (op : BinOp) (k : IntKind) (a b : Int) (hs : op ≠ .shl ∧ op ≠ .shr) (xt : TypeId) (X Y : Operand) :
    One (Ω := Ω) (intOp op k a b) fun v => ∀ P w U σ, Gives P w U σ (do eqGuard op xt X Y (.int k a) (.int k b); binOp op xt (.int k a) (.int k b)) v := by
  cases op <;> unfold intOp
  case shl => exact absurd rfl hs.1
  case shr => exact absurd rfl hs.2
  case quo =>
    refine One.bif (fun _ => One.no) fun hb => One.here fun P w U σ => ?_
    have hb : ¬ b = 0 := by simpa using hb
    exact Gives.int (by simp [eqGuard, binOp, Op.intDiv, hb])
  case rem =>
    refine One.bif (fun _ => One.no) fun hb => One.here fun P w U σ => ?_
    have hb : ¬ b = 0 := by simpa using hb
    exact Gives.int (by simp [eqGuard, binOp, Op.intDiv, hb])
  all_goals first
    | exact One.here fun P w U σ => Gives.int (by simp [eqGuard, binOp, Op.intArith, Op.intBits, Op.intCmp])
    | exact One.here fun P w U σ => Gives.bool (by simp [eqGuard, binOp, Op.intArith, Op.intBits, Op.intCmp])

theorem strOp_ok (op : BinOp) (a b : ByteArray) (xt : TypeId) (X Y : Operand) :
    One (Ω := Ω) (strOp op a b) fun v => ∀ P w U σ, Gives P w U σ (do eqGuard op xt X Y (.string a) (.string b); binOp op xt (.string a) (.string b)) v := by
  cases op <;> unfold strOp <;> try exact One.no
  case add =>
    refine One.bif (fun h => One.here fun P w U σ => ?_) fun _ => One.no
    have h := of_decide_eq_true h
    refine Gives.str ?_
    have h' : ¬ (9223372036854775807 < ((a.size : Int) + (b.size : Int))) := by omega
    simp [eqGuard, binOp, Op.stringOp, IntKind.max, IntKind.signed, IntKind.bits, h']
  case eql =>
    refine One.here fun P w U σ => Gives.bool ?_
    simp [eqGuard, binOp, Op.stringOp, beq_toListBytes]
  case neq =>
    refine One.here fun P w U σ => Gives.bool ?_
    simp [eqGuard, binOp, Op.stringOp, beq_toListBytes]
theorem unV_ok (op : UnOp) (x : V) : One (Ω := Ω) (unV op x) fun v => ∀ P w U σ a, Rep w U σ a x → Gives P w U σ (Op.unary op a) v := by
  unfold unV
  split <;> try exact One.no
  · refine One.here fun P w U σ a h => ?_
    cases h; exact Gives.int (by simp [Op.unary, Op.intArith])
  · refine One.here fun P w U σ a h => ?_
    cases h; exact Gives.int (by simp [Op.unary, Op.intBits])
  · refine One.here fun P w U σ a h => ?_
    cases h; exact Gives.bool (by simp [Op.unary])

theorem eqCells_ok {w : World} {U : Nat → Prop} {σ : Sig} : ∀ {cs ds : List V} {vs us : List Value} {e : Bool}, eqCells cs ds = some e → Reps w U σ vs cs → Reps w U σ us ds → cellEq vs us = some e := by
  intro cs
  induction cs with
  | nil =>
    intro ds vs us e h hv hu
    cases ds with
    | nil => have := hv.inv_nil; have := hu.inv_nil; subst_vars; exact h
    | cons d r => cases h
  | cons c r ih =>
    intro ds vs us e h hv hu
    cases ds with
    | nil => cases c <;> simp [eqCells] at h
    | cons d r' =>
      obtain ⟨v, vs, rfl, hv1, hv2⟩ := hv.inv_cons
      obtain ⟨u, us, rfl, hu1, hu2⟩ := hu.inv_cons
      cases c <;> cases d <;> simp only [eqCells] at h <;> try cases h
      · split at h
        · rename_i hk; subst hk
          obtain ⟨e', h1, rfl⟩ := Option.map_eq_some_iff.1 h
          cases hv1; cases hu1
          simp [cellEq, ih h1 hv2 hu2]
        · cases h
      · obtain ⟨e', h1, rfl⟩ := Option.map_eq_some_iff.1 h
        cases hv1; cases hu1
        simp [cellEq, ih h1 hv2 hu2]
      · obtain ⟨e', h1, rfl⟩ := Option.map_eq_some_iff.1 h
        cases hv1; cases hu1
        simp [cellEq, ih h1 hv2 hu2]

theorem kinds_ok {w : World} {U : Nat → Prop} {σ : Sig} : ∀ {ks : List Ty} {cs : List V} {vs : List Value}, kindsOk ks cs = true → Reps w U σ vs cs → kindsV ks vs = true
  | [], [], vs, h, hr => by have := hr.inv_nil; subst this; rfl
  | [], _ :: _, vs, h, hr => by cases h
  | _ :: _, [], vs, h, hr => by cases h
  | t :: ks, c :: cs, vs, h, hr => by
    obtain ⟨v, vs, rfl, h1, h2⟩ := hr.inv_cons
    simp only [kindsOk, Bool.and_eq_true] at h
    simp only [kindsV, Bool.and_eq_true]
    refine ⟨?_, kinds_ok h.2 h2⟩
    have h := h.1
    unfold kindOk at h
    split at h
    · cases h1; exact h
    · cases h1; rfl
    · cases h1; rfl
    · cases h

/-- of a place that holds a block -/
theorem HR.get {w : World} {M : Nat → Prop} {σ : Sig} {h : Heap} (hr : HR w M σ h) {id : Nat} {p : Pl} (hp : σ[id]? = some p) : BR w (Un M σ) σ p (h.getD id .dead) := by
  have hl : id < h.length := by rw [← hr.len]; exact (List.getElem?_eq_some_iff.1 hp).1
  rw [List.getD_eq_getElem?_getD, List.getElem?_eq_getElem hl]
  exact hr.blk id p _ hp (List.getElem?_eq_getElem hl)

/-- what an own slice is -/
theorem HR.own {w : World} {M : Nat → Prop} {σ : Sig} {h : Heap} (hr : HR w M σ h) {id : Nat} {t : Ty} {s : Sl t.den} {v : Value}
    (hv : Rep w (Un M σ) σ v (.own id)) (hB : h.getD id .dead = .rows t s) :
    (s.nl = true ∧ s.l = [] ∧ σ[id]? = some .nil ∧ v = .slice none 0 0) ∨
    (s.nl = false ∧ s.l = [] ∧ ∃ a, σ[id]? = some (.emp a) ∧ v = .slice (some a) 0 0) ∨
    (s.nl = false ∧ ∃ b c, σ[id]? = some (.at b s.l.length c t.size) ∧ v = .slice (some ⟨b, 0, none⟩) s.l.length c ∧ RowAt w (Un M σ) t b c s.l) := by
  cases hv with
  | own _ p _ hp hat =>
    have hb := hr.get hp
    rw [hB] at hb
    cases p with
    | dead => exact hb.elim
    | nil => exact .inl ⟨hb.1, hb.2, hp, hat⟩
    | emp a => exact .inr (.inl ⟨hb.1, hb.2, a, hp, hat⟩)
    | «at» b n c z =>
      obtain ⟨h1, rfl, rfl, h4, _⟩ := hb
      exact .inr (.inr ⟨h1, b, c, hp, hat, h4⟩)

theorem HR.lie {w : World} {M : Nat → Prop} {σ : Sig} {h : Heap} (hr : HR w M σ h) {id b n c z : Nat} {t : Ty} {s : Sl t.den} (hp : σ[id]? = some (.at b n c z)) (hB : h.getD id .dead = .rows t s) : LieAt w b t := by
  have hb := hr.get hp
  rw [hB] at hb
  exact hb.2.2.2.2

theorem isNil_ok {w : World} {M : Nat → Prop} {σ : Sig} {h : Heap} (hr : HR w M σ h) {sh : Sh} {x : V} {e : Bool} {v : Value} (he : isNil h sh x = some e) (hv : Rep w (Un M σ) σ v x) :
    (∃ E A n c, sh = .sl E ∧ v = .slice A n c ∧ A.isNone = e) ∨ (∃ E A, sh = .ptr E ∧ v = .pointer A ∧ A.isNone = e) ∨ (sh = .func ∧ ((v = .nilFunc ∧ e = true) ∨ (∃ f a b, v = .func f a b ∧ e = false))) := by
  unfold isNil at he
  split at he
  · cases he
    cases hv with
    | sl _ _ s A n c hs _ =>
      refine .inl ⟨_, A, n, c, rfl, rfl, ?_⟩
      cases A with
      | none => simp [hs.1]
      | some a => simp [hs.1]
  · split at he
    · rename_i hB
      cases he
      rcases hr.own hv hB with ⟨h1, _, _, rfl⟩ | ⟨h1, _, a, _, rfl⟩ | ⟨h1, b, c, _, rfl, _⟩
      · exact .inl ⟨_, _, _, _, rfl, rfl, by simp [h1]⟩
      · exact .inl ⟨_, _, _, _, rfl, rfl, by simp [h1]⟩
      · exact .inl ⟨_, _, _, _, rfl, rfl, by simp [h1]⟩
    · cases he
  · cases he; cases hv; exact .inl ⟨_, _, _, _, rfl, rfl, rfl⟩
  · split at he
    · rename_i hB
      cases he
      cases hv with
      | ptr _ _ p _ hp hat =>
        have hb := hr.get hp
        rw [hB] at hb
        cases p with
        | «at» b n c z => exact .inr (.inl ⟨_, _, rfl, hat, rfl⟩)
        | _ => exact hb.elim
    · cases he
  · cases he
    cases hv with
    | fp a _ _ _ _ => exact .inr (.inl ⟨_, _, rfl, rfl, rfl⟩)
  · cases he; cases hv; exact .inr (.inl ⟨_, _, rfl, rfl, rfl⟩)
  · cases he
    cases hv; exact .inr (.inr ⟨rfl, .inr ⟨_, _, _, rfl, rfl⟩⟩)
  · cases he; cases hv; exact .inr (.inr ⟨rfl, .inl ⟨rfl, rfl⟩⟩)
  · cases he

theorem isNilLit_ok {sh : Sh} {x : V} {w : World} {U : Nat → Prop} {σ : Sig} {v : Value} (he : isNilLit sh x = true) (hv : Rep w U σ v x) :
    (∃ E, sh = .sl E ∧ v = .slice none 0 0) ∨ (∃ E, sh = .ptr E ∧ v = .pointer none) ∨ (sh = .func ∧ v = .nilFunc) := by
  unfold isNilLit at he
  split at he <;> try cases he
  · cases hv; exact .inl ⟨_, rfl, rfl⟩
  · cases hv; exact .inr (.inl ⟨_, rfl, rfl⟩)
  · cases hv; exact .inr (.inr ⟨rfl, rfl⟩)

/-- a value that is asked for nil -/
def NilIs (sh : Sh) (v : Value) (e : Bool) : Prop :=
  (∃ E A n c, sh = .sl E ∧ v = .slice A n c ∧ A.isNone = e) ∨ (∃ E A, sh = .ptr E ∧ v = .pointer A ∧ A.isNone = e) ∨ (sh = .func ∧ ((v = .nilFunc ∧ e = true) ∨ (∃ f a b, v = .func f a b ∧ e = false)))

/-- the literal nil of a type -/
def NilLit (sh : Sh) (u : Value) : Prop := (∃ E, sh = .sl E ∧ u = .slice none 0 0) ∨ (∃ E, sh = .ptr E ∧ u = .pointer none) ∨ (sh = .func ∧ u = .nilFunc)

theorem equalIn_nil {P : Program} {t : TypeId} {sh : Sh} (hs : ShOk P t sh) {v u : Value} {e : Bool} (hv : NilIs sh v e) (hu : NilLit sh u) (w : World) (d : Nat) :
    (Op.equalIn (d + 1) t v u).run P w = .ok e w ∧ (Op.equalIn (d + 1) t u v).run P w = .ok e w := by
  rcases hv with ⟨E, A, n, c, rfl, rfl, rfl⟩ | ⟨E, A, rfl, rfl, rfl⟩ | ⟨rfl, hv⟩
  · rcases hu with ⟨E', _, rfl⟩ | ⟨E', e1, _⟩ | ⟨e1, _⟩
    · have hs : P.underlying t = some (.slice E) := hs
      constructor
      · cases A <;> simp [Op.equalIn, run_underlying hs]
      · cases A <;> simp [Op.equalIn, run_underlying hs]
    · cases e1
    · cases e1
  · rcases hu with ⟨E', e1, _⟩ | ⟨E', _, rfl⟩ | ⟨e1, _⟩
    · cases e1
    · have hs : P.underlying t = some (.pointer E) := hs
      constructor
      · cases A <;> simp [Op.equalIn, run_underlying hs]
      · cases A <;> simp [Op.equalIn, run_underlying hs]
    · cases e1
  · rcases hu with ⟨E', e1, _⟩ | ⟨E', e1, _⟩ | ⟨_, rfl⟩
    · cases e1
    · cases e1
    · obtain ⟨a, b, v', hs⟩ := hs
      rcases hv with ⟨rfl, rfl⟩ | ⟨f, a', b', rfl, rfl⟩
      · simp [Op.equalIn, run_underlying hs]
      · simp [Op.equalIn, run_underlying hs]

theorem equal_nil {P : Program} {t : TypeId} {sh : Sh} (hs : ShOk P t sh) {v u : Value} {e : Bool} (hv : NilIs sh v e) (hu : NilLit sh u) (w : World) :
    (Op.equal t v u).run P w = .ok e w ∧ (Op.equal t u v).run P w = .ok e w := equalIn_nil hs hv hu w 9999

theorem eqlV {P : Program} {w : World} {t : TypeId} {X Y : Operand} {a b : Value} {e : Bool} (hg : (eqGuard .eql t X Y a b).run P w = .ok () w)
    (hb : binOp .eql t a b = (do pure (.bool (← Op.equal t a b)))) (h : (Op.equal t a b).run P w = .ok e w) :
    (do eqGuard .eql t X Y a b; binOp .eql t a b : Sem Value).run P w = .ok (.bool e) w := by
  rw [Sem.run_bind, hg, Result.andThen_ok, hb, Sem.run_bind, h]; rfl
theorem neqV {P : Program} {w : World} {t : TypeId} {X Y : Operand} {a b : Value} {e : Bool} (hg : (eqGuard .neq t X Y a b).run P w = .ok () w)
    (hb : binOp .neq t a b = (do pure (.bool (!(← Op.equal t a b))))) (h : (Op.equal t a b).run P w = .ok e w) :
    (do eqGuard .neq t X Y a b; binOp .neq t a b : Sem Value).run P w = .ok (.bool (!e)) w := by
  rw [Sem.run_bind, hg, Result.andThen_ok, hb, Sem.run_bind, h]; rfl

def bop (neg : Bool) : BinOp := bif neg then .neq else .eql

/-- both at once -/
theorem eqV {P : Program} {w : World} {t : TypeId} {X Y : Operand} {a b : Value} {e : Bool} (neg : Bool) (hg : ∀ op, (eqGuard op t X Y a b).run P w = .ok () w)
    (hb : binOp .eql t a b = (do pure (.bool (← Op.equal t a b)))) (hb' : binOp .neq t a b = (do pure (.bool (!(← Op.equal t a b))))) (h : (Op.equal t a b).run P w = .ok e w) :
    (do eqGuard (bop neg) t X Y a b; binOp (bop neg) t a b : Sem Value).run P w = .ok (.bool (bif neg then !e else e)) w := by
  cases neg
  · exact eqlV (hg _) hb h
  · exact neqV (hg _) hb' h

theorem eqGuard_other {P : Program} (op : BinOp) (t : TypeId) (X Y : Operand) {a : Value} (b : Value) (h1 : a ≠ .nilIface) (h2 : ∀ cs, a ≠ .agg cs) (w : World) : (eqGuard op t X Y a b).run P w = .ok () w := by
  cases a <;> first
    | exact absurd rfl h1
    | exact absurd rfl (h2 _)
    | (unfold eqGuard; split <;> rfl)

theorem eqOp_ok {P : Program} {t : TypeId} {d : TD} (hd : TDOk P t d) (h : Heap) (neg : Bool) (x y : V) (X Y : Operand) :
    One (Ω := Ω) (eqOp h d.sh d.plain neg x y) fun v => ∀ w M σ a b, HR w M σ h → Rep w (Un M σ) σ a x → Rep w (Un M σ) σ b y →
      Gives P w (Un M σ) σ (do eqGuard (bop neg) t X Y a b; binOp (bop neg) t a b) v := by
  have hsh := hd.sh
  unfold eqOp
  split
  · rename_i hs
    rw [hs] at hsh
    refine One.here fun w M σ a b hr ha hb => ?_
    cases ha; cases hb
    rename_i p q
    have hq := run_equal_bool (P := P) w t p q hsh
    have := eqV (X := X) (Y := Y) neg (fun op => by cases op <;> simp [eqGuard]) rfl rfl hq
    exact Gives.bool this
  · rename_i cs ds hs
    cases hp : !d.plain.isEmpty && kindsOk d.plain cs with
    | false => exact One.no
    | true =>
      cases he : eqCells cs ds with
      | none => exact One.no
      | some e =>
        refine One.here fun w M σ a b hr ha hb => ?_
        obtain ⟨vs, rfl, hvs⟩ := ha.agg_reps
        obtain ⟨us, rfl, hus⟩ := hb.agg_reps
        simp only [Bool.and_eq_true, Bool.not_eq_true'] at hp
        obtain ⟨h1, h2⟩ := hd.plain (by intro e; rw [e] at hp; exact absurd hp.1 (by simp))
        have := eqV (X := X) (Y := Y) neg (fun op => run_eqGuard_agg w op t X Y vs us h1) rfl rfl (h2 w vs us e (kinds_ok hp.2 hvs) (eqCells_ok he hvs hus))
        exact Gives.bool this
  · rename_i x' y' _ _ _ _ _
    have key : ∀ (w : World) (a b : Value) (e : Bool), (NilIs d.sh a e ∧ NilLit d.sh b) ∨ (NilIs d.sh b e ∧ NilLit d.sh a) →
        (do eqGuard (bop neg) t X Y a b; binOp (bop neg) t a b : Sem Value).run P w = .ok (.bool (bif neg then !e else e)) w := by
      intro w a b e hab
      have heq : (Op.equal t a b).run P w = .ok e w := by
        rcases hab with ⟨h1, h2⟩ | ⟨h1, h2⟩
        · exact (equal_nil hsh h1 h2 w).1
        · exact (equal_nil hsh h1 h2 w).2
      have hga : ∀ op, (eqGuard op t X Y a b).run P w = .ok () w := by
        intro op
        have : ∀ {u : Value} {e : Bool}, NilIs d.sh u e → u ≠ .nilIface ∧ ∀ cs, u ≠ .agg cs := by
          rintro u e (⟨_, _, _, _, _, rfl, _⟩ | ⟨_, _, _, rfl, _⟩ | ⟨_, ⟨rfl, _⟩ | ⟨_, _, _, rfl, _⟩⟩) <;> exact ⟨by simp, by simp⟩
        have hl : ∀ {u : Value}, NilLit d.sh u → u ≠ .nilIface ∧ ∀ cs, u ≠ .agg cs := by
          rintro u (⟨_, _, rfl⟩ | ⟨_, _, rfl⟩ | ⟨_, rfl⟩) <;> exact ⟨by simp, by simp⟩
        have ⟨ha1, ha2⟩ : a ≠ .nilIface ∧ ∀ cs, a ≠ .agg cs := by rcases hab with ⟨h1, h2⟩ | ⟨h1, h2⟩; exact this h1; exact hl h2
        exact eqGuard_other op t X Y b ha1 ha2 w
      rcases hab with ⟨h1, h2⟩ | ⟨h1, h2⟩ <;> rcases h1 with ⟨_, _, _, _, e1, rfl, _⟩ | ⟨_, _, e1, rfl, _⟩ | ⟨e1, ⟨rfl, _⟩ | ⟨_, _, _, rfl, _⟩⟩ <;>
        rcases h2 with ⟨_, e2, rfl⟩ | ⟨_, e2, rfl⟩ | ⟨e2, rfl⟩ <;> first | (rw [e1] at e2; cases e2; done) | exact eqV neg hga rfl rfl heq
    refine One.ite (fun hy => ?_) fun hy => One.ite (fun hx => ?_) fun hx => One.no
    · cases he : isNil h d.sh x' with
      | none => exact One.no
      | some e => exact One.here fun w M σ a b hr ha hb => Gives.bool (key w a b e (.inl ⟨isNil_ok hr he ha, isNilLit_ok hy hb⟩))
    · cases he : isNil h d.sh y' with
      | none => exact One.no
      | some e => exact One.here fun w M σ a b hr ha hb => Gives.bool (key w a b e (.inr ⟨isNil_ok hr he hb, isNilLit_ok hx ha⟩))

end
end Go.Proofs.YtnebpmcmdmpoaaaDoor.R
