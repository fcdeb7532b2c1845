/- What the printed functions are made of, and how they become contracts. -/
import Derived.Test.YtnebpmcmdmpoaaaDoorRExec
namespace Go.Proofs.YtnebpmcmdmpoaaaDoor.R
open Go
set_option linter.unusedVariables false
set_option linter.unusedSimpArgs false

section
variable {Ω : Type}

/-! ### Words of the printed functions -/

def shl (k : IntKind) (a b : Int) : Int := k.wrap (a * 2 ^ (min b.toNat k.bits))
def shr (k : IntKind) (a b : Int) : Int := a.fdiv (2 ^ (min b.toNat k.bits))
def iand (k : IntKind) (a b : Int) : Int := k.wrap (BitVec.ofInt k.bits a &&& BitVec.ofInt k.bits b).toNat
def ior (k : IntKind) (a b : Int) : Int := k.wrap (BitVec.ofInt k.bits a ||| BitVec.ofInt k.bits b).toNat
def ixor (k : IntKind) (a b : Int) : Int := k.wrap (BitVec.ofInt k.bits a ^^^ BitVec.ofInt k.bits b).toNat
def iandn (k : IntKind) (a b : Int) : Int := k.wrap (BitVec.ofInt k.bits a &&& ~~~(BitVec.ofInt k.bits b)).toNat
def inot (k : IntKind) (n : Int) : Int := k.wrap (BitVec.ofInt k.bits (if k.signed then -1 else k.max) ^^^ BitVec.ofInt k.bits n).toNat
/-- is there room for so many, of that many bytes each? -/
noncomputable def room (n : Int) (b : Nat) : Bool := decide (n * b ≤ roomLim)
def andK {α : Type} (o : Option α) (K : α → Option Ω) : Option Ω := match o with | some x => K x | none => none

/-! ### Arguments and results -/

def Tys : List Ty → Type
  | [] => Unit
  | a :: r => a.den × Tys r

def decL : (l : List Ty) → List V → Option (Tys l)
  | [], [] => some ()
  | a :: r, v :: vs => match read a v with | some x => (match decL r vs with | some y => some (x, y) | none => none) | none => none
  | _, _ => none

def injL : (l : List Ty) → Tys l → List V
  | [], _ => []
  | a :: r, x => inject a x.1 :: injL r x.2

def tupOf : V → Option (List V)
  | .tup vs => some vs
  | _ => none

/-- results: one, or a row of them -/
def decR (l : List Ty) (v : V) : Option (Tys l) :=
  if l.length = 1 then decL l [v] else match tupOf v with | some vs => decL l vs | none => none

def injR (l : List Ty) (x : Tys l) : V :=
  if l.length = 1 then (injL l x).headD .undef else .tup (injL l x)

/-- own slices among the results are handed out -/
def shownR (h : Heap) : V → V
  | .tup vs => .tup (vs.map (shownD h))
  | v => shownD h v

def resK (l : List Ty) (ret : Tys l → Option Ω) (v : V) (h : Heap) : Option Ω :=
  if (idsOf (shownR h v)).isEmpty then (match decR l (shownR h v) with | some x => ret x | none => none) else none

section
variable {w : World} {U : Nat → Prop} {σ : Sig}

theorem read_rep {t : Ty} {v : V} {x : t.den} {v' : Value} (h : read t v = some x) (hr : Rep w U σ v' v) : Rep w U σ v' (inject t x) := (read_ok h hr).inject

theorem decL_cons {a : Ty} {r : List Ty} {v : V} {vs : List V} {x : Tys (a :: r)} (h : decL (a :: r) (v :: vs) = some x) : read a v = some x.1 ∧ decL r vs = some x.2 := by
  simp only [decL] at h
  cases h1 : read a v with
  | none => rw [h1] at h; cases h
  | some x1 =>
    rw [h1] at h
    dsimp only at h
    cases h2 : decL r vs with
    | none => rw [h2] at h; cases h
    | some x2 => rw [h2] at h; cases h; exact ⟨rfl, rfl⟩

theorem decL_ok : ∀ (l : List Ty) {vs : List V} {x : Tys l} {vs' : List Value}, decL l vs = some x → Reps w U σ vs' vs → Reps w U σ vs' (injL l x)
  | [], vs, x, vs', h, hr => by
    cases vs with
    | nil => exact hr
    | cons a b => cases h
  | a :: r, vs, x, vs', h, hr => by
    cases vs with
    | nil => cases h
    | cons v vs =>
      obtain ⟨v', r', rfl, h1, h2⟩ := hr.inv_cons
      obtain ⟨e1, e2⟩ := decL_cons h
      exact .cons (read_rep e1 h1) (decL_ok r e2 h2)

theorem tup_reps {v' : Value} {vs : List V} (h : Rep w U σ v' (.tup vs)) : ∃ us, v' = .tuple us ∧ Reps w U σ us.toList vs := by
  cases h with
  | tup us cs hl hh => exact ⟨us, rfl, by simpa using hl, fun j v x hv hx => hh j v x (by simpa using hv) hx⟩

theorem tupOf_some {v : V} {vs : List V} (h : tupOf v = some vs) : v = .tup vs := by
  unfold tupOf at h; split at h <;> cases h; rfl

theorem decR_ok {l : List Ty} {v : V} {x : Tys l} {v' : Value} (h : decR l v = some x) (hr : Rep w U σ v' v) : Rep w U σ v' (injR l x) := by
  unfold decR at h
  unfold injR
  split at h
  · rename_i hl
    rw [if_pos hl]
    have := decL_ok l h (.one hr)
    cases hi : injL l x with
    | nil => exact .undef _
    | cons a r => rw [hi] at this; exact this.head
  · rename_i hl
    rw [if_neg hl]
    split at h
    · rename_i vs ht
      have e := tupOf_some ht
      subst e
      obtain ⟨us, rfl, h1⟩ := tup_reps hr
      have := decL_ok l h h1
      exact .tup us _ (by simpa using this.1) fun j v V hv hV => this.2 j v V (by simpa using hv) hV
    · cases h
end

theorem shownR_ok {w : World} {M : Nat → Prop} {σ : Sig} {h : Heap} (hr : HR w M σ h) {x : V} {v : Value} (hv : Rep w (Un M σ) σ v x) (hi : idsOf (shownR h x) = []) : Rep w M [] v (shownR h x) := by
  cases x with
  | tup vs =>
    simp only [shownR, idsOf] at hi ⊢
    cases hv with
    | tup us _ hl hh =>
      refine .tup us _ (by simpa using hl) fun j u y hu hy => ?_
      rw [List.getElem?_map] at hy
      obtain ⟨z, hz, rfl⟩ := Option.map_eq_some_iff.1 hy
      exact shownD_ok hr (hh j u z hu hz) (idsOfL_get hi (j := j) (by rw [List.getElem?_map, hz]; rfl))
  | _ => exact shownD_ok hr hv hi

/-! ### Contracts -/

def callOk (P : Program) (n : FuncId) : Prop := CallOk P n

/-- a function that was walked, as what its callers may know of it -/
theorem PContract.of_run {P : Program} {l : List Ty} {E : Env (Tys l)} (hE : EnvOk P E) (hm : P.follows .mixedOrders = true) {n : FuncId} (hc : CallOk P n) {fn : Func} (hf : P.funcs[n]? = some fn) {un : List Nat} {k : Nat} {xs : List V} {r : Tys l}
    (h : run E un k fn xs [] (resK l some) = some r) : PContract P E.gl n xs (injR l r) := by
  refine ⟨hc, fun U w vs hU hg hx => ?_⟩
  have hh : HR w U [] [] := ⟨rfl, fun i j b n c z n' c' z' h => by simp at h, fun b ⟨i, n, c, z, h⟩ => by simp at h, fun b hb => by
    rcases hb with hb | ⟨i, n, c, z, h⟩
    · exact hU b hb
    · simp at h, fun i p B h => by simp at h⟩
  have hUn : ∀ b, Un U [] b ↔ U b := fun b => ⟨fun h => h.resolve_right fun ⟨i, n, c, z, h⟩ => by simp at h, .inl⟩
  have hk : Keeps w w U (Un U []) := ⟨fun _ _ h _ => h, fun b _ hn hu => hn ((hUn b).1 hu)⟩
  have := run_calls hE hm un k hf h hh (hg.mono hk) (hx.mono hk (.refl _))
  refine Calls.mono this fun e w' he => ?_
  obtain ⟨v', σ', v, h', rfl, h1, h2, h3, h4⟩ := he
  unfold resK at h1
  split at h1
  · rename_i hi
    split at h1
    · rename_i x hd
      cases h1
      refine ⟨v', rfl, decR_ok hd (shownR_ok h2 h3 (by simpa using hi)), h4.os, h4.tape, h4.output, h4.size, h4.keep, .refl _, fun b hb => ?_⟩
      obtain ⟨i, n, c, z, h⟩ := hb
      simp at h
    · cases h1
  · cases h1

/-- what stands in a caller's table for it -/
def ent (args res : List Ty) (F : Tys args → Option (Tys res)) (xs : List V) (K : V → Option Ω) : Option Ω :=
  match decL args xs with
  | some a => andK (F a) fun r => K (injR res r)
  | none => none

theorem PContract.mono_args {P : Program} {gl : List (Nat × List V)} {n : FuncId} {xs ys : List V} {v : V} (h : PContract P gl n ys v) (hxy : ∀ w U vs, Reps w U [] vs xs → Reps w U [] vs ys) : PContract P gl n xs v :=
  ⟨h.1, fun U w vs hU hg hx => h.2 U w vs hU hg (hxy w U vs hx)⟩

theorem ent_ok {P : Program} {gl : List (Nat × List V)} {n : FuncId} {args res : List Ty} {F : Tys args → Option (Tys res)} (h : ∀ a r, F a = some r → PContract P gl n (injL args a) (injR res r)) (xs : List V) :
    One (Ω := Ω) (ent args res F xs) (PContract P gl n xs) := by
  intro K r hr
  unfold ent at hr
  split at hr
  · rename_i a ha
    unfold andK at hr
    split at hr
    · rename_i y hy
      refine ⟨_, hr, fun K' => ?_, (h a y hy).mono_args fun w U vs hx => decL_ok _ ha hx⟩
      unfold ent
      rw [ha]
      simp only [andK, hy]
    · cases hr
  · cases hr

/-- the table of a function: what it calls -/
abbrev Ents (Ω : Type) := List (FuncId × Bool × (List V → (V → Option Ω) → Option Ω))

def envOf (T : Types) (gl : List (Nat × List V)) (es : Ents Ω) : Env Ω where
  T := T
  gl := gl
  pf := es.map fun e => (e.1, e.2.1)
  pt := fun n xs K => match es.lookup n with | some e => e.2 xs K | none => none
  tab := fun _ _ _ _ => none

theorem lookup_mem {α : Type} {l : List (FuncId × α)} {n : FuncId} {x : α} (h : l.lookup n = some x) : (n, x) ∈ l := by
  induction l with
  | nil => cases h
  | cons p r ih =>
    obtain ⟨m, y⟩ := p
    simp only [List.lookup] at h
    split at h
    · rename_i hb
      cases h
      have : n = m := by simpa using hb
      subst this
      exact List.mem_cons_self
    · exact List.mem_cons_of_mem _ (ih h)

theorem envOf_ok {P : Program} {T : Types} {gl : List (Nat × List V)} {es : Ents Ω} (hT : TOk P T) (h : ∀ e ∈ es, ∀ xs, One (e.2.2 xs) (PContract P gl e.1 xs)) : EnvOk P (envOf T gl es) := by
  refine ⟨hT, fun n b xs hn => ?_, fun n xs h _ => ?_⟩
  · show One (fun K => match es.lookup n with | some e => e.2 xs K | none => none) _
    cases hl : es.lookup n with
    | none => intro K r hr; cases hr
    | some e => exact h (n, e) (lookup_mem hl) xs
  · intro K r hr; cases hr

/-! ### Where a loop stands -/

structure Spot (Ω : Type) where
  b : Code
  ex : List (Nat × Nat)
  K : Ex → St → Option Ω

/-- what is walked, and what goes on behind, at a place of the code: `lk` says how a round that has ended goes on, from the outermost loop to the innermost -/
noncomputable def spot (E : Env Ω) (R : Nat) (un : List Nat) (k : Nat) : List (St → Option Ω) → List Bool → Code → Nat → List (Nat × Nat) → (Ex → St → Option Ω) → Option (Spot Ω)
  | _, [], .loop b, _, ex, K => some ⟨b, ex, K⟩
  | lk, false :: p, .seq a b, out, ex, K => spot E R un k lk p a (live R b out ex) ex fun e s' => match e with
    | .normal => exec E R un k b out ex s' K
    | e => K e s'
  | lk, true :: p, .seq a b, out, ex, K => spot E R un k lk p b out ex K
  | lk, d :: p, .cond c a b, out, ex, K => if d then spot E R un k lk p a out ex K else spot E R un k lk p b out ex K
  | lk, _ :: p, .block id b, out, ex, K => spot E R un k lk p b out ((id, out) :: ex) fun e s' => match e with
    | .exit i => if i = id then K .normal s' else K (.exit i) s'
    | e => K e s'
  | l :: lk, _ :: p, .loop b, _, ex, K => spot E R un k lk p b (live R b (live R b 0 ex) ex) ex fun e s' => match e with
    | .normal => l (canon E.pin (live R b (live R b 0 ex) ex) s')
    | e => K e s'
  | _, _, _, _, _, _ => none

/-- the loop at a place of a function's body -/
noncomputable def spotF (E : Env Ω) (un : List Nat) (k : Nat) (fn : Func) (lk : List (St → Option Ω)) (p : List Bool) (K : V → Heap → Option Ω) : Option (Spot Ω) :=
  match fn.body with
  | some c => spot E (resLive fn.results.toList) un k lk p c (resLive fn.results.toList) [] fun e s => match e with
    | .exit _ => none
    | _ => match resOf E.T s fn.results.toList with | some v => K v s.heap | none => none
  | none => none

def liveAt (R : Nat) (s : Spot Ω) : Nat := live R s.b (live R s.b 0 s.ex) s.ex

/-- a loop, from a state on -/
noncomputable def loopAt (E : Env Ω) (R : Nat) (un : List Nat) (k : Nat) (sp : Option (Spot Ω)) (n : Nat) (s : St) : Option Ω :=
  match sp with
  | some sp => loopC (exec E R un k sp.b (live R sp.b (live R sp.b 0 sp.ex) sp.ex) sp.ex) E.pin (live R sp.b (live R sp.b 0 sp.ex) sp.ex) sp.K n s
  | none => none

/-- one round of it -/
noncomputable def roundAt (E : Env Ω) (R : Nat) (un : List Nat) (k : Nat) (sp : Option (Spot Ω)) (lk : St → Option Ω) (s : St) : Option Ω :=
  match sp with
  | some sp => exec E R un k sp.b (live R sp.b (live R sp.b 0 sp.ex) sp.ex) sp.ex s fun e s' => match e with
    | .normal => lk (canon E.pin (live R sp.b (live R sp.b 0 sp.ex) sp.ex) s')
    | e => sp.K e s'
  | none => none

theorem loopAt_succ (E : Env Ω) (R : Nat) (un : List Nat) (k : Nat) (sp : Option (Spot Ω)) (n : Nat) (s : St) : loopAt E R un k sp (n + 1) s = roundAt E R un k sp (fun s => loopAt E R un k sp n s) s := by
  cases sp with
  | none => rfl
  | some sp => rfl
theorem loopAt_zero (E : Env Ω) (R : Nat) (un : List Nat) (k : Nat) (sp : Option (Spot Ω)) (s : St) : loopAt E R un k sp 0 s = none := by
  cases sp with
  | none => rfl
  | some sp => rfl

/-- the same outcome from some number of rounds on -/
def Ev {β : Type} (f : Nat → Option β) (r : β) : Prop := ∃ k0, ∀ k, k0 ≤ k → f k = some r

/-- a function that has an outcome from some number of rounds on -/
noncomputable def ends {β : Type} (f : Nat → Option β) : Option β := open Classical in if h : ∃ r, Ev f r then some h.choose else none
theorem ends_some {β : Type} {f : Nat → Option β} {r : β} (h : ends f = some r) : ∃ k, f k = some r := by
  unfold ends at h
  split at h
  · rename_i hx
    cases h
    obtain ⟨k, hk⟩ := hx.choose_spec
    exact ⟨k, hk k (Nat.le_refl k)⟩
  · cases h
theorem ends_of {β : Type} {f : Nat → Option β} {r : β} (h : Ev f r) : ends f = some r := by
  have hx : ∃ r, Ev f r := ⟨r, h⟩
  unfold ends
  rw [dif_pos hx]
  obtain ⟨k, hk⟩ := hx.choose_spec
  obtain ⟨k', hk'⟩ := h
  have h1 := hk (max k k') (Nat.le_max_left _ _)
  have h2 := hk' (max k k') (Nat.le_max_right _ _)
  rw [h1] at h2
  exact h2
end
end Go.Proofs.YtnebpmcmdmpoaaaDoor.R
