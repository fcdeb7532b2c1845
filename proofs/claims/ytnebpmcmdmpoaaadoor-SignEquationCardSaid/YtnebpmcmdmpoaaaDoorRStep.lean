/- One operation: what the walk says of it, the model does. -/
import Derived.Test.YtnebpmcmdmpoaaaDoorRText
namespace Go.Proofs.YtnebpmcmdmpoaaaDoor.R
open Go
set_option linter.unusedVariables false
set_option linter.unusedSimpArgs false

/-- the variables of the program that are read -/
def GOk (gl : List (Nat × List V)) (w : World) (U : Nat → Prop) : Prop := ∀ (g : Nat) (cs : List V), gl.lookup g = some cs → Rep w U [] (.pointer (some ⟨g, 0, none⟩)) (.fp cs)

theorem Later.nil (σ : Sig) : Later [] σ := fun id p h => by simp at h
theorem GOk.mono {gl : List (Nat × List V)} {w w' : World} {U U' : Nat → Prop} (hk : Keeps w w' U U') (h : GOk gl w U) : GOk gl w' U' := fun g cs hg => (h g cs hg).mono hk (.refl _)

/-- the function is there, and is entered -/
def CallOk (P : Program) (n : FuncId) : Prop := ∀ args w, (callFunc n args).run P w = .ok (.enter n args) w

/-- a function that touches nothing of what there is -/
def PContract (P : Program) (gl : List (Nat × List V)) (n : FuncId) (xs : List V) (v : V) : Prop :=
  CallOk P n ∧ ∀ (U : Nat → Prop) (w : World) (vs : List Value), (∀ b, U b → b < w.heap.size) → GOk gl w U → Reps w U [] vs xs →
    Calls P n vs.toArray w fun e w' => ∃ v', e = .returned v' ∧ Rep w' U [] v' v ∧ Step w w' [] []

/-- what a call comes to: the function is entered, or (one that the model itself reckons) answers at once -/
def Upon (P : Program) (n : FuncId) (vs : Array Value) (w : World) (post : Value → World → Prop) : Prop :=
  ((callFunc n vs).run P w = .ok (.enter n vs) w ∧ Calls P n vs w fun e w' => ∃ v', e = .returned v' ∧ post v' w') ∨ ∃ v' w', (callFunc n vs).run P w = .ok (.value v') w' ∧ post v' w'

/-- a function that may change the memory of ours -/
def Contract (P : Program) (gl : List (Nat × List V)) (n : FuncId) (xs : List V) (h : Heap) (v : V) (h' : Heap) : Prop :=
  ∀ (M : Nat → Prop) (σ : Sig) (w : World) (vs : List Value), HR w M σ h → GOk gl w (Un M σ) → Reps w (Un M σ) σ vs xs →
    Upon P n vs.toArray w fun v' w' => ∃ σ', HR w' M σ' h' ∧ Rep w' (Un M σ') σ' v' v ∧ Step w w' σ σ'

theorem Contract.of {P : Program} {gl : List (Nat × List V)} {n : FuncId} {xs : List V} {h : Heap} {v : V} {h' : Heap} (hc : CallOk P n)
    (hcon : ∀ (M : Nat → Prop) (σ : Sig) (w : World) (vs : List Value), HR w M σ h → GOk gl w (Un M σ) → Reps w (Un M σ) σ vs xs →
      Calls P n vs.toArray w fun e w' => ∃ v', e = .returned v' ∧ ∃ σ', HR w' M σ' h' ∧ Rep w' (Un M σ') σ' v' v ∧ Step w w' σ σ') : Contract P gl n xs h v h' :=
  fun M σ w vs hr hg hx => .inl ⟨hc _ w, hcon M σ w vs hr hg hx⟩

structure EnvOk (P : Program) {Ω : Type} (E : Env Ω) : Prop where
  types : TOk P E.T
  pt : ∀ n b xs, E.pf.lookup n = some b → One (E.pt n xs) (PContract P E.gl n xs)
  tab : ∀ n xs h, E.pf.lookup n = none → OneW (E.tab n xs h) (Contract P E.gl n xs h)

section
variable {P : Program} {Ω : Type} {E : Env Ω}

def Spec (P : Program) (gl : List (Nat × List V)) (o : Oper) (ρ : Operand → V) (h : Heap) (v : V) (h' : Heap) : Prop :=
  ∀ (M : Nat → Prop) (σ : Sig) (w : World) (a : Act) (next : Act → World → Prop) (Q : Exit → Act → World → Prop), HR w M σ h → GOk gl w (Un M σ) →
    (∀ x ∈ o.op.operands, Rep w (Un M σ) σ (a.eval x) (ρ x)) → (∀ v' w' σ', HR w' M σ' h' → Rep w' (Un M σ') σ' v' v → Step w w' σ σ' → next (a.put o.dst v') w') → o.wp P a w next Q

theorem specV {gl : List (Nat × List V)} {o : Oper} {ρ : Operand → V} {h : Heap} {v : V} {h' : Heap} (s : (Operand → Value) → Sem Value) (hop : ∀ ev, execOp ev o = (do pure (.value (← s ev))))
    (H : ∀ M σ w (a : Act), HR w M σ h → (∀ x ∈ o.op.operands, Rep w (Un M σ) σ (a.eval x) (ρ x)) → GivesW P w M σ (s a.eval) v h') : Spec P gl o ρ h v h' := by
  intro M σ w a next Q hr hg hx hn
  obtain ⟨v', w', σ', h1, h2, h3, h4⟩ := H M σ w a hr hx
  unfold Oper.wp
  rw [hop]
  simp only [Sem.run_bind, h1, Result.andThen_ok, Sem.run_pure]
  exact hn v' w' σ' h2 h3 h4

theorem specM {gl : List (Nat × List V)} {o : Oper} {ρ : Operand → V} {h : Heap} {v : V} (s : (Operand → Value) → Value) (hop : ∀ ev, execOp ev o = pure (.value (s ev)))
    (H : ∀ M σ w (a : Act), HR w M σ h → (∀ x ∈ o.op.operands, Rep w (Un M σ) σ (a.eval x) (ρ x)) → Rep w (Un M σ) σ (s a.eval) v) : Spec P gl o ρ h v h := by
  intro M σ w a next Q hr hg hx hn
  unfold Oper.wp
  rw [hop]
  exact hn _ w σ hr (H M σ w a hr hx) (.refl w σ)

theorem OneW.ofOne {f : (V → Option Ω) → Option Ω} {Φ : V → Prop} {h : Heap} {Ψ : V → Heap → Prop} (h1 : One f Φ) (hh : ∀ v, Φ v → Ψ v h) : OneW (fun K : V → Heap → Option Ω => f fun v => K v h) Ψ := by
  intro K r hr
  obtain ⟨v, g1, g2, g3⟩ := h1 _ r hr
  exact ⟨v, h, g1, fun K' => g2 _, hh v g3⟩

theorem OneW.lift {o : Option V} {h : Heap} {Ψ : V → Heap → Prop} (hh : ∀ v, o = some v → Ψ v h) : OneW (fun K : V → Heap → Option Ω => R.lift h K o) Ψ := by
  intro K r hr
  cases o with
  | none => cases hr
  | some v => exact ⟨v, h, hr, fun _ => rfl, hh v rfl⟩

theorem OneW.mono {f : (V → Heap → Option Ω) → Option Ω} {Φ Ψ : V → Heap → Prop} (h : OneW f Φ) (hh : ∀ v h, Φ v h → Ψ v h) : OneW f Ψ := fun K r hr => by
  obtain ⟨v, h', h1, h2, h3⟩ := h K r hr; exact ⟨v, h', h1, h2, hh v h' h3⟩

theorem eq_of_getD {α : Type} {l : List α} {k : Nat} {p : α} (h : l[k]? = some p) : p ∈ l := List.mem_of_getElem? h

/-- nil as an own slice -/
theorem nil_place {gl : List (Nat × List V)} {o : Oper} {ρ : Operand → V} {h : Heap} {t : Ty} (hop : ∀ a : Act, execOp a.eval o = pure (.value (.slice none 0 0))) : Spec P gl o ρ h (.own h.length) (h ++ [.rows t ⟨true, []⟩]) := by
  intro M σ w a next Q hr hg hx hn
  unfold Oper.wp
  rw [hop]
  have hp := hr.pushPlace (p := .nil) (B := .rows t ⟨true, []⟩) (fun _ _ _ _ => by simp) ⟨rfl, rfl⟩
  exact hn _ w _ hp.1 (own_last hr.len rfl) hp.2

theorem isNilSlice_ok {x : Operand} (h : isNilSlice x = true) : x = .const (.slice none 0 0) := by
  unfold isNilSlice at h
  split at h
  · rfl
  · cases h

theorem move_ok (dst : Option Tmp) (x : Operand) (op : Op) (hop' : op = .move x ∨ op = .assign x) (dr : Bool) (ty : TypeId) (pos : String) (after : Array Edge) (guard : Option (Nat × Bool)) (ρ : Operand → V) (h : Heap) :
    OneW (Ω := Ω) (step E dr ⟨dst, op, ty, pos, after, guard⟩ ρ h) (Spec P E.gl ⟨dst, op, ty, pos, after, guard⟩ ρ h) := by
  have hop : ∀ ev, execOp ev ⟨dst, op, ty, pos, after, guard⟩ = pure (.value (ev x)) := by
    intro ev; rcases hop' with e | e <;> subst e <;> rfl
  have hmem : x ∈ op.operands := by rcases hop' with e | e <;> rw [e] <;> simp [Op.operands]
  have here : OneW (Ω := Ω) (fun K => K (ρ x) h) (Spec P E.gl ⟨dst, op, ty, pos, after, guard⟩ ρ h) := OneW.here (specM (fun ev => ev x) hop fun M σ w a hr hx => hx x hmem)
  have main : OneW (Ω := Ω) (fun K => if isNilSlice x then
      match E.T.get ty with
      | some d => match d.sh with
        | .sl e => match E.T.ty e with
          | some t => K (.own h.length) (h ++ [.rows t ⟨true, []⟩])
          | none => K (ρ x) h
        | _ => K (ρ x) h
      | none => K (ρ x) h
    else K (ρ x) h) (Spec P E.gl ⟨dst, op, ty, pos, after, guard⟩ ρ h) := by
    refine OneW.ite (fun hn => ?_) fun _ => here
    have hxe := isNilSlice_ok hn
    split
    · split
      · split
        · exact OneW.here (nil_place fun a => by rw [hop a.eval, hxe]; rfl)
        · exact here
      · exact here
    · exact here
  rcases hop' with e | e <;> subst e <;> exact main

theorem parts_ops {w : World} {U : Nat → Prop} {σ : Sig} {ρ : Operand → V} {a : Act} {parts : List (Nat × Operand)} (hx : ∀ x ∈ parts.map (·.2), Rep w U σ (a.eval x) (ρ x)) :
    ∀ (k : Nat) (p : Nat × V) (q : Nat × Value), (parts.map fun p => (p.1, ρ p.2))[k]? = some p → (parts.map fun p => (p.1, a.eval p.2))[k]? = some q → p.1 = q.1 ∧ Rep w U σ q.2 p.2 := by
  intro k p q hp hq
  rw [List.getElem?_map] at hp hq
  obtain ⟨y, hy, rfl⟩ := Option.map_eq_some_iff.1 hp
  rw [hy] at hq
  cases hq
  exact ⟨rfl, hx _ (List.mem_map.2 ⟨y, List.mem_of_getElem? hy, rfl⟩)⟩

theorem reps_ops {w : World} {U : Nat → Prop} {σ : Sig} {ρ : Operand → V} {a : Act} : ∀ {xs : List Operand}, (∀ x ∈ xs, Rep w U σ (a.eval x) (ρ x)) → Reps w U σ (xs.map a.eval) (xs.map ρ)
  | [], _ => .nil
  | x :: r, h => .cons (h x List.mem_cons_self) (reps_ops fun y hy => h y (List.mem_cons_of_mem _ hy))

theorem orep_ops {w : World} {U : Nat → Prop} {σ : Sig} {ρ : Operand → V} {a : Act} {o : Option Operand} (h : ∀ x ∈ o.toList, Rep w U σ (a.eval x) (ρ x)) : ORep w U σ (o.map a.eval) (o.map ρ) := by
  cases o with
  | none => trivial
  | some x => exact h x (by simp)

theorem binV_ok {T : Types} (hT : TOk P T) (op : BinOp) (t : TypeId) (x y : V) (X Y : Operand) (h : Heap) :
    One (Ω := Ω) (binV T h op t x y) fun v => ∀ w M σ a b, HR w M σ h → Rep w (Un M σ) σ a x → Rep w (Un M σ) σ b y → Gives P w (Un M σ) σ (do eqGuard op t X Y a b; binOp op t a b) v := by
  unfold binV
  split
  · refine One.bif (fun _ => One.no) fun hb => One.here fun w M σ a b hr ha hb' => ?_
    have hb := of_decide_eq_false hb
    cases ha; cases hb'
    exact Gives.int (by simp [eqGuard, binOp, Op.shift, hb])
  · refine One.bif (fun _ => One.no) fun hb => One.here fun w M σ a b hr ha hb' => ?_
    have hb := of_decide_eq_false hb
    cases ha; cases hb'
    exact Gives.int (by simp [eqGuard, binOp, Op.shift, hb])
  · rename_i k a k' b hs1 hs2
    refine One.ite (fun hk => ?_) fun _ => One.no
    subst hk
    refine (intOp_ok op k a b ⟨fun e => ?_, fun e => ?_⟩ t X Y).mono fun v hv w M σ av bv hr ha hb => ?_
    · exact hs1 e
    · exact hs2 e
    · cases ha; cases hb
      exact hv P w _ σ
  · rename_i a b
    refine (strOp_ok op a b t X Y).mono fun v hv w M σ av bv hr ha hb => ?_
    cases ha; cases hb
    exact hv P w _ σ
  · cases hd : T.get t with
    | none => exact One.no
    | some d => exact (eqOp_ok (P := P) (hT _ _ hd) h false x y X Y).mono fun v hv w M σ a b hr ha hb => hv w M σ a b hr ha hb
  · cases hd : T.get t with
    | none => exact One.no
    | some d => exact (eqOp_ok (P := P) (hT _ _ hd) h true x y X Y).mono fun v hv w M σ a b hr ha hb => hv w M σ a b hr ha hb
  · exact One.no

theorem st_pick (hE : EnvOk P E) (dr : Bool) (dst : Option Tmp) (ty : TypeId) (pos : String) (after : Array Edge) (guard : Option (Nat × Bool)) (ρ : Operand → V) (h : Heap) (c a b : Operand) :
    OneW (Ω := Ω) (step E dr ⟨dst, .pick c a b, ty, pos, after, guard⟩ ρ h) (Spec P E.gl ⟨dst, .pick c a b, ty, pos, after, guard⟩ ρ h) := by
  have hT := hE.types
  unfold step
  dsimp only
  cases hc : ρ c with
  | bool t =>
    dsimp only
    have hsp : ∀ v, (t = true → v = ρ a) → (t = false → v = ρ b) → Spec P E.gl ⟨dst, .pick c a b, ty, pos, after, guard⟩ ρ h v h := by
      intro v h1 h2
      refine specV (fun ev => do pure (if ← asBool (ev c) then ev a else ev b)) (fun ev => by simp [execOp]) fun M σ w A hr hx => ?_
      have g1 := hx c (by simp [Op.operands])
      have g2 := hx a (by simp [Op.operands])
      have g3 := hx b (by simp [Op.operands])
      rw [hc] at g1
      generalize A.eval c = cv at g1
      cases g1
      cases t with
      | true => exact ⟨A.eval a, w, σ, rfl, hr, by rw [h1 rfl]; exact g2, .refl w σ⟩
      | false => exact ⟨A.eval b, w, σ, rfl, hr, by rw [h2 rfl]; exact g3, .refl w σ⟩
    exact OneW.bif (fun ht => OneW.here (hsp _ (fun _ => rfl) fun e => by rw [ht] at e; cases e)) fun ht => OneW.here (hsp _ (fun e => by rw [ht] at e; cases e) fun _ => rfl)
  | _ => exact OneW.no

theorem st_alloc (hE : EnvOk P E) (dr : Bool) (dst : Option Tmp) (ty : TypeId) (pos : String) (after : Array Edge) (guard : Option (Nat × Bool)) (ρ : Operand → V) (h : Heap) (e : TypeId) :
    OneW (Ω := Ω) (step E dr ⟨dst, .alloc e, ty, pos, after, guard⟩ ρ h) (Spec P E.gl ⟨dst, .alloc e, ty, pos, after, guard⟩ ρ h) := by
  have hT := hE.types
  unfold step
  dsimp only
  cases hd : E.T.get e with
  | none => exact OneW.no
  | some d =>
    dsimp only
    cases hn : newVar E.T e (zeroOf d) h with
    | none => exact OneW.no
    | some q => exact OneW.here (specV (fun _ => Instr.alloc e true (.tuple #[])) (fun ev => rfl) fun M σ w A hr hx => alloc_ok (hT _ _ hd) hn hr)

theorem st_box (hE : EnvOk P E) (dr : Bool) (dst : Option Tmp) (ty : TypeId) (pos : String) (after : Array Edge) (guard : Option (Nat × Bool)) (ρ : Operand → V) (h : Heap) (e : TypeId) (x : Operand) :
    OneW (Ω := Ω) (step E dr ⟨dst, .box e x, ty, pos, after, guard⟩ ρ h) (Spec P E.gl ⟨dst, .box e x, ty, pos, after, guard⟩ ρ h) := by
  have hT := hE.types
  unfold step
  dsimp only
  cases hn : newVar E.T e (ρ x).cells h with
  | none => exact OneW.no
  | some q => exact OneW.here (specV (fun ev => Instr.box e (ev x)) (fun ev => rfl) fun M σ w A hr hx => box_ok hn hr (hx x (by simp [Op.operands])))

theorem st_build (hE : EnvOk P E) (dr : Bool) (dst : Option Tmp) (ty : TypeId) (pos : String) (after : Array Edge) (guard : Option (Nat × Bool)) (ρ : Operand → V) (h : Heap) (t : TypeId) (parts : Array (Nat × Operand)) :
    OneW (Ω := Ω) (step E dr ⟨dst, .build t parts, ty, pos, after, guard⟩ ρ h) (Spec P E.gl ⟨dst, .build t parts, ty, pos, after, guard⟩ ρ h) := by
  have hT := hE.types
  unfold step
  dsimp only
  cases hd : E.T.get t with
  | none => exact OneW.no
  | some d =>
    dsimp only
    refine OneW.ite (fun hso => OneW.lift fun v hv => ?_) fun _ => OneW.no
    refine specV (fun ev => Instr.build t (parts.map fun (i, x) => (i, ev x))) (fun ev => rfl) fun M σ w A hr hx => ?_
    have hps := parts_ops (ρ := ρ) (a := A) (parts := parts.toList) (fun x hx' => hx x (by simpa [Op.operands] using hx'))
    have := buildV_ok (P := P) hT (hT _ _ hd) hv hr (ps := parts.toList.map fun p => (p.1, A.eval p.2)) (by simp) hps (by rw [List.all_map]; exact hso)
    have e : (parts.toList.map fun p => (p.1, A.eval p.2)).toArray = parts.map fun (i, x) => (i, A.eval x) := by apply Array.ext'; simp
    rw [e] at this
    exact this.toW hr

theorem st_buildSlice (hE : EnvOk P E) (dr : Bool) (dst : Option Tmp) (ty : TypeId) (pos : String) (after : Array Edge) (guard : Option (Nat × Bool)) (ρ : Operand → V) (h : Heap) (t : TypeId) (len : Nat) (parts : Array (Nat × Operand)) :
    OneW (Ω := Ω) (step E dr ⟨dst, .buildSlice t len parts, ty, pos, after, guard⟩ ρ h) (Spec P E.gl ⟨dst, .buildSlice t len parts, ty, pos, after, guard⟩ ρ h) := by
  have hT := hE.types
  unfold step
  dsimp only
  cases hd : E.T.get t with
  | none => exact OneW.no
  | some d =>
    dsimp only
    refine OneW.ite (fun _ => OneW.no) fun _ => ?_
    cases hn : buildSliceV E.T d h len (parts.toList.map fun p => (p.1, ρ p.2)) with
    | none => exact OneW.no
    | some q =>
      obtain ⟨v, h'⟩ := q
      refine OneW.here (specV (fun ev => Instr.buildSlice t len (parts.map fun (i, x) => (i, ev x))) (fun ev => by simp only [execOp]) fun M σ w A hr hx => ?_)
      have hps := parts_ops (ρ := ρ) (a := A) (parts := parts.toList) (fun x hx' => hx x (by simpa [Op.operands] using hx'))
      have := buildSliceV_ok (P := P) hT (hT _ _ hd) hn hr (ps := parts.toList.map fun p => (p.1, A.eval p.2)) (by simp) hps
      have e : (parts.toList.map fun p => (p.1, A.eval p.2)).toArray = parts.map fun (i, x) => (i, A.eval x) := by apply Array.ext'; simp
      rw [e] at this
      exact this

theorem st_load (hE : EnvOk P E) (dr : Bool) (dst : Option Tmp) (ty : TypeId) (pos : String) (after : Array Edge) (guard : Option (Nat × Bool)) (ρ : Operand → V) (h : Heap) (t : TypeId) (x : Operand) :
    OneW (Ω := Ω) (step E dr ⟨dst, .load t x, ty, pos, after, guard⟩ ρ h) (Spec P E.gl ⟨dst, .load t x, ty, pos, after, guard⟩ ρ h) := by
  have hT := hE.types
  unfold step
  dsimp only
  cases hd : E.T.get t with
  | none => exact OneW.no
  | some d =>
    exact OneW.lift fun v hv => specV (fun ev => Instr.loadAt t (ev x)) (fun ev => rfl) fun M σ w A hr hx => (loadV_ok (hT _ _ hd) hv hr (hx x (by simp [Op.operands]))).toW hr

theorem st_store (hE : EnvOk P E) (dr : Bool) (dst : Option Tmp) (ty : TypeId) (pos : String) (after : Array Edge) (guard : Option (Nat × Bool)) (ρ : Operand → V) (h : Heap) (t : TypeId) (p x : Operand) :
    OneW (Ω := Ω) (step E dr ⟨dst, .store t p x, ty, pos, after, guard⟩ ρ h) (Spec P E.gl ⟨dst, .store t p x, ty, pos, after, guard⟩ ρ h) := by
  have hT := hE.types
  unfold step
  dsimp only
  cases hd : E.T.get t with
  | none => exact OneW.no
  | some d =>
    dsimp only
    cases hn : storeV d h (ρ p) (ρ x) with
    | none => exact OneW.no
    | some h' =>
      refine OneW.here fun M σ w a next Q hr hg hx hn' => ?_
      obtain ⟨w', σ', h1, h2, h3⟩ := storeV_ok (P := P) (hT _ _ hd) hn hr (hx p (by simp [Op.operands])) (hx x (by simp [Op.operands]))
      unfold Oper.wp
      simp only [execOp, Sem.run_bind, h1, Result.andThen_ok, Sem.run_pure]
      exact hn' _ w' σ' h2 (.undef _) h3

theorem st_nilCheck (hE : EnvOk P E) (dr : Bool) (dst : Option Tmp) (ty : TypeId) (pos : String) (after : Array Edge) (guard : Option (Nat × Bool)) (ρ : Operand → V) (h : Heap) (x : Operand) :
    OneW (Ω := Ω) (step E dr ⟨dst, .nilCheck x, ty, pos, after, guard⟩ ρ h) (Spec P E.gl ⟨dst, .nilCheck x, ty, pos, after, guard⟩ ρ h) := by
  have hT := hE.types
  unfold step
  dsimp only
  refine OneW.ite (fun hs => ?_) fun _ => OneW.no
  have key : ∀ v, ρ x = v → ((∃ id o, v = .ptr id o) ∨ (∃ id i o, v = .eptr id i o) ∨ (∃ cs, v = .fp cs) ∨ (∃ f cs, v = .fn f cs)) → Spec P E.gl ⟨dst, .nilCheck x, ty, pos, after, guard⟩ ρ h v h := by
    intro v hv hk M σ w a next Q hr hg hx hn
    have hr1 := hx x (by simp [Op.operands])
    rw [hv] at hr1 hs
    have hval : (∃ A, a.eval x = .pointer (some A)) ∨ ∃ f vs, a.eval x = .func (.func f) #[] vs := by
      generalize a.eval x = av at hr1
      rcases hk with ⟨id, o, rfl⟩ | ⟨id, i, o, rfl⟩ | ⟨cs, rfl⟩ | ⟨f, cs, rfl⟩
      · cases hr1 with
        | ptr _ _ p _ hp hat =>
          have := solid_alive hr hp hs
          cases p with
          | dead => exact absurd rfl this
          | «at» b n c z => exact .inl ⟨_, hat⟩
          | _ => exact hat.elim
      · cases hr1 with
        | eptr _ _ _ p _ hp hat =>
          have := solid_alive hr hp hs
          cases p with
          | dead => exact absurd rfl this
          | «at» b n c z => exact .inl ⟨_, hat.2⟩
          | _ => exact hat.elim
      · cases hr1; exact .inl ⟨_, rfl⟩
      · cases hr1; exact .inr ⟨_, _, rfl⟩
    unfold Oper.wp
    rcases hval with ⟨A, e⟩ | ⟨f, vs, e⟩
    · simp only [execOp, e, Sem.run_pure]
      exact hn _ w σ hr (by rw [← e]; exact hr1) (.refl w σ)
    · simp only [execOp, e, Sem.run_pure]
      exact hn _ w σ hr (by rw [← e]; exact hr1) (.refl w σ)
  cases hv : ρ x with
  | ptr id o => exact OneW.here (key _ hv (.inl ⟨id, o, rfl⟩))
  | eptr id i o => exact OneW.here (key _ hv (.inr (.inl ⟨id, i, o, rfl⟩)))
  | fp cs => exact OneW.here (key _ hv (.inr (.inr (.inl ⟨cs, rfl⟩))))
  | fn f cs => exact OneW.here (key _ hv (.inr (.inr (.inr ⟨f, cs, rfl⟩))))
  | _ => exact OneW.no

theorem st_unOp (hE : EnvOk P E) (dr : Bool) (dst : Option Tmp) (ty : TypeId) (pos : String) (after : Array Edge) (guard : Option (Nat × Bool)) (ρ : Operand → V) (h : Heap) (op : UnOp) (t : TypeId) (x : Operand) :
    OneW (Ω := Ω) (step E dr ⟨dst, .unOp op t x, ty, pos, after, guard⟩ ρ h) (Spec P E.gl ⟨dst, .unOp op t x, ty, pos, after, guard⟩ ρ h) := by
  have hT := hE.types
  unfold step
  dsimp only
  exact OneW.ofOne (unV_ok op (ρ x)) fun v hv => specV (fun ev => Op.unary op (ev x)) (fun ev => rfl) fun M σ w A hr hx => (hv P w (Un M σ) σ _ (hx x (by simp [Op.operands]))).toW hr

theorem st_convert (hE : EnvOk P E) (dr : Bool) (dst : Option Tmp) (ty : TypeId) (pos : String) (after : Array Edge) (guard : Option (Nat × Bool)) (ρ : Operand → V) (h : Heap) (src d : TypeId) (x : Operand) :
    OneW (Ω := Ω) (step E dr ⟨dst, .convert src d x, ty, pos, after, guard⟩ ρ h) (Spec P E.gl ⟨dst, .convert src d x, ty, pos, after, guard⟩ ρ h) := by
  have hT := hE.types
  unfold step
  dsimp only
  exact OneW.ofOne (convertV_ok (P := P) hT h src d (ρ x)) fun v hv => specV (fun ev => convert src d (ev x)) (fun ev => rfl) fun M σ w A hr hx => hv w M σ _ hr (hx x (by simp [Op.operands]))

theorem st_slice (hE : EnvOk P E) (dr : Bool) (dst : Option Tmp) (ty : TypeId) (pos : String) (after : Array Edge) (guard : Option (Nat × Bool)) (ρ : Operand → V) (h : Heap) (t : TypeId) (x : Operand) (lo hi mx : Option Operand) :
    OneW (Ω := Ω) (step E dr ⟨dst, .slice t x lo hi mx, ty, pos, after, guard⟩ ρ h) (Spec P E.gl ⟨dst, .slice t x lo hi mx, ty, pos, after, guard⟩ ρ h) := by
  have hT := hE.types
  unfold step
  dsimp only
  cases hd : E.T.get t with
  | none => exact OneW.no
  | some d =>
    dsimp only
    refine OneW.ofOne (sliceV_ok (P := P) hT (hT _ _ hd) h (ρ x) (lo.map ρ) (hi.map ρ) (mx.map ρ)) fun v hv => specV (fun ev => Instr.sliceAt t (ev x) (lo.map ev) (hi.map ev) (mx.map ev)) (fun ev => rfl) fun M σ w A hr hx => ?_
    exact (hv w M σ _ _ _ _ hr (hx x (by simp [Op.operands])) (orep_ops fun y hy => hx y (by simp [Op.operands] at hy ⊢; simp [hy])) (orep_ops fun y hy => hx y (by simp [Op.operands] at hy ⊢; simp [hy])) (orep_ops fun y hy => hx y (by simp [Op.operands] at hy ⊢; simp [hy]))).toW hr

theorem st_fieldAddr (hE : EnvOk P E) (dr : Bool) (dst : Option Tmp) (ty : TypeId) (pos : String) (after : Array Edge) (guard : Option (Nat × Bool)) (ρ : Operand → V) (h : Heap) (s : TypeId) (x : Operand) (f : Nat) :
    OneW (Ω := Ω) (step E dr ⟨dst, .fieldAddr s x f, ty, pos, after, guard⟩ ρ h) (Spec P E.gl ⟨dst, .fieldAddr s x f, ty, pos, after, guard⟩ ρ h) := by
  have hT := hE.types
  unfold step
  dsimp only
  cases hd : E.T.get s with
  | none => exact OneW.no
  | some d =>
    dsimp only
    refine OneW.ite (fun hs => OneW.lift fun v hv => ?_) fun _ => OneW.no
    exact specV (fun ev => Instr.fieldAt s (ev x) f) (fun ev => rfl) fun M σ w A hr hx => (fieldAddrV_ok hT (hT _ _ hd) hv hr (hx x (by simp [Op.operands])) (fun _ _ => trivial) hs).toW hr

theorem st_field (hE : EnvOk P E) (dr : Bool) (dst : Option Tmp) (ty : TypeId) (pos : String) (after : Array Edge) (guard : Option (Nat × Bool)) (ρ : Operand → V) (h : Heap) (s : TypeId) (x : Operand) (f : Nat) :
    OneW (Ω := Ω) (step E dr ⟨dst, .field s x f, ty, pos, after, guard⟩ ρ h) (Spec P E.gl ⟨dst, .field s x f, ty, pos, after, guard⟩ ρ h) := by
  have hT := hE.types
  unfold step
  dsimp only
  cases hd : E.T.get s with
  | none => exact OneW.no
  | some d => exact OneW.lift fun v hv => specV (fun ev => Instr.field s (ev x) f) (fun ev => rfl) fun M σ w A hr hx => (fieldV_ok hT (hT _ _ hd) hv (hx x (by simp [Op.operands]))).toW hr

theorem st_indexAddr (hE : EnvOk P E) (dr : Bool) (dst : Option Tmp) (ty : TypeId) (pos : String) (after : Array Edge) (guard : Option (Nat × Bool)) (ρ : Operand → V) (h : Heap) (t : TypeId) (x i : Operand) :
    OneW (Ω := Ω) (step E dr ⟨dst, .indexAddr t x i, ty, pos, after, guard⟩ ρ h) (Spec P E.gl ⟨dst, .indexAddr t x i, ty, pos, after, guard⟩ ρ h) := by
  have hT := hE.types
  unfold step
  dsimp only
  cases hd : E.T.get t with
  | none => exact OneW.no
  | some d =>
    cases hi : ρ i with
    | int k n =>
      dsimp only
      refine OneW.ofOne (indexAddrV_ok (P := P) hT (hT _ _ hd) h (ρ x) k n) fun v hv => specV (fun ev => Instr.indexAt t (ev x) (ev i)) (fun ev => rfl) fun M σ w A hr hx => ?_
      have g := hx i (by simp [Op.operands])
      rw [hi] at g
      generalize A.eval i = iv at g
      cases g
      exact (hv w M σ _ hr (hx x (by simp [Op.operands]))).toW hr
    | _ => exact OneW.no

theorem st_index (hE : EnvOk P E) (dr : Bool) (dst : Option Tmp) (ty : TypeId) (pos : String) (after : Array Edge) (guard : Option (Nat × Bool)) (ρ : Operand → V) (h : Heap) (t : TypeId) (x i : Operand) :
    OneW (Ω := Ω) (step E dr ⟨dst, .index t x i, ty, pos, after, guard⟩ ρ h) (Spec P E.gl ⟨dst, .index t x i, ty, pos, after, guard⟩ ρ h) := by
  have hT := hE.types
  unfold step
  dsimp only
  cases hd : E.T.get t with
  | none => exact OneW.no
  | some d =>
    cases hi : ρ i with
    | int k n =>
      dsimp only
      refine OneW.ofOne (indexV_ok (P := P) hT (hT _ _ hd) (ρ x) k n) fun v hv => specV (fun ev => Instr.index t (ev x) (ev i)) (fun ev => rfl) fun M σ w A hr hx => ?_
      have g := hx i (by simp [Op.operands])
      rw [hi] at g
      generalize A.eval i = iv at g
      cases g
      exact (hv w (Un M σ) σ _ (hx x (by simp [Op.operands]))).toW hr
    | _ => exact OneW.no

theorem st_makeSlice (hE : EnvOk P E) (dr : Bool) (dst : Option Tmp) (ty : TypeId) (pos : String) (after : Array Edge) (guard : Option (Nat × Bool)) (ρ : Operand → V) (h : Heap) (t : TypeId) (l c : Operand) :
    OneW (Ω := Ω) (step E dr ⟨dst, .makeSlice t l c, ty, pos, after, guard⟩ ρ h) (Spec P E.gl ⟨dst, .makeSlice t l c, ty, pos, after, guard⟩ ρ h) := by
  have hT := hE.types
  unfold step
  dsimp only
  cases hd : E.T.get t with
  | none => exact OneW.no
  | some d =>
    cases hl : ρ l with
    | int k n =>
      cases k with
      | i64 =>
        cases hc : ρ c with
        | int k' m =>
          cases k' with
          | i64 =>
            dsimp only
            refine OneW.mono (fun K r hk => makeSliceV_ok (P := P) hT (hT _ _ hd) hk) fun v h' hv => specV (fun ev => Instr.makeSlice t (ev l) (ev c)) (fun ev => rfl) fun M σ w A hr hx => ?_
            have g1 := hx l (by simp [Op.operands])
            have g2 := hx c (by simp [Op.operands])
            rw [hl] at g1; rw [hc] at g2
            generalize A.eval l = lv at g1
            generalize A.eval c = cv at g2
            cases g1; cases g2
            exact hv w M σ hr
          | _ => exact OneW.no
        | _ => exact OneW.no
      | _ => exact OneW.no
    | _ => exact OneW.no

theorem st_extract (hE : EnvOk P E) (dr : Bool) (dst : Option Tmp) (ty : TypeId) (pos : String) (after : Array Edge) (guard : Option (Nat × Bool)) (ρ : Operand → V) (h : Heap) (x : Operand) (i : Nat) :
    OneW (Ω := Ω) (step E dr ⟨dst, .extract x i, ty, pos, after, guard⟩ ρ h) (Spec P E.gl ⟨dst, .extract x i, ty, pos, after, guard⟩ ρ h) := by
  have hT := hE.types
  unfold step
  dsimp only
  cases hx0 : ρ x with
  | tup vs =>
    dsimp only
    refine OneW.lift fun v hv => specV (fun ev => Instr.extract (ev x) i) (fun ev => rfl) fun M σ w A hr hx => ?_
    have g := hx x (by simp [Op.operands])
    rw [hx0] at g
    generalize A.eval x = xv at g
    cases g with
    | tup us _ hl hr' =>
      have hlt : i < us.size := by rw [hl]; exact (List.getElem?_eq_some_iff.1 hv).1
      exact ⟨us[i], w, σ, by simp [Instr.extract, hlt], hr, hr' i _ v (by simp [hlt]) hv, .refl w σ⟩
  | _ => exact OneW.no

theorem st_makeFunc (hE : EnvOk P E) (dr : Bool) (dst : Option Tmp) (ty : TypeId) (pos : String) (after : Array Edge) (guard : Option (Nat × Bool)) (ρ : Operand → V) (h : Heap) (fn : Fn) (first caps : Array Operand) :
    OneW (Ω := Ω) (step E dr ⟨dst, .makeFunc fn first caps, ty, pos, after, guard⟩ ρ h) (Spec P E.gl ⟨dst, .makeFunc fn first caps, ty, pos, after, guard⟩ ρ h) := by
  have hT := hE.types
  unfold step
  cases fn with
  | func f =>
    dsimp only
    cases hf : first.toList with
    | cons _ _ => exact OneW.no
    | nil =>
      dsimp only
      refine OneW.here (specV (fun ev => Instr.makeFunc (.func f) (first.map ev) (caps.map ev)) (fun ev => rfl) fun M σ w A hr hx => ?_)
      have hfe : first = #[] := by apply Array.ext'; exact hf
      subst hfe
      refine ⟨.func (.func f) #[] (caps.map A.eval), w, σ, by simp [Instr.makeFunc], hr, ?_, .refl w σ⟩
      have hreps := reps_ops (ρ := ρ) (a := A) (xs := caps.toList) fun y hy => hx y (by simpa [Op.operands] using hy)
      exact .fn f (caps.map A.eval) (caps.toList.map ρ) (by simp) fun j v V hv hV => hreps.2 j v V (by rw [← Array.getElem?_toList] at hv; simpa using hv) hV
  | _ => exact OneW.no

theorem st_binOp (hE : EnvOk P E) (dr : Bool) (dst : Option Tmp) (ty : TypeId) (pos : String) (after : Array Edge) (guard : Option (Nat × Bool)) (ρ : Operand → V) (h : Heap) (op : BinOp) (t : TypeId) (x y : Operand) (yt : TypeId) :
    OneW (Ω := Ω) (step E dr ⟨dst, .binOp op t x y yt, ty, pos, after, guard⟩ ρ h) (Spec P E.gl ⟨dst, .binOp op t x y yt, ty, pos, after, guard⟩ ρ h) := by
  have hT := hE.types
  unfold step
  dsimp only
  exact OneW.ofOne (binV_ok (P := P) hT op t (ρ x) (ρ y) x y h) fun v hv => specV (fun ev => do eqGuard op t x y (ev x) (ev y); binOp op t (ev x) (ev y)) (fun ev => rfl) fun M σ w A hr hx => (hv w M σ _ _ hr (hx x (by simp [Op.operands])) (hx y (by simp [Op.operands]))).toW hr

/-! ### Calls -/

theorem idsOfL_append (a b : List V) : idsOfL (a ++ b) = idsOfL a ++ idsOfL b := by
  induction a with
  | nil => simp [idsOfL]
  | cons x r ih => simp [idsOfL, ih]

theorem idsOfL_get {cs : List V} (h : idsOfL cs = []) {j : Nat} {x : V} (hx : cs[j]? = some x) : idsOf x = [] := by
  induction cs generalizing j with
  | nil => simp at hx
  | cons c r ih =>
    simp only [idsOfL, List.append_eq_nil_iff] at h
    cases j with
    | zero => simp at hx; subst hx; exact h.1
    | succ j => exact ih h.2 (by simpa using hx)

/-- what leads to no block of ours is known to others too -/
theorem Rep.noIds {w w' : World} {U U' : Nat → Prop} {σ : Sig} (hk : Keeps w w' U U') {v : Value} {x : V} (h : Rep w U σ v x) (hi : idsOf x = []) : Rep w' U' [] v x := by
  induction h with
  | int k n => exact .int k n
  | bool b => exact .bool b
  | str s => exact .str s
  | sl t capd s A n c h hc => exact .sl t capd s A n c (SlRep.mono hk (fun x ce hx => RepT.mono hk hx) h) hc
  | own id p v hp h => simp [idsOf] at hi
  | win id off len p v hp h => simp [idsOf] at hi
  | ptr id off p v hp h => simp [idsOf] at hi
  | eptr id i off p v hp h => simp [idsOf] at hi
  | fp a cs f hc h ih =>
    simp only [idsOf] at hi
    refine .fp a cs f (fun j V hV => ?_) fun j V hV => ih j V hV (idsOfL_get hi hV)
    obtain ⟨h1, h2⟩ := hc j V hV
    have hb := World.block_lt_of_cell? w _ h1
    rw [Addr.block_add] at hb
    exact ⟨hk.cell _ _ h1 (by rw [Addr.block_add]; exact h2), hk.un _ hb h2⟩
  | fn f vs cs hl h ih => simp only [idsOf] at hi; exact .fn f vs cs hl fun j v V hv hV => ih j v V hv hV (idsOfL_get hi hV)
  | lit v => exact .lit v
  | undef v => exact .undef v
  | agg vs cs hl h ih => simp only [idsOf] at hi; exact .agg vs cs hl fun j v V hv hV => ih j v V hv hV (idsOfL_get hi hV)
  | tup vs cs hl h ih => simp only [idsOf] at hi; exact .tup vs cs hl fun j v V hv hV => ih j v V hv hV (idsOfL_get hi hV)

theorem flatL_get {cs : List V} (h : flatL cs = true) {j : Nat} {x : V} (hx : cs[j]? = some x) : flatV x = true := by
  induction cs generalizing j with
  | nil => simp at hx
  | cons c r ih =>
    simp only [flatL, Bool.and_eq_true] at h
    cases j with
    | zero => simp at hx; subst hx; exact h.1
    | succ j => exact ih h.2 (by simpa using hx)

theorem Rep.flat {w w' : World} {U U' : Nat → Prop} {σ σ' : Sig} {v : Value} {x : V} (h : Rep w U σ v x) (hf : flatV x = true) : Rep w' U' σ' v x := by
  induction h with
  | int k n => exact .int k n
  | bool b => exact .bool b
  | str s => exact .str s
  | agg vs cs hl h ih => simp only [flatV] at hf; exact .agg vs cs hl fun j v V hv hV => ih j v V hv hV (flatL_get hf hV)
  | tup vs cs hl h ih => simp only [flatV] at hf; exact .tup vs cs hl fun j v V hv hV => ih j v V hv hV (flatL_get hf hV)
  | _ => simp [flatV] at hf

theorem Un.keeps {w : World} {M : Nat → Prop} {σ : Sig} : Keeps w w (Un M σ) M := ⟨fun _ _ h _ => h, fun _ _ h hm => h (.inl hm)⟩

theorem shown_ok {w : World} {M : Nat → Prop} {σ : Sig} {h : Heap} (hr : HR w M σ h) {x : V} {v : Value} (hv : Rep w (Un M σ) σ v x) (hi : idsOf (shown h x) = []) : Rep w M [] v (shown h x) := by
  have hfree : ∀ id b n c z, σ[id]? = some (Pl.at b n c z) → ¬ M b := fun id b n c z hp hm => hr.out b ⟨id, n, c, z, hp⟩ hm
  cases x with
  | own id => exact own_shown hr Un.keeps hv (hfree id) []
  | win id o l => exact win_shown hr Un.keeps hv (hfree id) []
  | _ => exact hv.noIds Un.keeps hi

theorem shownD_ok {w : World} {M : Nat → Prop} {σ : Sig} {h : Heap} (hr : HR w M σ h) {x : V} {v : Value} (hv : Rep w (Un M σ) σ v x) (hi : idsOf (shownD h x) = []) : Rep w M [] v (shownD h x) := by
  cases x with
  | agg cs =>
    obtain ⟨vs, rfl, hR⟩ := hv.agg_reps
    simp only [shownD, idsOf] at hi ⊢
    refine .agg _ _ (by simpa using hR.1) fun j u V hu hV => ?_
    rw [List.getElem?_map] at hV
    obtain ⟨y, hy, rfl⟩ := Option.map_eq_some_iff.1 hV
    exact shown_ok hr (hR.2 j u y (by simpa using hu) hy) (idsOfL_get hi (j := j) (by rw [List.getElem?_map, hy]; rfl))
  | _ => exact shown_ok hr hv hi

theorem Step.widen {w w' : World} {M : Nat → Prop} {σ : Sig} {h : Heap} (hr : HR w M σ h) (hs : Step w w' [] []) : Step w w' σ σ ∧ HR w' M σ h := by
  have hall : ∀ b, b < w.heap.size → w'.heap[b]? = w.heap[b]? := fun b hb => hs.keep b hb fun ⟨_, _, _, _, h⟩ => by simp at h
  have h1 : Step w w' σ σ := ⟨hs.os, hs.tape, hs.output, hs.size, fun b hb _ => hall b hb, .refl _, fun _ h => .inl h⟩
  exact ⟨h1, hr.mono h1 fun b hb => hall b (hr.lim b (.inr hb))⟩

theorem upon_call {o : Oper} {a : Act} {w : World} {next : Act → World → Prop} {Q : Exit → Act → World → Prop} {n : FuncId} {vs : Array Value} (hop : (execOp a.eval o).run P w = .ok (.enter n vs) w)
    {R : Value → World → Prop} (hc : Calls P n vs w fun e w' => ∃ v', e = .returned v' ∧ R v' w') (hn : ∀ v' w', R v' w' → next (a.put o.dst v') w') : o.wp P a w next Q := by
  unfold Oper.wp
  rw [hop, Oper.upon_enter]
  refine hc.mono fun e w' he => ?_
  obtain ⟨v', rfl, hR⟩ := he
  exact hn v' w' hR

theorem shownD_spend {w : World} {M : Nat → Prop} {σ : Sig} {h : Heap} (hr : HR w M σ h) {xs : List V} {y : V} {v : Value} (hv : Rep w (Un M σ) σ v y) (hx : ∀ z ∈ y.cells, z ∈ xs) :
    Rep w (Un M (spendAllS σ xs)) (spendAllS σ xs) v (shownD h y) := by
  obtain ⟨hr1, hst1⟩ := spendAllS_ok xs hr
  cases y with
  | agg cs =>
    obtain ⟨vs, rfl, hvs⟩ := hv.agg_reps
    have := spend_repsOf (xs := xs) hr (ys := cs) (fun z hz => hx z (by simpa [V.cells] using hz)) hvs
    exact .agg _ _ (by simpa using this.1) fun j u x hu hx => this.2 j u x (by simpa using hu) hx
  | own id => exact (spend_repsOf (xs := xs) hr (ys := [.own id]) (fun z hz => hx z (by simpa [V.cells] using hz)) (Reps.one hv)).head
  | win id o l => exact (spend_repsOf (xs := xs) hr (ys := [.win id o l]) (fun z hz => hx z (by simpa [V.cells] using hz)) (Reps.one hv)).head
  | _ => exact hst1.rep hv

theorem st_callV (hE : EnvOk P E) (dr : Bool) (dst : Option Tmp) (ty : TypeId) (pos : String) (after : Array Edge) (guard : Option (Nat × Bool)) (ρ : Operand → V) (h : Heap) (f : Operand) (args : Array Operand) (ats : Array TypeId) :
    OneW (Ω := Ω) (step E dr ⟨dst, .call ⟨.value f, args, ats⟩, ty, pos, after, guard⟩ ρ h) (Spec P E.gl ⟨dst, .call ⟨.value f, args, ats⟩, ty, pos, after, guard⟩ ρ h) := by
  unfold step
  dsimp only
  unfold callV
  cases hf : ρ f with
  | fn n caps =>
    dsimp only
    -- the call, as the model makes it
    have go : ∀ {w : World} {M : Nat → Prop} {σ : Sig} {a : Act}, (∀ x ∈ (Op.call ⟨.value f, args, ats⟩).operands, Rep w (Un M σ) σ (a.eval x) (ρ x)) →
        ∃ vs : List Value, Reps w (Un M σ) σ vs (args.toList.map ρ ++ caps) ∧ execOp a.eval ⟨dst, .call ⟨.value f, args, ats⟩, ty, pos, after, guard⟩ = callFunc n vs.toArray := by
      intro w M σ a hx
      have g := hx f (by simp [Op.operands, Call.operands])
      rw [hf] at g
      have hargs := reps_ops (ρ := ρ) (a := a) (xs := args.toList) fun y hy => hx y (by simp [Op.operands, Call.operands]; exact .inr (by simpa using hy))
      generalize hfe : a.eval f = fv at g
      cases g with
      | fn _ us _ hl hr =>
        refine ⟨args.toList.map a.eval ++ us.toList, hargs.append ⟨by simpa using hl, fun j v x hv hx => hr j v x (by simpa using hv) hx⟩, ?_⟩
        have : (args.map a.eval ++ us) = (args.toList.map a.eval ++ us.toList).toArray := by apply Array.ext'; simp
        simp only [execOp, resolve, hfe, Deferred.ofValue, invoke, Array.empty_append, pure_bind]
        rw [this]
    have enter : ∀ {w : World} {M : Nat → Prop} {σ : Sig} {a : Act}, CallOk P n → (∀ x ∈ (Op.call ⟨.value f, args, ats⟩).operands, Rep w (Un M σ) σ (a.eval x) (ρ x)) →
        ∃ vs : List Value, Reps w (Un M σ) σ vs (args.toList.map ρ ++ caps) ∧ (execOp a.eval ⟨dst, .call ⟨.value f, args, ats⟩, ty, pos, after, guard⟩).run P w = .ok (.enter n vs.toArray) w := by
      intro w M σ a hc hx
      obtain ⟨vs, h1, h2⟩ := go hx
      exact ⟨vs, h1, by rw [h2, hc]⟩
    cases hp : E.pf.lookup n with
    | none =>
      dsimp only
      refine OneW.mono (hE.tab n _ h hp) fun v h' hcon M σ w a next Q hr hg hx hn => ?_
      obtain ⟨vs, h1, h2⟩ := go hx
      rcases hcon M σ w vs hr hg h1 with ⟨e1, e2⟩ | ⟨v', w', e1, σ', q1, q2, q3⟩
      · exact upon_call (by rw [h2, e1]) (R := fun v' w' => ∃ σ', HR w' M σ' h' ∧ Rep w' (Un M σ') σ' v' v ∧ Step w w' σ σ') e2 fun v' w' ⟨σ', q1, q2, q3⟩ => hn v' w' σ' q1 q2 q3
      · unfold Oper.wp
        rw [h2, e1]
        exact hn v' w' σ' q1 q2 q3
    | some flat =>
      cases flat with
      | true =>
        dsimp only
        refine OneW.ite (fun hi => ?_) fun _ => OneW.no
        have hi : idsOfL ((args.toList.map ρ ++ caps).map (shownD h)) = [] := by simpa using hi
        intro K r hk
        obtain ⟨v, g1, g2, hc, hcon⟩ := hE.pt n true _ hp _ r hk
        cases hfl : flatV v with
        | false => rw [hfl] at g1; cases g1
        | true =>
          rw [hfl] at g1
          refine ⟨v, h, g1, fun K' => by show E.pt n _ _ = _; rw [g2]; simp [hfl], fun M σ w a next Q hr hg hx hn => ?_⟩
          obtain ⟨vs, h1, h2⟩ := enter hc hx
          have hR : Reps w M [] vs ((args.toList.map ρ ++ caps).map (shownD h)) := by
            refine ⟨by simpa using h1.1, fun j u x hu hx' => ?_⟩
            have hid := idsOfL_get hi hx'
            rw [List.getElem?_map] at hx'
            obtain ⟨y, hy, rfl⟩ := Option.map_eq_some_iff.1 hx'
            exact shownD_ok hr (h1.2 j u y hu hy) hid
          refine upon_call h2 (R := fun v' w' => Rep w' M [] v' v ∧ Step w w' [] []) ((hcon M w vs (fun b hb => hr.lim b (.inl hb)) (hg.mono Un.keeps) hR).mono fun e w' ⟨v', e1, e2⟩ => ⟨v', e1, e2⟩) fun v' w' ⟨q1, q2⟩ => ?_
          obtain ⟨s1, s2⟩ := Step.widen hr q2
          exact hn v' w' σ s2 (q1.flat hfl) s1
      | false =>
        dsimp only
        refine OneW.ite (fun hi => ?_) fun _ => OneW.ite (fun hi => ?_) fun _ => OneW.no
        · have hi : idsOfL (args.toList.map ρ ++ caps) = [] := by simpa using hi
          refine OneW.ofOne (hE.pt n false _ hp) fun v ⟨hc, hcon⟩ M σ w a next Q hr hg hx hn => ?_
          obtain ⟨vs, h1, h2⟩ := enter hc hx
          have hR : Reps w (Un M σ) [] vs (args.toList.map ρ ++ caps) := ⟨h1.1, fun j u x hu hx' => (h1.2 j u x hu hx').noIds ⟨fun _ _ h _ => h, fun _ _ h => h⟩ (idsOfL_get hi hx')⟩
          refine upon_call h2 (R := fun v' w' => Rep w' (Un M σ) [] v' v ∧ Step w w' [] []) ((hcon (Un M σ) w vs hr.lim hg hR).mono fun e w' ⟨v', e1, e2⟩ => ⟨v', e1, e2⟩) fun v' w' ⟨q1, q2⟩ => ?_
          obtain ⟨s1, s2⟩ := Step.widen hr q2
          exact hn v' w' σ s2 (q1.mono ⟨fun _ _ h _ => h, fun _ _ h => h⟩ (.nil σ)) s1
        · simp only [Bool.and_eq_true, Bool.not_eq_true', List.isEmpty_iff] at hi
          have hi := hi.1
          refine OneW.ofOne (hE.pt n false _ hp) fun v ⟨hc, hcon⟩ M σ w a next Q hr hg hx hn => ?_
          obtain ⟨vs, h1, h2⟩ := enter hc hx
          obtain ⟨hr1, hst1⟩ := spendAllS_ok ((args.toList.map ρ ++ caps).flatMap V.cells) hr
          have hR : Reps w (Un M (spendAllS σ ((args.toList.map ρ ++ caps).flatMap V.cells))) [] vs ((args.toList.map ρ ++ caps).map (shownD h)) := by
            refine ⟨by simpa using h1.1, fun j u x hu hx' => ?_⟩
            have hid := idsOfL_get hi hx'
            rw [List.getElem?_map] at hx'
            obtain ⟨y, hy, rfl⟩ := Option.map_eq_some_iff.1 hx'
            exact (shownD_spend hr (h1.2 j u y hu hy) fun z hz => List.mem_flatMap.2 ⟨y, List.mem_of_getElem? hy, hz⟩).noIds ⟨fun _ _ h _ => h, fun _ _ h => h⟩ hid
          refine upon_call h2 (R := fun v' w' => Rep w' (Un M (spendAllS σ ((args.toList.map ρ ++ caps).flatMap V.cells))) [] v' v ∧ Step w w' [] []) ((hcon _ w vs hr1.lim (hg.mono (hst1.keeps M)) hR).mono fun e w' ⟨v', e1, e2⟩ => ⟨v', e1, e2⟩) fun v' w' ⟨q1, q2⟩ => ?_
          obtain ⟨s1, s2⟩ := Step.widen hr1 q2
          exact hn v' w' _ s2 (q1.mono ⟨fun _ _ h _ => h, fun _ _ h => h⟩ (.nil _)) (hst1.trans s1)
  | _ => exact OneW.no

theorem two_toList {α : Type} {a : Array α} {x y : α} (h : a.toList = [x, y]) : a = #[x, y] := by apply Array.ext'; exact h
theorem one_toList {α : Type} {a : Array α} {x : α} (h : a.toList = [x]) : a = #[x] := by apply Array.ext'; exact h

theorem st_builtin (hE : EnvOk P E) (dr : Bool) (dst : Option Tmp) (ty : TypeId) (pos : String) (after : Array Edge) (guard : Option (Nat × Bool)) (ρ : Operand → V) (h : Heap) (b : Builtin) (args : Array Operand) (ats : Array TypeId) :
    OneW (Ω := Ω) (step E dr ⟨dst, .call ⟨.builtin b, args, ats⟩, ty, pos, after, guard⟩ ρ h) (Spec P E.gl ⟨dst, .call ⟨.builtin b, args, ats⟩, ty, pos, after, guard⟩ ρ h) := by
  have hT := hE.types
  unfold step
  dsimp only
  cases b with
  | append =>
    dsimp only
    split
    · rename_i t tx s x e1 e2
      have e1 := two_toList e1
      have e2 := two_toList e2
      subst e1; subst e2
      cases hd : E.T.get t with
      | none => exact OneW.no
      | some d =>
        cases hdx : E.T.get tx with
        | none => exact OneW.no
        | some dx =>
          dsimp only
          refine OneW.mono (appendV_ok (P := P) hT (hT _ _ hd) (hT _ _ hdx) h (ρ s) (ρ x) ty) fun v h' hv => specV (fun ev => Builtin.append_ #[t, tx] ty #[ev s, ev x]) (fun ev => by simp [execOp, resolve, invoke, builtin]) fun M σ w A hr hx => ?_
          exact hv w M σ _ _ hr (hx s (by simp [Op.operands, Call.operands])) (hx x (by simp [Op.operands, Call.operands]))
    · exact OneW.no
  | copy =>
    dsimp only
    split
    · rename_i t tx s x e1 e2
      have e1 := two_toList e1
      have e2 := two_toList e2
      subst e1; subst e2
      cases hd : E.T.get t with
      | none => exact OneW.no
      | some d =>
        dsimp only
        refine OneW.mono (copyV_ok (P := P) hT (hT _ _ hd) h (ρ s) (ρ x) ty [tx]) fun v h' hv => specV (fun ev => Builtin.copy_ [t, tx].toArray ty #[ev s, ev x]) (fun ev => by simp [execOp, resolve, invoke, builtin]) fun M σ w A hr hx => ?_
        exact hv w M σ _ _ hr (hx s (by simp [Op.operands, Call.operands])) (hx x (by simp [Op.operands, Call.operands]))
    · exact OneW.no
  | len =>
    dsimp only
    split
    · rename_i t x e1 e2
      have e1 := one_toList e1
      have e2 := one_toList e2
      subst e1; subst e2
      cases hd : E.T.get t with
      | none => exact OneW.no
      | some d =>
        dsimp only
        cases hl : lenV h d.sh (ρ x) with
        | none => exact OneW.no
        | some n =>
          refine OneW.here (specV (fun ev => Builtin.len_ #[t] ty #[ev x]) (fun ev => by simp [execOp, resolve, invoke, builtin]) fun M σ w A hr hx => ?_)
          exact ⟨_, w, σ, lenV_ok hr (hT _ _ hd) hl (hx x (by simp [Op.operands, Call.operands])) ty, hr, .int _ _, .refl w σ⟩
    · exact OneW.no
  | min =>
    dsimp only
    refine OneW.lift fun v hv => specV (fun ev => Builtin.min_ ats ty (args.map ev)) (fun ev => by simp [execOp, resolve, invoke, builtin]) fun M σ w A hr hx => ?_
    have hreps := reps_ops (ρ := ρ) (a := A) (xs := args.toList) fun y hy => hx y (by simpa [Op.operands, Call.operands] using hy)
    have := ((minV_ok (P := P) hv hreps ats ty).1 rfl).toW hr
    have e : (args.toList.map A.eval).toArray = args.map A.eval := by apply Array.ext'; simp
    rwa [e] at this
  | max =>
    dsimp only
    refine OneW.lift fun v hv => specV (fun ev => Builtin.max_ ats ty (args.map ev)) (fun ev => by simp [execOp, resolve, invoke, builtin]) fun M σ w A hr hx => ?_
    have hreps := reps_ops (ρ := ρ) (a := A) (xs := args.toList) fun y hy => hx y (by simpa [Op.operands, Call.operands] using hy)
    have := ((minV_ok (P := P) hv hreps ats ty).2 rfl).toW hr
    have e : (args.toList.map A.eval).toArray = args.map A.eval := by apply Array.ext'; simp
    rwa [e] at this
  | unsafeSliceData =>
    dsimp only
    split
    · rename_i x e2
      have e2 := one_toList e2
      subst e2
      refine OneW.ofOne (dataV_ok (P := P) (ρ x) h) fun v hv => specV (fun ev => Builtin.unsafeSliceData_ ats ty #[ev x]) (fun ev => by simp [execOp, resolve, invoke, builtin]) fun M σ w A hr hx => ?_
      exact (hv w M σ _ ats ty hr (hx x (by simp [Op.operands, Call.operands]))).toW hr
    · exact OneW.no
  | unsafeString =>
    dsimp only
    split
    · rename_i pt it p n e1 e2
      have e1 := two_toList e1
      have e2 := two_toList e2
      subst e1; subst e2
      refine OneW.mono (textV_ok (P := P) hT h pt it ty (ρ p) (ρ n)) fun v h' hv => specV (fun ev => Builtin.unsafeString_ #[pt, it] ty #[ev p, ev n]) (fun ev => by simp [execOp, resolve, invoke, builtin]) fun M σ w A hr hx => ?_
      exact hv w M σ _ _ hr (hx p (by simp [Op.operands, Call.operands])) (hx n (by simp [Op.operands, Call.operands]))
    · exact OneW.no
  | _ => exact OneW.no

theorem step_ok (hE : EnvOk P E) (dr : Bool) (o : Oper) (ρ : Operand → V) (h : Heap) : OneW (Ω := Ω) (step E dr o ρ h) (Spec P E.gl o ρ h) := by
  have hT := hE.types
  obtain ⟨dst, op, ty, pos, after, guard⟩ := o
  cases op with
  | move x => exact move_ok dst x _ (.inl rfl) dr ty pos after guard ρ h
  | assign x => exact move_ok dst x _ (.inr rfl) dr ty pos after guard ρ h
  | pick c a b => exact st_pick hE dr dst ty pos after guard ρ h c a b
  | alloc e => exact st_alloc hE dr dst ty pos after guard ρ h e
  | box e x => exact st_box hE dr dst ty pos after guard ρ h e x
  | build t parts => exact st_build hE dr dst ty pos after guard ρ h t parts
  | buildSlice t len parts => exact st_buildSlice hE dr dst ty pos after guard ρ h t len parts
  | load t x => exact st_load hE dr dst ty pos after guard ρ h t x
  | store t p x => exact st_store hE dr dst ty pos after guard ρ h t p x
  | nilCheck x => exact st_nilCheck hE dr dst ty pos after guard ρ h x
  | unOp op t x => exact st_unOp hE dr dst ty pos after guard ρ h op t x
  | convert src d x => exact st_convert hE dr dst ty pos after guard ρ h src d x
  | slice t x lo hi mx => exact st_slice hE dr dst ty pos after guard ρ h t x lo hi mx
  | fieldAddr s x f => exact st_fieldAddr hE dr dst ty pos after guard ρ h s x f
  | field s x f => exact st_field hE dr dst ty pos after guard ρ h s x f
  | indexAddr t x i => exact st_indexAddr hE dr dst ty pos after guard ρ h t x i
  | index t x i => exact st_index hE dr dst ty pos after guard ρ h t x i
  | makeSlice t l c => exact st_makeSlice hE dr dst ty pos after guard ρ h t l c
  | extract x i => exact st_extract hE dr dst ty pos after guard ρ h x i
  | makeFunc fn first caps => exact st_makeFunc hE dr dst ty pos after guard ρ h fn first caps
  | binOp op t x y yt => exact st_binOp hE dr dst ty pos after guard ρ h op t x y yt
  | call c =>
    obtain ⟨cal, args, ats⟩ := c
    cases cal with
    | value f => exact st_callV hE dr dst ty pos after guard ρ h f args ats
    | invoke r n => exact OneW.no
    | builtin b => exact st_builtin hE dr dst ty pos after guard ρ h b args ats
  | _ => exact OneW.no
end
end Go.Proofs.YtnebpmcmdmpoaaaDoor.R
