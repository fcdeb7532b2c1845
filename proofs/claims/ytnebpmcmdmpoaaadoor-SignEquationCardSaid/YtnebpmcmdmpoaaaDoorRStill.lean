/- Which operations do not ask for the memory of ours, which only look at it, and which only add to it. -/
import Derived.Test.YtnebpmcmdmpoaaaDoorRStep
namespace Go.Proofs.YtnebpmcmdmpoaaaDoor.R
open Go
set_option linter.unusedVariables false
set_option linter.unusedSimpArgs false

section
variable {Ω : Type} {E : Env Ω}

theorem ite_app {α β : Type} (c : Prop) [Decidable c] (f g : α → β) (x : α) : (if c then f else g) x = if c then f x else g x := by split <;> rfl

/-- it asks nothing of the memory -/
theorem pure_any (dr : Bool) (o : Oper) (ρ : Operand → V) (hp : pureOp o.op = true) (h h2 : Heap) (K : V → Heap → Option Ω) : step E dr o ρ h2 K = step E dr o ρ h fun v _ => K v h2 := by
  obtain ⟨dst, op, ty, pos, after, guard⟩ := o
  cases op with
  | move x => simp only [pureOp, Bool.not_eq_true'] at hp; simp only [step, hp, Bool.false_eq_true, if_false]
  | assign x => simp only [pureOp, Bool.not_eq_true'] at hp; simp only [step, hp, Bool.false_eq_true, if_false]
  | pick c a b => rfl
  | unOp op t x => rfl
  | field s x f =>
    simp only [step]
    cases E.T.get s with
    | none => rfl
    | some d => dsimp only; cases fieldV E.T d (ρ x) f <;> rfl
  | index t x i => rfl
  | extract x i =>
    simp only [step]
    cases ρ x with
    | tup vs => dsimp only; cases vs[i]? <;> rfl
    | _ => rfl
  | makeFunc fn first caps => cases fn <;> rfl
  | binOp op t x y yt =>
    simp only [pureOp] at hp
    simp only [step]
    generalize ρ x = a
    generalize ρ y = b
    cases op <;> first | (cases hp; done) | (cases a <;> first | rfl | (cases b <;> rfl))
  | _ => cases hp

/-- it hands the memory on as it is -/
theorem still_heap (o : Oper) (ρ : Operand → V) (hρ : ∀ f, ρ (.func f) = .fn f []) (hp : stillOp E.pf o.op = true) (h : Heap) (K : V → Heap → Option Ω) : step E true o ρ h K = step E true o ρ h fun v _ => K v h := by
  obtain ⟨dst, op, ty, pos, after, guard⟩ := o
  cases op with
  | load t x =>
    simp only [step]
    cases E.T.get t with
    | none => rfl
    | some d => dsimp only; cases loadV d h (ρ x) <;> rfl
  | slice t x lo hi mx => rfl
  | indexAddr t x i => rfl
  | binOp op t x y yt => rfl
  | convert s d x => rfl
  | fieldAddr s x f =>
    simp only [step]
    cases E.T.get s with
    | none => rfl
    | some d => dsimp only; cases fieldAddrV E.T d (ρ x) f <;> rfl
  | nilCheck x =>
    simp only [step]
  | build t parts =>
    simp only [step]
    cases E.T.get t with
    | none => rfl
    | some d => dsimp only; cases buildV E.T d (parts.toList.map fun p => (p.1, ρ p.2)) <;> rfl
  | call c =>
    obtain ⟨cal, args, ats⟩ := c
    cases cal with
    | value f =>
      cases f with
      | func n =>
        simp only [stillOp] at hp
        simp only [step, hρ]
        unfold callV
        dsimp only
        cases hl : E.pf.lookup n with
        | none => rw [hl] at hp; cases hp
        | some fl =>
          cases fl
          · simp only [Bool.not_true, Bool.and_false]
            rfl
          · rfl
      | _ => cases hp
    | invoke r n => cases hp
    | builtin b =>
      cases b with
      | len => rfl
      | min =>
        simp only [step]
        cases minV .min (args.toList.map ρ) <;> rfl
      | max =>
        simp only [step]
        cases minV .max (args.toList.map ρ) <;> rfl
      | unsafeSliceData => rfl
      | _ => cases hp
  | _ => cases hp

/-! ### More memory behind -/

def sc (n : Nat) (x : V) : Prop := ∀ id ∈ idsOf x, id < n

theorem getD_more {h X : Heap} {id : Nat} (hi : id < h.length) : (h ++ X).getD id .dead = h.getD id .dead := by
  simp [List.getD_eq_getElem?_getD, List.getElem?_append_left hi]

theorem solid_more {h X : Heap} {x : V} (hs : sc h.length x) : solid (h ++ X) x = solid h x := by
  cases x <;> first
    | rfl
    | (simp only [solid]; rw [getD_more (hs _ (by simp [idsOf]))])

theorem sc_cell {n : Nat} {cs : List V} (hs : sc n (.agg cs)) : ∀ x ∈ cs, sc n x := by
  intro x hx id hid
  refine hs id ?_
  simp only [idsOf]
  induction cs with
  | nil => cases hx
  | cons c r ih =>
    simp only [idsOfL, List.mem_append]
    rcases List.mem_cons.1 hx with rfl | hx
    · exact .inl hid
    · exact .inr (ih (fun i hi => hs i (by simp only [idsOf, idsOfL, List.mem_append]; exact .inr (by simpa [idsOf] using hi))) hx)

theorem sc_cells {n : Nat} {x : V} (hs : sc n x) : ∀ y ∈ x.cells, sc n y := by
  intro y hy
  cases x with
  | agg cs => exact sc_cell hs y hy
  | undef => cases hy
  | tup _ => cases hy
  | lit v => simp only [V.cells] at hy; split at hy <;> simp at hy; subst hy; exact hs
  | _ => simp [V.cells] at hy; subst hy; exact hs

theorem all_congr {α : Type} {p q : α → Bool} {l : List α} (h : ∀ x ∈ l, p x = q x) : l.all p = l.all q := by
  induction l with
  | nil => rfl
  | cons a r ih => simp only [List.all_cons]; rw [h a List.mem_cons_self, ih fun x hx => h x (List.mem_cons_of_mem _ hx)]

theorem shown_more {h X : Heap} {x : V} (hs : sc h.length x) : shown (h ++ X) x = shown h x := by
  cases x <;> first
    | rfl
    | (simp only [shown]; rw [getD_more (hs _ (by simp [idsOf]))])

theorem shownD_more {h X : Heap} {x : V} (hs : sc h.length x) : shownD (h ++ X) x = shownD h x := by
  cases x with
  | agg cs => simp only [shownD]; congr 1; exact List.map_congr_left fun y hy => shown_more (sc_cell hs y hy)
  | _ => exact shown_more (h := h) (X := X) hs

theorem elems_more {h X : Heap} {t : Ty} {x : V} (hs : sc h.length x) : elems (h ++ X) t x = elems h t x := by
  cases x with
  | own id => simp only [elems]; rw [getD_more (hs _ (by simp [idsOf]))]
  | win id a b => simp only [elems]; rw [getD_more (hs _ (by simp [idsOf]))]
  | lit v => (clear hs; cases v <;> first | rfl | (rename_i q1 q2 q3; cases q1 <;> first | rfl | (cases q2 <;> first | rfl | (cases q3 <;> rfl))) | (rename_i q1; cases q1 <;> rfl))
  | _ => rfl

theorem isNil_more {h X : Heap} {sh : Sh} {x : V} (hs : sc h.length x) : isNil (h ++ X) sh x = isNil h sh x := by
  cases x with
  | own id => cases sh <;> first | rfl | (simp only [isNil]; rw [getD_more (hs _ (by simp [idsOf]))])
  | ptr id a => cases sh <;> first | rfl | (simp only [isNil]; rw [getD_more (hs _ (by simp [idsOf]))])
  | lit v => cases sh <;> (clear hs; cases v <;> first | rfl | (rename_i q1 q2 q3; cases q1 <;> first | rfl | (cases q2 <;> first | rfl | (cases q3 <;> rfl))) | (rename_i q1; cases q1 <;> rfl))
  | _ => cases sh <;> rfl

theorem lenV_more {h X : Heap} {sh : Sh} {x : V} (hs : sc h.length x) : lenV (h ++ X) sh x = lenV h sh x := by
  cases x with
  | own id => cases sh <;> first | rfl | (simp only [lenV]; rw [getD_more (hs _ (by simp [idsOf]))])
  | win id a b => cases sh <;> first | rfl | (simp only [lenV]; rw [getD_more (hs _ (by simp [idsOf]))])
  | lit v => cases sh <;> (clear hs; cases v <;> first | rfl | (rename_i q1 q2 q3; cases q1 <;> first | rfl | (cases q2 <;> first | rfl | (cases q3 <;> rfl))) | (rename_i q1; cases q1 <;> rfl))
  | _ => cases sh <;> rfl

theorem eqOp_more {h X : Heap} {sh : Sh} {p : List Ty} {n : Bool} {x y : V} (hx : sc h.length x) (hy : sc h.length y) (K : V → Option Ω) : eqOp (h ++ X) sh p n x y K = eqOp h sh p n x y K := by
  have ex : isNil (h ++ X) sh x = isNil h sh x := isNil_more hx
  have ey : isNil (h ++ X) sh y = isNil h sh y := isNil_more hy
  unfold eqOp
  split
  · rfl
  · rfl
  · simp only [ex, ey]

theorem still_ext (o : Oper) (ρ : Operand → V) (hρ : ∀ f, ρ (.func f) = .fn f []) (hp : stillOp E.pf o.op = true) (h X : Heap) (hs : ∀ x ∈ o.op.operands, sc h.length (ρ x)) (K : V → Heap → Option Ω) :
    step E true o ρ (h ++ X) K = step E true o ρ h fun v _ => K v (h ++ X) := by
  obtain ⟨dst, op, ty, pos, after, guard⟩ := o
  cases op with
  | load t x =>
    have hx := hs x (by simp [Op.operands])
    have e : ∀ d : TD, loadV d (h ++ X) (ρ x) = loadV d h (ρ x) := by
      intro d
      generalize ρ x = v at hx
      cases v <;> first
        | rfl
        | (simp only [loadV]; rw [getD_more (hx _ (by simp [idsOf]))])
    simp only [step]
    cases E.T.get t with
    | none => rfl
    | some d => dsimp only; rw [e]; cases loadV d h (ρ x) <;> rfl
  | slice t x lo hi mx =>
    have hx := hs x (by simp [Op.operands])
    simp only [step]
    cases E.T.get t with
    | none => rfl
    | some d =>
      dsimp only
      generalize ρ x = v at hx
      cases v with
      | own id => simp only [sliceV]; rw [getD_more (hx _ (by simp [idsOf]))]
      | win id a b => simp only [sliceV]; rw [getD_more (hx _ (by simp [idsOf]))]
      | eptr id i o => cases i <;> cases o <;> first | rfl | (simp only [sliceV]; rw [getD_more (hx _ (by simp [idsOf]))])
      | _ => rfl
  | indexAddr t x i =>
    have hx := hs x (by simp [Op.operands])
    simp only [step]
    cases E.T.get t with
    | none => rfl
    | some d =>
      cases ρ i with
      | int k n =>
        dsimp only
        generalize ρ x = v at hx
        unfold indexAddrV
        cases v with
        | own id => simp only [getD_more (X := X) (hx id (by simp [idsOf]))]
        | win id a b => simp only [getD_more (X := X) (hx id (by simp [idsOf]))]
        | ptr id a => simp only [getD_more (X := X) (hx id (by simp [idsOf]))]
        | eptr id i o => cases i <;> cases o <;> first | rfl | simp only [getD_more (X := X) (hx id (by simp [idsOf]))]
        | _ => rfl
      | _ => rfl
  | binOp op t x y yt =>
    have hx := hs x (by simp [Op.operands])
    have hy := hs y (by simp [Op.operands])
    simp only [step]
    generalize ρ x = a at hx
    generalize ρ y = b at hy
    unfold binV
    split <;> first | rfl | (split <;> first | rfl | exact eqOp_more hx hy _)
  | convert s d x =>
    have hx := hs x (by simp [Op.operands])
    simp only [step]
    generalize ρ x = a at hx
    unfold convertV
    split
    · split <;> first | rfl | simp only [elems_more hx]
    · rfl
  | fieldAddr s x f =>
    have hx := hs x (by simp [Op.operands])
    simp only [step]
    cases E.T.get s with
    | none => rfl
    | some d => dsimp only; rw [solid_more hx]; cases fieldAddrV E.T d (ρ x) f <;> rfl
  | nilCheck x =>
    have hx := hs x (by simp [Op.operands])
    simp only [step, solid_more hx]
  | build t parts =>
    have hall : (parts.toList.all fun p => (ρ p.2).cells.all (solid (h ++ X))) = parts.toList.all fun p => (ρ p.2).cells.all (solid h) := by
      refine all_congr fun p hp => all_congr fun y hy => solid_more ?_
      exact sc_cells (hs p.2 (by simp only [Op.operands, List.mem_toArray, List.mem_map]; exact ⟨p, hp, rfl⟩)) y hy
    simp only [step]
    cases E.T.get t with
    | none => rfl
    | some d => dsimp only; rw [hall]; cases buildV E.T d (parts.toList.map fun p => (p.1, ρ p.2)) <;> rfl
  | call c =>
    obtain ⟨cal, args, ats⟩ := c
    cases cal with
    | value f =>
      cases f with
      | func n =>
        have hargs : ∀ y ∈ args.toList.map ρ, sc h.length y := by
          intro y hy
          obtain ⟨x, hx, rfl⟩ := List.mem_map.1 hy
          exact hs x (by simp [Op.operands, Call.operands]; exact .inr (by simpa using hx))
        have hmap : (args.toList.map ρ ++ []).map (shownD (h ++ X)) = (args.toList.map ρ ++ []).map (shownD h) :=
          List.map_congr_left fun y hy => shownD_more (hargs y (by simpa using hy))
        simp only [stillOp] at hp
        simp only [step, hρ]
        unfold callV
        dsimp only
        cases hl : E.pf.lookup n with
        | none => rw [hl] at hp; cases hp
        | some fl =>
          cases fl
          · simp only [Bool.not_true, Bool.and_false]
            rfl
          · dsimp only; rw [hmap]
      | _ => cases hp
    | invoke r n => cases hp
    | builtin b =>
      cases b with
      | len =>
        simp only [step]
        split
        · rename_i t x e1 e2
          have hx := hs x (by simp [Op.operands, Call.operands]; have : x ∈ args.toList := by rw [e2]; simp
                              simpa using this)
          simp only [lenV_more hx]
        · rfl
      | min =>
        simp only [step]
        cases minV .min (args.toList.map ρ) <;> rfl
      | max =>
        simp only [step]
        cases minV .max (args.toList.map ρ) <;> rfl
      | unsafeSliceData =>
        simp only [step]
        split
        · rename_i x e2
          have hx := hs x (by simp [Op.operands, Call.operands]; have : x ∈ args.toList := by rw [e2]; simp
                              simpa using this)
          unfold dataV
          split
          · rename_i id hid; rw [hid] at hx; rw [elems_more hx]
          · rfl
        · rfl
      | _ => cases hp
  | _ => cases hp

/-- only new blocks behind -/
theorem newVar_ext {T : Types} {e : TypeId} {cs : List V} {h : Heap} {v : V} {h' : Heap} (hn : newVar T e cs h = some (v, h')) : ∃ X, h' = h ++ X := by
  unfold newVar at hn
  split at hn
  · split at hn
    · split at hn
      · split at hn
        · split at hn
          · cases hn
          · split at hn
            · cases hn; exact ⟨_, rfl⟩
            · cases hn
        · cases hn; exact ⟨_, rfl⟩
      · cases hn; exact ⟨_, rfl⟩
    · cases hn
  · cases hn

theorem spendAll_none {h : Heap} : ∀ {xs : List V}, (∀ x ∈ xs, ownish x = false) → spendAll h xs = h
  | [], _ => rfl
  | x :: r, H => by
    have := H x List.mem_cons_self
    have e : spend h x = h := by cases x <;> first | rfl | cases this
    simp only [spendAll, e]
    exact spendAll_none fun y hy => H y (List.mem_cons_of_mem _ hy)

theorem alloc_ext (o : Oper) (ρ : Operand → V) (hp : allocOp o.op = true) (h : Heap) (K : V → Heap → Option Ω) (r : Ω) (hs : step E true o ρ h K = some r) :
    ∃ v X, ∀ K' : V → Heap → Option Ω, step E true o ρ h K' = K' v (h ++ X) := by
  obtain ⟨dst, op, ty, pos, after, guard⟩ := o
  cases op with
  | alloc e =>
    simp only [step] at hs ⊢
    cases hd : E.T.get e with
    | none => rw [hd] at hs; cases hs
    | some d =>
      rw [hd] at hs
      dsimp only at hs ⊢
      cases hn : newVar E.T e (zeroOf d) h with
      | none => rw [hn] at hs; cases hs
      | some q => obtain ⟨v, h'⟩ := q; obtain ⟨X, rfl⟩ := newVar_ext hn; exact ⟨v, X, fun K' => rfl⟩
  | box e x =>
    simp only [step] at hs ⊢
    cases hn : newVar E.T e (ρ x).cells h with
    | none => rw [hn] at hs; cases hs
    | some q => obtain ⟨v, h'⟩ := q; obtain ⟨X, rfl⟩ := newVar_ext hn; exact ⟨v, X, fun K' => rfl⟩
  | buildSlice t len parts =>
    simp only [step] at hs ⊢
    cases hd : E.T.get t with
    | none => rw [hd] at hs; cases hs
    | some d =>
      rw [hd] at hs
      dsimp only at hs ⊢
      split at hs
      · cases hs
      · rename_i hno
        cases hn : buildSliceV E.T d h len (parts.toList.map fun p => (p.1, ρ p.2)) with
        | none => rw [hn] at hs; cases hs
        | some q =>
          obtain ⟨v, h'⟩ := q
          have hext : ∃ X, h' = h ++ X := by
            unfold buildSliceV at hn
            split at hn
            · split at hn
              · split at hn
                · split at hn
                  · split at hn
                    · split at hn
                      · cases hn
                        have hsp : spendAll h ((parts.toList.map fun p => (p.1, ρ p.2)).flatMap fun p => p.2.cells) = h := by
                          refine spendAll_none ?_
                          intro x hx
                          obtain ⟨p, hp, hx⟩ := List.mem_flatMap.1 hx
                          obtain ⟨q, hq, rfl⟩ := List.mem_map.1 hp
                          simp only [Bool.true_and, Bool.not_eq_true, List.any_eq_false] at hno
                          have := hno q hq
                          cases ho : ownish x with
                          | false => rfl
                          | true => exact absurd ho (by simpa using this x hx)
                        rw [hsp]
                        exact ⟨_, rfl⟩
                      · cases hn
                    · cases hn
                  · cases hn
                · cases hn
              · cases hn
            · cases hn
          obtain ⟨X, rfl⟩ := hext
          exact ⟨v, X, fun K' => if_neg hno⟩
  | _ => cases hp

/-- two ways on that always agree are one -/
theorem same_way {v v' : V} {h h' : Heap} (r : Ω) (H : ∀ K : V → Heap → Option Ω, K v h = K v' h') : v = v' ∧ h = h' := by
  classical
  have := H fun x y => if x = v ∧ y = h then some r else none
  simp only [and_self, if_true] at this
  split at this
  · rename_i hc; exact ⟨hc.1.symm, hc.2.symm⟩
  · cases this
end
end Go.Proofs.YtnebpmcmdmpoaaaDoor.R
