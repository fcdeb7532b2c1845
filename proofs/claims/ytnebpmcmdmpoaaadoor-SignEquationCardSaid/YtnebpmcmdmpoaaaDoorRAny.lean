/- Statements whose order is open: every order does what the order of the text does. -/
import Derived.Test.YtnebpmcmdmpoaaaDoorRRegion
namespace Go.Proofs.YtnebpmcmdmpoaaaDoor.R
open Go
set_option linter.unusedVariables false
set_option linter.unusedSimpArgs false

section
variable {P : Program} {Ω : Type} {E : Env Ω}

/-! ### Who goes ahead of whom -/

theorem anc_fold {acc : List Nat} {j : Nat} : ∀ (l : List Edge) (s0 : Nat), (l.foldl (fun s e => if Region.binds .any e then s ||| 2 ^ e.on ||| acc.getD e.on 0 else s) s0).testBit j = true →
    s0.testBit j = true ∨ ∃ e ∈ l, Region.binds .any e = true ∧ (j = e.on ∨ (acc.getD e.on 0).testBit j = true)
  | [], s0, h => .inl h
  | e :: l, s0, h => by
    rw [List.foldl_cons] at h
    rcases anc_fold l _ h with h | ⟨e', he, hb⟩
    · split at h
      · rename_i hb
        rw [Nat.testBit_or, Nat.testBit_or, Bool.or_eq_true, Bool.or_eq_true] at h
        rcases h with (h | h) | h
        · exact .inl h
        · refine .inr ⟨e, List.mem_cons_self, hb, .inl ?_⟩
          rw [Nat.testBit_two_pow] at h
          exact (of_decide_eq_true h).symm
        · exact .inr ⟨e, List.mem_cons_self, hb, .inr h⟩
      · exact .inl h
    · exact .inr ⟨e', List.mem_cons_of_mem _ he, hb⟩

/-- what has come up is closed under what goes ahead -/
def Dn (ops : Array Oper) (L : Nat → Prop) : Prop := ∀ i o, ops[i]? = some o → L i → ∀ e ∈ o.after, Region.binds .any e = true → L e.on

/-- all that it waits for has come up -/
def Free (L : Nat → Prop) (o : Oper) : Prop := ∀ e ∈ o.after, Region.binds .any e = true → L e.on

def AccOk (ops : Array Oper) (L : Nat → Prop) (acc : List Nat) : Prop := ∀ i, i < acc.length → ∀ o, ops[i]? = some o → Free L o → ∀ j, (acc.getD i 0).testBit j = true → L j

theorem ancs_ok {ops : Array Oper} {L : Nat → Prop} (hD : Dn ops L) : ∀ (l : List Oper) (acc : List Nat), (∀ k, l[k]? = none ∨ ops[acc.length + k]? = l[k]?) → (∀ i, i < acc.length → ∃ o, ops[i]? = some o) → AccOk ops L acc → AccOk ops L (ancs l acc)
  | [], acc, _, _, h => h
  | o :: l, acc, hl, hin, h => by
    have h0 : ops[acc.length]? = some o := by
      rcases hl 0 with h | h
      · cases h
      · exact h
    refine ancs_ok hD l _ (fun k => ?_) ?_ ?_
    · have := hl (k + 1)
      rw [List.length_append, List.length_singleton, show acc.length + 1 + k = acc.length + (k + 1) by omega]
      exact this
    · intro i hi
      rw [List.length_append, List.length_singleton] at hi
      rcases Nat.lt_or_ge i acc.length with h' | h'
      · exact hin i h'
      · exact ⟨o, by rw [show i = acc.length by omega]; exact h0⟩
    · intro i hi o' ho' hf j hj
      rw [List.length_append, List.length_singleton] at hi
      rcases Nat.lt_or_ge i acc.length with h' | h'
      · rw [List.getD_eq_getElem?_getD, List.getElem?_append_left h', ← List.getD_eq_getElem?_getD] at hj
        exact h i h' o' ho' hf j hj
      · have : i = acc.length := by omega
        subst this
        rw [h0] at ho'; cases ho'
        rw [List.getD_eq_getElem?_getD, List.getElem?_append_right (Nat.le_refl _), Nat.sub_self] at hj
        simp only [List.getElem?_cons_zero, Option.getD_some] at hj
        rcases anc_fold _ _ hj with h1 | ⟨e, he, hb, h1⟩
        · simp at h1
        · have hLe := hf e (by simpa using he) hb
          rcases h1 with rfl | h1
          · exact hLe
          · rcases Nat.lt_or_ge e.on acc.length with h' | h'
            · obtain ⟨oe, hoe⟩ := hin e.on h'
              exact h e.on h' oe hoe (hD e.on oe hoe hLe) j h1
            · rw [List.getD_eq_getElem?_getD, List.getElem?_eq_none h'] at h1
              simp at h1

theorem anc_listed {ops : Array Oper} {L : Nat → Prop} (hD : Dn ops L) {i : Nat} {o : Oper} (ho : ops[i]? = some o) (hf : Free L o) {j : Nat} (hj : ((ancs ops.toList []).getD i 0).testBit j = true) : L j := by
  rcases Nat.lt_or_ge i (ancs ops.toList []).length with h | h
  · exact ancs_ok hD ops.toList [] (fun k => .inr (by simp)) (fun i hi => by simp at hi) (fun i hi => by simp at hi) i h o ho hf j hj
  · rw [List.getD_eq_getElem?_getD, List.getElem?_eq_none h] at hj
    simp at hj

/-! ### What is known of a region -/

/-- neither waits for the other: they do not look at what the other yields, and the memory is the same to them -/
def Aside (pf : List (FuncId × Bool)) (ops : Array Oper) (a b : Oper) : Prop :=
  (∀ d, a.dst = some d → d ∉ Oper.slots ops b) ∧ (∀ d, b.dst = some d → d ∉ Oper.slots ops a) ∧
  (pureOp a.op = true ∨ pureOp b.op = true ∨ (stillOp pf a.op = true ∧ (stillOp pf b.op = true ∨ allocOp b.op = true)) ∨ (allocOp a.op = true ∧ stillOp pf b.op = true))

theorem Aside.symm {pf : List (FuncId × Bool)} {ops : Array Oper} {a b : Oper} (h : Aside pf ops a b) : Aside pf ops b a := by
  obtain ⟨h1, h2, h3⟩ := h
  refine ⟨h2, h1, ?_⟩
  rcases h3 with h | h | ⟨h, h' | h'⟩ | ⟨h, h'⟩
  · exact .inr (.inl h)
  · exact .inl h
  · exact .inr (.inr (.inl ⟨h', .inl h⟩))
  · exact .inr (.inr (.inr ⟨h', h⟩))
  · exact .inr (.inr (.inl ⟨h', .inr h⟩))

structure ROk (pf : List (FuncId × Bool)) (ops : Array Oper) : Prop where
  low : ∀ i o, ops[i]? = some o → ∀ e ∈ o.after, Region.binds .any e = true → e.on < i
  pair : ∀ i j a b, ops[i]? = some a → ops[j]? = some b → j < i → ((ancs ops.toList []).getD i 0).testBit j = true ∨ Aside pf ops a b

theorem ROk.of {pf : List (FuncId × Bool)} {ops : Array Oper} (h : regionOk pf ops = true) : ROk pf ops := by
  unfold regionOk at h
  simp only [Bool.and_eq_true] at h
  obtain ⟨⟨-, h1⟩, h2⟩ := h
  refine ⟨fun i o ho e he hb => ?_, fun i j a b ha hb hj => ?_⟩
  · rw [List.all_eq_true] at h1
    have := h1 i (List.mem_range.2 (Array.getElem?_eq_some_iff.1 ho).1)
    simp only [ho, Bool.and_eq_true] at this
    have := List.all_eq_true.1 this.1 e (by simpa using he)
    simp only [hb, Bool.not_true, Bool.false_or, decide_eq_true_eq] at this
    exact this
  · unfold allPairs at h2
    rw [List.all_eq_true] at h2
    have := h2 i (List.mem_range.2 (Array.getElem?_eq_some_iff.1 ha).1)
    rw [List.all_eq_true] at this
    have := this j (List.mem_range.2 hj)
    simp only [ha, hb, Bool.or_eq_true] at this
    rcases this with this | this
    · left
      unfold ordered at this
      rwa [Nat.max_eq_left (Nat.le_of_lt hj), Nat.min_eq_right (Nat.le_of_lt hj)] at this
    · right
      simp only [Bool.and_eq_true, Bool.or_eq_true] at this
      obtain ⟨⟨g1, g2⟩, g3⟩ := this
      refine ⟨fun d hd => ?_, fun d hd => ?_, ?_⟩
      · rw [hd] at g1
        simpa using g1
      · rw [hd] at g2
        simpa using g2
      · rcases g3 with ((g | g) | g) | g
        · exact .inl g
        · exact .inr (.inl g)
        · exact .inr (.inr (.inl g))
        · exact .inr (.inr (.inr g))

/-- the next that comes up, and any other: which of them has come up hangs on the text alone, or they do not mind each other -/
theorem ROk.other {pf : List (FuncId × Bool)} {ops : Array Oper} (h : ROk pf ops) {L : Nat → Prop} (hD : Dn ops L) {i : Nat} {o : Oper} (ho : ops[i]? = some o) (hf : Free L o) (hi : ¬ L i)
    {j : Nat} {b : Oper} (hb : ops[j]? = some b) (hne : j ≠ i) : (L j ↔ j < i) ∨ Aside pf ops o b := by
  rcases Nat.lt_or_gt_of_ne hne with hlt | hgt
  · rcases h.pair i j o b ho hb hlt with h1 | h1
    · exact .inl ⟨fun _ => hlt, fun _ => anc_listed hD ho hf h1⟩
    · exact .inr h1
  · rcases h.pair j i b o hb ho hgt with h1 | h1
    · exact .inl ⟨fun hL => absurd (anc_listed hD hb (hD j b hb hL) h1) hi, fun hlt => by omega⟩
    · exact .inr h1.symm

/-! ### The walk in the order of the text -/

/-- the states between -/
structure Path (P : Program) (E : Env Ω) (ops : Array Oper) (st : Nat → St) : Prop where
  did : ∀ i o, ops[i]? = some o → Did P E true ops o (st i) (st (i + 1))

theorem Tr.path {dr : Bool} {ops : Array Oper} {l : List Oper} {s s' : St} (h : Tr P E dr ops l s s') : ∃ st : Nat → St, st 0 = s ∧ st l.length = s' ∧ ∀ i o, l[i]? = some o → Did P E dr ops o (st i) (st (i + 1)) := by
  induction h with
  | nil s => exact ⟨fun _ => s, rfl, rfl, fun i o h => by simp at h⟩
  | @cons o r s s1 s2 h k ih =>
    obtain ⟨st, h0, h1, h2⟩ := ih
    refine ⟨fun | 0 => s | n + 1 => st n, rfl, h1, fun i o' ho => ?_⟩
    cases i with
    | zero => simp only [List.getElem?_cons_zero, Option.some.injEq] at ho; subst ho; show Did _ _ _ _ _ s (st 0); rw [h0]; exact h
    | succ n => exact h2 n o' (by simpa using ho)

variable {ops : Array Oper} {st : Nat → St}

theorem Did.tmps_length {dr : Bool} {o : Oper} {s s' : St} (h : Did P E dr ops o s s') : s'.tmps.length = s.tmps.length := by
  cases h with
  | ran v h' _ _ _ => cases o.dst <;> simp [St.put]
  | skipped _ => cases o.dst <;> simp [St.put]

theorem Did.tmps_other {dr : Bool} {o : Oper} {s s' : St} (h : Did P E dr ops o s s') {t : Nat} (ht : o.dst ≠ some t) : s'.tmps.getD t .undef = s.tmps.getD t .undef := by
  have key : ∀ v h', (s.put o.dst v h').tmps.getD t .undef = s.tmps.getD t .undef := by
    intro v h'
    cases hd : o.dst with
    | none => rfl
    | some d =>
      simp only [St.put, getD_set_list]
      rw [if_neg]
      rintro ⟨rfl, _⟩
      exact ht hd
  cases h with
  | ran v h' _ _ _ => exact key v h'
  | skipped _ => exact key _ _

theorem Path.length (hp : Path P E ops st) : ∀ i, i ≤ ops.size → (st i).tmps.length = (st 0).tmps.length
  | 0, _ => rfl
  | i + 1, h => by
    have ho : ops[i]? = some ops[i] := Array.getElem?_eq_getElem h
    rw [(hp.did i _ ho).tmps_length, hp.length i (by omega)]

theorem Path.slot (hp : Path P E ops st) {t : Nat} {p : Nat} : ∀ q, p ≤ q → q ≤ ops.size → (∀ j o, p ≤ j → j < q → ops[j]? = some o → o.dst ≠ some t) → (st q).tmps.getD t .undef = (st p).tmps.getD t .undef
  | 0, h, _, _ => by rw [show p = 0 by omega]
  | q + 1, h, hq, hn => by
    rcases Nat.eq_or_lt_of_le h with rfl | h
    · rfl
    · have ho : ops[q]? = some ops[q] := Array.getElem?_eq_getElem hq
      rw [(hp.did q _ ho).tmps_other (hn q _ (by omega) (by omega) ho)]
      exact hp.slot q (by omega) (by omega) fun j o h1 h2 => hn j o h1 (by omega)

theorem stepS_run {o : Oper} {ρ : Operand → V} {h : Heap} {v : V} {h' : Heap} (r : Ω) (hs : ∀ K : V → Heap → Option Ω, stepS E true o ρ h K = K v h') :
    (∀ K : V → Heap → Option Ω, step E true o ρ h K = K v h') ∧ ∀ x ∈ o.op.operands, sc h.length (ρ x) := by
  unfold stepS at hs
  split at hs
  · have := hs fun _ _ => some r
    cases this
  · rename_i hn
    refine ⟨hs, fun x hx id hid => ?_⟩
    simp only [Bool.true_and, Bool.not_eq_true', Bool.not_eq_false, List.all_eq_true] at hn
    have := hn x (by simpa using hx)
    unfold scOk at this
    rw [List.all_eq_true] at this
    exact of_decide_eq_true (this id hid)

def Chg (pf : List (FuncId × Bool)) (o : Oper) : Prop := pureOp o.op = false ∧ stillOp pf o.op = false

theorem hfn (gl : List (Nat × List V)) (tm : List V) (f : FuncId) : aEval gl tm (.func f) = .fn f [] := rfl

theorem Did.heap_same {o : Oper} {s s' : St} (r : Ω) (h : Did P E true ops o s s') (hc : ¬ Chg E.pf o) : s'.heap = s.heap := by
  cases h with
  | ran v h' _ hs _ =>
    have e : (s.put o.dst v h').heap = h' := by cases o.dst <;> rfl
    rw [e]
    obtain ⟨g, hsc⟩ := stepS_run r hs
    cases hpu : pureOp o.op with
    | true =>
      have := pure_any (E := E) true o (aEval E.gl s.tmps) hpu s.heap s.heap
      exact (same_way r (v := v) (v' := v) (h := h') (h' := s.heap) fun K => by rw [← g K, this K, g]).2
    | false =>
      cases hst : stillOp E.pf o.op with
      | true =>
        have := still_heap (E := E) o (aEval E.gl s.tmps) (hfn _ _) hst s.heap
        exact (same_way r (v := v) (v' := v) (h := h') (h' := s.heap) fun K => by rw [← g K, this K, g]).2
      | false => exact absurd ⟨hpu, hst⟩ hc
  | skipped _ => cases o.dst <;> rfl

theorem Did.heap_more {o : Oper} {s s' : St} (r : Ω) (h : Did P E true ops o s s') (hc : Chg E.pf o → allocOp o.op = true) : ∃ X, s'.heap = s.heap ++ X := by
  by_cases hch : Chg E.pf o
  · have ha := hc hch
    cases h with
    | ran v h' _ hs _ =>
      have e : (s.put o.dst v h').heap = h' := by cases o.dst <;> rfl
      rw [e]
      obtain ⟨g, hsc⟩ := stepS_run r hs
      obtain ⟨v', X, k⟩ := alloc_ext (E := E) o (aEval E.gl s.tmps) ha s.heap (fun _ _ => some r) r (g _)
      exact ⟨X, (same_way r (v := v) (v' := v') (h := h') (h' := s.heap ++ X) fun K => by rw [← g K, k K]).2⟩
    | skipped _ => exact ⟨[], by cases o.dst <;> simp [St.put]⟩
  · exact ⟨[], by rw [h.heap_same r hch, List.append_nil]⟩

theorem Path.heap (hp : Path P E ops st) (r : Ω) {p : Nat} : ∀ q, p ≤ q → q ≤ ops.size → (∀ j o, p ≤ j → j < q → ops[j]? = some o → ¬ Chg E.pf o) → (st q).heap = (st p).heap
  | 0, h, _, _ => by rw [show p = 0 by omega]
  | q + 1, h, hq, hn => by
    rcases Nat.eq_or_lt_of_le h with rfl | h
    · rfl
    · have ho : ops[q]? = some ops[q] := Array.getElem?_eq_getElem hq
      rw [(hp.did q _ ho).heap_same r (hn q _ (by omega) (by omega) ho)]
      exact hp.heap r q (by omega) (by omega) fun j o h1 h2 => hn j o h1 (by omega)

theorem Path.more (hp : Path P E ops st) (r : Ω) {p : Nat} : ∀ q, p ≤ q → q ≤ ops.size → (∀ j o, p ≤ j → j < q → ops[j]? = some o → Chg E.pf o → allocOp o.op = true) → ∃ X, (st q).heap = (st p).heap ++ X
  | 0, h, _, _ => ⟨[], by rw [show p = 0 by omega, List.append_nil]⟩
  | q + 1, h, hq, hn => by
    rcases Nat.eq_or_lt_of_le h with rfl | h
    · exact ⟨[], by rw [List.append_nil]⟩
    · have ho : ops[q]? = some ops[q] := Array.getElem?_eq_getElem hq
      obtain ⟨X, hX⟩ := (hp.did q _ ho).heap_more r (hn q _ (by omega) (by omega) ho)
      obtain ⟨Y, hY⟩ := hp.more r q (by omega) (by omega) fun j o h1 h2 => hn j o h1 (by omega)
      exact ⟨Y ++ X, by rw [hX, hY, List.append_assoc]⟩

/-! ### Any order -/

theorem idsOfL_mem {i : Nat} : ∀ {cs : List V}, i ∈ idsOfL cs → ∃ (j : Nat) (x : V), cs[j]? = some x ∧ i ∈ idsOf x
  | [], h => by simp [idsOfL] at h
  | c :: r, h => by
    simp only [idsOfL, List.mem_append] at h
    rcases h with h | h
    · exact ⟨0, c, rfl, h⟩
    · obtain ⟨j, x, h1, h2⟩ := idsOfL_mem h
      exact ⟨j + 1, x, h1, h2⟩

theorem Rep.sc {w : World} {U : Nat → Prop} {σ : Sig} {v : Value} {x : V} (h : Rep w U σ v x) : sc σ.length x := by
  induction h with
  | own id p v hp h => intro i hi; simp [idsOf] at hi; subst hi; exact (List.getElem?_eq_some_iff.1 hp).1
  | win id off len p v hp h => intro i hi; simp [idsOf] at hi; subst hi; exact (List.getElem?_eq_some_iff.1 hp).1
  | ptr id off p v hp h => intro i hi; simp [idsOf] at hi; subst hi; exact (List.getElem?_eq_some_iff.1 hp).1
  | eptr id i off p v hp h => intro j hj; simp [idsOf] at hj; subst hj; exact (List.getElem?_eq_some_iff.1 hp).1
  | fp a cs f hc h ih =>
    intro i hi
    simp only [idsOf] at hi
    obtain ⟨j, y, hy, hiy⟩ := idsOfL_mem hi
    exact ih j y hy i hiy
  | fn f vs cs hl h ih =>
    intro i hi
    simp only [idsOf] at hi
    obtain ⟨j, y, hy, hiy⟩ := idsOfL_mem hi
    have hj : j < vs.size := by rw [hl]; exact (List.getElem?_eq_some_iff.1 hy).1
    exact ih j vs[j] y (Array.getElem?_eq_getElem hj) hy i hiy
  | agg vs cs hl h ih =>
    intro i hi
    simp only [idsOf] at hi
    obtain ⟨j, y, hy, hiy⟩ := idsOfL_mem hi
    have hj : j < vs.size := by rw [hl]; exact (List.getElem?_eq_some_iff.1 hy).1
    exact ih j vs[j] y (Array.getElem?_eq_getElem hj) hy i hiy
  | tup vs cs hl h ih =>
    intro i hi
    simp only [idsOf] at hi
    obtain ⟨j, y, hy, hiy⟩ := idsOfL_mem hi
    have hj : j < vs.size := by rw [hl]; exact (List.getElem?_eq_some_iff.1 hy).1
    exact ih j vs[j] y (Array.getElem?_eq_getElem hj) hy i hiy
  | _ => intro i hi; simp [idsOf] at hi

def Ls (listed : Array Bool) (j : Nat) : Prop := listed.getD j false = true

structure Inv (E : Env Ω) (ops : Array Oper) (st : Nat → St) (M : Nat → Prop) (listed : Array Bool) (σ : Sig) (w : World) (a : Act) : Prop where
  dn : Dn ops (Ls listed)
  heap : ∃ m, m ≤ ops.size ∧ HR w M σ (st m).heap ∧ ∀ j o, ops[j]? = some o → Chg E.pf o → (Ls listed j ↔ j < m)
  gok : GOk E.gl w (Un M σ)
  size : a.tmps.size = (st 0).tmps.length
  slot : ∀ t, ∃ p, p ≤ ops.size ∧ Rep w (Un M σ) σ (a.tmps.getD t undef) ((st p).tmps.getD t .undef) ∧ ∀ j o, ops[j]? = some o → o.dst = some t → (Ls listed j ↔ j < p)

theorem Aside.chg {pf : List (FuncId × Bool)} {o b : Oper} (h : Aside pf ops o b) (h1 : Chg pf o) (h2 : Chg pf b) : False := by
  obtain ⟨-, -, h⟩ := h
  rcases h with h | h | ⟨h, -⟩ | ⟨-, h⟩
  · rw [h1.1] at h; cases h
  · rw [h2.1] at h; cases h
  · rw [h1.2] at h; cases h
  · rw [h2.2] at h; cases h

theorem Aside.still {pf : List (FuncId × Bool)} {o b : Oper} (h : Aside pf ops o b) (h0 : pureOp o.op = false) (h1 : stillOp pf o.op = true) (h2 : Chg pf b) : allocOp b.op = true := by
  obtain ⟨-, -, h⟩ := h
  rcases h with h | h | ⟨-, h | h⟩ | ⟨-, h⟩
  · rw [h0] at h; cases h
  · rw [h2.1] at h; cases h
  · rw [h2.2] at h; cases h
  · exact h
  · rw [h2.2] at h; cases h

theorem Ls_set {listed : Array Bool} {i j : Nat} (hi : i < listed.size) : Ls (listed.setIfInBounds i true) j ↔ Ls listed j ∨ j = i := by
  unfold Ls
  rw [Array.getD_eq_getD_getElem?, Array.getD_eq_getD_getElem?, Array.getElem?_setIfInBounds]
  by_cases h : i = j
  · subst h; simp [hi]
  · simp [h]; intro e; exact absurd e.symm h

theorem Inv.looks {M : Nat → Prop} {listed : Array Bool} {σ : Sig} {w : World} {a : Act} (hR : ROk E.pf ops) (hp : Path P E ops st) (hI : Inv E ops st M listed σ w a) {i : Nat} {o : Oper}
    (ho : ops[i]? = some o) (hi : ¬ Ls listed i) (hf : Free (Ls listed) o) : ∀ t ∈ o.looksAt ops, Rep w (Un M σ) σ (a.tmps.getD t undef) ((st i).tmps.getD t .undef) := by
  intro t ht
  have hin : i < ops.size := (Array.getElem?_eq_some_iff.1 ho).1
  obtain ⟨p, hpn, hrep, hwr⟩ := hI.slot t
  have hmem : t ∈ Oper.slots ops o := List.mem_append_right _ ht
  have key : ∀ j b, ops[j]? = some b → b.dst = some t → j ≠ i → (Ls listed j ↔ j < i) := by
    intro j b hb hbd hne
    rcases hR.other hI.dn ho hf hi hb hne with h | h
    · exact h
    · exact absurd hmem (h.2.1 t hbd)
  rcases Nat.le_or_le p i with hle | hle
  · rw [hp.slot i hle (by omega) fun j b h1 h2 hb hbd => ?_]
    · exact hrep
    · have k1 := key j b hb hbd (by omega)
      have k2 := hwr j b hb hbd
      have := k2.1 (k1.2 h2)
      omega
  · rw [← hp.slot p hle hpn fun j b h1 h2 hb hbd => ?_]
    · exact hrep
    · have k2 := (hwr j b hb hbd).2 h2
      rcases Nat.eq_or_lt_of_le h1 with rfl | h1
      · exact hi k2
      · have := (key j b hb hbd (by omega)).1 k2
        omega

theorem put_tmps {s : St} {d : Option Tmp} {v : V} {h h' : Heap} : (s.put d v h).tmps = (s.put d v h').tmps := by cases d <;> rfl

theorem Inv.after {M : Nat → Prop} {listed : Array Bool} {σ σ' : Sig} {w w' : World} {a : Act} (hR : ROk E.pf ops) (hp : Path P E ops st) (hI : Inv E ops st M listed σ w a) (hsz : listed.size = ops.size) {i : Nat} {o : Oper}
    (ho : ops[i]? = some o) (hi : ¬ Ls listed i) (hf : Free (Ls listed) o) {v' : Value} {v : V} {h' : Heap} (hs : Step w w' σ σ') (hv : Rep w' (Un M σ') σ' v' v) (he : (st (i + 1)).tmps = ((st i).put o.dst v h').tmps)
    (hH : ∃ m, m ≤ ops.size ∧ HR w' M σ' (st m).heap ∧ ∀ j b, ops[j]? = some b → Chg E.pf b → (Ls (listed.setIfInBounds i true) j ↔ j < m)) :
    Inv E ops st M (listed.setIfInBounds i true) σ' w' (a.put o.dst v') := by
  have hin : i < ops.size := (Array.getElem?_eq_some_iff.1 ho).1
  have hset : ∀ j, Ls (listed.setIfInBounds i true) j ↔ Ls listed j ∨ j = i := fun j => Ls_set (by omega)
  refine ⟨?_, hH, hI.gok.mono (hs.keeps M), ?_, fun t => ?_⟩
  · intro j b hb hL e hee hbe
    rw [hset] at hL
    rw [hset]
    rcases hL with hL | rfl
    · exact .inl (hI.dn j b hb hL e hee hbe)
    · rw [ho] at hb; cases hb
      exact .inl (hf e hee hbe)
  · have : (a.put o.dst v').tmps.size = a.tmps.size := by cases o.dst <;> simp [Act.put]
    rw [this]; exact hI.size
  · by_cases ht : o.dst = some t
    · refine ⟨i + 1, hin, ?_, fun j b hb hbd => ?_⟩
      · rw [he, ht]
        simp only [Act.put, St.put, getD_set_list, getD_set_arr, hI.size, hp.length i (by omega)]
        split
        · exact hv
        · rename_i hn
          have : (st i).tmps.getD t .undef = .undef := by
            rw [List.getD_eq_getElem?_getD, List.getElem?_eq_none (by rw [hp.length i (by omega)]; simpa using hn)]; rfl
          rw [this]; exact .undef _
      · rw [hset]
        by_cases hj : j = i
        · subst hj; simp
        · rcases hR.other hI.dn ho hf hi hb hj with h | h
          · rw [h]; omega
          · exact absurd (by simp [Oper.slots, hbd] : t ∈ Oper.slots ops b) (h.1 t ht)
    · obtain ⟨p, hpn, hrep, hwr⟩ := hI.slot t
      refine ⟨p, hpn, ?_, fun j b hb hbd => ?_⟩
      · have : (a.put o.dst v').tmps.getD t undef = a.tmps.getD t undef := by
          cases hd : o.dst with
          | none => rfl
          | some d =>
            simp only [Act.put, getD_set_arr]
            rw [if_neg]
            rintro ⟨rfl, _⟩
            exact ht hd
        rw [this]
        exact hs.rep hrep
      · rw [hset, ← hwr j b hb hbd]
        constructor
        · rintro (h | rfl)
          · exact h
          · rw [ho] at hb; cases hb; exact absurd hbd ht
        · exact .inl

theorem Inv.next (hE : EnvOk P E) (r : Ω) {Q : Exit → Act → World → Prop} {M : Nat → Prop} {listed : Array Bool} {σ : Sig} {w : World} {a : Act} (hR : ROk E.pf ops) (hp : Path P E ops st) (hI : Inv E ops st M listed σ w a)
    (hsz : listed.size = ops.size) {i : Nat} {o : Oper} (ho : ops[i]? = some o) (hi : ¬ Ls listed i) (hf : Free (Ls listed) o) {K : Act → World → Prop}
    (hK : ∀ a' w' σ', Inv E ops st M (listed.setIfInBounds i true) σ' w' a' → a'.defers = a.defers → Step w w' σ σ' → K a' w') : wpOp P ops Q i K a w := by
  have hin : i < ops.size := (Array.getElem?_eq_some_iff.1 ho).1
  have hset : ∀ j, Ls (listed.setIfInBounds i true) j ↔ Ls listed j ∨ j = i := fun j => Ls_set (by omega)
  have hlooks := hI.looks hR hp ho hi hf
  obtain ⟨m, hmn, hhr, hm⟩ := hI.heap
  -- the memory that a changing operation meets is that of the text's order
  have hchg : Chg E.pf o → (st m).heap = (st i).heap ∧ ∀ j b, ops[j]? = some b → Chg E.pf b → (Ls (listed.setIfInBounds i true) j ↔ j < i + 1) := by
    intro hc
    have key : ∀ j b, ops[j]? = some b → Chg E.pf b → j ≠ i → (Ls listed j ↔ j < i) := by
      intro j b hb hbc hne
      rcases hR.other hI.dn ho hf hi hb hne with h | h
      · exact h
      · exact (h.chg hc hbc).elim
    refine ⟨?_, fun j b hb hbc => ?_⟩
    · rcases Nat.le_or_le m i with hle | hle
      · refine (hp.heap r i hle (by omega) fun j b h1 h2 hb hbc => ?_).symm
        have k1 := key j b hb hbc (by omega)
        have := (hm j b hb hbc).1 (k1.2 h2)
        omega
      · refine hp.heap r m hle hmn fun j b h1 h2 hb hbc => ?_
        have k2 := (hm j b hb hbc).2 h2
        rcases Nat.eq_or_lt_of_le h1 with rfl | h1
        · exact hi k2
        · have := (key j b hb hbc (by omega)).1 k2
          omega
    · rw [hset]
      by_cases hj : j = i
      · subst hj; simp
      · rw [key j b hb hbc hj]; omega
  have hnot : ¬ Chg E.pf o → ∀ j b, ops[j]? = some b → Chg E.pf b → (Ls (listed.setIfInBounds i true) j ↔ j < m) := by
    intro hc j b hb hbc
    rw [hset, ← hm j b hb hbc]
    constructor
    · rintro (h | rfl)
      · exact h
      · rw [ho] at hb; cases hb; exact absurd hbc hc
    · exact .inl
  have hdid := hp.did i o ho
  generalize hs1 : st (i + 1) = s1 at hdid
  cases hdid with
  | skipped hk =>
    refine wpOp_skips ho hlooks hk ?_
    refine hK _ w σ ?_ (Act.put_defers' _ _ _) (.refl _ _)
    refine hI.after hR hp hsz ho hi hf (v := .undef) (.refl _ _) (.undef _) (h' := (st i).heap) (by rw [hs1]) ?_
    by_cases hc : Chg E.pf o
    · obtain ⟨h1, h2⟩ := hchg hc
      refine ⟨i + 1, hin, ?_, h2⟩
      have : (st (i + 1)).heap = (st i).heap := by rw [hs1]; cases o.dst <;> rfl
      rw [this, ← h1]; exact hhr
    · exact ⟨m, hmn, hhr, hnot hc⟩
  | ran v h' hw hss hspec =>
    obtain ⟨g, hsc⟩ := stepS_run r hss
    have hheap : (st (i + 1)).heap = h' := by rw [hs1]; cases o.dst <;> rfl
    by_cases hc : Chg E.pf o
    · obtain ⟨h1, h2⟩ := hchg hc
      rw [h1] at hhr
      refine wpOp_ran ho hhr hI.gok hlooks hw hspec fun v' w' σ' q1 q2 q3 => ?_
      refine hK _ w' σ' ?_ (Act.put_defers' _ _ _) q3
      refine hI.after hR hp hsz ho hi hf (v := v) q3 q2 (h' := h') (by rw [hs1]) ⟨i + 1, hin, ?_, h2⟩
      rw [hheap]; exact q1
    · -- it leaves the memory alone, and finds in it what it would find in the text's order
      have hstep : ∀ K : V → Heap → Option Ω, step E true o (aEval E.gl (st i).tmps) (st m).heap K = K v (st m).heap := by
        intro K
        cases hpu : pureOp o.op with
        | true => rw [pure_any true o _ hpu (st i).heap, g]
        | false =>
          have hst : stillOp E.pf o.op = true := by
            cases hst : stillOp E.pf o.op with
            | true => rfl
            | false => exact absurd ⟨hpu, hst⟩ hc
          have key : ∀ j b, ops[j]? = some b → Chg E.pf b → j ≠ i → (Ls listed j ↔ j < i) ∨ allocOp b.op = true := by
            intro j b hb hbc hne
            rcases hR.other hI.dn ho hf hi hb hne with h | h
            · exact .inl h
            · exact .inr (h.still hpu hst hbc)
          rcases Nat.le_or_le m i with hle | hle
          · obtain ⟨X, hX⟩ := hp.more r i hle (by omega) fun j b h1 h2 hb hbc => by
              rcases key j b hb hbc (by omega) with h | h
              · have := (hm j b hb hbc).1 (h.2 h2); omega
              · exact h
            have hscm : ∀ x ∈ o.op.operands, sc (st m).heap.length (aEval E.gl (st i).tmps x) := by
              intro x hx
              rw [← hhr.len]
              exact (aEval_ok hI.gok x fun t ht => hlooks t (operand_looks (ht ▸ hx))).sc
            have e := still_ext (E := E) o (aEval E.gl (st i).tmps) (hfn _ _) hst (st m).heap X hscm fun v _ => K v (st m).heap
            rw [← hX, g] at e
            rw [still_heap o _ (hfn _ _) hst, ← e]
          · obtain ⟨X, hX⟩ := hp.more r m hle hmn fun j b h1 h2 hb hbc => by
              have k2 := (hm j b hb hbc).2 h2
              have hne : j ≠ i := fun e => hi (e ▸ k2)
              rcases key j b hb hbc hne with h | h
              · have := h.1 k2; omega
              · exact h
            rw [hX, still_ext o _ (hfn _ _) hst (st i).heap X hsc, g]
      have hspec' : Spec P E.gl o (aEval E.gl (st i).tmps) (st m).heap v (st m).heap := by
        obtain ⟨v1, h1, k1, k2, k3⟩ := step_ok hE true o (aEval E.gl (st i).tmps) (st m).heap (fun _ _ => some r) r (hstep _)
        obtain ⟨rfl, rfl⟩ := same_way r (v := v) (v' := v1) (h := (st m).heap) (h' := h1) fun K => by rw [← hstep K, k2 K]
        exact k3
      refine wpOp_ran ho hhr hI.gok hlooks hw hspec' fun v' w' σ' q1 q2 q3 => ?_
      refine hK _ w' σ' ?_ (Act.put_defers' _ _ _) q3
      exact hI.after hR hp hsz ho hi hf (v := v) q3 q2 (h' := h') (by rw [hs1]) ⟨m, hmn, q1, hnot hc⟩

/-- how many have not come up -/
def left (ops : Array Oper) (listed : Array Bool) : Nat := (List.range ops.size).countP fun i => !listed.getD i false

theorem left_set {listed : Array Bool} {i : Nat} (hsz : listed.size = ops.size) (hin : i < ops.size) (hi : listed.getD i false = false) : left ops (listed.setIfInBounds i true) + 1 = left ops listed := by
  unfold left
  have key : ∀ n, (List.range n).countP (fun j => !(listed.setIfInBounds i true).getD j false) + (if i < n then 1 else 0) = (List.range n).countP fun j => !listed.getD j false := by
    intro n
    induction n with
    | zero => rfl
    | succ n ih =>
      rw [List.range_succ, List.countP_append, List.countP_append, ← ih]
      simp only [List.countP_singleton]
      by_cases hn : n = i
      · subst hn
        have : (listed.setIfInBounds n true).getD n false = true := by
          rw [Array.getD_eq_getD_getElem?, Array.getElem?_setIfInBounds]; simp [hsz, hin]
        simp [this, hi]
      · have : (listed.setIfInBounds i true).getD n false = listed.getD n false := by
          rw [Array.getD_eq_getD_getElem?, Array.getD_eq_getD_getElem?, Array.getElem?_setIfInBounds]; simp [Ne.symm hn]
        rw [this]
        have : (i < n + 1) ↔ i < n := by omega
        simp only [this]
        omega
  have := key ops.size
  rw [if_pos hin] at this
  exact this

theorem ready_some {pf : List (FuncId × Bool)} (hR : ROk pf ops) {listed : Array Bool} (hsz : listed.size = ops.size) {i : Nat} (hin : i < ops.size) (hi : listed.getD i false = false) : Region.ready .any ops listed ≠ [] := by
  -- the first that has not come up
  have : ∃ i, (i < ops.size ∧ listed.getD i false = false) ∧ ∀ j, j < i → listed.getD j false = true := by
    induction i using Nat.strongRecOn with
    | _ i ih =>
      by_cases h : ∃ j, j < i ∧ listed.getD j false = false
      · obtain ⟨j, h1, h2⟩ := h
        exact ih j h1 (by omega) h2
      · refine ⟨i, ⟨hin, hi⟩, fun j hj => ?_⟩
        cases hl : listed.getD j false with
        | true => rfl
        | false => exact absurd ⟨j, hj, hl⟩ h
  obtain ⟨k, ⟨h1, h2⟩, h3⟩ := this
  have ho : ops[k]? = some ops[k] := Array.getElem?_eq_getElem h1
  have hm : k ∈ Region.ready .any ops listed := by
    rw [mem_ready]
    refine ⟨?_, ops[k], ho, fun e he hb => h3 _ (hR.low k _ ho e he hb)⟩
    have hl : k < listed.size := by omega
    rw [Array.getD_eq_getD_getElem?, Array.getElem?_eq_getElem hl] at h2 ⊢
    exact h2
  intro he
  rw [he] at hm
  cases hm

theorem wpAny_inv (hE : EnvOk P E) (r : Ω) {Q : Exit → Act → World → Prop} {M : Nat → Prop} (hR : ROk E.pf ops) (hp : Path P E ops st) : ∀ (fuel : Nat) (listed : Array Bool) (σ : Sig) (w : World) (a : Act),
    Inv E ops st M listed σ w a → listed.size = ops.size → left ops listed = fuel →
    (∀ a' w' σ', StR E.gl M σ' w' (st ops.size) a' → a'.defers = a.defers → Step w w' σ σ' → Q .normal a' w') → wpAny P .any ops Q fuel listed a w := by
  intro fuel
  -- all have come up
  have done : ∀ (listed : Array Bool) (σ : Sig) (w : World) (a : Act), Inv E ops st M listed σ w a → (∀ i, i < ops.size → listed.getD i false = true) → StR E.gl M σ w (st ops.size) a := by
    intro listed σ w a hI hall
    obtain ⟨m, hmn, hhr, hm⟩ := hI.heap
    refine ⟨?_, hI.gok, by rw [hI.size, hp.length _ (Nat.le_refl _)], fun t => ?_⟩
    · rw [hp.heap r ops.size hmn (Nat.le_refl _) fun j b h1 h2 hb hbc => ?_]
      · exact hhr
      · have := (hm j b hb hbc).1 (hall j h2)
        omega
    · obtain ⟨p, hpn, hrep, hwr⟩ := hI.slot t
      rw [hp.slot ops.size hpn (Nat.le_refl _) fun j b h1 h2 hb hbd => ?_]
      · exact hrep
      · have := (hwr j b hb hbd).1 (hall j h2)
        omega
  have nil_all : ∀ (listed : Array Bool), listed.size = ops.size → Region.ready .any ops listed = [] → ∀ i, i < ops.size → listed.getD i false = true := by
    intro listed hsz hr i hi
    cases hl : listed.getD i false with
    | true => rfl
    | false => exact absurd hr (ready_some hR hsz hi hl)
  induction fuel with
  | zero =>
    intro listed σ w a hI hsz hleft hQ
    have hall : ∀ i, i < ops.size → listed.getD i false = true := by
      intro i hi
      unfold left at hleft
      rw [List.countP_eq_zero] at hleft
      have := hleft i (List.mem_range.2 hi)
      simpa using this
    refine ⟨?_, hQ a w σ (done listed σ w a hI hall) rfl (.refl _ _)⟩
    cases hr : Region.ready .any ops listed with
    | nil => rfl
    | cons k ks =>
      have hk : k ∈ Region.ready .any ops listed := by rw [hr]; exact List.mem_cons_self
      rw [mem_ready] at hk
      obtain ⟨h1, o, ho, -⟩ := hk
      have hin : k < ops.size := (Array.getElem?_eq_some_iff.1 ho).1
      have h2 := hall k hin
      rw [Array.getD_eq_getD_getElem?, Array.getElem?_eq_getElem (by omega)] at h1 h2
      rw [Option.getD_some] at h1 h2
      rw [h1] at h2; cases h2
  | succ fuel ih =>
    intro listed σ w a hI hsz hleft hQ
    refine ⟨fun hr => hQ a w σ (done listed σ w a hI (nil_all listed hsz hr)) rfl (.refl _ _), fun i hi => ?_⟩
    rw [mem_ready] at hi
    obtain ⟨h1, o, ho, hfr⟩ := hi
    have hin : i < ops.size := (Array.getElem?_eq_some_iff.1 ho).1
    have h2 : listed.getD i false = false := by
      rw [Array.getD_eq_getD_getElem?, Array.getElem?_eq_getElem (by omega)] at h1 ⊢
      exact h1
    refine hI.next hE r hR hp hsz ho (by unfold Ls; rw [h2]; simp) hfr fun a' w' σ' hI' hd hs => ?_
    refine ih _ σ' w' a' hI' (by simp [hsz]) ?_ fun a'' w'' σ'' q1 q2 q3 => hQ a'' w'' σ'' q1 (q2.trans hd) (hs.trans q3)
    have := left_set hsz hin h2
    omega

theorem region_any (hE : EnvOk P E) (r : Ω) (hm : P.follows .mixedOrders = true) {id : Nat} {ops : Array Oper} {Q : Exit → Act → World → Prop} {M : Nat → Prop} {s s' : St} (hok : regionOk E.pf ops = true) (h : Tr P E true ops ops.toList s s')
    {σ : Sig} {w : World} {a : Act} (hs : StR E.gl M σ w s a) (hQ : ∀ a' w' σ', StR E.gl M σ' w' s' a' → a'.defers = a.defers → Step w w' σ σ' → Q .normal a' w') : (Code.region id ops true).wp P Q a w := by
  refine wp_region_any hm ?_
  obtain ⟨st, h0, h1, h2⟩ := h.path
  have hp : Path P E ops st := ⟨fun i o ho => h2 i o (by simpa using ho)⟩
  have hd : Step w { w with drawn := w.drawn + 1 } σ σ := Step.drew w σ
  have hnone : ∀ j, ¬ Ls (Array.replicate ops.size false) j := by
    intro j hj
    unfold Ls at hj
    rw [Array.getD_eq_getD_getElem?, Array.getElem?_replicate] at hj
    split at hj <;> cases hj
  refine wpAny_inv hE r (ROk.of hok) hp ops.size _ σ _ a ⟨fun i o _ hL => absurd hL (hnone i), ⟨0, by omega, ?_, fun j o _ _ => ⟨fun hL => absurd hL (hnone j), fun h => by omega⟩⟩, hs.gok.mono (hd.keeps M), ?_, fun t => ⟨0, by omega, ?_, fun j o _ _ => ⟨fun hL => absurd hL (hnone j), fun h => by omega⟩⟩⟩ (by simp) ?_ fun a' w' σ' q1 q2 q3 => ?_
  · rw [h0]; exact hs.hr.mono hd fun _ _ => rfl
  · rw [h0]; exact hs.size
  · rw [h0]; exact hd.rep (hs.sl t)
  · unfold left
    rw [List.countP_eq_length.2]
    · simp
    · intro j _
      have := hnone j
      unfold Ls at this
      simpa using this
  · rw [Array.length_toList] at h1
    rw [h1] at q1
    exact hQ a' w' σ' q1 q2 (hd.trans q3)
end
end Go.Proofs.YtnebpmcmdmpoaaaDoor.R
