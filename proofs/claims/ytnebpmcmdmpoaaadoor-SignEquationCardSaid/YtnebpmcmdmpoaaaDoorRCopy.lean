/- strings.Builder's copy check, as its callers may know it, and functions that are walked inside their callers. -/
import Derived.Test.YtnebpmcmdmpoaaaDoorRFun
namespace Go.Proofs.YtnebpmcmdmpoaaaDoor.R
open Go
set_option linter.unusedVariables false
set_option linter.unusedSimpArgs false

section
variable {Ω : Type}

/-- what a caller's table holds of a function that is walked in its caller's memory -/
abbrev Tabs (Ω : Type) := List (FuncId × (List V → Heap → (V → Heap → Option Ω) → Option Ω))

def envT (T : Types) (gl : List (Nat × List V)) (es : Ents Ω) (ts : Tabs Ω) : Env Ω where
  T := T
  gl := gl
  pf := es.map fun e => (e.1, e.2.1)
  pt := fun n xs K => match es.lookup n with | some e => e.2 xs K | none => none
  tab := fun n xs h K => match ts.lookup n with | some f => f xs h K | none => none

theorem envT_ok {P : Program} {T : Types} {gl : List (Nat × List V)} {es : Ents Ω} {ts : Tabs Ω} (hT : TOk P T) (h : ∀ e ∈ es, ∀ xs, One (e.2.2 xs) (PContract P gl e.1 xs)) (ht : ∀ e ∈ ts, ∀ xs h, OneW (e.2 xs h) (Contract P gl e.1 xs h)) : EnvOk P (envT T gl es ts) := by
  refine ⟨hT, fun n b xs hn => ?_, fun n xs h _ => ?_⟩
  · show One (fun K => match es.lookup n with | some e => e.2 xs K | none => none) _
    cases hl : es.lookup n with
    | none => intro K r hr; cases hr
    | some e => exact h (n, e) (lookup_mem hl) xs
  · show OneW (fun K => match ts.lookup n with | some f => f xs h K | none => none) _
    cases hl : ts.lookup n with
    | none => intro K r hr; cases hr
    | some e => exact ht (n, e) (lookup_mem hl) xs h

/-- a function walked where it is called -/
noncomputable def inl (E : Env Ω) (un : List Nat) (k : Nat) (fn : Func) (xs : List V) (h : Heap) (K : V → Heap → Option Ω) : Option Ω := run { E with pin := h.length } un k fn xs h K

theorem inl_ok {P : Program} {E : Env Ω} (hE : EnvOk P E) (hm : P.follows .mixedOrders = true) {n : FuncId} (hc : CallOk P n) {fn : Func} (hf : P.funcs[n]? = some fn) (un : List Nat) (k : Nat) (xs : List V) (h : Heap) :
    OneW (inl E un k fn xs h) (Contract P E.gl n xs h) := by
  have hE' : EnvOk P { E with pin := h.length } := ⟨hE.types, hE.pt, hE.tab⟩
  exact run_one (E := { E with pin := h.length }) hE' hm un k hc hf xs h (Nat.le_refl _)

/-- the copy check of a builder (bt: its type) -/
def copyCheckV (bt : TypeId) (xs : List V) (h : Heap) (K : V → Heap → Option Ω) : Option Ω :=
  match xs with
  | [.ptr id 0] =>
    match h.getD id .dead with
    | .box e [.lit (.pointer none), y] => if e = bt then K (.tup []) (h.set id (.box e [.ptr id 0, y])) else none
    | .box e [.ptr id' 0, y] => if e = bt ∧ id' = id then K (.tup []) h else none
    | _ => none
  | _ => none

theorem setCell_heap_other (w : World) (g : Nat) (v : Value) (b : Nat) (hb : b ≠ g) : (w.setCell ⟨g, 0, none⟩ v).heap[b]? = w.heap[b]? := by
  unfold World.setCell
  simp only [Array.getElem?_modify]
  rw [if_neg (fun e => hb e.symm)]

theorem setCell_heap (w : World) (g : Nat) (v : Value) {cur : Array Value} {et : TypeId} {fr : Nat × Nat} (hg : w.heap[g]? = some (.cells cur et fr)) : (w.setCell ⟨g, 0, none⟩ v).heap[g]? = some (.cells (cur.setIfInBounds 0 v) et fr) := by
  unfold World.setCell
  simp [Array.getElem?_modify, hg]

theorem copyCheck_ok {P : Program} {bt : TypeId} {n : FuncId} (hc : CallOk P n)
    (used : ∀ (b : Nat) (w : World), w.cell? ⟨b, 0, none⟩ = some (.pointer (some ⟨b, 0, none⟩)) → Calls P n #[.pointer (some ⟨b, 0, none⟩)] w fun e w' => e = .returned (.tuple #[]) ∧ w' = w)
    (fresh : ∀ (b : Nat) (w : World), w.cell? ⟨b, 0, none⟩ = some (.pointer none) → w.shape? b = some (bt, 2) → w.frozen? ⟨b, 0, none⟩ = false → Calls P n #[.pointer (some ⟨b, 0, none⟩)] w fun e w' => e = .returned (.tuple #[]) ∧ w' = w.setCell ⟨b, 0, none⟩ (.pointer (some ⟨b, 0, none⟩)))
    (gl : List (Nat × List V)) (xs : List V) (h : Heap) : OneW (Ω := Ω) (copyCheckV bt xs h) (Contract P gl n xs h) := by
  unfold copyCheckV
  split
  · rename_i id
    split
    · rename_i e y hB
      refine OneW.ite (fun he => OneW.here (.of hc fun M σ w vs hr hg hx => ?_)) fun _ => OneW.no
      obtain ⟨v, r, rfl, hv, hrest⟩ := hx.inv_cons
      obtain rfl := hrest.inv_nil
      obtain ⟨b, hp, rfl, cur, h1, h2, h3⟩ := hr.ptr hv hB
      have hc2 : cur.size = 2 := h2
      have h0 : cur[0]? = some (.pointer none) := by
        have h4 := h3 0 cur[0] _ (Array.getElem?_eq_getElem (by omega)) rfl
        rw [Array.getElem?_eq_getElem (by omega)]
        generalize cur[0] = u at h4
        cases h4
        rfl
      refine (fresh b w (by simp [World.cell?, h1, h0]) (by simp [World.shape?, h1, hc2, he]) (by simp [World.frozen?, h1])).mono fun en w' ⟨e1, e2⟩ => ?_
      subst e2
      have hst : Step w (w.setCell ⟨b, 0, none⟩ (.pointer (some ⟨b, 0, none⟩))) σ σ :=
        ⟨rfl, rfl, rfl, by simp [World.setCell], fun b' _ hn => setCell_heap_other w b _ b' fun eb => hn (eb ▸ ⟨id, _, _, _, hp⟩), .refl σ, fun _ hb => .inl hb⟩
      refine ⟨_, e1, σ, hr.write hst hp (fun b' hb' => setCell_heap_other w b _ b' hb') ⟨rfl, rfl, rfl, _, setCell_heap w b _ h1, by simpa using h2, fun i u X hu hX => ?_⟩, .tup #[] [] rfl (fun j v V hv => by simp at hv), hst⟩
      rw [Array.getElem?_setIfInBounds] at hu
      cases i with
      | zero =>
        rw [if_pos rfl, if_pos (by omega)] at hu
        cases hu
        cases hX
        exact .ptr id 0 _ _ hp rfl
      | succ i =>
        rw [if_neg (by omega)] at hu
        exact hst.rep (h3 (i + 1) u X hu hX)
    · rename_i e id' y hB
      refine OneW.ite (fun he => OneW.here (.of hc fun M σ w vs hr hg hx => ?_)) fun _ => OneW.no
      obtain ⟨v, r, rfl, hv, hrest⟩ := hx.inv_cons
      obtain rfl := hrest.inv_nil
      obtain ⟨b, hp, rfl, cur, h1, h2, h3⟩ := hr.ptr hv hB
      have hc2 : cur.size = 2 := h2
      have h0 : cur[0]? = some (.pointer (some ⟨b, 0, none⟩)) := by
        have h4 := h3 0 cur[0] _ (Array.getElem?_eq_getElem (by omega)) rfl
        rw [he.2] at h4
        obtain ⟨b', hp', e', _⟩ := hr.ptr h4 hB
        rw [Array.getElem?_eq_getElem (by omega), e']
        rw [hp] at hp'
        cases hp'
        rfl
      exact (used b w (by simp [World.cell?, h1, h0])).mono fun en w' ⟨e1, e2⟩ => ⟨_, e1, σ, e2 ▸ hr, .tup #[] [] rfl (fun j v V hv => by simp at hv), e2 ▸ .refl w σ⟩
    · exact OneW.no
  · exact OneW.no
end
end Go.Proofs.YtnebpmcmdmpoaaaDoor.R
