/- From a law as a Lean function to the given row: what readings of the arguments tell, what is laid, the lifting. -/
import Derived.Test.YtnebpmcmdmpoaaaDoorRFun
import Derived.Deep.Slices
import Derived.WalkKit
import Derived.ProofKit
import Derived.OpenShut
import Derived.ShutString
import Derived.ChangeOld
import Derived.Below
import Derived.SizedLaws
import Derived.LaidMore
import Derived.Stop.Joined
import Derived.Carry
namespace Go.Proofs.YtnebpmcmdmpoaaaDoor.R
open Go Go.RowKit Go.ChangeShapes Go.WideShapes Go.ChangeAt
set_option linter.unusedVariables false

/-! ### What a reading tells -/

def okT : (t : Ty) → t.den → Prop
  | .int k, n => (Lit.int k n).wf = true
  | .bool, _ => True
  | .str, s => s.size ≤ reachBytes
  | .sl t, s => s.l.length ≤ reachBytes ∧ (s.nl = true → s.l = []) ∧ ∀ x ∈ s.l, okT t x
  | .pair a b, x => okT a x.1 ∧ okT b x.2
  | .unit, _ => True

def okL : (l : List Ty) → Tys l → Prop
  | [], _ => True
  | a :: r, x => okT a x.1 ∧ okL r x.2

/-- nothing may be written -/
abbrev NoU : Nat → Prop := fun _ => False

/-- no text or slice in it is longer than the form lets in -/
def Sized {H : Type} (P : Program) (t : TypeId) (d : DataW H) : Prop := ∀ n ∈ d.weights P t, n ≤ reachBytes

def OpensR (P : Program) (t : TypeId) (ty : Ty) : Prop :=
  P.cellsOf t = ty.size ∧ ∀ (H : Type) (enc : TypeId × Value → H) (w : World) (x : DataW H × List MemPlace) (fuel : Nat) (cs : List Value),
    DataW.trod enc P w 0 (fun _ => true) true fuel t cs = some x → Sized P t x.1 → ∃ v : ty.den, RepT w NoU ty v cs ∧ okT ty v

theorem OpensR.int {P : Program} {t : TypeId} {k : IntKind} (hu : P.underlying t = some (.int k)) (hc : P.cellsOf t = 1) : OpensR P t (.int k) :=
  ⟨hc, fun H enc w x fuel cs h _ => by
    obtain ⟨n, rfl, _, hw⟩ := DataW.trod_int hu h
    exact ⟨n, rfl, hw⟩⟩
theorem OpensR.bool {P : Program} {t : TypeId} (hu : P.underlying t = some .bool) (hc : P.cellsOf t = 1) : OpensR P t .bool :=
  ⟨hc, fun H enc w x fuel cs h _ => by
    obtain ⟨n, rfl, _⟩ := DataW.trod_bool hu h
    exact ⟨n, rfl, trivial⟩⟩
theorem OpensR.str {P : Program} {t : TypeId} (hu : P.underlying t = some .string) (hc : P.cellsOf t = 1) : OpensR P t .str :=
  ⟨hc, fun H enc w x fuel cs h hz => by
    obtain ⟨s, rfl, rfl, hs⟩ := DataW.trod_string hu h
    refine ⟨s, rfl, ?_⟩
    have := hz s.data.toList.length (by simp [DataW.weights])
    show s.size ≤ reachBytes
    rw [Array.length_toList] at this
    exact this⟩

theorem cells?_get {w : World} {base : Nat} {a : Addr} {n : Nat} {cs : List Value} (h : w.cells? base a n = some cs) : cs.length = n ∧ ∀ i u, cs[i]? = some u → w.cell? (a.add i) = some u := by
  obtain ⟨_, h1, h2⟩ := World.cells?_some h
  refine ⟨h1, fun i u hi => ?_⟩
  have hl : i < n := by rw [← h1]; exact (List.getElem?_eq_some_iff.1 hi).1
  rw [h2 i hl, hi]

theorem weightsAll_mem {H : Type} {P : Program} {e : TypeId} : ∀ {ds : List (DataW H)} {d : DataW H}, d ∈ ds → ∀ n ∈ d.weights P e, n ∈ DataW.weightsAll P e ds
  | d0 :: ds, d, hd, n, hn => by
    simp only [DataW.weightsAll, List.mem_append]
    rcases List.mem_cons.1 hd with rfl | hd
    · exact .inl hn
    · exact .inr (weightsAll_mem hd n hn)

theorem OpensR.sl {P : Program} {t e : TypeId} {ty : Ty} (hu : P.underlying t = some (.slice e)) (hc : P.cellsOf t = 1) (hb : P.bytesOf e ≠ 0) (he : OpensR P e ty) : OpensR P t (.sl ty) :=
  ⟨hc, fun H enc w x fuel cs h hz => by
    rcases Go.Deep.open_slice hu h with ⟨rfl, _⟩ | ⟨a, len, cap, m, n, D, Pl, rfl, _, hl, hm, hmm, rfl, hel⟩
    · exact ⟨(⟨true, []⟩ : Sl ty.den), ⟨none, 0, 0, rfl, rfl, rfl, rfl, rfl⟩, by simp, fun _ => rfl, fun x hx => by simp at hx⟩
    · have hw : ∀ n, n ∈ (((List.range len).map D).length + ((List.range (m - len)).map fun j => D (len + j)).length) * P.bytesOf e :: (DataW.weightsAll P e ((List.range len).map D) ++ DataW.weightsAll P e ((List.range (m - len)).map fun j => D (len + j))) → n ≤ reachBytes := by
        intro n hn
        exact hz n (by simp only [DataW.weights, hu]; exact hn)
      have hlen0 : len ≤ reachBytes := by
        have h1 := hw _ List.mem_cons_self
        simp only [List.length_map, List.length_range] at h1
        have h2 : len * 1 ≤ (len + (m - len)) * P.bytesOf e := Nat.mul_le_mul (by omega) (by omega)
        omega
      have hex : ∀ i, i < len → ∃ v : ty.den, ∃ cs', w.cells? 0 (a.add (i * P.cellsOf e)) (P.cellsOf e) = some cs' ∧ RepT w NoU ty v cs' ∧ okT ty v := by
        intro i hi
        obtain ⟨cs', h1, h2⟩ := hel i (by simp at hmm; omega)
        obtain ⟨v, hv, ho⟩ := he.2 H enc w _ n cs' h2 fun n hn => hw n (List.mem_cons_of_mem _ (List.mem_append_left _ (weightsAll_mem (List.mem_map.2 ⟨i, List.mem_range.2 hi, rfl⟩) n hn)))
        exact ⟨v, cs', h1, hv, ho⟩
      haveI : Inhabited ty.den := ⟨ty.zero⟩
      obtain ⟨f, hf⟩ := Go.Deep.choose_lt hex
      have hlen : ((List.range len).map f).length = len := by simp
      refine ⟨(⟨false, (List.range len).map f⟩ : Sl ty.den), ⟨some a, len, cap, rfl, rfl, hlen.symm, hl, fun i x hx => ?_⟩, ?_, fun h => (by cases h), fun x hx => ?_⟩
      · obtain ⟨hj1, hj2⟩ := List.getElem?_eq_some_iff.1 hx
        have hj3 : i < len := by simpa using hj1
        have hp : f i = x := by simpa using hj2
        obtain ⟨cs', h1, h2, h3⟩ := hf i hj3
        obtain ⟨k1, k2⟩ := cells?_get h1
        refine ⟨cs', by rw [← hp]; exact h2, fun j v hv => ⟨?_, fun h => h⟩⟩
        have := k2 j v hv
        rw [he.1, Addr.add_add] at this
        exact this
      · show ((List.range len).map f).length ≤ reachBytes
        rw [hlen]; exact hlen0
      · obtain ⟨i, hi, rfl⟩ := List.mem_map.1 hx
        obtain ⟨_, _, _, h3⟩ := hf i (by simpa using hi)
        exact h3⟩

/-- the fields from one on, that begin at cell off -/
def OpensAt (P : Program) (fs : List Field) (off : Nat) (ty : Ty) : Prop :=
  ∀ (H : Type) (enc : TypeId × Value → H) (w : World) (n : Nat) (cs : List Value), cs.length = off + ty.size →
    (∀ f ∈ fs, ∃ x, DataW.trod enc P w 0 (fun _ => true) true n f.type ((cs.drop f.offset).take (P.cellsOf f.type)) = some x ∧ Sized P f.type x.1) → ∃ v : ty.den, RepT w NoU ty v (cs.drop off) ∧ okT ty v
theorem OpensAt.none {P : Program} {off : Nat} : OpensAt P [] off .unit := by
  intro H enc w n cs hl hf
  exact ⟨(), by show cs.drop off = []; exact List.drop_eq_nil_of_le (by simp [Ty.size] at hl; omega), trivial⟩
theorem OpensAt.one {P : Program} {f : Field} {off : Nat} {ty : Ty} (ho : f.offset = off) (h : OpensR P f.type ty) : OpensAt P [f] off ty := by
  intro H enc w n cs hl hf
  obtain ⟨x, hx, hz⟩ := hf f (by simp)
  rw [ho, h.1, List.take_of_length_le (by rw [List.length_drop]; omega)] at hx
  exact h.2 H enc w x n _ hx hz
theorem OpensAt.cons {P : Program} {f : Field} {fs : List Field} {off : Nat} {a b : Ty} (ho : f.offset = off) (h : OpensR P f.type a) (ht : OpensAt P fs (off + a.size) b) : OpensAt P (f :: fs) off (.pair a b) := by
  intro H enc w n cs hl hf
  have hl' : cs.length = off + a.size + b.size := by rw [hl]; simp [Ty.size]; omega
  obtain ⟨x, hx, hz⟩ := hf f (by simp)
  rw [ho, h.1] at hx
  obtain ⟨v1, k1, o1⟩ := h.2 H enc w x n _ hx hz
  obtain ⟨v2, k2, o2⟩ := ht H enc w n cs hl' (fun g hg => hf g (by simp [hg]))
  refine ⟨(v1, v2), ⟨_, _, ?_, k1, k2⟩, o1, o2⟩
  rw [← List.drop_drop, List.take_append_drop]
theorem OpensR.struct {P : Program} {t : TypeId} {fs : Array Field} {ty : Ty} (hu : P.underlying t = some (.struct fs)) (hc : P.cellsOf t = ty.size) (h : OpensAt P fs.toList 0 ty) : OpensR P t ty :=
  ⟨hc, fun H enc w x fuel cs ht hz => by
    obtain ⟨xs, n, _, rfl, hlen, hxl, hfs⟩ := DataW.trod_struct hu ht
    exact h H enc w n cs (by rw [hlen, hc, Nat.zero_add]) (fun f hf => by
      obtain ⟨i, hi, rfl⟩ := List.getElem_of_mem hf
      have hi' : i < fs.size := by simpa using hi
      have hx : i < xs.length := by rw [hxl]; exact hi'
      refine ⟨xs[i], ?_, fun n hn => hz n ?_⟩
      · rw [hfs i _ (by simp [hi']), List.getElem?_eq_getElem]
      · simp only [DataW.weights, hu]
        refine DataW.weights_mem_each (j := i) (t := fs.toList[i].type) (d := xs[i].1) ?_ ?_ n hn
        · rw [List.getElem?_map, List.getElem?_eq_getElem hi]; rfl
        · rw [List.getElem?_map, List.getElem?_eq_getElem hx]; rfl)⟩

/-! ### Arguments -/

def headOk (P : Program) (t : TypeId) : Ty → Prop
  | .int k => P.underlying t = some (.int k)
  | .bool => P.underlying t = some .bool
  | .str => P.underlying t = some .string
  | .sl _ => ∃ e, P.underlying t = some (.slice e)
  | _ => ∃ fs, P.underlying t = some (.struct fs)

/-- a parameter whose values are known as data -/
structure Arg (P : Program) (t : TypeId) (ty : Ty) : Prop where
  opens : OpensR P t ty
  head : headOk P t ty
  rec_ : P.readableRec t = true
  row : t < P.types.size

theorem Arg.rep {P : Program} {t : TypeId} {ty : Ty} (h : Arg P t ty) {H : Type} {enc : TypeId × Value → H} {W : World} {base : Nat} {v : Value} {d : DataW H} {p : List MemPlace}
    (hv : Value.okWide P W .any base t v) (hd : DataW.Trod enc P W 0 (fun _ => true) true t v d p) (hz : Sized P t d) : ∃ x : ty.den, RepV W NoU ty x v ∧ okT ty x := by
  obtain ⟨fuel, hf⟩ := hd
  obtain ⟨x, h1, h2⟩ := h.opens.2 H enc W _ fuel _ hf hz
  refine ⟨x, ⟨v.cells.toList, h1, ?_⟩, h2⟩
  have hh := h.head
  cases ty with
  | int k => obtain ⟨n, rfl⟩ := okWide_int hh hv; exact .inr ⟨rfl, rfl⟩
  | bool => obtain ⟨n, rfl⟩ := okWide_bool hh hv; exact .inr ⟨rfl, rfl⟩
  | str => obtain ⟨n, rfl⟩ := okWide_string hh hv; exact .inr ⟨rfl, rfl⟩
  | sl t => obtain ⟨e, he⟩ := hh; obtain ⟨a, b, c, rfl⟩ := okWide_slice he hv; exact .inr ⟨rfl, rfl⟩
  | pair a b => obtain ⟨fs, he⟩ := hh; obtain ⟨cs, rfl, _⟩ := okWide_struct he hv; exact .inl ⟨rfl, by simp [Value.cells]⟩
  | unit => obtain ⟨fs, he⟩ := hh; obtain ⟨cs, rfl, _⟩ := okWide_struct he hv; exact .inl ⟨rfl, by simp [Value.cells]⟩

def ArgsOk (P : Program) : List TypeId → List Ty → Prop
  | [], [] => True
  | t :: ts, ty :: tys => Arg P t ty ∧ ArgsOk P ts tys
  | _, _ => False

theorem args_open {P : Program} (hl : laidOutB P = true) {H : Type} {enc : TypeId × Value → H} {W : World} {base : Nat} : ∀ (pts : List TypeId) (tys : List Ty) (vs : List Value) (ds : List (DataW H)) (p : List MemPlace), ArgsOk P pts tys →
    DataW.TrodAll enc P W 0 (fun _ => true) true pts vs ds p → (∀ (j : Nat) t v, pts[j]? = some t → vs[j]? = some v → Value.okWide P W .any base t v) → (∀ n ∈ DataW.weightsEach P pts ds, n ≤ reachBytes) →
    ds.length = pts.length ∧ (∃ a : Tys tys, Reps W NoU [] vs (injL tys a) ∧ okL tys a) ∧ ∀ W', Below W.heap.size W W' → DataW.TrodAll enc P W' 0 (fun b => decide (b < W.heap.size)) true pts vs ds p
  | [], [], vs, ds, p, _, h, _, _ => by
    cases vs with
    | cons a b => exact h.elim
    | nil =>
      cases ds with
      | cons a b => exact h.elim
      | nil => exact ⟨rfl, ⟨(), Reps.nil, trivial⟩, fun W' _ => h⟩
  | t :: ts, ty :: tys, vs, ds, p, ha, h, hv, hz => by
    cases vs with
    | nil => exact h.elim
    | cons v vs =>
      cases ds with
      | nil => exact h.elim
      | cons d ds =>
        obtain ⟨p1, q1, h1, h2, rfl⟩ := h
        obtain ⟨x, g1, g2⟩ := ha.1.rep (hv 0 t v rfl rfl) h1 fun n hn => hz n (by simp only [DataW.weightsEach, List.mem_append]; exact .inl hn)
        obtain ⟨e0, ⟨a, e1, e2⟩, e3⟩ := args_open hl ts tys vs ds q1 ha.2 h2 (fun j t v ht hv' => hv (j + 1) t v (by simpa using ht) (by simpa using hv')) fun n hn => hz n (by simp only [DataW.weightsEach, List.mem_append]; exact .inr hn)
        refine ⟨by simp [e0], ⟨(x, a), .cons g1.inject e1, g2, e2⟩, fun W' hb => ⟨p1, q1, ?_, e3 W' hb, rfl⟩⟩
        exact Below.trod hl ha.1.rec_ ha.1.row h1 hb fun x hx => by
          obtain ⟨m, hm⟩ := h1
          exact DataW.trod_lt m _ _ _ hm x hx
  | [], _ :: _, _, _, _, h, _, _, _ => h.elim
  | _ :: _, [], _, _, _, h, _, _, _ => h.elim

theorem Step.below {w w' : World} (h : Step w w' [] []) : Below w.heap.size w w' :=
  ⟨h.os, h.tape, h.output, h.size, fun k hk => h.keep k hk fun ⟨_, _, _, _, h⟩ => by simp at h⟩

/-! ### Variables of the program -/

theorem trod_ints {P : Program} {H : Type} {enc : TypeId × Value → H} {w : World} {base : Nat} {spare : Nat → Bool} {held : Bool} {fuel : Nat} {t e : TypeId} {n : Nat} {k : IntKind} {cs : List Value} {ns : List Int} {q : List MemPlace}
    (ht : P.underlying t = some (.array n e)) (he : P.underlying e = some (.int k)) (hc : P.cellsOf e = 1) (hn : P.cellsOf t = ns.length)
    (h : DataW.trod enc P w base spare held fuel t cs = some (.agg (ns.map fun z => .lit (.int k z)), q)) : cs = ns.map (Value.int k) := by
  obtain ⟨xs, m, _, ex, hl, hxl, hel⟩ := DataW.trod_array ht h
  have e3 : xs.map (·.1) = ns.map fun z => (.lit (.int k z) : DataW H) := (DataW.agg.inj (Prod.mk.inj ex).1).symm
  have hnl : ns.length = xs.length := by have := congrArg List.length e3; simpa using this.symm
  apply List.ext_getElem?
  intro j
  by_cases hj : j < ns.length
  · have hE := hel j (by omega)
    rw [hc, Nat.mul_one, List.getElem?_eq_getElem (by omega)] at hE
    obtain ⟨z, e1, e2, _⟩ := DataW.trod_int he hE
    have e4 : (xs.map (·.1))[j]? = (ns.map fun z => (.lit (.int k z) : DataW H))[j]? := by rw [e3]
    rw [List.getElem?_map, List.getElem?_map, List.getElem?_eq_getElem (by omega : j < xs.length), List.getElem?_eq_getElem hj, e2] at e4
    have hz : z = ns[j] := by simpa using e4
    rw [List.getElem?_map, List.getElem?_eq_getElem hj]
    have : ((cs.drop j).take 1)[0]? = some (.int k z) := by rw [e1]; rfl
    rw [hz] at this
    simpa using this
  · rw [List.getElem?_eq_none (by omega), List.getElem?_eq_none (by simp; omega)]

theorem trod_rows {P : Program} {H : Type} {enc : TypeId × Value → H} {w : World} {base : Nat} {spare : Nat → Bool} {held : Bool} {fuel : Nat} {t r e : TypeId} {m n : Nat} {k : IntKind} {cs : List Value} {rows : List (List Int)} {q : List MemPlace}
    (ht : P.underlying t = some (.array m r)) (hr : P.underlying r = some (.array n e)) (he : P.underlying e = some (.int k)) (hc : P.cellsOf e = 1) (hrn : P.cellsOf r = n) (hn : P.cellsOf t = rows.length * n) (hrows : ∀ l ∈ rows, l.length = n)
    (h : DataW.trod enc P w base spare held fuel t cs = some (.agg (rows.map fun l => .agg (l.map fun z => .lit (.int k z))), q)) : cs = rows.flatMap fun l => l.map (Value.int k) := by
  obtain ⟨xs, f, _, ex, hl, hxl, hel⟩ := DataW.trod_array ht h
  have e3 : xs.map (·.1) = rows.map fun l => (.agg (l.map fun z => .lit (.int k z)) : DataW H) := (DataW.agg.inj (Prod.mk.inj ex).1).symm
  have hnl : rows.length = xs.length := by have := congrArg List.length e3; simpa using this.symm
  have each : ∀ j (hj : j < rows.length), (cs.drop (j * n)).take n = rows[j].map (Value.int k) := by
    intro j hj
    have hE := hel j (by omega)
    rw [hrn, List.getElem?_eq_getElem (by omega)] at hE
    have e4 : (xs.map (·.1))[j]? = (rows.map fun l => (.agg (l.map fun z => .lit (.int k z)) : DataW H))[j]? := by rw [e3]
    rw [List.getElem?_map, List.getElem?_map, List.getElem?_eq_getElem (by omega : j < xs.length), List.getElem?_eq_getElem hj] at e4
    have e5 : (xs[j]'(by omega)).1 = .agg (rows[j].map fun z => .lit (.int k z)) := by simpa using e4
    generalize hx : xs[j]'(by omega) = xj at hE e5
    obtain ⟨d, pl⟩ := xj
    dsimp only at e5
    subst e5
    exact trod_ints hr he hc (by rw [hrn, hrows _ (List.getElem_mem hj)]) hE
  have hl' : cs.length = rows.length * n := by rw [hl, hn]
  clear e3 hel ex hnl hxl h hl hn
  induction rows generalizing cs with
  | nil => simp at hl'; simp [hl']
  | cons r rows ih =>
    have h0 := each 0 (by simp)
    simp only [Nat.zero_mul, List.drop_zero, List.getElem_cons_zero] at h0
    have hrest := ih (cs := cs.drop n) (fun l hl => hrows l (List.mem_cons_of_mem _ hl)) (fun j hj => by
      have := each (j + 1) (by simpa using hj)
      rw [List.drop_drop, Nat.add_comm n, ← Nat.succ_mul]
      simpa using this) (by rw [List.length_drop, hl']; simp [Nat.succ_mul])
    rw [List.flatMap_cons, ← h0, ← hrest, List.take_append_drop]

/-- a variable whose cells are known is read as they say -/
theorem fp_of_cells {w : World} {g : Nat} {vs : List Value} {cs : List V} (hc : ∀ j v, vs[j]? = some v → w.cell? ⟨g, j, none⟩ = some v) (hr : Reps w NoU [] vs cs) : Rep w NoU [] (.pointer (some ⟨g, 0, none⟩)) (.fp cs) :=
  Rep.fp_mk (fun j v hv => by rw [Addr.add_mk, Nat.zero_add]; exact hc j v hv) hr fun _ _ _ h => h

theorem reps_ints {w : World} {U : Nat → Prop} {σ : Sig} (k : IntKind) (ns : List Int) : Reps w U σ (ns.map (Value.int k)) (ns.map (V.int k)) := by
  induction ns with
  | nil => exact .nil
  | cons n r ih => exact .cons (.int k n) ih

/-! ### The lifting -/

section
variable {H : Type} {enc : TypeId × Value → H}

theorem weightsEach_more {P : Program} : ∀ {ts us : List TypeId} {ds es : List (DataW H)} {n : Nat}, n ∈ DataW.weightsEach P ts ds → n ∈ DataW.weightsEach P (ts ++ us) (ds ++ es)
  | [], _, ds, _, n, h => by simp [DataW.weightsEach] at h
  | _ :: _, _, [], _, n, h => by simp [DataW.weightsEach] at h
  | t :: ts, us, d :: ds, es, n, h => by
    simp only [DataW.weightsEach, List.cons_append, List.mem_append] at h ⊢
    rcases h with h | h
    · exact .inl h
    · exact .inr (weightsEach_more h)

theorem lift_core {C : Checked} {n : FuncId} {fn : Func} {s : ChangeSpec} {tys : List Ty} {rt : TypeId} (hl : laidOutB C.prog = true)
    (hargs : ArgsOk C.prog fn.params.toList tys) (hrt : fn.resultTypes = #[rt]) (hru : C.prog.underlying rt = some .bool) (hvars : s.vars = []) (hs : ∀ ds : List (DataW H), ds.length = fn.params.toList.length → s.fn H ds = { results := [.lit (.bool true)], args := ds, vars := [] })
    {W : World} {base : Nat} {args : Array Value} {ds gs : List (DataW H)} {before : List MemPlace}
    (hval : ∀ (j : Nat) t v, fn.params[j]? = some t → args[j]? = some v → Value.okWide C.prog W .any base t v)
    (hW : DataW.Whole enc C.prog fn.params.toList s.vars false W args.toList ds gs before)
    (hz : (DataW.weightsEach C.prog (fn.params.toList ++ s.plain.varTypes C.prog) (ds ++ gs)).all (· ≤ reachBytes) = true)
    {gl : List (Nat × List V)} (hgl : GOk gl W NoU) (law : ∀ a : Tys tys, okL tys a → PContract C.prog gl n (injL tys a) (.bool true)) :
    Calls C.prog n args W fun e W' => ∃ v, e = .returned v ∧ s.post enc C.prog fn false true false false W args v W' := by
  have hW' := hW
  obtain ⟨p, q, hA, hV, rfl, hfz, hnd⟩ := hW
  rw [hvars] at hV
  obtain ⟨rfl, rfl⟩ : gs = [] ∧ q = [] := by
    cases gs with
    | nil => exact ⟨rfl, hV⟩
    | cons a b => exact hV.elim
  have hzz : ∀ n ∈ DataW.weightsEach C.prog fn.params.toList ds, n ≤ reachBytes := by
    intro n hn
    have := List.all_eq_true.1 hz n (weightsEach_more hn)
    simpa using this
  obtain ⟨e0, ⟨a, e1, e2⟩, e3⟩ := args_open hl fn.params.toList tys args.toList ds p hargs hA (fun j t v ht hv => hval j t v (by simpa using ht) (by simpa using hv)) hzz
  have hc := (law a e2).2 NoU W args.toList (fun b h => h.elim) hgl e1
  have : args.toList.toArray = args := by simp
  rw [this] at hc
  refine hc.mono fun e W' ⟨v', he, hv, hst⟩ => ?_
  subst he
  cases hv
  have bel := hst.below
  refine ⟨_, rfl, ds, [], p ++ [], [], p, [], hW', ?_, ?_, ?_, bel.frame _, fun h => by cases h⟩
  · rw [List.append_nil, hs ds e0, hrt]; exact trodAll_mk1 (shut_bool hru _)
  · rw [List.append_nil, hs ds e0]; exact e3 W' bel
  · rw [List.append_nil, hs ds e0, hvars]; rfl

/-- a row that lists variables of the program -/
theorem lift_laid {C : Checked} {os : Os} {n : FuncId} {fn : Func} {s : ChangeSpec} {tys : List Ty} {rt : TypeId} {dom : List PathCond} {laid : List (String × DataW Unit)} (own : ownKnob C.prog.godebug = none) (started : os.Started) (noInit : C.prog.inits.idxOf? n = none) (hfn : C.prog.funcs[n]? = some fn) (hl : laidOutB C.prog = true)
    (hargs : ArgsOk C.prog fn.params.toList tys) (hrt : fn.resultTypes = #[rt]) (hru : C.prog.underlying rt = some .bool) (hvars : s.vars = []) (hs : ∀ ds : List (DataW H), ds.length = fn.params.toList.length → s.fn H ds = { results := [.lit (.bool true)], args := ds, vars := [] })
    (witness : ∃ (w : World) (tape : Tape) (i : Input), w.os = os ∧ (w.forCall tape i).Shaped C.prog ∧ i.vars = [] ∧ Input.okWide C.prog (w.forCall tape i) .any w.heap.size n i ∧
      ((s.pre enc C.prog fn dom false (w.forCall tape i).memory i.args ∧ laidMetH C.prog laid (w.forCall tape i).memory) ∧ sizedMet enc C.prog fn (OpenSpec.ofChange s) false (w.forCall tape i).memory i.args) ∧ ({} : Assume).holds C.prog (lone (Frame.enter C.prog n i.args .normal) [] (w.forCall tape i)))
    {gl : Int → List (Nat × List V)} (hgl : ∀ W, W.ShapedOpen C.prog → laidMetH C.prog laid W → ∃ m, GOk (gl m) W NoU) (law : ∀ (a : Tys tys) (m : Int), okL tys a → PContract C.prog (gl m) n (injL tys a) (.bool true)) :
    ReturnsInHanded {} C os n .any (fun w args => (s.pre enc C.prog fn dom false w args ∧ laidMetH C.prog laid w) ∧ sizedMet enc C.prog fn (OpenSpec.ofChange s) false w args) (s.post enc C.prog fn false true false false) := by
  refine returnsInHanded_of_calls own started noInit witness ?_
  intro w tape i _ hsh _ hok hpre hholds
  obtain ⟨_, _, _, fn', hfn', _, _, _, _, hval⟩ := hok
  have e : fn' = fn := Option.some.inj (hfn'.symm.trans hfn)
  subst e
  obtain ⟨⟨⟨ds, gs, before, hw, hc⟩, hx⟩, hz⟩ := hpre
  have hw' := DataW.Whole.of_heap (w' := w.forCall tape i) (by rfl) hw
  obtain ⟨m, hm⟩ := hgl (w.forCall tape i) hsh (laidMetH.of_heap (by rfl) hx)
  refine (lift_core hl hargs hrt hru hvars hs hval hw' (hz.weights hw) hm fun a ha => law a m ha).mono fun e W' ⟨v, he, hp⟩ => ?_
  subst he
  exact ChangeSpec.post_blind hp

/-- a row that lists none -/
theorem lift_bare {C : Checked} {os : Os} {n : FuncId} {fn : Func} {s : ChangeSpec} {tys : List Ty} {rt : TypeId} {dom : List PathCond} (own : ownKnob C.prog.godebug = none) (started : os.Started) (noInit : C.prog.inits.idxOf? n = none) (hfn : C.prog.funcs[n]? = some fn) (hl : laidOutB C.prog = true)
    (hargs : ArgsOk C.prog fn.params.toList tys) (hrt : fn.resultTypes = #[rt]) (hru : C.prog.underlying rt = some .bool) (hvars : s.vars = []) (hs : ∀ ds : List (DataW H), ds.length = fn.params.toList.length → s.fn H ds = { results := [.lit (.bool true)], args := ds, vars := [] })
    (witness : ∃ (w : World) (tape : Tape) (i : Input), w.os = os ∧ (w.forCall tape i).Shaped C.prog ∧ i.vars = [] ∧ Input.okWide C.prog (w.forCall tape i) .any w.heap.size n i ∧
      s.pre6 enc C.prog fn dom false (w.forCall tape i).memory i.args ∧ ({} : Assume).holds C.prog (lone (Frame.enter C.prog n i.args .normal) [] (w.forCall tape i)))
    {gl : Int → List (Nat × List V)} (hgl : ∀ W, W.ShapedOpen C.prog → ∃ m, GOk (gl m) W NoU) (law : ∀ (a : Tys tys) (m : Int), okL tys a → PContract C.prog (gl m) n (injL tys a) (.bool true)) :
    ReturnsInHanded {} C os n .any (s.pre6 enc C.prog fn dom false) (s.post enc C.prog fn false true false false) := by
  refine returnsInHanded_of_calls own started noInit witness ?_
  intro w tape i _ hsh _ hok hpre hholds
  obtain ⟨_, _, _, fn', hfn', _, _, _, _, hval⟩ := hok
  have e : fn' = fn := Option.some.inj (hfn'.symm.trans hfn)
  subst e
  obtain ⟨⟨ds, gs, before, hw, hc⟩, hz⟩ := hpre
  have hw' := DataW.Whole.of_heap (w' := w.forCall tape i) (by rfl) hw
  obtain ⟨m, hm⟩ := hgl (w.forCall tape i) hsh
  refine (lift_core hl hargs hrt hru hvars hs hval hw' (hz.weights hw) hm fun a ha => law a m ha).mono fun e W' ⟨v, he, hp⟩ => ?_
  subst he
  exact ChangeSpec.post_blind hp
end
end Go.Proofs.YtnebpmcmdmpoaaaDoor.R
