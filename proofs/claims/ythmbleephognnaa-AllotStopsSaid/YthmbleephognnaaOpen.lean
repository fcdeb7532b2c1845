/- What a reading of a value tells in the print's own words: for each kind, that whatever reads as data of the type lies in memory as the kind says. -/
import Derived.Test.YthmbleephognnaaWWords
import Derived.Test.YthmbleephognnaaWMore
import Derived.Deep.Slices
import Derived.ProofKit
import Derived.OpenShut
namespace Go.Proofs.Ythmbleephognnaa.Frame
open Go Go.RowKit Go.ChangeShapes Go.WideShapes Go.Proofs.YthmbleephognnaaW.PrintWords
set_option linter.unusedVariables false

/-- Whatever reads as data of type t is of kind d, and meets ok. -/
def Opens {α : Type} (P : Program) (t : TypeId) (d : Kd α) (ok : α → Prop) : Prop :=
  P.cellsOf t = d.sz ∧ ∀ (H : Type) (enc : TypeId × Value → H) (w : World) (x : DataW H × List MemPlace) (fuel : Nat) (cs : List Value),
    DataW.trod enc P w 0 (fun _ => true) true fuel t cs = some x → ∃ v, d.K w v cs ∧ ok v

theorem Opens.int {P : Program} {t : TypeId} {k : IntKind} (hu : P.underlying t = some (.int k)) (hc : P.cellsOf t = 1) : Opens P t (Kd.int k) (fun n => (Lit.int k n).wf = true) :=
  ⟨hc, fun H enc w x fuel cs h => by
    obtain ⟨n, rfl, _, hw⟩ := DataW.trod_int hu h
    exact ⟨n, rfl, hw⟩⟩
theorem Opens.bool {P : Program} {t : TypeId} (hu : P.underlying t = some .bool) (hc : P.cellsOf t = 1) : Opens P t Kd.bool (fun _ => True) :=
  ⟨hc, fun H enc w x fuel cs h => by
    obtain ⟨n, rfl, _⟩ := DataW.trod_bool hu h
    exact ⟨n, rfl, trivial⟩⟩
theorem Opens.string {P : Program} {t : TypeId} (hu : P.underlying t = some .string) (hc : P.cellsOf t = 1) : Opens P t Kd.string (fun s => s.size ≤ maxLen) :=
  ⟨hc, fun H enc w x fuel cs h => by
    obtain ⟨s, rfl, _, hs⟩ := DataW.trod_string hu h
    exact ⟨s, rfl, hs⟩⟩

theorem cells?_get {w : World} {base : Nat} {a : Addr} {n : Nat} {cs : List Value} (h : w.cells? base a n = some cs) : cs.length = n ∧ ∀ i u, cs[i]? = some u → w.cell? (a.add i) = some u := by
  obtain ⟨_, h1, h2⟩ := World.cells?_some h
  refine ⟨h1, fun i u hi => ?_⟩
  have hl : i < n := by rw [← h1]; exact (List.getElem?_eq_some_iff.1 hi).1
  rw [h2 i hl, hi]

theorem Opens.slice {α : Type} {P : Program} {t e : TypeId} {d : Kd α} {ok : α → Prop} (z : α) (hu : P.underlying t = some (.slice e)) (hc : P.cellsOf t = 1) (he : Opens P e d ok) :
    Opens P t (Kd.slice e d) (fun xs => xs.length ≤ maxLen ∧ ∀ x ∈ xs, ok x) :=
  ⟨hc, fun H enc w x fuel cs h => by
    rcases Go.Deep.open_slice hu h with ⟨rfl, _⟩ | ⟨a, len, cap, m, n, D, Pl, rfl, _, hl, hm, hmm, _, hel⟩
    · exact ⟨[], ⟨none, 0, rfl, Nat.le_refl _, rfl, Nat.zero_le _, fun h0 => absurd h0 (Nat.lt_irrefl 0)⟩, by simp, by simp⟩
    · have hex : ∀ i, i < len → ∃ v : α, ∃ cs', w.cells? 0 (a.add (i * P.cellsOf e)) (P.cellsOf e) = some cs' ∧ d.K w v cs' ∧ ok v := by
        intro i hi
        obtain ⟨cs', h1, h2⟩ := hel i (by simp at hmm; omega)
        obtain ⟨v, hv, ho⟩ := he.2 H enc w _ n cs' h2
        exact ⟨v, cs', h1, hv, ho⟩
      haveI : Inhabited α := ⟨z⟩
      obtain ⟨f, hf⟩ := Go.Deep.choose_lt hex
      have hlen : ((List.range len).map f).length = len := by simp
      refine ⟨(List.range len).map f, ⟨some a, cap, by rw [hlen], by rw [hlen]; exact hl, rfl, by rw [hlen]; simp only [maxLen] at hm; omega, fun _ => ⟨a, rfl, fun j p hj => ?_⟩⟩, by rw [hlen]; omega, fun x hx => ?_⟩
      · obtain ⟨hj1, hj2⟩ := List.getElem?_eq_some_iff.1 hj
        have hj3 : j < len := by simpa using hj1
        have hp : f j = p := by simpa using hj2
        obtain ⟨cs', h1, h2, h3⟩ := hf j hj3
        obtain ⟨k1, k2⟩ := cells?_get h1
        refine ⟨cs', by rw [k1, he.1], by rw [← hp]; exact h2, fun i u hi => ?_⟩
        have := k2 i u hi
        rw [he.1, Go.Deep.add_add] at this
        exact this
      · obtain ⟨i, hi, rfl⟩ := List.mem_map.1 hx
        obtain ⟨_, _, _, h3⟩ := hf i (by simpa using hi)
        exact h3⟩

/-- The fields from one on, that begin at cell off. -/
def OpensAt {α : Type} (P : Program) (fs : List Field) (off : Nat) (d : Kd α) (ok : α → Prop) : Prop :=
  ∀ (H : Type) (enc : TypeId × Value → H) (w : World) (n : Nat) (cs : List Value), cs.length = off + d.sz →
    (∀ f ∈ fs, ∃ x, DataW.trod enc P w 0 (fun _ => true) true n f.type ((cs.drop f.offset).take (P.cellsOf f.type)) = some x) → ∃ v, d.K w v (cs.drop off) ∧ ok v
theorem OpensAt.one {α : Type} {P : Program} {f : Field} {off : Nat} {d : Kd α} {ok : α → Prop} (ho : f.offset = off) (h : Opens P f.type d ok) : OpensAt P [f] off d ok := by
  intro H enc w n cs hl hf
  obtain ⟨x, hx⟩ := hf f (by simp)
  rw [ho, h.1, List.take_of_length_le (by rw [List.length_drop]; omega)] at hx
  exact h.2 H enc w x n _ hx
theorem OpensAt.cons {α β : Type} {P : Program} {f : Field} {fs : List Field} {off : Nat} {d1 : Kd α} {d2 : Kd β} {ok1 : α → Prop} {ok2 : β → Prop} (ho : f.offset = off) (h : Opens P f.type d1 ok1) (ht : OpensAt P fs (off + d1.sz) d2 ok2) :
    OpensAt P (f :: fs) off (Kd.pair d1 d2) (fun x => ok1 x.1 ∧ ok2 x.2) := by
  intro H enc w n cs hl hf
  have hl' : cs.length = off + d1.sz + d2.sz := by rw [hl]; simp [Kd.pair]; omega
  obtain ⟨x, hx⟩ := hf f (by simp)
  rw [ho, h.1] at hx
  obtain ⟨v1, k1, o1⟩ := h.2 H enc w x n _ hx
  obtain ⟨v2, k2, o2⟩ := ht H enc w n cs hl' (fun g hg => hf g (by simp [hg]))
  refine ⟨(v1, v2), ⟨_, _, ?_, k1, k2⟩, o1, o2⟩
  rw [← List.drop_drop, List.take_append_drop]
theorem Opens.struct {α β : Type} {P : Program} {t : TypeId} {fs : Array Field} {d : Kd α} {ok : α → Prop} (g : β → α) (mk : α → β) (hg : ∀ a, g (mk a) = a) (hu : P.underlying t = some (.struct fs)) (hc : P.cellsOf t = d.sz) (h : OpensAt P fs.toList 0 d ok) :
    Opens P t (Kd.iso d g) (fun b => ok (g b)) :=
  ⟨hc, fun H enc w x fuel cs ht => by
    obtain ⟨xs, n, _, _, hlen, hxl, hfs⟩ := DataW.trod_struct hu ht
    obtain ⟨v, hv, ho⟩ := h H enc w n cs (by rw [hlen, hc, Nat.zero_add]) (fun f hf => by
      obtain ⟨i, hi, rfl⟩ := List.getElem_of_mem hf
      have hi' : i < fs.size := by simpa using hi
      refine ⟨xs[i]'(by rw [hxl]; exact hi'), ?_⟩
      rw [hfs i _ (by simp [hi']), List.getElem?_eq_getElem])
    exact ⟨mk v, by show d.K w (g (mk v)) cs; rw [hg]; exact hv, by show ok (g (mk v)); rw [hg]; exact ho⟩⟩
end Go.Proofs.Ythmbleephognnaa.Frame
