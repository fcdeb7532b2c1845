/- What the world has to do with the values and the memory of the walk; nothing of it is lost when others write elsewhere. -/
import Derived.Test.YtnebpmcmdmpoaaaDoorRCore
import Derived.Laws.AppendOwn
namespace Go.Proofs.YtnebpmcmdmpoaaaDoor.R
open Go
set_option linter.unusedVariables false
set_option linter.unusedSimpArgs false

theorem Addr.add_zero' (a : Addr) : a.add 0 = a := by simp [Addr.add]
theorem Addr.block_add (a : Addr) (n : Nat) : (a.add n).block = a.block := by unfold Addr.add; split <;> rfl
theorem Addr.add_add (a : Addr) (m n : Nat) : (a.add m).add n = a.add (m + n) := by
  unfold Addr.add
  by_cases hm : m = 0
  · subst hm; simp
  · by_cases hn : n = 0
    · subst hn; simp [hm]
    · have : ¬ (m + n = 0) := by omega
      simp [hm, hn, this, Nat.add_assoc]
theorem Addr.add_mk (b o n : Nat) : (⟨b, o, none⟩ : Addr).add n = ⟨b, o + n, none⟩ := by
  unfold Addr.add; split
  · subst_vars; rfl
  · rfl

/-- where a block of ours lies -/
inductive Pl where
  | dead
  | nil
  | emp (a : Addr)
  | at (b n c z : Nat)

abbrev Sig := List Pl
def Sig.has (σ : Sig) (b : Nat) : Prop := ∃ (id n c z : Nat), σ[id]? = some (Pl.at b n c z)
/-- the blocks that may yet be written: others' and ours -/
def Un (M : Nat → Prop) (σ : Sig) : Nat → Prop := fun b => M b ∨ σ.has b

def SlRep {α : Type} (w : World) (U : Nat → Prop) (R : α → List Value → Prop) (z : Nat) (s : Sl α) : Option Addr → Nat → Nat → Prop
  | none, n, c => s.nl = true ∧ s.l = [] ∧ n = 0 ∧ c = 0
  | some a, n, c => s.nl = false ∧ n = s.l.length ∧ n ≤ c ∧
      ∀ i x, s.l[i]? = some x → ∃ ce, R x ce ∧ ∀ j v, ce[j]? = some v → w.cell? (a.add (i * z + j)) = some v ∧ ¬ U a.block

def RepT (w : World) (U : Nat → Prop) : (t : Ty) → t.den → List Value → Prop
  | .int k, n, cs => cs = [.int k n]
  | .bool, b, cs => cs = [.bool b]
  | .str, s, cs => cs = [.string s]
  | .sl t, s, cs => ∃ A n c, cs = [.slice A n c] ∧ SlRep w U (RepT w U t) t.size s A n c
  | .pair a b, x, cs => ∃ c1 c2, cs = c1 ++ c2 ∧ RepT w U a x.1 c1 ∧ RepT w U b x.2 c2
  | .unit, _, cs => cs = []

theorem RepT.length {w : World} {U : Nat → Prop} : ∀ {t : Ty} {x : t.den} {cs : List Value}, RepT w U t x cs → cs.length = t.size
  | .int _, _, _, h => by cases h; rfl
  | .bool, _, _, h => by cases h; rfl
  | .str, _, _, h => by cases h; rfl
  | .sl _, _, _, h => by obtain ⟨A, n, c, rfl, _⟩ := h; rfl
  | .pair a b, x, _, h => by
    obtain ⟨c1, c2, rfl, h1, h2⟩ := h
    rw [List.length_append, RepT.length h1, RepT.length h2]; rfl
  | .unit, _, _, h => by cases h; rfl

theorem RepT.one {w : World} {U : Nat → Prop} : ∀ {t : Ty} {x : t.den} {cs : List Value}, RepT w U t x cs → ∀ v ∈ cs, v.oneCell' = true
  | .int _, _, _, h => by cases h; intro v hv; simp at hv; subst hv; rfl
  | .bool, _, _, h => by cases h; intro v hv; simp at hv; subst hv; rfl
  | .str, _, _, h => by cases h; intro v hv; simp at hv; subst hv; rfl
  | .sl _, _, _, h => by obtain ⟨A, n, c, rfl, _⟩ := h; intro v hv; simp at hv; subst hv; rfl
  | .pair a b, x, _, h => by
    obtain ⟨c1, c2, rfl, h1, h2⟩ := h
    intro v hv
    rcases List.mem_append.1 hv with h | h
    · exact RepT.one h1 v h
    · exact RepT.one h2 v h
  | .unit, _, _, h => by cases h; intro v hv; simp at hv

/-- what need not be written stays readable -/
structure Keeps (w w' : World) (U U' : Nat → Prop) : Prop where
  cell : ∀ a v, w.cell? a = some v → ¬ U a.block → w'.cell? a = some v
  un : ∀ b, b < w.heap.size → ¬ U b → ¬ U' b

theorem SlRep.mono {α : Type} {w w' : World} {U U' : Nat → Prop} {R R' : α → List Value → Prop} {z : Nat} {s : Sl α} {A : Option Addr} {n c : Nat}
    (hk : Keeps w w' U U') (hR : ∀ x ce, R x ce → R' x ce) (h : SlRep w U R z s A n c) : SlRep w' U' R' z s A n c := by
  cases A with
  | none => exact h
  | some a =>
    obtain ⟨h1, h2, h3, h4⟩ := h
    refine ⟨h1, h2, h3, fun i x hx => ?_⟩
    obtain ⟨ce, hr, hc⟩ := h4 i x hx
    refine ⟨ce, hR _ _ hr, fun j v hv => ?_⟩
    obtain ⟨g1, g2⟩ := hc j v hv
    have hb := World.block_lt_of_cell? w _ g1
    rw [Addr.block_add] at hb
    exact ⟨hk.cell _ _ g1 (by rw [Addr.block_add]; exact g2), hk.un _ hb g2⟩

theorem RepT.mono {w w' : World} {U U' : Nat → Prop} (hk : Keeps w w' U U') : ∀ {t : Ty} {x : t.den} {cs : List Value}, RepT w U t x cs → RepT w' U' t x cs
  | .int _, _, _, h => h
  | .bool, _, _, h => h
  | .str, _, _, h => h
  | .sl t, s, _, h => by
    obtain ⟨A, n, c, e, h⟩ := h
    exact ⟨A, n, c, e, SlRep.mono hk (fun x ce hx => RepT.mono hk hx) h⟩
  | .pair a b, x, _, h => by
    obtain ⟨c1, c2, e, h1, h2⟩ := h
    exact ⟨c1, c2, e, RepT.mono hk h1, RepT.mono hk h2⟩
  | .unit, _, _, h => h

def OwnAt : Pl → Value → Prop
  | .dead, _ => True
  | .nil, v => v = .slice none 0 0
  | .emp a, v => v = .slice (some a) 0 0
  | .at b n c _, v => v = .slice (some ⟨b, 0, none⟩) n c

def WinAt (off len : Nat) : Pl → Value → Prop
  | .dead, _ => True
  | .nil, v => v = .slice none 0 0 ∧ off = 0 ∧ len = 0
  | .emp _, v => ∃ a c, v = .slice (some a) 0 c ∧ off = 0 ∧ len = 0
  | .at b n _ z, v => ∃ a c, v = .slice (some a) len c ∧ off + len ≤ n ∧ len ≤ c ∧ (0 < len → a = ⟨b, off * z, none⟩)

def PtrAt (off : Nat) : Pl → Value → Prop
  | .dead, _ => True
  | .at b _ _ _, v => v = .pointer (some ⟨b, off, none⟩)
  | _, _ => False

def EptrAt (i off : Nat) : Pl → Value → Prop
  | .dead, _ => True
  | .at b n _ z, v => i < n ∧ v = .pointer (some ⟨b, i * z + off, none⟩)
  | _, _ => False

inductive Rep (w : World) (U : Nat → Prop) (σ : Sig) : Value → V → Prop
  | int (k : IntKind) (n : Int) : Rep w U σ (.int k n) (.int k n)
  | bool (b : Bool) : Rep w U σ (.bool b) (.bool b)
  | str (s : ByteArray) : Rep w U σ (.string s) (.str s)
  | sl (t : Ty) (capd : Bool) (s : Sl t.den) (A : Option Addr) (n c : Nat) (h : SlRep w U (RepT w U t) t.size s A n c) (hc : capd = true → c = n) :
      Rep w U σ (.slice A n c) (.sl t capd s)
  | own (id : Nat) (p : Pl) (v : Value) (hp : σ[id]? = some p) (h : OwnAt p v) : Rep w U σ v (.own id)
  | win (id off len : Nat) (p : Pl) (v : Value) (hp : σ[id]? = some p) (h : WinAt off len p v) : Rep w U σ v (.win id off len)
  | ptr (id off : Nat) (p : Pl) (v : Value) (hp : σ[id]? = some p) (h : PtrAt off p v) : Rep w U σ v (.ptr id off)
  | eptr (id i off : Nat) (p : Pl) (v : Value) (hp : σ[id]? = some p) (h : EptrAt i off p v) : Rep w U σ v (.eptr id i off)
  | fp (a : Addr) (cs : List V) (f : Nat → Value) (hc : ∀ (j : Nat) (V : V), cs[j]? = some V → w.cell? (a.add j) = some (f j) ∧ ¬ U a.block)
      (h : ∀ (j : Nat) (V : V), cs[j]? = some V → Rep w U σ (f j) V) : Rep w U σ (.pointer (some a)) (.fp cs)
  | fn (f : FuncId) (vs : Array Value) (cs : List V) (hl : vs.size = cs.length) (h : ∀ (j : Nat) (v : Value) (V : V), vs[j]? = some v → cs[j]? = some V → Rep w U σ v V) :
      Rep w U σ (.func (.func f) #[] vs) (.fn f cs)
  | lit (v : Value) : Rep w U σ v (.lit v)
  | undef (v : Value) : Rep w U σ v .undef
  | agg (vs : Array Value) (cs : List V) (hl : vs.size = cs.length) (h : ∀ (j : Nat) (v : Value) (V : V), vs[j]? = some v → cs[j]? = some V → Rep w U σ v V) :
      Rep w U σ (.agg vs) (.agg cs)
  | tup (vs : Array Value) (cs : List V) (hl : vs.size = cs.length) (h : ∀ (j : Nat) (v : Value) (V : V), vs[j]? = some v → cs[j]? = some V → Rep w U σ v V) :
      Rep w U σ (.tuple vs) (.tup cs)

/-- places stay, or are given up -/
def Later (σ σ' : Sig) : Prop := ∀ (id : Nat) (p : Pl), σ[id]? = some p → ∃ p' : Pl, σ'[id]? = some p' ∧ (p' = p ∨ p' = Pl.dead)

theorem Later.refl (σ : Sig) : Later σ σ := fun _ p h => ⟨p, h, .inl rfl⟩
theorem Later.trans {a b c : Sig} (h : Later a b) (h' : Later b c) : Later a c := fun id p hp => by
  obtain ⟨p1, e1, o1⟩ := h id p hp
  obtain ⟨p2, e2, o2⟩ := h' id p1 e1
  refine ⟨p2, e2, ?_⟩
  rcases o2 with rfl | rfl
  · exact o1
  · exact .inr rfl

theorem Rep.mono {w w' : World} {U U' : Nat → Prop} {σ σ' : Sig} (hk : Keeps w w' U U') (hσ : Later σ σ') {v : Value} {x : V} (h : Rep w U σ v x) : Rep w' U' σ' v x := by
  induction h with
  | int k n => exact .int k n
  | bool b => exact .bool b
  | str s => exact .str s
  | sl t capd s A n c h hc => exact .sl t capd s A n c (SlRep.mono hk (fun x ce hx => RepT.mono hk hx) h) hc
  | own id p v hp h =>
    obtain ⟨p', e, rfl | rfl⟩ := hσ id p hp
    · exact .own id _ v e h
    · exact .own id _ v e trivial
  | win id off len p v hp h =>
    obtain ⟨p', e, rfl | rfl⟩ := hσ id p hp
    · exact .win id off len _ v e h
    · exact .win id off len _ v e trivial
  | ptr id off p v hp h =>
    obtain ⟨p', e, rfl | rfl⟩ := hσ id p hp
    · exact .ptr id off _ v e h
    · exact .ptr id off _ v e trivial
  | eptr id i off p v hp h =>
    obtain ⟨p', e, rfl | rfl⟩ := hσ id p hp
    · exact .eptr id i off _ v e h
    · exact .eptr id i off _ v e trivial
  | fp a cs f hc h ih =>
    refine .fp a cs f (fun j V hV => ?_) ih
    obtain ⟨h1, h2⟩ := hc j V hV
    have hb := World.block_lt_of_cell? w _ h1
    rw [Addr.block_add] at hb
    exact ⟨hk.cell _ _ h1 (by rw [Addr.block_add]; exact h2), hk.un _ hb h2⟩
  | fn f vs cs hl h ih => exact .fn f vs cs hl ih
  | lit v => exact .lit v
  | undef v => exact .undef v
  | agg vs cs hl h ih => exact .agg vs cs hl ih
  | tup vs cs hl h ih => exact .tup vs cs hl ih

/-! ### The memory of ours -/

def RowAt (w : World) (U : Nat → Prop) (t : Ty) (b c : Nat) (l : List t.den) : Prop :=
  ∃ cur et, w.heap[b]? = some (.cells cur et (0, 0)) ∧ cur.size = c * t.size ∧ l.length ≤ c ∧
    ∀ i x, l[i]? = some x → ∃ ce, RepT w U t x ce ∧ ∀ j v, ce[j]? = some v → cur[i * t.size + j]? = some v

def BoxAt (w : World) (U : Nat → Prop) (σ : Sig) (b : Nat) (et : TypeId) (cs : List V) : Prop :=
  ∃ cur, w.heap[b]? = some (.cells cur et (0, 0)) ∧ cur.size = cs.length ∧
    ∀ (i : Nat) (v : Value) (V : V), cur[i]? = some v → cs[i]? = some V → Rep w U σ v V

def Lie (t : Ty) (et : TypeId) : Prop := t = .int .u8 → et = byteT
def LieAt (w : World) (b : Nat) (t : Ty) : Prop := ∃ cur et, w.heap[b]? = some (.cells cur et (0, 0)) ∧ Lie t et
theorem LieAt.mono {w w' : World} {b : Nat} {t : Ty} (hb : w'.heap[b]? = w.heap[b]?) (h : LieAt w b t) : LieAt w' b t := by
  obtain ⟨cur, et, h1, h2⟩ := h
  exact ⟨cur, et, hb.trans h1, h2⟩

def BR (w : World) (U : Nat → Prop) (σ : Sig) : Pl → Blk → Prop
  | .dead, .dead => True
  | .nil, .rows _ s => s.nl = true ∧ s.l = []
  | .emp _, .rows _ s => s.nl = false ∧ s.l = []
  | .at b n c z, .rows t s => s.nl = false ∧ n = s.l.length ∧ z = t.size ∧ RowAt w U t b c s.l ∧ LieAt w b t
  | .at b n c z, .arr t m l => m = n ∧ n = l.length ∧ c = n ∧ z = t.size ∧ RowAt w U t b c l
  | .at b n c z, .box e cs => n = cs.length ∧ c = n ∧ z = 1 ∧ BoxAt w U σ b e cs
  | _, _ => False

theorem RowAt.mono {w w' : World} {U U' : Nat → Prop} (hk : Keeps w w' U U') {t : Ty} {b c : Nat} {l : List t.den} (hb : w'.heap[b]? = w.heap[b]?) (h : RowAt w U t b c l) : RowAt w' U' t b c l := by
  obtain ⟨cur, et, h1, h2, h3, h4⟩ := h
  refine ⟨cur, et, hb.trans h1, h2, h3, fun i x hx => ?_⟩
  obtain ⟨ce, hr, hc⟩ := h4 i x hx
  exact ⟨ce, RepT.mono hk hr, hc⟩

theorem BoxAt.mono {w w' : World} {U U' : Nat → Prop} {σ σ' : Sig} (hk : Keeps w w' U U') (hσ : Later σ σ') {b : Nat} {e : TypeId} {cs : List V} (hb : w'.heap[b]? = w.heap[b]?) (h : BoxAt w U σ b e cs) : BoxAt w' U' σ' b e cs := by
  obtain ⟨cur, h1, h2, h4⟩ := h
  exact ⟨cur, hb.trans h1, h2, fun i v V hv hV => (h4 i v V hv hV).mono hk hσ⟩

theorem BR.mono {w w' : World} {U U' : Nat → Prop} {σ σ' : Sig} (hk : Keeps w w' U U') (hσ : Later σ σ') {p : Pl} {B : Blk}
    (hb : ∀ b n c z, p = .at b n c z → w'.heap[b]? = w.heap[b]?) (h : BR w U σ p B) : BR w' U' σ' p B := by
  cases p with
  | dead => cases B <;> exact h
  | nil => cases B <;> exact h
  | emp a => cases B <;> exact h
  | «at» b n c z =>
    have hb := hb b n c z rfl
    cases B with
    | rows t s => exact ⟨h.1, h.2.1, h.2.2.1, h.2.2.2.1.mono hk hb, h.2.2.2.2.mono hb⟩
    | arr t m l => exact ⟨h.1, h.2.1, h.2.2.1, h.2.2.2.1, h.2.2.2.2.mono hk hb⟩
    | box e cs => exact ⟨h.1, h.2.1, h.2.2.1, h.2.2.2.mono hk hσ hb⟩
    | dead => exact h

structure HR (w : World) (M : Nat → Prop) (σ : Sig) (h : Heap) : Prop where
  len : σ.length = h.length
  inj : ∀ (i j b n c z n' c' z' : Nat), σ[i]? = some (Pl.at b n c z) → σ[j]? = some (Pl.at b n' c' z') → i = j
  out : ∀ b, σ.has b → ¬ M b
  lim : ∀ b, Un M σ b → b < w.heap.size
  blk : ∀ (i : Nat) (p : Pl) (B : Blk), σ[i]? = some p → h[i]? = some B → BR w (Un M σ) σ p B

/-- from one world to a later one -/
structure Step (w w' : World) (σ σ' : Sig) : Prop where
  os : w'.os = w.os
  tape : w'.tape = w.tape
  output : w'.output = w.output
  size : w.heap.size ≤ w'.heap.size
  keep : ∀ b, b < w.heap.size → ¬ σ.has b → w'.heap[b]? = w.heap[b]?
  later : Later σ σ'
  new : ∀ b, σ'.has b → σ.has b ∨ w.heap.size ≤ b

theorem Step.refl (w : World) (σ : Sig) : Step w w σ σ := ⟨rfl, rfl, rfl, Nat.le_refl _, fun _ _ _ => rfl, .refl σ, fun _ h => .inl h⟩
theorem Step.trans {w w1 w2 : World} {σ σ1 σ2 : Sig} (h : Step w w1 σ σ1) (k : Step w1 w2 σ1 σ2) : Step w w2 σ σ2 := by
  refine ⟨k.os.trans h.os, k.tape.trans h.tape, k.output.trans h.output, Nat.le_trans h.size k.size, fun b hb hn => ?_, h.later.trans k.later, fun b hb => ?_⟩
  · rw [k.keep b (Nat.lt_of_lt_of_le hb h.size) (fun hs => ?_), h.keep b hb hn]
    rcases h.new b hs with h' | h'
    · exact hn h'
    · omega
  · rcases k.new b hb with h' | h'
    · exact h.new b h'
    · exact .inr (Nat.le_trans h.size h')

theorem Step.keeps {w w' : World} {σ σ' : Sig} (h : Step w w' σ σ') (M : Nat → Prop) : Keeps w w' (Un M σ) (Un M σ') := by
  refine ⟨fun a v hv hu => ?_, fun b hb hu => ?_⟩
  · rw [World.cell?_of_block]; · exact hv
    exact h.keep _ (World.block_lt_of_cell? w _ hv) fun hs => hu (.inr hs)
  · rintro (hm | hs)
    · exact hu (.inl hm)
    · rcases h.new b hs with h' | h'
      · exact hu (.inr h')
      · omega

theorem Step.rep {w w' : World} {σ σ' : Sig} (h : Step w w' σ σ') {M : Nat → Prop} {v : Value} {x : V} (hr : Rep w (Un M σ) σ v x) : Rep w' (Un M σ') σ' v x := hr.mono (h.keeps M) h.later

theorem Sig.has_append {σ τ : Sig} {b : Nat} : Sig.has (σ ++ τ) b ↔ σ.has b ∨ τ.has b := by
  constructor
  · rintro ⟨id, n, c, z, h⟩
    by_cases hi : id < σ.length
    · rw [List.getElem?_append_left hi] at h; exact .inl ⟨id, n, c, z, h⟩
    · rw [List.getElem?_append_right (by omega)] at h; exact .inr ⟨_, n, c, z, h⟩
  · rintro (⟨id, n, c, z, h⟩ | ⟨id, n, c, z, h⟩)
    · exact ⟨id, n, c, z, by rw [List.getElem?_append_left (List.getElem?_eq_some_iff.1 h).1]; exact h⟩
    · exact ⟨σ.length + id, n, c, z, by rw [List.getElem?_append_right (by omega), Nat.add_sub_cancel_left]; exact h⟩

theorem Later.append (σ τ : Sig) : Later σ (σ ++ τ) := fun id p h =>
  ⟨p, by rw [List.getElem?_append_left (List.getElem?_eq_some_iff.1 h).1]; exact h, .inl rfl⟩

theorem Later.kill (σ : Sig) (i : Nat) : Later σ (σ.set i .dead) := fun id p h => by
  by_cases hi : i = id
  · subst hi
    exact ⟨.dead, by rw [List.getElem?_set_self (List.getElem?_eq_some_iff.1 h).1], .inr rfl⟩
  · exact ⟨p, by rw [List.getElem?_set_ne hi]; exact h, .inl rfl⟩

theorem Sig.has_kill {σ : Sig} {i b : Nat} (h : Sig.has (σ.set i .dead) b) : σ.has b := by
  obtain ⟨id, n, c, z, h⟩ := h
  by_cases hi : i = id
  · subst hi
    by_cases hl : i < σ.length
    · rw [List.getElem?_set_self hl] at h; cases h
    · rw [List.getElem?_eq_none (by rw [List.length_set]; omega)] at h; cases h
  · rw [List.getElem?_set_ne hi] at h; exact ⟨id, n, c, z, h⟩

/-- a new place behind: a new block of the world, or none at all -/
theorem HR.push {w w' : World} {M : Nat → Prop} {σ : Sig} {h : Heap} {p : Pl} {B : Blk} (hr : HR w M σ h) (hs : Step w w' σ (σ ++ [p]))
    (hkeep : ∀ b, b < w.heap.size → w'.heap[b]? = w.heap[b]?)
    (hp : ∀ b n c z, p = .at b n c z → w.heap.size ≤ b ∧ b < w'.heap.size) (hB : BR w' (Un M (σ ++ [p])) (σ ++ [p]) p B) : HR w' M (σ ++ [p]) (h ++ [B]) := by
  have hlast : ∀ (i : Nat) (q : Pl), (σ ++ [p])[i]? = some q → (i < σ.length ∧ σ[i]? = some q) ∨ (i = σ.length ∧ q = p) := by
    intro i q hq
    by_cases hi : i < σ.length
    · rw [List.getElem?_append_left hi] at hq; exact .inl ⟨hi, hq⟩
    · rw [List.getElem?_append_right (by omega)] at hq
      have : i - σ.length = 0 := by
        have := (List.getElem?_eq_some_iff.1 hq).1; simp at this; omega
      rw [this] at hq
      simp at hq
      exact .inr ⟨by omega, hq.symm⟩
  have hlt : ∀ b, σ.has b → b < w.heap.size := fun b hb => hr.lim b (.inr hb)
  refine ⟨by simp [hr.len], ?_, ?_, ?_, ?_⟩
  · intro i j b n c z n' c' z' hi hj
    rcases hlast i _ hi with ⟨_, hi⟩ | ⟨rfl, ei⟩ <;> rcases hlast j _ hj with ⟨_, hj⟩ | ⟨rfl, ej⟩
    · exact hr.inj i j b n c z n' c' z' hi hj
    · have := (hp _ _ _ _ ej.symm).1; have := hlt b ⟨i, n, c, z, hi⟩; omega
    · have := (hp _ _ _ _ ei.symm).1; have := hlt b ⟨j, n', c', z', hj⟩; omega
    · rfl
  · rintro b ⟨i, n, c, z, hi⟩ hm
    rcases hlast i _ hi with ⟨_, hi⟩ | ⟨rfl, ei⟩
    · exact hr.out b ⟨i, n, c, z, hi⟩ hm
    · have := (hp _ _ _ _ ei.symm).1; have := hr.lim b (.inl hm); omega
  · rintro b (hm | ⟨i, n, c, z, hi⟩)
    · exact Nat.lt_of_lt_of_le (hr.lim b (.inl hm)) hs.size
    · rcases hlast i _ hi with ⟨_, hi⟩ | ⟨rfl, ei⟩
      · exact Nat.lt_of_lt_of_le (hlt b ⟨i, n, c, z, hi⟩) hs.size
      · exact (hp _ _ _ _ ei.symm).2
  · intro i q C hq hC
    rcases hlast i _ hq with ⟨hi, hq⟩ | ⟨rfl, rfl⟩
    · rw [List.getElem?_append_left (by rw [← hr.len]; exact hi)] at hC
      refine (hr.blk i q C hq hC).mono (hs.keeps M) hs.later fun b n c z e => ?_
      subst e
      exact hkeep b (hlt b ⟨i, n, c, z, hq⟩)
    · rw [hr.len, List.getElem?_append_right (Nat.le_refl _)] at hC
      simp at hC; subst hC; exact hB

theorem World.heap_alloc_lt (w : World) (o : Obj) {b : Nat} (h : b < w.heap.size) : (w.alloc o).heap[b]? = w.heap[b]? := by
  exact heap_alloc_old w o b h

theorem World.heap_alloc_at (w : World) (o : Obj) : (w.alloc o).heap[w.heap.size]? = some o := heap_alloc_new w o

theorem Step.alloc (w : World) (σ : Sig) (o : Obj) (n c z : Nat) : Step w (w.alloc o) σ (σ ++ [.at w.heap.size n c z]) :=
  ⟨rfl, rfl, rfl, by simp, fun b hb _ => World.heap_alloc_lt w o hb, .append _ _, fun b hb => by
    rcases Sig.has_append.1 hb with h | ⟨id, n', c', z', h⟩
    · exact .inl h
    · have : id = 0 := by have := (List.getElem?_eq_some_iff.1 h).1; simp at this; omega
      subst this; simp at h; omega⟩

theorem Step.alloc0 (w : World) (σ : Sig) (o : Obj) : Step w (w.alloc o) σ σ :=
  ⟨rfl, rfl, rfl, by simp, fun b hb _ => World.heap_alloc_lt w o hb, .refl _, fun b hb => .inl hb⟩

theorem Step.drew (w : World) (σ : Sig) : Step w w.drew σ σ := ⟨rfl, rfl, rfl, Nat.le_refl _, fun _ _ _ => rfl, .refl _, fun _ h => .inl h⟩

theorem Step.place (w : World) (σ : Sig) (p : Pl) (hp : ∀ b n c z, p ≠ .at b n c z) : Step w w σ (σ ++ [p]) :=
  ⟨rfl, rfl, rfl, Nat.le_refl _, fun _ _ _ => rfl, .append _ _, fun b hb => by
    rcases Sig.has_append.1 hb with h | ⟨id, n', c', z', h⟩
    · exact .inl h
    · have : id = 0 := by have := (List.getElem?_eq_some_iff.1 h).1; simp at this; omega
      subst this; simp at h; exact absurd h (hp _ _ _ _)⟩

theorem Step.kill (w : World) (σ : Sig) (i : Nat) : Step w w σ (σ.set i .dead) :=
  ⟨rfl, rfl, rfl, Nat.le_refl _, fun _ _ _ => rfl, .kill σ i, fun _ h => .inl (Sig.has_kill h)⟩

theorem HR.mono {w w' : World} {M : Nat → Prop} {σ : Sig} {h : Heap} (hr : HR w M σ h) (hs : Step w w' σ σ) (hk : ∀ b, σ.has b → w'.heap[b]? = w.heap[b]?) : HR w' M σ h :=
  ⟨hr.len, hr.inj, hr.out, fun b hb => Nat.lt_of_lt_of_le (hr.lim b hb) hs.size, fun i p B hp hB => (hr.blk i p B hp hB).mono (hs.keeps M) hs.later fun b n c z e => hk b ⟨i, n, c, z, by rw [hp, e]⟩⟩

theorem HR.kill {w : World} {M : Nat → Prop} {σ : Sig} {h : Heap} (hr : HR w M σ h) (i : Nat) : HR w M (σ.set i .dead) (h.set i .dead) := by
  refine ⟨by simp [hr.len], ?_, fun b hb => hr.out b (Sig.has_kill hb), ?_, ?_⟩
  · intro a b b' n c z n' c' z' ha hb
    have e : ∀ (x n c z : Nat), (σ.set i Pl.dead)[x]? = some (Pl.at b' n c z) → σ[x]? = some (Pl.at b' n c z) := by
      intro x n c z hx
      by_cases hi : i = x
      · subst hi
        by_cases hl : i < σ.length
        · rw [List.getElem?_set_self hl] at hx; cases hx
        · rw [List.getElem?_eq_none (by rw [List.length_set]; omega)] at hx; cases hx
      · rwa [List.getElem?_set_ne hi] at hx
    exact hr.inj a b b' n c z n' c' z' (e _ _ _ _ ha) (e _ _ _ _ hb)
  · rintro b (hm | hs)
    · exact hr.lim b (.inl hm)
    · exact hr.lim b (.inr (Sig.has_kill hs))
  · intro x p B hp hB
    by_cases hi : i = x
    · subst hi
      have hl : i < σ.length := by have := (List.getElem?_eq_some_iff.1 hp).1; simpa using this
      rw [List.getElem?_set_self hl] at hp
      rw [List.getElem?_set_self (by rw [← hr.len]; exact hl)] at hB
      cases hp; cases hB; trivial
    · rw [List.getElem?_set_ne hi] at hp hB
      exact (hr.blk x p B hp hB).mono ((Step.kill w σ i).keeps M) (.kill σ i) fun _ _ _ _ _ => rfl

/-- a block of ours is written -/
theorem HR.write {w w' : World} {M : Nat → Prop} {σ : Sig} {h : Heap} (hr : HR w M σ h) (hs : Step w w' σ σ) {i b n c z : Nat} {B : Blk}
    (hi : σ[i]? = some (Pl.at b n c z)) (hk : ∀ b', b' ≠ b → w'.heap[b']? = w.heap[b']?) (hB : BR w' (Un M σ) σ (.at b n c z) B) : HR w' M σ (h.set i B) := by
  refine ⟨by simp [hr.len], hr.inj, hr.out, fun b hb => Nat.lt_of_lt_of_le (hr.lim b hb) hs.size, ?_⟩
  intro x p C hp hC
  by_cases hx : i = x
  · subst hx
    rw [hi] at hp; cases hp
    rw [List.getElem?_set_self (by rw [← hr.len]; exact (List.getElem?_eq_some_iff.1 hi).1)] at hC
    cases hC; exact hB
  · rw [List.getElem?_set_ne hx] at hC
    refine (hr.blk x p C hp hC).mono (hs.keeps M) hs.later fun b' n' c' z' e => hk b' fun eb => hx ?_
    subst e; subst eb
    exact hr.inj i x b' n c z n' c' z' hi hp

end Go.Proofs.YtnebpmcmdmpoaaaDoor.R
