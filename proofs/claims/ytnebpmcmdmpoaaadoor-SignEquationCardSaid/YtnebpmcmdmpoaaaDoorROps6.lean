/- What is made: slices of new elements, literals, appended and copied elements, conversions. -/
import Derived.Test.YtnebpmcmdmpoaaaDoorROps5
import Derived.Deep.AppendSrc
import Derived.Laws.MakeOwn
import Derived.Laws.BytesArg
namespace Go.Proofs.YtnebpmcmdmpoaaaDoor.R
open Go
set_option linter.unusedVariables false
set_option linter.unusedSimpArgs false

section
variable {P : Program} {T : Types} {w : World} {U : Nat → Prop} {σ : Sig} {M : Nat → Prop} {Ω : Type} {h : Heap}

/-- elements, cell behind cell -/
def RowL (w : World) (U : Nat → Prop) (t : Ty) (l : List t.den) (cs : List Value) : Prop :=
  cs.length = l.length * t.size ∧ ∀ i x, l[i]? = some x → ∃ ce, RepT w U t x ce ∧ ∀ j v, ce[j]? = some v → cs[i * t.size + j]? = some v

theorem RowL.nil {t : Ty} : RowL w U t [] [] := ⟨by simp, fun i x h => by simp at h⟩
theorem RowL.cons {t : Ty} {x : t.den} {l : List t.den} {ce cs : List Value} (h : RepT w U t x ce) (hr : RowL w U t l cs) : RowL w U t (x :: l) (ce ++ cs) := by
  have hl := h.length
  refine ⟨by rw [List.length_append, hl, hr.1, List.length_cons, Nat.succ_mul]; omega, fun i y hy => ?_⟩
  cases i with
  | zero =>
    simp at hy; subst hy
    exact ⟨ce, h, fun j v hv => by rw [Nat.zero_mul, Nat.zero_add, List.getElem?_append_left (List.getElem?_eq_some_iff.1 hv).1]; exact hv⟩
  | succ i =>
    obtain ⟨c2, g1, g2⟩ := hr.2 i y (by simpa using hy)
    refine ⟨c2, g1, fun j v hv => ?_⟩
    rw [List.getElem?_append_right (by rw [hl, Nat.succ_mul]; omega), hl, show (i + 1) * t.size + j - t.size = i * t.size + j by rw [Nat.succ_mul]; omega]
    exact g2 j v hv
theorem RowL.append {t : Ty} {l m : List t.den} {a b : List Value} (h : RowL w U t l a) (k : RowL w U t m b) : RowL w U t (l ++ m) (a ++ b) := by
  refine ⟨by rw [List.length_append, List.length_append, h.1, k.1, Nat.add_mul], fun i x hx => ?_⟩
  by_cases hi : i < l.length
  · rw [List.getElem?_append_left hi] at hx
    obtain ⟨ce, g1, g2⟩ := h.2 i x hx
    exact ⟨ce, g1, fun j v hv => by
      have := g2 j v hv
      rw [List.getElem?_append_left (List.getElem?_eq_some_iff.1 this).1]; exact this⟩
  · rw [List.getElem?_append_right (by omega)] at hx
    obtain ⟨ce, g1, g2⟩ := k.2 _ x hx
    refine ⟨ce, g1, fun j v hv => ?_⟩
    have := g2 j v hv
    have e : i * t.size = l.length * t.size + (i - l.length) * t.size := by rw [← Nat.add_mul]; congr 1; omega
    rw [List.getElem?_append_right (by rw [h.1, e]; omega), h.1, show i * t.size + j - l.length * t.size = (i - l.length) * t.size + j by omega]
    exact this
theorem RowL.mono {w' : World} {U' : Nat → Prop} (hk : Keeps w w' U U') {t : Ty} {l : List t.den} {cs : List Value} (h : RowL w U t l cs) : RowL w' U' t l cs :=
  ⟨h.1, fun i x hx => let ⟨ce, g1, g2⟩ := h.2 i x hx; ⟨ce, RepT.mono hk g1, g2⟩⟩

theorem RowL.one {t : Ty} {l : List t.den} {cs : List Value} (h : RowL w U t l cs) : ∀ v ∈ cs, v.oneCell' = true := by
  intro v hv
  obtain ⟨k, hk⟩ := List.getElem?_of_mem hv
  have hlt := (List.getElem?_eq_some_iff.1 hk).1
  rw [h.1] at hlt
  have hz : 0 < t.size := by rcases Nat.eq_zero_or_pos t.size with e | e; · rw [e] at hlt; omega
                             · exact e
  have hi : k / t.size < l.length := by rw [Nat.div_lt_iff_lt_mul hz]; exact hlt
  obtain ⟨ce, g1, g2⟩ := h.2 _ _ (List.getElem?_eq_getElem hi)
  have hj : k % t.size < ce.length := by rw [g1.length]; exact Nat.mod_lt _ hz
  have := g2 _ _ (List.getElem?_eq_getElem hj)
  rw [show k / t.size * t.size + k % t.size = k by rw [Nat.mul_comm]; exact Nat.div_add_mod k t.size, hk] at this
  cases this
  exact g1.one _ (List.getElem_mem hj)

/-- elements that lie behind an address, gathered -/
theorem gather {t : Ty} {a : Addr} : ∀ (l : List t.den) (o : Nat), (∀ i x, l[i]? = some x → ∃ ce, RepT w U t x ce ∧ ∀ j v, ce[j]? = some v → w.cell? (a.add (o + (i * t.size + j))) = some v) →
    ∃ cs, RowL w U t l cs ∧ ∀ j v, cs[j]? = some v → w.cell? (a.add (o + j)) = some v
  | [], _, _ => ⟨[], .nil, fun j v hv => by simp at hv⟩
  | x :: l, o, H => by
    obtain ⟨ce, g1, g2⟩ := H 0 x rfl
    obtain ⟨cs, g3, g4⟩ := gather l (o + t.size) fun i y hy => by
      obtain ⟨ce, q1, q2⟩ := H (i + 1) y (by simpa using hy)
      exact ⟨ce, q1, fun j v hv => by have := q2 j v hv; rwa [show o + ((i + 1) * t.size + j) = o + t.size + (i * t.size + j) by rw [Nat.succ_mul]; omega] at this⟩
    refine ⟨ce ++ cs, .cons g1 g3, fun j v hv => ?_⟩
    by_cases hj : j < ce.length
    · rw [List.getElem?_append_left hj] at hv
      have := g2 j v hv; simpa using this
    · rw [List.getElem?_append_right (by omega)] at hv
      have := g4 _ v hv
      rw [g1.length] at this hj
      rwa [show o + t.size + (j - t.size) = o + j by omega] at this

theorem RowAt.ofL {t : Ty} {b c : Nat} {l : List t.den} {cs rest : List Value} {et : TypeId} (hl : RowL w U t l cs) (hw : w.heap[b]? = some (.cells (cs ++ rest).toArray et (0, 0))) (hs : (cs ++ rest).length = c * t.size) (hc : l.length ≤ c) :
    RowAt w U t b c l := by
  refine ⟨_, et, hw, by simpa using hs, hc, fun i x hx => ?_⟩
  obtain ⟨ce, g1, g2⟩ := hl.2 i x hx
  refine ⟨ce, g1, fun j v hv => ?_⟩
  have := g2 j v hv
  simp only [List.getElem?_toArray]
  rw [List.getElem?_append_left (List.getElem?_eq_some_iff.1 this).1]; exact this

/-- the elements that an operand yields -/
theorem elems_ok (hr : HR w M σ h) {t : Ty} {x : V} {xs : List t.den} {v : Value} (hx : elems h t x = some xs) (hv : Rep w (Un M σ) σ v x) :
    (∃ s, v = .string s ∧ x = .str s ∧ t.size = 1 ∧ RowL w (Un M σ) t xs (byteCells s)) ∨
    (v = .slice none 0 0 ∧ xs = []) ∨
    ∃ a c news, v = .slice (some a) xs.length c ∧ xs.length ≤ c ∧ RowL w (Un M σ) t xs news ∧ CellsHold w a news := by
  unfold elems at hx
  split at hx
  · rename_i t' capd s
    split at hx
    · rename_i e; subst e; cases hx
      cases hv with
      | sl _ _ _ A n c hs _ =>
        cases A with
        | none => obtain ⟨h1, h2, rfl, rfl⟩ := hs; exact .inr (.inl ⟨rfl, h2⟩)
        | some a =>
          obtain ⟨h1, rfl, h3, h4⟩ := hs
          obtain ⟨cs, g1, g2⟩ := gather (a := a) s.l 0 fun i x hx => by
            obtain ⟨ce, q1, q2⟩ := h4 i x hx
            exact ⟨ce, q1, fun j v hv => by have := (q2 j v hv).1; simpa using this⟩
          exact .inr (.inr ⟨a, c, cs, rfl, h3, g1, fun j v hv => by have := g2 j v hv; simpa using this⟩)
    · cases hx
  · rename_i id
    cases hB : h.getD id .dead with
    | rows t' s =>
      rw [hB] at hx
      dsimp only at hx
      split at hx
      · rename_i e; subst e; cases hx
        rcases hr.own hv hB with ⟨_, h2, _, rfl⟩ | ⟨_, h2, a, _, rfl⟩ | ⟨_, b, c, _, rfl, hrow⟩
        · exact .inr (.inl ⟨rfl, h2⟩)
        · exact .inr (.inr ⟨a, 0, [], by rw [h2]; rfl, by rw [h2]; exact Nat.le_refl _, by rw [h2]; exact .nil, fun j v hv => by simp at hv⟩)
        · have hc : s.l.length ≤ c := by obtain ⟨_, _, _, _, h, _⟩ := hrow; exact h
          obtain ⟨cs, g1, g2⟩ := gather (a := ⟨b, 0, none⟩) s.l 0 fun i x hx => by
            obtain ⟨ce, q1, q2⟩ := hrow.elem hx
            exact ⟨ce, q1, fun j v hv => by have := q2 j v hv; rw [Addr.add_mk] at this ⊢; simpa using this⟩
          exact .inr (.inr ⟨_, c, cs, rfl, hc, g1, fun j v hv => by have := g2 j v hv; simpa using this⟩)
      · cases hx
    | _ => rw [hB] at hx; cases hx
  · rename_i id off len
    have key : ∀ (l : List t.den) (b n c : Nat) (a : Addr) (c' : Nat), RowAt w (Un M σ) t b c l → v = .slice (some a) len c' → off + len ≤ l.length → len ≤ c' → (0 < len → a = ⟨b, off * t.size, none⟩) → xs = (l.drop off).take len →
        ∃ a c news, v = .slice (some a) xs.length c ∧ xs.length ≤ c ∧ RowL w (Un M σ) t xs news ∧ CellsHold w a news := by
      rintro l b n c a c' hrow rfl h1 h2 h3 rfl
      have hlen : ((l.drop off).take len).length = len := by simp; omega
      obtain ⟨cs, g1, g2⟩ := gather (w := w) (U := Un M σ) (a := a) ((l.drop off).take len) 0 fun i x hx => by
        simp only [List.getElem?_take, List.getElem?_drop] at hx
        split at hx
        · rename_i hi
          have := h3 (by omega); subst this
          obtain ⟨ce, q1, q2⟩ := hrow.elem hx
          refine ⟨ce, q1, fun j v hv => ?_⟩
          have := q2 j v hv
          rw [Addr.add_mk] at this ⊢
          rwa [show off * t.size + (0 + (i * t.size + j)) = (off + i) * t.size + j by rw [Nat.add_mul]; omega]
        · cases hx
      exact ⟨a, c', cs, by rw [hlen], by rw [hlen]; exact h2, g1, fun j v hv => by have := g2 j v hv; simpa using this⟩
    cases hB : h.getD id .dead with
    | rows t' s =>
      rw [hB] at hx
      dsimp only at hx
      split at hx
      · rename_i e; subst e; cases hx
        rcases (hr.win hv).1 _ s hB with ⟨rfl, rfl, hl, A, c, rfl, ⟨rfl, hn, rfl⟩ | ⟨hA, hn⟩⟩ | ⟨b, c, a, c', hnl, hp, e, g1, g2, g3, hrow⟩
        · exact .inr (.inl ⟨rfl, by simp⟩)
        · cases A with
          | none => exact absurd rfl hA
          | some a => exact .inr (.inr ⟨a, c, [], by simp, by simp, by simp; exact .nil, fun j v hv => by simp at hv⟩)
        · exact .inr (.inr (key s.l b 0 c a c' hrow e g1 g2 g3 rfl))
      · cases hx
    | arr t' n l =>
      rw [hB] at hx
      dsimp only at hx
      split at hx
      · rename_i e; subst e; cases hx
        obtain ⟨b, a, c', hp, hn, e, g1, g2, g3, hrow⟩ := (hr.win hv).2 _ n l hB
        exact .inr (.inr (key l b 0 _ a c' hrow e (by omega) g2 g3 rfl))
      · cases hx
    | _ => rw [hB] at hx; cases hx
  · cases hx; cases hv; exact .inr (.inl ⟨rfl, rfl⟩)
  · rename_i s
    split at hx
    · rename_i e; subst e; cases hx
      cases hv
      refine .inl ⟨s, rfl, rfl, rfl, ?_, fun i x hx => ?_⟩
      · have e : (bytesOf s).length = s.size := by simp [bytesOf]
        rw [byteCells_length]; show s.size = (bytesOf s).length * 1; rw [e, Nat.mul_one]
      refine ⟨[.int .u8 x], rfl, fun j v hv => ?_⟩
      cases j with
      | zero =>
        simp at hv; subst hv
        have hx' : (s.data.toList.map fun b => (b.toNat : Int))[i]? = some x := hx
        rw [List.getElem?_map] at hx'
        obtain ⟨y, hy, e⟩ := Option.map_eq_some_iff.1 hx'
        subst e
        show (byteCells s)[i * 1 + 0]? = _
        simp only [byteCells, Nat.mul_one, Nat.add_zero, List.getElem?_map, hy, Option.map_some]
      | succ j => simp at hv
    · cases hx
  · cases hx
/-! ### make -/

theorem zeroVals_length : ∀ t : Ty, (zeroVals t).length = t.size
  | .int _ => rfl
  | .bool => rfl
  | .str => rfl
  | .sl _ => rfl
  | .pair a b => by simp [zeroVals, Ty.size, zeroVals_length a, zeroVals_length b]
  | .unit => rfl

theorem madeCells_get {z : Array Value} {n k : Nat} (hk : k < n) (hz : 0 < z.size) : (madeCells z n)[k]? = some (z[k % z.size]'(Nat.mod_lt _ hz)) := by
  simp [madeCells, hk, Nat.mod_lt _ hz]

/-- a new row -/
theorem HR.allocRow (hr : HR w M σ h) {cells : Array Value} {e : TypeId} {t : Ty} {c : Nat} {l : List t.den} (hlie : Lie t e) (hs : cells.size = c * t.size) (hc : l.length ≤ c)
    (hl : ∀ i x, l[i]? = some x → ∃ ce, RepT (w.alloc (.cells cells e)) (Un M (σ ++ [.at w.heap.size l.length c t.size])) t x ce ∧ ∀ j v, ce[j]? = some v → cells[i * t.size + j]? = some v) :
    HR (w.alloc (.cells cells e)) M (σ ++ [.at w.heap.size l.length c t.size]) (h ++ [.rows t ⟨false, l⟩]) ∧
    Rep (w.alloc (.cells cells e)) (Un M (σ ++ [.at w.heap.size l.length c t.size])) (σ ++ [.at w.heap.size l.length c t.size]) (.slice (some ⟨w.heap.size, 0, none⟩) l.length c) (.own h.length) ∧
    Step w (w.alloc (.cells cells e)) σ (σ ++ [.at w.heap.size l.length c t.size]) := by
  have hst := Step.alloc w σ (.cells cells e) l.length c t.size
  refine ⟨hr.push hst (fun b hb => World.heap_alloc_lt w _ hb) (fun b n c z e => by cases e; simp) ⟨rfl, rfl, rfl, ⟨cells, e, World.heap_alloc_at w _, hs, hc, hl⟩, cells, e, World.heap_alloc_at w _, hlie⟩, ?_, hst⟩
  refine .own _ (.at w.heap.size l.length c t.size) _ ?_ rfl
  rw [← hr.len, List.getElem?_append_right (Nat.le_refl _)]; simp

theorem makeSliceV_ok (hT : TOk P T) {t : TypeId} {d : TD} (hd : TDOk P t d) {h : Heap} {n c : Int} {K : V → Heap → Option Ω} {r : Ω} (hk : makeSliceV T d h n c K = some r) :
    ∃ v h', K v h' = some r ∧ (∀ K' : V → Heap → Option Ω, makeSliceV T d h n c K' = K' v h') ∧ ∀ w M σ, HR w M σ h → GivesW P w M σ (Instr.makeSlice t (.int .i64 n) (.int .i64 c)) v h' := by
  have hs := hd.sh
  unfold makeSliceV at hk ⊢
  split at hk
  · rename_i e he
    rw [he] at hs
    have hs : P.underlying t = some (.slice e) := hs
    split at hk
    · rename_i de hde
      split at hk
      · rename_i ty hty
        by_cases hb0 : de.bytes = 0
        · rw [if_pos hb0] at hk; cases hk
        rw [if_neg hb0] at hk
        cases hb : inS 0 n c && decide (c * de.bytes ≤ roomLim) with
        | false => rw [hb] at hk; cases hk
        | true =>
          rw [hb] at hk
          have hd' := hT _ _ hde
          refine ⟨_, _, hk, fun K' => by simp only [hb0, if_false, hb, cond_true], fun w M σ hr => ?_⟩
          rw [Bool.and_eq_true, decide_eq_true_eq] at hb
          obtain ⟨hb1, hb2⟩ := hb
          obtain ⟨g1, g2, g3⟩ := inS_iff.1 hb1
          obtain ⟨i, z, hi, hsz, hby, hz, hzc⟩ := hd'.info
          obtain ⟨hts, hzt⟩ := hd'.ty ty hty
          have hzl : z.cells.size = ty.size := by
            have : z.cells.toList.length = ty.size := by rw [hzc, hzt, zeroVals_length]
            simpa using this
          have hlim : (i.bytes : Int) * c ≤ 140737488355328 := by rw [hby, Int.mul_comm, ← roomLim_eq]; exact hb2
          have hc63 : c ≤ 140737488355328 := by
            have h1 : 1 * c ≤ (i.bytes : Int) * c := Int.mul_le_mul_of_nonneg_right (by rw [hby]; omega) (by omega)
            omega
          have hrun := run_make (P := P) w t e i z hs hi hz .i64 .i64 n c g2 g3 (by omega) (by omega)
          have hrow := hr.allocRow (cells := madeCells z.cells (c.toNat * i.size)) (e := e) (t := ty) (c := c.toNat) (l := List.replicate n.toNat ty.zero) (hd'.lie ty hty) (by rw [size_madeCells, hsz, hts]) (by rw [List.length_replicate]; omega) fun k x hx => by
            rw [List.getElem?_replicate] at hx
            split at hx
            · cases hx
              rename_i hk
              refine ⟨zeroVals ty, zero_rep ty, fun j v hv => ?_⟩
              have hj : j < ty.size := by rw [← zeroVals_length]; exact (List.getElem?_eq_some_iff.1 hv).1
              have hlt : k * ty.size + j < c.toNat * i.size := by
                rw [hsz, ← hts]
                have : (k + 1) * ty.size ≤ c.toNat * ty.size := Nat.mul_le_mul_right _ (by omega)
                rw [Nat.succ_mul] at this; omega
              rw [madeCells_get hlt (by omega)]
              have e2 : (k * ty.size + j) % z.cells.size = j := by rw [hzl, Nat.mul_comm, Nat.mul_add_mod, Nat.mod_eq_of_lt hj]
              rw [← hzt, ← hzc] at hv
              simp only [e2]
              have : z.cells[j]? = some v := by simpa using hv
              rw [← this]; simp [hzl, hj]
            · cases hx
          rw [List.length_replicate] at hrow
          exact ⟨_, _, _, hrun, hrow.1, hrow.2.1, hrow.2.2⟩
      · cases hk
    · cases hk
  · cases hk
/-! ### Literals -/

theorem fillV_ok {place : Nat → Option (Nat × Nat)} : ∀ {parts : List (Nat × V)} {cs cs' : List V} {ps : List (Nat × Value)} {vs : Array Value}, fillV place cs parts = some cs' →
    (∀ (k : Nat) (p : Nat × V) (q : Nat × Value), parts[k]? = some p → ps[k]? = some q → p.1 = q.1 ∧ (p.2.cells.length ≠ 0 → Reps w U σ q.2.cells.toList p.2.cells)) → ps.length = parts.length → Reps w U σ vs.toList cs →
    ∃ vs', Instr.fill place vs ps = some vs' ∧ Reps w U σ vs'.toList cs'
  | [], cs, cs', ps, vs, h, H, hl, hr => by
    cases ps with
    | nil => simp only [fillV, Option.some.injEq] at h; subst h; exact ⟨vs, rfl, hr⟩
    | cons _ _ => simp at hl
  | (i, x) :: rest, cs, cs', ps, vs, h, H, hl, hr => by
    cases ps with
    | nil => simp at hl
    | cons q ps =>
      obtain ⟨h1, h3⟩ := H 0 (i, x) q rfl rfl
      obtain ⟨qi, qv⟩ := q
      dsimp only at h1 h3
      subst h1
      simp only [fillV] at h
      cases hp : place i with
      | none => rw [hp] at h; cases h
      | some os =>
        obtain ⟨off, size⟩ := os
        rw [hp] at h
        dsimp only at h
        split at h
        · rename_i hc
          obtain ⟨c1, c2, c3⟩ := hc
          have hcells := h3 (by omega)
          have hvl : qv.cells.size = size := by have := hcells.1; simp at this; omega
          have hvs : vs.size = cs.length := by simpa using hr.1
          have hfold : ∀ (l : List Value) (k : Nat) (arr : Array Value), off + k + l.length ≤ arr.size →
              ((l.zipIdx k).foldl (fun cs (p : Value × Nat) => cs.setIfInBounds (off + p.2) p.1) arr).toList = splice arr.toList (off + k) l := by
            intro l
            induction l with
            | nil => intro k arr _; simp [splice]
            | cons a l ih =>
              intro k arr hk
              simp only [List.zipIdx_cons, List.foldl_cons]
              rw [ih (k + 1) _ (by simp at hk ⊢; omega)]
              apply List.ext_getElem?
              intro j
              rw [splice_get _ _ _ (by simp at hk ⊢; omega), splice_get _ _ _ (by simp at hk ⊢; omega)]
              simp only [Array.toList_setIfInBounds, List.getElem?_set, List.length_cons]
              by_cases e : j = off + k
              · subst e
                rw [if_neg (by omega), if_pos rfl, if_pos (by simp at hk ⊢; omega), if_pos (by omega)]
                simp
              · by_cases e2 : off + (k + 1) ≤ j ∧ j < off + (k + 1) + l.length
                · rw [if_pos e2, if_pos (by omega), show j - (off + k) = (j - (off + (k + 1))) + 1 by omega]; rfl
                · rw [if_neg e2, if_neg (by omega), if_neg (by omega)]
          have hfold0 := hfold qv.cells.toList 0 vs (by simp; omega)
          have hfill : Instr.fill place vs ((i, qv) :: ps) = Instr.fill place (qv.cells.zipIdx.foldl (fun cs (c, j) => cs.setIfInBounds (off + j) c) vs) ps := by
            simp only [Instr.fill, hp]
            rw [if_neg (by simp [hvl]; omega)]
          have harr : (qv.cells.zipIdx.foldl (fun cs (c, j) => cs.setIfInBounds (off + j) c) vs).toList = splice vs.toList off qv.cells.toList := by
            rw [← Array.foldl_toList, Array.toList_zipIdx]; simpa using hfold0
          rw [hfill]
          refine fillV_ok h (fun k p q hp hq => H (k + 1) p q (by simpa using hp) (by simpa using hq)) (by simpa using hl) ?_
          rw [harr]
          exact hr.splice hcells off
        · cases h

theorem zeroOf_reps {d : TD} : Reps w U σ d.zero (zeroOf d) := ofValues_reps _

/-- a part, with its cells -/
theorem part_cells (hr : HR w M σ h) {x : V} {v : Value} (hv : Rep w (Un M σ) σ v x) (hs : x.cells.all (solid h) = true) (hl : x.cells.length ≠ 0) : Reps w (Un M σ) σ v.cells.toList x.cells := (hr.cells hv hl hs).1
theorem run_mapM_fields : ∀ {fs : List Field}, (∀ f ∈ fs, (P.info? f.type).isSome = true) → ∃ l, (fs.mapM fun f => (do pure (f.offset, ← sizeOf f.type) : Sem (Nat × Nat))).run P w = .ok l w ∧
    ∀ (i : Nat) (f : Field) (d : TD), fs[i]? = some f → TDOk P f.type d → l[i]? = some (f.offset, d.size)
  | [], _ => ⟨[], by simp, fun i f d h _ => by simp at h⟩
  | f :: fs, H => by
    obtain ⟨l, h1, h2⟩ := run_mapM_fields (fs := fs) fun g hg => H g (List.mem_cons_of_mem _ hg)
    obtain ⟨inf, hn⟩ := Option.isSome_iff_exists.1 (H f List.mem_cons_self)
    have hsz : (sizeOf f.type).run P w = .ok inf.size w := by simp [sizeOf, typeInfo, hn]
    refine ⟨(f.offset, inf.size) :: l, ?_, fun i g d hg hd => ?_⟩
    · simp only [List.mapM_cons, Sem.run_bind, hsz, Result.andThen_ok, Sem.run_pure, h1]
    · cases i with
      | zero =>
        simp at hg; subst hg
        have := hd.run_size w
        rw [hsz] at this
        have e := Result.ok.inj this
        simp only [List.getElem?_cons_zero, ← e.1]
      | succ i => simpa using h2 i g d (by simpa using hg) hd

theorem fill_congr {p q : Nat → Option (Nat × Nat)} : ∀ (ps : List (Nat × Value)) (vs : Array Value), (∀ x ∈ ps, p x.1 = q x.1) → Instr.fill p vs ps = Instr.fill q vs ps
  | [], _, _ => rfl
  | (i, v) :: r, vs, H => by
    have := H (i, v) List.mem_cons_self
    simp only [Instr.fill]
    dsimp only at this
    rw [this]
    cases q i with
    | none => rfl
    | some os =>
      obtain ⟨off, size⟩ := os
      dsimp only
      split
      · rfl
      · exact fill_congr r _ fun x hx => H x (List.mem_cons_of_mem _ hx)

theorem fillV_places {place : Nat → Option (Nat × Nat)} : ∀ {parts : List (Nat × V)} {cs cs' : List V}, fillV place cs parts = some cs' → ∀ x ∈ parts, ∃ off size, place x.1 = some (off, size) ∧ size ≠ 0
  | [], _, _, _, x, hx => by cases hx
  | (i, y) :: r, cs, cs', h, x, hx => by
    simp only [fillV] at h
    cases hp : place i with
    | none => rw [hp] at h; cases h
    | some os =>
      obtain ⟨off, size⟩ := os
      rw [hp] at h
      dsimp only at h
      split at h
      · rename_i hc
        rcases List.mem_cons.1 hx with rfl | hx
        · exact ⟨off, size, hp, hc.2.1⟩
        · exact fillV_places h x hx
      · cases h

theorem buildV_ok (hT : TOk P T) {t : TypeId} {d : TD} (hd : TDOk P t d) {parts : List (Nat × V)} {v : V} (hb : buildV T d parts = some v) (hr : HR w M σ h)
    {ps : List (Nat × Value)} (hl : ps.length = parts.length) (hps : ∀ (k : Nat) (p : Nat × V) (q : Nat × Value), parts[k]? = some p → ps[k]? = some q → p.1 = q.1 ∧ Rep w (Un M σ) σ q.2 p.2)
    (hso : parts.all (fun p => p.2.cells.all (solid h)) = true) :
    Gives P w (Un M σ) σ (Instr.build t ps.toArray) v := by
  have hs := hd.sh
  have H : ∀ (k : Nat) (p : Nat × V) (q : Nat × Value), parts[k]? = some p → ps[k]? = some q → p.1 = q.1 ∧ (p.2.cells.length ≠ 0 → Reps w (Un M σ) σ q.2.cells.toList p.2.cells) := by
    intro k p q hp hq
    obtain ⟨h1, h2⟩ := hps k p q hp hq
    refine ⟨h1, fun hne => part_cells hr h2 ?_ hne⟩
    rw [List.all_eq_true] at hso
    exact hso p (List.mem_of_getElem? hp)
  obtain ⟨z, hz, hzc⟩ := hd.run_zero w
  have hz0 : Reps w (Un M σ) σ z.cells.toList (zeroOf d) := by rw [hzc]; exact zeroOf_reps
  unfold buildV at hb
  split at hb
  · rename_i fs he
    rw [he] at hs
    obtain ⟨F, hF, hm, hall⟩ := hs
    split at hb
    · rename_i cs' hf
      cases hb
      obtain ⟨vs', g1, g2⟩ := fillV_ok hf H hl hz0
      refine .mk (Rep.agg_mk g2) ?_
      obtain ⟨l, hl1, hl2⟩ := run_mapM_fields (P := P) (w := w) hall
      have hm1 : (F.mapM fun f => (do pure (f.offset, ← sizeOf f.type) : Sem (Nat × Nat))).run P w = .ok l.toArray w := by
        rw [← Array.toArray_toList (xs := F)] 
        rw [List.mapM_toArray]
        simp only [Sem.run_map, hl1, Result.andThen_ok]
      have hfill : Instr.fill (fun i => l.toArray[i]?) z.cells ps = some vs' := by
        rw [← g1]
        refine fill_congr ps _ fun x hx => ?_
        obtain ⟨k, hk⟩ := List.getElem?_of_mem hx
        have hkl : k < parts.length := by rw [← hl]; exact (List.getElem?_eq_some_iff.1 hk).1
        have hpk := List.getElem?_eq_getElem hkl
        have e1 := (H k _ x hpk hk).1
        obtain ⟨off, size, hp, hnz⟩ := fillV_places hf _ (List.getElem_mem hkl)
        rw [← e1, hp]
        cases hfs : fs[(parts[k]).1]? with
        | none => rw [hfs] at hp; cases hp
        | some q =>
          rw [hfs] at hp
          obtain ⟨o, ft⟩ := q
          dsimp only at hp
          cases hp
          rw [← hm] at hfs
          simp only [List.getElem?_map, Option.map_eq_some_iff] at hfs
          obtain ⟨fl, q1, q2⟩ := hfs
          cases q2
          obtain ⟨d', hd1, hd2, hd3⟩ := sizeOfT_ok hT hnz
          rw [← hd3]
          simpa using hl2 _ fl d' q1 hd2
      simp only [Instr.build, Sem.run_bind, hz, Result.andThen_ok, run_underlying hF, hm1]
      simp only [hfill]
      simp
    · cases hb
  · rename_i n e he
    rw [he] at hs
    have hs : P.underlying t = some (.array n e) := hs
    split at hb
    · cases hb
    rename_i hnz
    split at hb
    · rename_i cs' hf
      cases hb
      obtain ⟨vs', g1, g2⟩ := fillV_ok hf H hl hz0
      obtain ⟨d', hd1, hd2, hd3⟩ := sizeOfT_ok hT hnz
      refine .mk (Rep.agg_mk g2) ?_
      have hsz := hd2.run_size w
      rw [hd3] at hsz
      simp only [Instr.build, Sem.run_bind, hz, Result.andThen_ok, run_underlying hs, hsz, g1]
      simp
    · cases hb
  · cases hb
end
end Go.Proofs.YtnebpmcmdmpoaaaDoor.R
