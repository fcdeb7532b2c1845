/- Operations that read memory: loads, addresses, fields, elements, parts of slices. -/
import Derived.Test.YtnebpmcmdmpoaaaDoorROps1
import Derived.Laws.Slices
namespace Go.Proofs.YtnebpmcmdmpoaaaDoor.R
open Go
set_option linter.unusedVariables false
set_option linter.unusedSimpArgs false

section
variable {P : Program} {w : World} {U : Nat → Prop} {σ : Sig} {M : Nat → Prop} {Ω : Type} {h : Heap}

def CellsHold (w : World) (a : Addr) (vs : List Value) : Prop := ∀ (j : Nat) (v : Value), vs[j]? = some v → w.cell? (a.add j) = some v

theorem CellsHold.drop {a : Addr} {vs : List Value} (hc : CellsHold w a vs) (n : Nat) : CellsHold w (a.add n) (vs.drop n) := fun j v hv => by
  rw [Addr.add_add]; exact hc _ v (by simpa [List.getElem?_drop] using hv)
theorem CellsHold.take {a : Addr} {vs : List Value} (hc : CellsHold w a vs) (n : Nat) : CellsHold w a (vs.take n) := fun j v hv => by
  rw [List.getElem?_take] at hv; split at hv
  · exact hc _ v hv
  · cases hv

theorem shape_ok {t : TypeId} {d : TD} (hd : TDOk P t d) {a : Addr} {vs : List Value} {cs : List V} {v : V} (hc : CellsHold w a vs) (hr : Reps w U σ vs cs) (hs : d.shape cs = some v) :
    Gives P w U σ (loadVar t a) v := by
  unfold TD.shape at hs
  split at hs
  · rename_i hle
    split at hs
    · rename_i ha
      cases hs
      have hl : (vs.take d.size).length = d.size := by rw [List.length_take, hr.1]; omega
      have := run_loadCells_list (P := P) w a (vs.take d.size) (hc.take _)
      rw [hl] at this
      refine ⟨.agg (vs.take d.size).toArray, ?_, Rep.agg_mk (hr.take _)⟩
      simp [loadVar, hd.run_isAgg, ha, hd.run_size, this]
    · rename_i ha
      cases cs with
      | nil => cases hs
      | cons x r =>
        cases hs
        obtain ⟨v, r', rfl, hv, _⟩ := hr.inv_cons
        have h0 := hc 0 v rfl
        rw [Addr.add_zero'] at h0
        exact ⟨v, by simp [loadVar, hd.run_isAgg, ha, h0], hv⟩
  · cases hs

/-- the row behind a place -/
theorem RowAt.elem {t : Ty} {b c : Nat} {l : List t.den} (hr : RowAt w U t b c l) {i : Nat} {x : t.den} (hx : l[i]? = some x) :
    ∃ ce, RepT w U t x ce ∧ CellsHold w ⟨b, i * t.size, none⟩ ce := by
  obtain ⟨cur, et, h1, h2, h3, h4⟩ := hr
  obtain ⟨ce, g1, g2⟩ := h4 i x hx
  refine ⟨ce, g1, fun j v hv => ?_⟩
  rw [Addr.add_mk, cell_of_row w b _ cur et _ h1]
  exact g2 j v hv

theorem RowAt.all {t : Ty} {b c : Nat} {l : List t.den} (hr : RowAt w U t b c l) : ∀ m, m ≤ l.length →
    ∃ vs, CellsHold w ⟨b, 0, none⟩ vs ∧ Reps w U σ vs ((List.range m).flatMap fun j => explode t (l.getD j t.zero)) := by
  obtain ⟨cur, et, h1, h2, h3, h4⟩ := hr
  have key : ∀ m, m ≤ l.length → Reps w U σ (cur.toList.take (m * t.size)) ((List.range m).flatMap fun j => explode t (l.getD j t.zero)) := by
    intro m
    induction m with
    | zero => intro _; simp; exact .nil
    | succ m ih =>
      intro hm
      have hx : l[m]? = some l[m] := List.getElem?_eq_getElem (by omega)
      obtain ⟨ce, g1, g2⟩ := h4 m _ hx
      rw [List.range_succ, List.flatMap_append, List.flatMap_singleton]
      have hce : (cur.toList.drop (m * t.size)).take t.size = ce := by
        apply List.ext_getElem?
        intro j
        rw [List.getElem?_take]
        by_cases hj : j < t.size
        · rw [if_pos hj, List.getElem?_drop]
          have hj' : j < ce.length := by rw [g1.length]; exact hj
          rw [List.getElem?_eq_getElem hj']
          have := g2 j _ (List.getElem?_eq_getElem hj')
          simpa using this
        · rw [if_neg hj, List.getElem?_eq_none (by rw [g1.length]; omega)]
      have hsp : cur.toList.take ((m + 1) * t.size) = cur.toList.take (m * t.size) ++ ce := by
        rw [← hce, Nat.succ_mul, List.take_add]
      rw [hsp]
      refine (ih (by omega)).append ?_
      have : l.getD m t.zero = l[m] := by rw [List.getD_eq_getElem?_getD, hx]; rfl
      rw [this]
      exact g1.reps
  intro m hm
  refine ⟨_, fun j v hv => ?_, key m hm⟩
  rw [List.getElem?_take] at hv
  split at hv
  · rw [Addr.add_mk, cell_of_row w b _ cur et _ h1]; simpa using hv
  · cases hv

theorem getD_of {α : Type} {l : List α} {i : Nat} (hi : i < l.length) (z : α) : l[i]? = some (l.getD i z) := by
  rw [List.getD_eq_getElem?_getD, List.getElem?_eq_getElem hi]; rfl

/-- an element of a row or an array of ours, by its pointer -/
theorem HR.eptr (hr : HR w M σ h) {id i off : Nat} {v : Value} (hv : Rep w (Un M σ) σ v (.eptr id i off)) :
    (∀ t s, h.getD id .dead = .rows t s → ∃ b c, σ[id]? = some (.at b s.l.length c t.size) ∧ i < s.l.length ∧ s.nl = false ∧ v = .pointer (some ⟨b, i * t.size + off, none⟩) ∧ RowAt w (Un M σ) t b c s.l) ∧
    (∀ t n l, h.getD id .dead = .arr t n l → ∃ b, σ[id]? = some (.at b n n t.size) ∧ n = l.length ∧ i < n ∧ v = .pointer (some ⟨b, i * t.size + off, none⟩) ∧ RowAt w (Un M σ) t b n l) := by
  cases hv with
  | eptr _ _ _ p _ hp hat =>
    have hb := hr.get hp
    refine ⟨fun t s hB => ?_, fun t n l hB => ?_⟩
    · rw [hB] at hb
      cases p with
      | «at» b n c z =>
        obtain ⟨h1, rfl, rfl, h4, _⟩ := hb
        exact ⟨b, c, hp, hat.1, h1, hat.2, h4⟩
      | nil => exact hat.elim
      | emp a => exact hat.elim
      | dead => exact hb.elim
    · rw [hB] at hb
      cases p with
      | «at» b n' c z =>
        obtain ⟨rfl, h1, rfl, rfl, h4⟩ := hb
        exact ⟨b, hp, h1, hat.1, hat.2, h4⟩
      | _ => exact hb.elim

theorem HR.ptr (hr : HR w M σ h) {id off : Nat} {v : Value} (hv : Rep w (Un M σ) σ v (.ptr id off)) {e : TypeId} {cs : List V} (hB : h.getD id .dead = .box e cs) :
    ∃ b, σ[id]? = some (.at b cs.length cs.length 1) ∧ v = .pointer (some ⟨b, off, none⟩) ∧ BoxAt w (Un M σ) σ b e cs := by
  cases hv with
  | ptr _ _ p _ hp hat =>
    have hb := hr.get hp
    rw [hB] at hb
    cases p with
    | «at» b n c z =>
      obtain ⟨rfl, rfl, rfl, h4⟩ := hb
      exact ⟨b, hp, hat, h4⟩
    | _ => exact hb.elim

theorem Rep.fp_cells {v : Value} {cs : List V} (hv : Rep w U σ v (.fp cs)) : ∃ a vs, v = .pointer (some a) ∧ CellsHold w a vs ∧ Reps w U σ vs cs ∧ ∀ (j : Nat) (x : V), cs[j]? = some x → ¬ U a.block := by
  cases hv with
  | fp a _ f hc hf =>
    refine ⟨a, (List.range cs.length).map f, rfl, fun j v hv => ?_, ⟨by simp, fun j v x hv hx => ?_⟩, fun j x hx => (hc j x hx).2⟩
    · simp [List.getElem?_map] at hv
      obtain ⟨k, hk, rfl⟩ := hv
      obtain ⟨hlt, rfl⟩ := List.getElem?_eq_some_iff.1 hk
      simp at hlt
      simp
      exact (hc _ _ (List.getElem?_eq_getElem hlt)).1
    · simp [List.getElem?_map] at hv
      obtain ⟨k, hk, rfl⟩ := hv
      obtain ⟨hlt, rfl⟩ := List.getElem?_eq_some_iff.1 hk
      simp
      exact hf j x hx

theorem Rep.fp_mk {a : Addr} {vs : List Value} {cs : List V} (hc : CellsHold w a vs) (hr : Reps w U σ vs cs) (hu : ∀ (j : Nat) (x : V), cs[j]? = some x → ¬ U a.block) : Rep w U σ (.pointer (some a)) (.fp cs) := by
  refine .fp a cs (fun j => vs.getD j Go.undef) (fun j x hx => ?_) fun j x hx => ?_
  · obtain ⟨v, h1, h2⟩ := hr.get hx
    exact ⟨by rw [hc j v h1, List.getD_eq_getElem?_getD, h1]; rfl, hu j x hx⟩
  · obtain ⟨v, h1, h2⟩ := hr.get hx
    rw [List.getD_eq_getElem?_getD, h1]; exact h2

theorem run_loadAt {t : TypeId} (a : Addr) : (Instr.loadAt t (.pointer (some a))).run P w = (loadVar t a).run P w := by simp [Instr.loadAt, Instr.sureAddr]

theorem loadV_ok {t : TypeId} {d : TD} (hd : TDOk P t d) {p v : V} (hl : loadV d h p = some v) (hr : HR w M σ h) {a : Value} (ha : Rep w (Un M σ) σ a p) :
    Gives P w (Un M σ) σ (Instr.loadAt t a) v := by
  unfold loadV at hl
  split at hl
  · rename_i id off
    split at hl
    · rename_i cs hB
      obtain ⟨b, hp, rfl, cur, h1, h2, h3⟩ := hr.ptr ha hB
      unfold Gives; rw [run_loadAt]
      refine shape_ok hd (vs := cur.toList.drop off) (fun j v hv => ?_) ⟨by simp [h2], fun j v x hv hx => ?_⟩ hl
      · rw [Addr.add_mk, cell_of_row w b _ cur _ _ h1]; simpa [List.getElem?_drop] using hv
      · exact h3 (off + j) v x (by simpa [List.getElem?_drop] using hv) (by simpa [List.getElem?_drop] using hx)
    · cases hl
  · rename_i id i off
    have he := hr.eptr ha
    split at hl
    · rename_i t' s hB
      obtain ⟨b, c, hp, hi, _, rfl, hrow⟩ := he.1 t' s hB
      obtain ⟨ce, g1, g2⟩ := hrow.elem (getD_of hi t'.zero)
      unfold Gives; rw [run_loadAt, ← Addr.add_mk]
      exact shape_ok hd (g2.drop off) (g1.reps.drop off) hl
    · rename_i t' n l hB
      obtain ⟨b, hp, hn, hi, rfl, hrow⟩ := he.2 t' n l hB
      have single : d.shape ((explode t' (l.getD i t'.zero)).drop off) = some v → Gives P w (Un M σ) σ (Instr.loadAt t (.pointer (some ⟨b, i * t'.size + off, none⟩))) v := fun hl => by
        obtain ⟨ce, g1, g2⟩ := hrow.elem (getD_of (hn ▸ hi) t'.zero)
        unfold Gives; rw [run_loadAt, ← Addr.add_mk]
        exact shape_ok hd (g2.drop off) (g1.reps.drop off) hl
      split at hl
      · rename_i m e hsh
        split at hl
        · rename_i hc
          obtain ⟨rfl, rfl, rfl, hsz⟩ := hc
          obtain ⟨vs, g1, g2⟩ := hrow.all (σ := σ) m (by omega)
          unfold Gives; rw [run_loadAt]
          have hag : d.agg = true := by unfold TD.agg; rw [hsh]
          have hlen : ((List.range m).flatMap fun j => explode t' (l.getD j t'.zero)).length = m * t'.size := by
            have : ∀ k, ((List.range k).flatMap fun j => explode t' (l.getD j t'.zero)).length = k * t'.size := by
              intro k; induction k with
              | zero => simp
              | succ k ih => rw [List.range_succ, List.flatMap_append, List.length_append, ih, List.flatMap_singleton, explode_length, Nat.succ_mul]
            exact this m
          refine shape_ok hd (vs := vs) (by simpa using g1) g2 ?_
          rw [← hl]
          unfold TD.shape
          rw [if_pos (by rw [hlen]; omega), if_pos hag, List.take_of_length_le (by rw [hlen]; omega)]
        · cases hl
      · exact single hl
    · cases hl
  · obtain ⟨a', vs, rfl, g1, g2, _⟩ := ha.fp_cells
    unfold Gives; rw [run_loadAt]
    exact shape_ok hd g1 g2 hl
  · cases hl
end
end Go.Proofs.YtnebpmcmdmpoaaaDoor.R
