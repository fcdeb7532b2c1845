/- Slice literals, append, copy, conversions, lengths. -/
import Derived.Test.YtnebpmcmdmpoaaaDoorROps6
namespace Go.Proofs.YtnebpmcmdmpoaaaDoor.R
open Go
set_option linter.unusedVariables false
set_option linter.unusedSimpArgs false

section
variable {P : Program} {T : Types} {w : World} {U : Nat → Prop} {σ : Sig} {M : Nat → Prop} {Ω : Type} {h : Heap}

theorem RowL.ofListOf {t : Ty} {n : Nat} {cs : List V} {l : List t.den} {vs : List Value} (hl : listOf t n cs = some l) (hr : Reps w U σ vs cs) : RowL w U t l vs := by
  obtain ⟨e1, e2, e3⟩ := listOf_ok hl hr
  exact ⟨by rw [e1]; exact e2, e3⟩

/-- a new row of these cells (and what may lie behind them), behind what was spent -/
theorem HR.newRow (hr : HR w M σ h) {cells : Array Value} {e : TypeId} {t : Ty} {c : Nat} {l : List t.den} {news rest : List Value} (hlie : Lie t e) (hl : RowL w (Un M σ) t l news) (hcells : cells.toList = news ++ rest)
    (hs : cells.size = c * t.size) (hc : l.length ≤ c) :
    HR (w.alloc (.cells cells e)) M (σ ++ [.at w.heap.size l.length c t.size]) (h ++ [.rows t ⟨false, l⟩]) ∧
    Rep (w.alloc (.cells cells e)) (Un M (σ ++ [.at w.heap.size l.length c t.size])) (σ ++ [.at w.heap.size l.length c t.size]) (.slice (some ⟨w.heap.size, 0, none⟩) l.length c) (.own h.length) ∧
    Step w (w.alloc (.cells cells e)) σ (σ ++ [.at w.heap.size l.length c t.size]) := by
  refine hr.allocRow hlie hs hc fun i x hx => ?_
  obtain ⟨ce, g1, g2⟩ := hl.2 i x hx
  refine ⟨ce, RepT.mono ((Step.alloc w σ (.cells cells e) l.length c t.size).keeps M) g1, fun j v hv => ?_⟩
  have := g2 j v hv
  rw [← Array.getElem?_toList, hcells, List.getElem?_append_left (List.getElem?_eq_some_iff.1 this).1]; exact this

theorem shownC_reps (hr : HR w M σ h) {xs : List V} {x : V} {v : Value} (hv : Rep w (Un M σ) σ v x) (hx : ∀ y ∈ x.cells, y ∈ xs) (hs : x.cells.all (solid h) = true)
    (hne : (shownC h x).cells.length ≠ 0) : Reps w (Un M (spendAllS σ xs)) (spendAllS σ xs) v.cells.toList (shownC h x).cells := by
  cases hxc : x with
  | agg cs =>
    subst hxc
    have hne' : (V.agg cs).cells.length ≠ 0 := by simpa [shownC, V.cells] using hne
    have hR := (hr.cells hv hne' hs).1
    exact spend_repsOf hr hx hR
  | _ =>
    subst hxc
    first
      | (exfalso; exact hne rfl)
      | (have hR := spend_repsOf (xs := xs) hr (ys := [_]) (fun y hy => hx y (by simpa [V.cells] using hy)) (Reps.one hv)
         have h1 : v.oneCell' = true := solid_one hr (by simpa [V.cells] using hs) hv
         have hvc : v.cells = #[v] := by cases v <;> simp [Value.oneCell'] at h1 <;> rfl
         rw [hvc]
         have hsc : ∀ y : V, y.cells.length ≠ 0 → (∀ cs, y ≠ .agg cs) → y.cells = [y] := by
           intro y h1 h2
           cases y <;> first | rfl | exact absurd rfl (h2 _) | (exfalso; exact h1 rfl) | (rename_i q; by_cases ho : q.oneCell' = true <;> simp [V.cells, ho] at h1 ⊢)
         simp only [shownC] at hne ⊢
         rw [hsc _ hne (by intro cs e; unfold shown at e; (repeat' split at e) <;> cases e)]
         exact hR)
      | (rename_i q
         by_cases ho : q.oneCell' = true
         · have hq : v = q := by cases hv; rfl
           subst hq
           have hvc : v.cells = #[v] := by cases v <;> simp [Value.oneCell'] at ho <;> rfl
           simp only [shownC, shown, V.cells, ho, if_true]
           rw [hvc]; exact Reps.one (.lit v)
         · exfalso; exact hne (by simp [shownC, shown, V.cells, ho]))

theorem zeroOf_flat (z : List Value) : ∀ (n : Nat), (List.range n).flatMap (fun _ => z) = (List.range (n * z.length)).map fun i => z.getD (i % z.length) Go.undef
  | 0 => by simp
  | n + 1 => by
    rw [List.range_succ, List.flatMap_append, zeroOf_flat z n, List.flatMap_singleton, Nat.succ_mul, List.range_add, List.map_append]
    congr 1
    apply List.ext_getElem?
    intro j
    simp only [List.map_map, List.getElem?_map]
    by_cases hj : j < z.length
    · rw [List.getElem?_range hj]
      simp only [Option.map_some, Function.comp]
      rw [show n * z.length + j = j + z.length * n by rw [Nat.mul_comm]; omega, Nat.add_mul_mod_self_left, Nat.mod_eq_of_lt hj, List.getD_eq_getElem?_getD, List.getElem?_eq_getElem hj]; rfl
    · rw [List.getElem?_eq_none (by omega), List.getElem?_eq_none (by simp; omega)]; rfl
theorem flat_reps (z : List Value) (n : Nat) : Reps w U σ ((List.range n).flatMap fun _ => z) ((List.range n).flatMap fun _ => z.map ofValue) := by
  induction n with
  | zero => simp; exact .nil
  | succ n ih =>
    rw [List.range_succ, List.flatMap_append, List.flatMap_append, List.flatMap_singleton, List.flatMap_singleton]
    exact ih.append (ofValues_reps z)

theorem buildSliceV_ok (hT : TOk P T) {t : TypeId} {d : TD} (hd : TDOk P t d) {len : Nat} {parts : List (Nat × V)} {v : V} {h' : Heap} (hb : buildSliceV T d h len parts = some (v, h')) (hr : HR w M σ h)
    {ps : List (Nat × Value)} (hl : ps.length = parts.length) (hps : ∀ (k : Nat) (p : Nat × V) (q : Nat × Value), parts[k]? = some p → ps[k]? = some q → p.1 = q.1 ∧ Rep w (Un M σ) σ q.2 p.2) :
    GivesW P w M σ (Instr.buildSlice t len ps.toArray) v h' := by
  have hs := hd.sh
  unfold buildSliceV at hb
  split at hb
  · rename_i e he
    rw [he] at hs
    have hs : P.underlying t = some (.slice e) := hs
    split at hb
    · rename_i de hde
      have hd' := hT _ _ hde
      split at hb
      · rename_i ty hty
        split at hb
        · rename_i hc
          obtain ⟨hlim, hso⟩ := hc
          rw [List.all_eq_true] at hso
          split at hb
          · rename_i cs hf
            split at hb
            · rename_i l hlo
              cases hb
              obtain ⟨hts, hzt⟩ := hd'.ty ty hty
              let xs := parts.flatMap fun p => p.2.cells
              obtain ⟨hr1, hst1⟩ := spendAllS_ok xs hr
              obtain ⟨z, hz, hzc⟩ := hd'.run_zero w
              have hz0 : Reps w (Un M (spendAllS σ xs)) (spendAllS σ xs) ((List.range len).flatMap fun _ => de.zero) ((List.range len).flatMap fun _ => zeroOf de) := flat_reps _ _
              have hzl : z.cells.size = de.size := by
                have : z.cells.toList.length = de.size := by rw [hzc, hzt, zeroVals_length, hts]
                simpa using this
              -- the cells that it starts from
              have hstart : ∀ zz : Array Value, (len * de.size ≠ 0 → zz = z.cells) → ((Array.range (len * de.size)).map (fun i => zz[i % zz.size]!)).toList = (List.range len).flatMap fun _ => de.zero := by
                intro zz hzz
                rw [← hzc, zeroOf_flat z.cells.toList len]
                simp only [Array.toList_map, Array.toList_range, Array.length_toList, hzl]
                apply List.map_congr_left
                intro i hi
                rw [List.mem_range] at hi
                have := hzz (by omega)
                subst this
                have hpos : 0 < de.size := by rcases Nat.eq_zero_or_pos de.size with e | e; · rw [e] at hi; omega
                                              · exact e
                have hlt : i % de.size < z.cells.size := by rw [hzl]; exact Nat.mod_lt _ hpos
                rw [hzl, List.getD_eq_getElem?_getD]
                simp [hlt]
              have hfil : ∀ zz : Array Value, (len * de.size ≠ 0 → zz = z.cells) → ∃ vs', Instr.fill (fun i => some (i * de.size, de.size)) ((Array.range (len * de.size)).map (fun i => zz[i % zz.size]!)) ps = some vs' ∧ Reps w (Un M (spendAllS σ xs)) (spendAllS σ xs) vs'.toList cs := by
                intro zz hzz
                refine fillV_ok hf (fun k p q hp hq => ?_) (by simpa using hl) (by rw [hstart zz hzz]; exact hz0)
                rw [List.getElem?_map] at hp
                obtain ⟨p0, hp0, rfl⟩ := Option.map_eq_some_iff.1 hp
                obtain ⟨h1, h2⟩ := hps k p0 q hp0 hq
                have hm := List.mem_of_getElem? hp0
                exact ⟨h1, fun hne => shownC_reps hr h2 (fun y hy => List.mem_flatMap.2 ⟨p0, hm, hy⟩) (hso p0 hm) hne⟩
              have fin : ∀ zz : Array Value, (len * de.size ≠ 0 → zz = z.cells) → (∀ vs', Instr.fill (fun i => some (i * de.size, de.size)) ((Array.range (len * de.size)).map (fun i => zz[i % zz.size]!)) ps = some vs' →
                  (Instr.buildSlice t len ps.toArray).run P w = .ok (.slice (some ⟨w.heap.size, 0, none⟩) len len) (w.alloc (.cells vs' e))) →
                  GivesW P w M σ (Instr.buildSlice t len ps.toArray) (.own h.length) (spendAll h xs ++ [.rows ty ⟨false, l⟩]) := by
                intro zz hzz hrun
                obtain ⟨vs', g1, g2⟩ := hfil zz hzz
                have hrow := RowL.ofListOf hlo g2
                have e1 := (listOf_ok hlo g2).1
                have hn := hr1.newRow (cells := vs') (e := e) (c := len) (rest := []) (hd'.lie ty hty) hrow (by simp) (by have := hrow.1; rw [e1] at this; simpa using this) (by omega)
                rw [spendAll_length, e1] at hn
                exact ⟨_, _, _, hrun vs' g1, hn.1, hn.2.1, hst1.trans hn.2.2⟩
              have hnl : ¬ len * de.size > 16777216 := by omega
              by_cases h0 : len * de.size = 0
              · refine fin #[] (fun h => absurd h0 h) fun vs' g1 => ?_
                simp only [Instr.buildSlice, Sem.run_bind, run_underlying hs, Result.andThen_ok, hd'.run_size]
                rw [Sem.run_ite, if_neg (by simpa using hnl), Sem.run_ite, if_pos h0]
                simp only [Sem.run_bind, Sem.run_pure, Result.andThen_ok, g1]
                simp [newRow]
              · refine fin z.cells (fun _ => rfl) fun vs' g1 => ?_
                simp only [Instr.buildSlice, Sem.run_bind, run_underlying hs, Result.andThen_ok, hd'.run_size]
                rw [Sem.run_ite, if_neg (by simpa using hnl), Sem.run_ite, if_neg h0]
                simp only [Sem.run_bind, Sem.run_pure, Result.andThen_ok, hz, g1]
                simp [newRow]
            · cases hb
          · cases hb
        · cases hb
      · cases hb
    · cases hb
  · cases hb
end
end Go.Proofs.YtnebpmcmdmpoaaaDoor.R
