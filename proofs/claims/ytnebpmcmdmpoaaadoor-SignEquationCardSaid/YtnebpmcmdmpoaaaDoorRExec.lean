/- Code: what the walk says of it, the model does. -/
import Derived.Test.YtnebpmcmdmpoaaaDoorRAny
import Derived.Tactics
namespace Go.Proofs.YtnebpmcmdmpoaaaDoor.R
open Go
set_option linter.unusedVariables false
set_option linter.unusedSimpArgs false

section
variable {P : Program} {Ω : Type} {E : Env Ω}

/-! ### From world to world, blocks being named anew -/

structure Goes (pin : Nat) (w w' : World) (σ σ' : Sig) : Prop where
  os : w'.os = w.os
  tape : w'.tape = w.tape
  output : w'.output = w.output
  size : w.heap.size ≤ w'.heap.size
  keep : ∀ b, b < w.heap.size → ¬ σ.has b → w'.heap[b]? = w.heap[b]?
  new : ∀ b, σ'.has b → σ.has b ∨ w.heap.size ≤ b
  pinned : ∀ (i : Nat) (p : Pl), i < pin → σ[i]? = some p → ∃ p' : Pl, σ'[i]? = some p' ∧ (p' = p ∨ p' = Pl.dead)

theorem Goes.refl (pin : Nat) (w : World) (σ : Sig) : Goes pin w w σ σ := ⟨rfl, rfl, rfl, Nat.le_refl _, fun _ _ _ => rfl, fun _ h => .inl h, fun _ p _ h => ⟨p, h, .inl rfl⟩⟩
theorem Step.goes {pin : Nat} {w w' : World} {σ σ' : Sig} (h : Step w w' σ σ') : Goes pin w w' σ σ' := ⟨h.os, h.tape, h.output, h.size, h.keep, h.new, fun i p _ hp => h.later i p hp⟩
theorem Goes.trans {pin : Nat} {w w1 w2 : World} {σ σ1 σ2 : Sig} (h : Goes pin w w1 σ σ1) (k : Goes pin w1 w2 σ1 σ2) : Goes pin w w2 σ σ2 := by
  refine ⟨k.os.trans h.os, k.tape.trans h.tape, k.output.trans h.output, Nat.le_trans h.size k.size, fun b hb hn => ?_, fun b hb => ?_, fun i p hi hp => ?_⟩
  · rw [k.keep b (Nat.lt_of_lt_of_le hb h.size) (fun hs => ?_), h.keep b hb hn]
    rcases h.new b hs with h' | h'
    · exact hn h'
    · omega
  · rcases k.new b hb with h' | h'
    · exact h.new b h'
    · exact .inr (Nat.le_trans h.size h')
  · obtain ⟨p1, e1, o1⟩ := h.pinned i p hi hp
    obtain ⟨p2, e2, o2⟩ := k.pinned i p1 hi e1
    refine ⟨p2, e2, ?_⟩
    rcases o2 with rfl | rfl
    · exact o1
    · exact .inr rfl
/-- where all that was there keeps its name -/
theorem Goes.step {pin : Nat} {w w' : World} {σ σ' : Sig} (h : Goes pin w w' σ σ') (hp : σ.length ≤ pin) : Step w w' σ σ' :=
  ⟨h.os, h.tape, h.output, h.size, h.keep, fun i p hi => h.pinned i p (Nat.lt_of_lt_of_le (List.getElem?_eq_some_iff.1 hi).1 hp) hi, h.new⟩

/-! ### The canonical memory -/

theorem idx_ok {acc : List Nat} {i j : Nat} (h : acc.idxOf? i = some j) : acc[j]? = some i := by
  unfold List.idxOf? at h
  obtain ⟨hj, h1, _⟩ := List.findIdx?_eq_some_iff_getElem.1 h
  rw [List.getElem?_eq_getElem hj]
  simpa using h1

theorem addNew_nodup : ∀ (l acc : List Nat), acc.Nodup → (addNew acc l).Nodup
  | [], acc, h => h
  | i :: r, acc, h => by
    unfold addNew
    refine addNew_nodup r _ ?_
    split
    · exact h
    · rename_i hc
      rw [List.nodup_append]
      refine ⟨h, by simp, fun a ha b hb => ?_⟩
      simp only [List.mem_singleton] at hb
      subst hb
      intro e
      subst e
      simp [List.contains_iff_mem] at hc
      exact hc ha

theorem addNew_prefix : ∀ (l acc : List Nat) {i k : Nat}, acc[i]? = some k → (addNew acc l)[i]? = some k
  | [], acc, i, k, h => h
  | j :: r, acc, i, k, h => by
    unfold addNew
    refine addNew_prefix r _ ?_
    split
    · exact h
    · rw [List.getElem?_append_left (List.getElem?_eq_some_iff.1 h).1]; exact h

theorem reached_prefix (h : Heap) : ∀ (n : Nat) (acc : List Nat) {i k : Nat}, acc[i]? = some k → (reached h n acc)[i]? = some k
  | 0, acc, i, k, hk => hk
  | n + 1, acc, i, k, hk => reached_prefix h n _ (addNew_prefix _ _ hk)

theorem reached_nodup (h : Heap) : ∀ (n : Nat) (acc : List Nat), acc.Nodup → (reached h n acc).Nodup
  | 0, acc, hn => hn
  | n + 1, acc, hn => reached_nodup h n _ (addNew_nodup _ _ hn)

theorem renL_map (m : Nat → Option Nat) (cs : List V) : renL m cs = cs.map (ren m) := by
  induction cs with
  | nil => rfl
  | cons c r ih => simp only [renL, List.map_cons, ih]

theorem Rep.ren {w : World} {U : Nat → Prop} {σ σ' : Sig} {m : Nat → Option Nat} (hm : ∀ i j p, m i = some j → σ[i]? = some p → σ'[j]? = some p) {v : Value} {x : V} (h : Rep w U σ v x) : Rep w U σ' v (ren m x) := by
  induction h with
  | int k n => exact .int k n
  | bool b => exact .bool b
  | str s => exact .str s
  | sl t capd s A n c h hc => exact .sl t capd s A n c h hc
  | own id p v hp h =>
    simp only [R.ren]
    cases hi : m id with
    | none => exact .undef _
    | some j => exact .own j p v (hm id j p hi hp) h
  | win id off len p v hp h =>
    simp only [R.ren]
    cases hi : m id with
    | none => exact .undef _
    | some j => exact .win j off len p v (hm id j p hi hp) h
  | ptr id off p v hp h =>
    simp only [R.ren]
    cases hi : m id with
    | none => exact .undef _
    | some j => exact .ptr j off p v (hm id j p hi hp) h
  | eptr id i off p v hp h =>
    simp only [R.ren]
    cases hi : m id with
    | none => exact .undef _
    | some j => exact .eptr j i off p v (hm id j p hi hp) h
  | fp a cs f hc h ih =>
    simp only [R.ren, renL_map]
    refine .fp a _ f (fun j V hV => ?_) fun j V hV => ?_
    · rw [List.getElem?_map] at hV
      obtain ⟨y, hy, rfl⟩ := Option.map_eq_some_iff.1 hV
      exact hc j y hy
    · rw [List.getElem?_map] at hV
      obtain ⟨y, hy, rfl⟩ := Option.map_eq_some_iff.1 hV
      exact ih j y hy
  | fn f vs cs hl h ih =>
    simp only [R.ren, renL_map]
    refine .fn f vs _ (by simp [hl]) fun j v V hv hV => ?_
    rw [List.getElem?_map] at hV
    obtain ⟨y, hy, rfl⟩ := Option.map_eq_some_iff.1 hV
    exact ih j v y hv hy
  | lit v => exact .lit v
  | undef v => exact .undef v
  | agg vs cs hl h ih =>
    simp only [R.ren, renL_map]
    refine .agg vs _ (by simp [hl]) fun j v V hv hV => ?_
    rw [List.getElem?_map] at hV
    obtain ⟨y, hy, rfl⟩ := Option.map_eq_some_iff.1 hV
    exact ih j v y hv hy
  | tup vs cs hl h ih =>
    simp only [R.ren, renL_map]
    refine .tup vs _ (by simp [hl]) fun j v V hv hV => ?_
    rw [List.getElem?_map] at hV
    obtain ⟨y, hy, rfl⟩ := Option.map_eq_some_iff.1 hV
    exact ih j v y hv hy

theorem clrFrom_getD (L : Nat) : ∀ (l : List V) (i t : Nat), (clrFrom L i l).getD t .undef = l.getD t .undef ∨ (clrFrom L i l).getD t .undef = .undef
  | [], i, t => .inl rfl
  | v :: r, i, 0 => by
    simp only [clrFrom, List.getD_cons_zero]
    split
    · exact .inl rfl
    · exact .inr rfl
  | v :: r, i, t + 1 => by
    simp only [clrFrom, List.getD_cons_succ]
    exact clrFrom_getD L r (i + 1) t

theorem clrFrom_length (L : Nat) : ∀ (l : List V) (i : Nat), (clrFrom L i l).length = l.length
  | [], _ => rfl
  | v :: r, i => by simp only [clrFrom, List.length_cons, clrFrom_length L r]

theorem canon_ok {gl : List (Nat × List V)} {M : Nat → Prop} {σ : Sig} {w : World} {s : St} {a : Act} (pin L : Nat) (h : StR gl M σ w s a) : ∃ σ', StR gl M σ' w (canon pin L s) a ∧ Goes pin w w σ σ' := by
  unfold canon
  dsimp only
  generalize hacc : reached s.heap 3 (addNew (List.range pin) (idsOfL (clrFrom L 0 s.tmps))) = acc
  have hnd : acc.Nodup := by rw [← hacc]; exact reached_nodup _ _ _ (addNew_nodup _ _ List.nodup_range)
  have hpin : ∀ i, i < pin → acc[i]? = some i := by intro i hi; rw [← hacc]; exact reached_prefix _ _ _ (addNew_prefix _ _ (List.getElem?_range hi))
  let m : Nat → Option Nat := fun i => acc.idxOf? i
  have hm : ∀ (i j : Nat) (p : Pl), m i = some j → σ[i]? = some p → (acc.map fun i => σ.getD i .dead)[j]? = some p := by
    intro i j p hi hp
    rw [List.getElem?_map, idx_ok hi, Option.map_some, List.getD_eq_getElem?_getD, hp, Option.getD_some]
  have hhas : ∀ (i : Nat) (b n c z : Nat), (acc.map fun i => σ.getD i .dead)[i]? = some (Pl.at b n c z) → ∃ k, acc[i]? = some k ∧ σ[k]? = some (Pl.at b n c z) := by
    intro i b n c z hi
    rw [List.getElem?_map] at hi
    obtain ⟨k, hk, e⟩ := Option.map_eq_some_iff.1 hi
    refine ⟨k, hk, ?_⟩
    rw [List.getD_eq_getElem?_getD] at e
    cases hs : σ[k]? with
    | none => rw [hs] at e; simp at e
    | some p => rw [hs] at e; simp at e; rw [e]
  have hsub : ∀ b, Sig.has (acc.map fun i => σ.getD i .dead) b → σ.has b := by
    rintro b ⟨i, n, c, z, hi⟩
    obtain ⟨k, _, hk⟩ := hhas i b n c z hi
    exact ⟨k, n, c, z, hk⟩
  have hk : Keeps w w (Un M σ) (Un M (acc.map fun i => σ.getD i .dead)) := ⟨fun _ _ h _ => h, fun b _ hn hu => hn (hu.imp id (hsub b))⟩
  have hren : ∀ {v : Value} {x : V}, Rep w (Un M σ) σ v x → Rep w (Un M (acc.map fun i => σ.getD i .dead)) (acc.map fun i => σ.getD i .dead) v (ren m x) := fun hx => (hx.mono hk (.refl _)).ren hm
  refine ⟨acc.map fun i => σ.getD i .dead, ⟨⟨by simp, ?_, fun b hb => h.hr.out b (hsub b hb), fun b hb => h.hr.lim b (hb.imp id (hsub b)), ?_⟩, h.gok.mono hk, ?_, fun t => ?_⟩, ⟨rfl, rfl, rfl, Nat.le_refl _, fun _ _ _ => rfl, fun b hb => .inl (hsub b hb), fun i p hi hp => ⟨p, by rw [List.getElem?_map, hpin i hi, Option.map_some, List.getD_eq_getElem?_getD, hp, Option.getD_some], .inl rfl⟩⟩⟩
  · intro i j b n c z n' c' z' hi hj
    obtain ⟨k, hk1, hk2⟩ := hhas i b n c z hi
    obtain ⟨k', hk1', hk2'⟩ := hhas j b n' c' z' hj
    have e := h.hr.inj k k' b n c z n' c' z' hk2 hk2'
    subst e
    obtain ⟨hi1, hi2⟩ := List.getElem?_eq_some_iff.1 hk1
    obtain ⟨hj1, hj2⟩ := List.getElem?_eq_some_iff.1 hk1'
    rcases Nat.lt_trichotomy i j with hlt | he | hgt
    · exact absurd (hi2.trans hj2.symm) (List.pairwise_iff_getElem.1 hnd i j hi1 hj1 hlt)
    · exact he
    · exact absurd (hj2.trans hi2.symm) (List.pairwise_iff_getElem.1 hnd j i hj1 hi1 hgt)
  · intro i p B hp hB
    rw [List.getElem?_map] at hp hB
    obtain ⟨k, hk1, rfl⟩ := Option.map_eq_some_iff.1 hp
    rw [hk1] at hB
    simp only [Option.map_some, Option.some.injEq] at hB
    subst hB
    by_cases hlt : k < σ.length
    · have hlt' : k < s.heap.length := by rw [← h.hr.len]; exact hlt
      have e1 : σ.getD k .dead = σ[k] := by rw [List.getD_eq_getElem?_getD, List.getElem?_eq_getElem hlt]; rfl
      have e2 : s.heap.getD k .dead = s.heap[k] := by rw [List.getD_eq_getElem?_getD, List.getElem?_eq_getElem hlt']; rfl
      have hbr := h.hr.blk k σ[k] s.heap[k] (List.getElem?_eq_getElem hlt) (List.getElem?_eq_getElem hlt')
      rw [e1, e2]
      generalize σ[k] = p at hbr
      generalize s.heap[k] = B at hbr
      cases B with
      | rows t s => exact hbr.mono hk (.refl _) (fun _ _ _ _ _ => rfl) |> fun q => by cases p <;> exact q
      | arr t n l => exact hbr.mono hk (.refl _) (fun _ _ _ _ _ => rfl) |> fun q => by cases p <;> exact q
      | dead => cases p <;> exact hbr
      | box e cs =>
        cases p with
        | «at» b n c z =>
          obtain ⟨g1, g2, g3, cur, g4, g5, g6⟩ := hbr
          refine ⟨?_, g2, g3, cur, g4, ?_, fun i v V hv hV => ?_⟩
          · rw [renL_map, List.length_map]; exact g1
          · rw [renL_map, List.length_map]; exact g5
          · rw [renL_map, List.getElem?_map] at hV
            obtain ⟨y, hy, rfl⟩ := Option.map_eq_some_iff.1 hV
            exact hren (g6 i v y hv hy)
        | _ => exact hbr
    · have e1 : σ.getD k .dead = .dead := by rw [List.getD_eq_getElem?_getD, List.getElem?_eq_none (by omega)]; rfl
      have e2 : s.heap.getD k .dead = .dead := by rw [List.getD_eq_getElem?_getD, List.getElem?_eq_none (by rw [← h.hr.len]; omega)]; rfl
      rw [e1, e2]
      trivial
  · rw [renL_map, List.length_map, clrFrom_length]; exact h.size
  · rw [renL_map]
    have e : ((clrFrom L 0 s.tmps).map (ren m)).getD t .undef = ren m ((clrFrom L 0 s.tmps).getD t .undef) := by
      rw [List.getD_eq_getElem?_getD, List.getD_eq_getElem?_getD, List.getElem?_map]
      cases (clrFrom L 0 s.tmps)[t]? <;> rfl
    rw [e]
    rcases clrFrom_getD L s.tmps 0 t with h1 | h1
    · rw [h1]; exact hren (h.sl t)
    · rw [h1]; exact .undef _

/-! ### Code -/

def Ex.toExit : Ex → Exit
  | .normal => .normal
  | .exit id => .exit id
  | .ret => .ret

theorem exists_least' {p : Nat → Prop} (h : ∃ n, p n) : ∃ n, p n ∧ ∀ m, p m → n ≤ m := by
  obtain ⟨n, hn⟩ := h
  induction n using Nat.strongRecOn with
  | _ n ih =>
    by_cases hm : ∃ m, m < n ∧ p m
    · obtain ⟨m, hlt, hp⟩ := hm
      exact ih m hlt hp
    · exact ⟨n, hn, fun m hp => Nat.le_of_not_lt fun hlt => hm ⟨m, hlt, hp⟩⟩

open Classical in
noncomputable def least (p : Nat → Prop) : Nat := if h : ∃ n, p n then Classical.choose (exists_least' h) else 0

theorem least_spec {p : Nat → Prop} (h : ∃ n, p n) : p (least p) ∧ ∀ m, p m → least p ≤ m := by
  unfold least
  rw [dif_pos h]
  exact Classical.choose_spec (exists_least' h)

theorem wp_loop_n {Q : Exit → Act → World → Prop} {a : Act} {w : World} {c : Code} (I : Nat → Act → World → Prop) (n₀ : Nat) (h₀ : I n₀ a w)
    (round : ∀ n a w, I n a w → c.wp P (Exit.then (fun a' w' => ∃ n', n' < n ∧ I n' a' w') Q) a w) : (Code.loop c).wp P Q a w := by
  refine wp_loop (fun a w => ∃ n, I n a w) (fun a w => least (fun n => I n a w)) ⟨n₀, h₀⟩ ?_
  intro a w hI
  refine wp_mono (round _ a w (least_spec hI).1) ?_
  intro e a' w' hq
  cases e with
  | normal =>
    obtain ⟨n', hlt, hI'⟩ := hq
    exact show (∃ n, I n a' w') ∧ least (fun n => I n a' w') < least (fun n => I n a w) from ⟨⟨n', hI'⟩, Nat.lt_of_le_of_lt ((least_spec ⟨n', hI'⟩).2 n' hI') hlt⟩
  | exit id => exact hq
  | goto l => exact hq
  | ret => exact hq
  | panic ch => exact hq
  | outgrown => exact hq

theorem exec_ok (hE : EnvOk P E) (hm : P.follows .mixedOrders = true) (r : Ω) (gl0 : List (Nat × List V)) (hgl : gl0 = E.gl) (R : Nat) (un : List Nat) (k : Nat) (w0 : World) (σ0 : Sig) (M : Nat → Prop) (d0 : List Deferred) (c : Code) :
    ∀ (out : Nat) (ex : List (Nat × Nat)) (s : St) (K : Ex → St → Option Ω), exec E R un k c out ex s K = some r → ∀ {σ : Sig} {w : World} {a : Act} {Q : Exit → Act → World → Prop}, StR gl0 M σ w s a → Goes E.pin w0 w σ0 σ → a.defers = d0 →
    (∀ e s' σ' w' a', K e s' = some r → StR gl0 M σ' w' s' a' → Goes E.pin w0 w' σ0 σ' → a'.defers = d0 → Q e.toExit a' w') → c.wp P Q a w := by
  subst hgl
  induction c with
  | skip => intro out ex s K h σ w a Q hs hg hd hQ; exact wp_skip (hQ .normal s σ w a h hs hg hd)
  | region id ops draw =>
    intro out ex s K h σ w a Q hs hg hd hQ
    unfold exec at h
    split at h
    · cases h
    · rename_i hn
      obtain ⟨s', h1, h2, h3⟩ := execOps_ok hE draw ops ops.toList s _ r h
      have hQ' : ∀ a' w' σ', StR E.gl M σ' w' s' a' → a'.defers = a.defers → Step w w' σ σ' → Q .normal a' w' := fun a' w' σ' q1 q2 q3 =>
        hQ .normal s' σ' w' a' h1 q1 (hg.trans q3.goes) (q2.trans hd)
      cases draw with
      | false => exact region_seq h3 hs hQ'
      | true =>
        have hok : regionOk E.pf ops = true := by
          cases hk : regionOk E.pf ops with
          | true => rfl
          | false => rw [hk] at hn; exact absurd rfl hn
        exact region_any hE r hm hok h3 hs hQ'
  | seq x y ihx ihy =>
    intro out ex s K h σ w a Q hs hg hd hQ
    unfold exec at h
    refine wp_seq (ihx _ _ s _ h hs hg hd fun e s' σ' w' a' he q1 q2 q3 => ?_)
    cases e with
    | normal => exact ihy _ _ s' K he q1 q2 q3 hQ
    | exit id => exact hQ (.exit id) s' σ' w' a' he q1 q2 q3
    | ret => exact hQ .ret s' σ' w' a' he q1 q2 q3
  | cond c x y ihx ihy =>
    intro out ex s K h σ w a Q hs hg hd hQ
    unfold exec at h
    have hc := aEval_ok hs.gok (tm := s.tmps) c fun t _ => hs.sl t
    cases hv : aEval E.gl s.tmps c with
    | bool t =>
      rw [hv] at h hc
      have he : a.eval c = .bool t := by
        generalize a.eval c = v at hc
        cases hc; rfl
      refine wp_cond he ?_
      cases t with
      | true => exact ihx _ _ s K h hs hg hd hQ
      | false => exact ihy _ _ s K h hs hg hd hQ
    | _ => rw [hv] at h; cases h
  | block id b ih =>
    intro out ex s K h σ w a Q hs hg hd hQ
    unfold exec at h
    refine wp_block (ih _ _ s _ h hs hg hd fun e s' σ' w' a' he q1 q2 q3 => ?_)
    cases e with
    | normal => exact hQ .normal s' σ' w' a' he q1 q2 q3
    | ret => exact hQ .ret s' σ' w' a' he q1 q2 q3
    | exit i =>
      simp only [Ex.toExit, Exit.inBlock]
      dsimp only at he
      split at he
      · rename_i hi; rw [if_pos hi]; exact hQ .normal s' σ' w' a' he q1 q2 q3
      · rename_i hi; rw [if_neg hi]; exact hQ (.exit i) s' σ' w' a' he q1 q2 q3
  | loop b ih =>
    intro out ex s K h σ w a Q hs hg hd hQ
    unfold exec at h
    by_cases hu : un.contains (loopKey ex) = true
    · rw [if_pos hu] at h
      refine wp_loop_n (fun n a w => ∃ s σ, loopU (exec E R un k b 0 ex) K n s = some r ∧ StR E.gl M σ w s a ∧ Goes E.pin w0 w σ0 σ ∧ a.defers = d0) 1000 ⟨s, σ, h, hs, hg, hd⟩ ?_
      rintro n a w ⟨s, σ, h, hs, hg, hd⟩
      cases n with
      | zero => cases h
      | succ n =>
        simp only [loopU] at h
        refine ih _ _ s _ h hs hg hd fun e s' σ' w' a' he q1 q2 q3 => ?_
        cases e with
        | normal => exact ⟨n, Nat.lt_succ_self n, s', σ', he, q1, q2, q3⟩
        | exit id => exact hQ (.exit id) s' σ' w' a' he q1 q2 q3
        | ret => exact hQ .ret s' σ' w' a' he q1 q2 q3
    · rw [if_neg hu] at h
      obtain ⟨σ1, hs1, hg1⟩ := canon_ok E.pin (live R b (live R b 0 ex) ex) hs
      refine wp_loop_n (fun n a w => ∃ s σ, loopC (exec E R un k b (live R b (live R b 0 ex) ex) ex) E.pin (live R b (live R b 0 ex) ex) K n s = some r ∧ StR E.gl M σ w s a ∧ Goes E.pin w0 w σ0 σ ∧ a.defers = d0) k ⟨_, σ1, h, hs1, hg.trans hg1, hd⟩ ?_
      rintro n a w ⟨s, σ, h, hs, hg, hd⟩
      cases n with
      | zero => cases h
      | succ n =>
        simp only [loopC] at h
        refine ih _ _ s _ h hs hg hd fun e s' σ' w' a' he q1 q2 q3 => ?_
        cases e with
        | normal =>
          obtain ⟨σ2, hs2, hg2⟩ := canon_ok E.pin (live R b (live R b 0 ex) ex) q1
          exact ⟨n, Nat.lt_succ_self n, _, σ2, he, hs2, q2.trans hg2, q3⟩
        | exit id => exact hQ (.exit id) s' σ' w' a' he q1 q2 q3
        | ret => exact hQ .ret s' σ' w' a' he q1 q2 q3
  | exit id => intro out ex s K h σ w a Q hs hg hd hQ; exact wp_exit (hQ (.exit id) s σ w a h hs hg hd)
  | ret => intro out ex s K h σ w a Q hs hg hd hQ; exact wp_ret (hQ .ret s σ w a h hs hg hd)
  | _ => intro out ex s K h; cases h

/-! ### Results -/

theorem asAddr_of_loadAt {t : TypeId} {v v' : Value} {w : World} (h : (Instr.loadAt t v).run P w = .ok v' w) : (do loadVar t (← asAddr v) : Sem Value).run P w = .ok v' w := by
  unfold Instr.loadAt at h
  cases v with
  | pointer p =>
    cases p with
    | some a => exact h
    | none => simp [Instr.sureAddr, stuck] at h
  | _ => simp [Instr.sureAddr, stuck] at h

def resRun (tmps : Array Value) : ResultVar → Sem Value
  | .tmp t => pure (tmps.getD t undef)
  | .cell a t => do loadVar t (← asAddr (tmps.getD a undef))

theorem results_eq (fn : Func) (tmps : Array Value) : results fn tmps = (do
    let vs ← fn.results.mapM (resRun tmps)
    pure (if h : vs.size = 1 then vs[0] else .tuple vs)) := by
  unfold results
  congr 1

theorem resV_ok (hT : TOk P E.T) {gl : List (Nat × List V)} {M : Nat → Prop} {σ : Sig} {w : World} {s : St} {a : Act} (hs : StR gl M σ w s a) {rv : ResultVar} {v : V} (h : resV E.T s rv = some v) :
    ∃ v', (resRun a.tmps rv).run P w = .ok v' w ∧ Rep w (Un M σ) σ v' v := by
  cases rv with
  | tmp t => cases h; exact ⟨_, rfl, hs.sl t⟩
  | cell b t =>
    simp only [resV] at h
    cases hd : E.T.get t with
    | none => rw [hd] at h; cases h
    | some d =>
      rw [hd] at h
      obtain ⟨v', h1, h2⟩ := loadV_ok (hT _ _ hd) h hs.hr (hs.sl b)
      exact ⟨v', asAddr_of_loadAt h1, h2⟩

theorem resAll_ok (hT : TOk P E.T) {gl : List (Nat × List V)} {M : Nat → Prop} {σ : Sig} {w : World} {s : St} {a : Act} (hs : StR gl M σ w s a) : ∀ {rs : List ResultVar} {vs : List V}, resAll E.T s rs = some vs →
    ∃ vs', (rs.mapM (resRun a.tmps)).run P w = .ok vs' w ∧ Reps w (Un M σ) σ vs' vs
  | [], vs, h => by cases h; exact ⟨[], rfl, .nil⟩
  | rv :: rs, vs, h => by
    simp only [resAll] at h
    cases h1 : resV E.T s rv with
    | none => rw [h1] at h; cases h
    | some v =>
      cases h2 : resAll E.T s rs with
      | none => rw [h1, h2] at h; cases h
      | some vs1 =>
        rw [h1, h2] at h
        cases h
        obtain ⟨v', g1, g2⟩ := resV_ok hT hs h1
        obtain ⟨vs', k1, k2⟩ := resAll_ok hT hs h2
        refine ⟨v' :: vs', ?_, .cons g2 k2⟩
        rw [List.mapM_cons]
        rw [Sem.run_bind, g1]
        simp only [Result.andThen_ok]
        rw [Sem.run_bind, k1]
        rfl

theorem resOf_ok (hT : TOk P E.T) {gl : List (Nat × List V)} {M : Nat → Prop} {σ : Sig} {w : World} {s : St} {a : Act} (hs : StR gl M σ w s a) {fn : Func} {v : V} (h : resOf E.T s fn.results.toList = some v) :
    ∃ v', (results fn a.tmps).run P w = .ok v' w ∧ Rep w (Un M σ) σ v' v := by
  unfold resOf at h
  cases hr : resAll E.T s fn.results.toList with
  | none => rw [hr] at h; cases h
  | some vs =>
    rw [hr] at h
    obtain ⟨vs', k1, k2⟩ := resAll_ok hT hs hr
    have hrun : (results fn a.tmps).run P w = .ok (if h : vs'.toArray.size = 1 then vs'.toArray[0] else .tuple vs'.toArray) w := by
      rw [results_eq, Array.mapM_eq_mapM_toList, Sem.run_bind, Sem.run_map, k1]
      rfl
    refine ⟨_, hrun, ?_⟩
    have hlen := k2.1
    match vs, h, k2, hlen with
    | [x], h, k2, hlen =>
      cases h
      obtain ⟨y, rfl⟩ := List.length_eq_one_iff.1 hlen
      exact k2.head
    | [], h, k2, hlen =>
      cases h
      have := k2.inv_nil
      subst this
      exact .tup #[] [] rfl fun j v V hv _ => by simp at hv
    | x :: x' :: r, h, k2, hlen =>
      cases h
      rw [dif_neg (by simp only [List.size_toArray]; rw [hlen]; simp)]
      refine .tup vs'.toArray _ (by simp [hlen]) fun j v V hv hV => k2.2 j v V (by simpa using hv) hV

/-! ### Calls -/

theorem run_calls (hE : EnvOk P E) (hm : P.follows .mixedOrders = true) (un : List Nat) (k : Nat) {n : FuncId} {fn : Func} (hf : P.funcs[n]? = some fn) {args : List V} {h : Heap} {K : V → Heap → Option Ω} {r : Ω}
    (hr : run E un k fn args h K = some r) {M : Nat → Prop} {σ : Sig} {w : World} {vs : List Value} (hh : HR w M σ h) (hg : GOk E.gl w (Un M σ)) (ha : Reps w (Un M σ) σ vs args) :
    Calls P n vs.toArray w fun e w' => ∃ v' σ' v h', e = .returned v' ∧ K v h' = some r ∧ HR w' M σ' h' ∧ Rep w' (Un M σ') σ' v' v ∧ Goes E.pin w w' σ σ' := by
  unfold run at hr
  cases hb : fn.body with
  | none => rw [hb] at hr; cases hr
  | some c =>
    rw [hb] at hr
    refine calls_of_wp hf hb ?_
    have hstart : StR E.gl M σ w ⟨args ++ List.replicate (fn.ntmps - args.length) .undef, h⟩ { tmps := vs.toArray ++ Array.replicate (fn.ntmps - vs.toArray.size) undef, defers := [] } := by
      refine ⟨hh, hg, by simp [ha.1], fun t => ?_⟩
      have e1 : (vs.toArray ++ Array.replicate (fn.ntmps - vs.toArray.size) undef).getD t undef = vs.getD t undef := by
        rw [Array.getD_eq_getD_getElem?, List.getD_eq_getElem?_getD, Array.getElem?_append]
        split
        · simp
        · rename_i hlt
          rw [List.getElem?_eq_none (by simpa using hlt), Array.getElem?_replicate]
          split <;> rfl
      have e2 : (args ++ List.replicate (fn.ntmps - args.length) V.undef).getD t .undef = args.getD t .undef := by
        rw [List.getD_eq_getElem?_getD, List.getD_eq_getElem?_getD, List.getElem?_append]
        split
        · rfl
        · rename_i hlt
          rw [List.getElem?_eq_none (l := args) (by simpa using hlt), List.getElem?_replicate]
          split <;> rfl
      simp only [e1, e2]
      cases ht : args[t]? with
      | none => rw [List.getD_eq_getElem?_getD, List.getD_eq_getElem?_getD, ht]; exact .undef _
      | some x =>
        obtain ⟨y, hy, hxy⟩ := ha.get ht
        rw [List.getD_eq_getElem?_getD, List.getD_eq_getElem?_getD, ht, hy]
        exact hxy
    refine exec_ok hE hm r E.gl rfl _ un k w σ M [] c _ _ _ _ hr hstart (.refl _ _ _) rfl fun e s' σ' w' a' he q1 q2 q3 => ?_
    have fin : (match resOf E.T s' fn.results.toList with | some v => K v s'.heap | none => none) = some r →
        a'.defers = [] ∧ ∃ v, (results fn a'.tmps).run P w' = .ok v w' ∧ ∃ v' σ'' v1 h', Ending.returned v = .returned v' ∧ K v1 h' = some r ∧ HR w' M σ'' h' ∧ Rep w' (Un M σ'') σ'' v' v1 ∧ Goes E.pin w w' σ σ'' := by
      intro he
      cases hres : resOf E.T s' fn.results.toList with
      | none => rw [hres] at he; cases he
      | some v =>
        rw [hres] at he
        obtain ⟨v', g1, g2⟩ := resOf_ok hE.types q1 hres
        exact ⟨q3, v', g1, v', σ', v, s'.heap, rfl, he, q1.hr, g2, q2⟩
    cases e with
    | normal => exact fin he
    | ret => exact fin he
    | exit id => cases he

/-! ### One way on -/

theorem exec_one (hE : EnvOk P E) (R : Nat) (un : List Nat) (k : Nat) (c : Code) : ∀ (out : Nat) (ex : List (Nat × Nat)) (s : St) (K : Ex → St → Option Ω) (r : Ω), exec E R un k c out ex s K = some r →
    ∃ e s', K e s' = some r ∧ ∀ K' : Ex → St → Option Ω, exec E R un k c out ex s K' = K' e s' := by
  induction c with
  | skip => intro out ex s K r h; exact ⟨.normal, s, h, fun _ => rfl⟩
  | region id ops draw =>
    intro out ex s K r h
    unfold exec at h ⊢
    split at h
    · cases h
    · rename_i hn
      obtain ⟨s', h1, h2, h3⟩ := execOps_ok hE draw ops ops.toList s _ r h
      exact ⟨.normal, s', h1, fun K' => by rw [if_neg hn]; exact h2 _⟩
  | seq x y ihx ihy =>
    intro out ex s K r h
    unfold exec at h ⊢
    obtain ⟨e, s1, h1, h2⟩ := ihx _ _ s _ r h
    cases e with
    | normal =>
      obtain ⟨e2, s2, k1, k2⟩ := ihy _ _ s1 K r h1
      exact ⟨e2, s2, k1, fun K' => by rw [h2]; exact k2 K'⟩
    | exit id => exact ⟨.exit id, s1, h1, fun K' => by rw [h2]⟩
    | ret => exact ⟨.ret, s1, h1, fun K' => by rw [h2]⟩
  | cond c x y ihx ihy =>
    intro out ex s K r h
    unfold exec at h ⊢
    cases hv : aEval E.gl s.tmps c with
    | bool t =>
      rw [hv] at h
      cases t with
      | true => exact ihx _ _ s K r h
      | false => exact ihy _ _ s K r h
    | _ => rw [hv] at h; cases h
  | block id b ih =>
    intro out ex s K r h
    unfold exec at h ⊢
    obtain ⟨e, s1, h1, h2⟩ := ih _ _ s _ r h
    cases e with
    | normal => exact ⟨.normal, s1, h1, fun K' => by rw [h2]⟩
    | ret => exact ⟨.ret, s1, h1, fun K' => by rw [h2]⟩
    | exit i =>
      dsimp only at h1
      by_cases hi : i = id
      · rw [if_pos hi] at h1; exact ⟨.normal, s1, h1, fun K' => by rw [h2]; exact if_pos hi⟩
      · rw [if_neg hi] at h1; exact ⟨.exit i, s1, h1, fun K' => by rw [h2]; exact if_neg hi⟩
  | loop b ih =>
    intro out ex s K r h
    unfold exec at h ⊢
    by_cases hu : un.contains (loopKey ex) = true
    · rw [if_pos hu] at h
      simp only [if_pos hu]
      generalize 1000 = n at h ⊢
      induction n generalizing s with
      | zero => cases h
      | succ n ihn =>
        simp only [loopU] at h ⊢
        obtain ⟨e, s1, h1, h2⟩ := ih _ _ s _ r h
        cases e with
        | normal =>
          obtain ⟨e2, s2, k1, k2⟩ := ihn s1 h1
          exact ⟨e2, s2, k1, fun K' => by rw [h2]; exact k2 K'⟩
        | exit id => exact ⟨.exit id, s1, h1, fun K' => by rw [h2]⟩
        | ret => exact ⟨.ret, s1, h1, fun K' => by rw [h2]⟩
    · rw [if_neg hu] at h
      simp only [if_neg hu]
      have key : ∀ (n : Nat) (s : St), loopC (exec E R un k b (live R b (live R b 0 ex) ex) ex) E.pin (live R b (live R b 0 ex) ex) K n s = some r →
          ∃ e s', K e s' = some r ∧ ∀ K' : Ex → St → Option Ω, loopC (exec E R un k b (live R b (live R b 0 ex) ex) ex) E.pin (live R b (live R b 0 ex) ex) K' n s = K' e s' := by
        intro n
        induction n with
        | zero => intro s h; cases h
        | succ n ihn =>
          intro s h
          simp only [loopC] at h ⊢
          obtain ⟨e, s1, h1, h2⟩ := ih _ _ s _ r h
          cases e with
          | normal =>
            obtain ⟨e2, s2, k1, k2⟩ := ihn _ h1
            exact ⟨e2, s2, k1, fun K' => by rw [h2]; exact k2 K'⟩
          | exit id => exact ⟨.exit id, s1, h1, fun K' => by rw [h2]⟩
          | ret => exact ⟨.ret, s1, h1, fun K' => by rw [h2]⟩
      exact key k _ h
  | exit id => intro out ex s K r h; exact ⟨.exit id, s, h, fun _ => rfl⟩
  | ret => intro out ex s K r h; exact ⟨.ret, s, h, fun _ => rfl⟩
  | _ => intro out ex s K r h; cases h

theorem run_way (hE : EnvOk P E) (un : List Nat) (k : Nat) (fn : Func) (args : List V) (h : Heap) (K : V → Heap → Option Ω) (r : Ω) (hr : run E un k fn args h K = some r) :
    ∃ v h', K v h' = some r ∧ ∀ K' : V → Heap → Option Ω, run E un k fn args h K' = K' v h' := by
  unfold run at hr ⊢
  cases hb : fn.body with
  | none => rw [hb] at hr; cases hr
  | some c =>
    rw [hb] at hr
    dsimp only at hr ⊢
    obtain ⟨e, s', h1, h2⟩ := exec_one hE _ un k c _ _ _ _ r hr
    cases e with
    | exit id => cases h1
    | normal =>
      dsimp only at h1
      cases hv : resOf E.T s' fn.results.toList with
      | none => rw [hv] at h1; cases h1
      | some v => rw [hv] at h1; exact ⟨v, s'.heap, h1, fun K' => by rw [h2]; dsimp only; rw [hv]⟩
    | ret =>
      dsimp only at h1
      cases hv : resOf E.T s' fn.results.toList with
      | none => rw [hv] at h1; cases h1
      | some v => rw [hv] at h1; exact ⟨v, s'.heap, h1, fun K' => by rw [h2]; dsimp only; rw [hv]⟩

/-- a function walked in the memory of its caller -/
theorem run_one (hE : EnvOk P E) (hm : P.follows .mixedOrders = true) (un : List Nat) (k : Nat) {n : FuncId} (hc : CallOk P n) {fn : Func} (hf : P.funcs[n]? = some fn) (args : List V) (h : Heap) (hp : h.length ≤ E.pin) :
    OneW (Ω := Ω) (run E un k fn args h) (Contract P E.gl n args h) := by
  classical
  intro K r hr
  obtain ⟨v, h', h1, h2⟩ := run_way hE un k fn args h K r hr
  refine ⟨v, h', h1, h2, .of hc fun M σ w vs hh hg ha => ?_⟩
  have hr' : run E un k fn args h (fun x y => if x = v ∧ y = h' then some r else none) = some r := by rw [h2]; exact if_pos ⟨rfl, rfl⟩
  refine Calls.mono (run_calls hE hm un k hf hr' hh hg ha) fun e w' he => ?_
  obtain ⟨v', σ', v1, h1', rfl, g1, g2, g3, g4⟩ := he
  split at g1
  · rename_i hq
    obtain ⟨rfl, rfl⟩ := hq
    exact ⟨v', rfl, σ', g2, g3, g4.step (by rw [hh.len]; exact hp)⟩
  · cases g1
end
end Go.Proofs.YtnebpmcmdmpoaaaDoor.R
