/- New variables, stores, what is given away. -/
import Derived.Test.YtnebpmcmdmpoaaaDoorROps4
namespace Go.Proofs.YtnebpmcmdmpoaaaDoor.R
open Go
set_option linter.unusedVariables false
set_option linter.unusedSimpArgs false

section
variable {P : Program} {T : Types} {w : World} {U : Nat → Prop} {σ : Sig} {M : Nat → Prop} {Ω : Type} {h : Heap}

/-- a computation, and the memory behind it -/
def GivesW (P : Program) (w : World) (M : Nat → Prop) (σ : Sig) (s : Sem Value) (v : V) (h' : Heap) : Prop :=
  ∃ v' w' σ', s.run P w = .ok v' w' ∧ HR w' M σ' h' ∧ Rep w' (Un M σ') σ' v' v ∧ Step w w' σ σ'

theorem Gives.toW {s : Sem Value} {v : V} (hg : Gives P w (Un M σ) σ s v) (hr : HR w M σ h) : GivesW P w M σ s v h := by
  obtain ⟨v', h1, h2⟩ := hg; exact ⟨v', w, σ, h1, hr, h2, .refl w σ⟩

theorem solid_one (hr : HR w M σ h) {x : V} {v : Value} (hs : solid h x = true) (hv : Rep w (Un M σ) σ v x) : v.oneCell' = true := by
  cases hv with
  | int => rfl
  | bool => rfl
  | str => rfl
  | sl => rfl
  | fp => rfl
  | fn => rfl
  | lit v => exact hs
  | undef v => cases hs
  | agg => cases hs
  | tup => cases hs
  | own id p v hp hat =>
    have := solid_alive hr hp hs
    cases p with
    | dead => exact absurd rfl this
    | nil => cases hat; rfl
    | emp a => cases hat; rfl
    | «at» b n c z => cases hat; rfl
  | win id off len p v hp hat =>
    have := solid_alive hr hp hs
    cases p with
    | dead => exact absurd rfl this
    | nil => obtain ⟨rfl, _⟩ := hat; rfl
    | emp a => obtain ⟨_, _, rfl, _⟩ := hat; rfl
    | «at» b n c z => obtain ⟨_, _, rfl, _⟩ := hat; rfl
  | ptr id off p v hp hat =>
    have := solid_alive hr hp hs
    cases p with
    | dead => exact absurd rfl this
    | «at» b n c z => cases hat; rfl
    | _ => exact hat.elim
  | eptr id i off p v hp hat =>
    have := solid_alive hr hp hs
    cases p with
    | dead => exact absurd rfl this
    | «at» b n c z => obtain ⟨_, rfl⟩ := hat; rfl
    | _ => exact hat.elim

/-- the cells of a value that is stored -/
theorem HR.cells (hr : HR w M σ h) {x : V} {v : Value} (hv : Rep w (Un M σ) σ v x) (hl : x.cells.length ≠ 0) (hs : x.cells.all (solid h) = true) :
    Reps w (Un M σ) σ v.cells.toList x.cells ∧ ∀ u ∈ v.cells.toList, u.oneCell' = true := by
  have hR : Reps w (Un M σ) σ v.cells.toList x.cells := by
    refine hv.cells (fun y hy e => ?_) (.inl fun e => hl (by rw [e]; rfl))
    subst e
    exact solid_one hr (by rw [List.all_eq_true] at hs; exact hs y hy) hv
  refine ⟨hR, fun u hu => ?_⟩
  obtain ⟨j, hj⟩ := List.getElem?_of_mem hu
  have hlt : j < x.cells.length := by rw [← hR.1]; exact (List.getElem?_eq_some_iff.1 hj).1
  have hx := List.getElem?_eq_getElem hlt
  exact solid_one hr (by rw [List.all_eq_true] at hs; exact hs _ (List.getElem_mem hlt)) (hR.2 j u _ hj hx)

theorem run_newVarV {e : TypeId} {v : Value} : (Go.newVar e v).run P w = .ok ⟨w.heap.size, 0, none⟩ (w.alloc (.cells v.cells e)) := by
  simp [Go.newVar, newRow]

theorem HR.allocBox (hr : HR w M σ h) {vs : Array Value} {cs : List V} {e : TypeId} (hR : Reps w (Un M σ) σ vs.toList cs) :
    HR (w.alloc (.cells vs e)) M (σ ++ [.at w.heap.size cs.length cs.length 1]) (h ++ [.box e cs]) := by
  have hs := Step.alloc w σ (.cells vs e) cs.length cs.length 1
  refine hr.push hs (fun b hb => World.heap_alloc_lt w _ hb) (fun b n c z e => by cases e; simp) ?_
  refine ⟨rfl, rfl, rfl, vs, World.heap_alloc_at w _, by simpa using hR.1, fun i v V hv hV => ?_⟩
  exact hs.rep (hR.2 i v V (by simpa using hv) hV)

theorem HR.allocArr (hr : HR w M σ h) {vs : Array Value} {cs : List V} {e : TypeId} {t : Ty} {n : Nat} {l : List t.den} (hR : Reps w (Un M σ) σ vs.toList cs) (hl : listOf t n cs = some l) :
    HR (w.alloc (.cells vs e)) M (σ ++ [.at w.heap.size n n t.size]) (h ++ [.arr t n l]) := by
  have hs := Step.alloc w σ (.cells vs e) n n t.size
  obtain ⟨e1, e2, e3⟩ := listOf_ok hl hR
  refine hr.push hs (fun b hb => World.heap_alloc_lt w _ hb) (fun b n c z e => by cases e; simp) ?_
  refine ⟨rfl, e1.symm, rfl, rfl, vs, e, World.heap_alloc_at w _, by simpa using e2, by omega, fun i x hx => ?_⟩
  obtain ⟨ce, g1, g2⟩ := e3 i x hx
  exact ⟨ce, RepT.mono (hs.keeps M) g1, fun j v hv => by simpa using g2 j v hv⟩

theorem newVar_ok {e : TypeId} {cs : List V} {v : V} {h' : Heap} (hn : newVar T e cs h = some (v, h')) (hr : HR w M σ h) {val : Value} (hR : Reps w (Un M σ) σ val.cells.toList cs) :
    GivesW P w M σ (do pure (.pointer (some (← Go.newVar e val)))) v h' := by
  have hrun : ((do pure (.pointer (some (← Go.newVar e val))) : Sem Value)).run P w = .ok (.pointer (some ⟨w.heap.size, 0, none⟩)) (w.alloc (.cells val.cells e)) := by
    simp [run_newVarV]
  have hlast : ∀ p : Pl, (σ ++ [p])[h.length]? = some p := by
    intro p; rw [← hr.len, List.getElem?_append_right (Nat.le_refl _)]; simp
  have box : v = .ptr h.length 0 → h' = h ++ [.box e cs] → GivesW P w M σ (do pure (.pointer (some (← Go.newVar e val)))) v h' := by
    rintro rfl rfl
    exact ⟨_, _, _, hrun, hr.allocBox hR, .ptr _ _ _ _ (hlast _) rfl, Step.alloc w σ _ _ _ _⟩
  unfold newVar at hn
  split at hn
  · split at hn
    · split at hn
      · split at hn
        · split at hn
          · cases hn
          · rename_i hn0
            split at hn
            · rename_i l hl
              cases hn
              refine ⟨_, _, _, hrun, hr.allocArr hR hl, .eptr _ _ _ _ _ (hlast _) ⟨by omega, by simp⟩, Step.alloc w σ _ _ _ _⟩
            · cases hn
        · cases hn; exact box rfl rfl
      · cases hn; exact box rfl rfl
    · cases hn
  · cases hn

theorem ofValue_rep (v : Value) : Rep w U σ v (ofValue v) := by
  unfold ofValue
  split
  · exact .int _ _
  · exact .bool _
  · exact .str _
  · exact .lit _

theorem ofValues_reps (vs : List Value) : Reps w U σ vs (vs.map ofValue) :=
  ⟨by simp, fun j v x hv hx => by simp [hv] at hx; subst hx; exact ofValue_rep v⟩

theorem alloc_ok {e : TypeId} {d : TD} (hd : TDOk P e d) {v : V} {h' : Heap} (hn : newVar T e (zeroOf d) h = some (v, h')) (hr : HR w M σ h) :
    GivesW P w M σ (Instr.alloc e true (.tuple #[])) v h' := by
  obtain ⟨z, hz, hc⟩ := hd.run_zero w
  have := newVar_ok (P := P) hn hr (val := z) (by rw [hc]; exact ofValues_reps _)
  obtain ⟨v', w', σ', h1, h2⟩ := this
  refine ⟨v', w', σ', ?_, h2⟩
  simp [Instr.alloc, hz]
  simpa using h1

theorem box_ok {e : TypeId} {x v : V} {h' : Heap} (hn : newVar T e x.cells h = some (v, h')) (hr : HR w M σ h) {val : Value} (hv : Rep w (Un M σ) σ val x) :
    GivesW P w M σ (Instr.box e val) v h' := by
  have hc : x.cells.length ≠ 0 ∧ x.cells.all (solid h) = true := by
    unfold newVar at hn
    split at hn
    · split at hn
      · rename_i hh; exact ⟨by omega, hh.2.2⟩
      · cases hn
    · cases hn
  exact newVar_ok hn hr (hr.cells hv hc.1 hc.2).1

/-! ### What is given away -/

def spendS (σ : Sig) : V → Sig
  | .own id => σ.set id .dead
  | .win id _ _ => σ.set id .dead
  | _ => σ
def spendAllS (σ : Sig) : List V → Sig
  | [] => σ
  | v :: r => spendAllS (spendS σ v) r

theorem spendS_ok (hr : HR w M σ h) (x : V) : HR w M (spendS σ x) (spend h x) ∧ Step w w σ (spendS σ x) := by
  cases x <;> first
    | exact ⟨hr, .refl w σ⟩
    | exact ⟨hr.kill _, .kill w σ _⟩

theorem spendAllS_ok : ∀ (xs : List V) {σ : Sig} {h : Heap}, HR w M σ h → HR w M (spendAllS σ xs) (spendAll h xs) ∧ Step w w σ (spendAllS σ xs)
  | [], _, _, hr => ⟨hr, .refl _ _⟩
  | x :: r, σ, h, hr => by
    obtain ⟨h1, h2⟩ := spendS_ok hr x
    obtain ⟨h3, h4⟩ := spendAllS_ok r h1
    exact ⟨h3, h2.trans h4⟩

theorem dead_stays {σ σ' : Sig} (hl : Later σ σ') {id : Nat} (h : σ[id]? = some Pl.dead) : σ'[id]? = some Pl.dead := by
  obtain ⟨p, e, rfl | rfl⟩ := hl id _ h <;> exact e

theorem later_spend (σ : Sig) (x : V) : Later σ (spendS σ x) := by
  cases x <;> first | exact .refl _ | exact .kill _ _
theorem later_spendAll : ∀ (xs : List V) (σ : Sig), Later σ (spendAllS σ xs)
  | [], _ => .refl _
  | x :: r, σ => (later_spend σ x).trans (later_spendAll r _)

theorem spent (id : Nat) : ∀ (xs : List V) (σ : Sig), id < σ.length → (V.own id ∈ xs ∨ ∃ o l, V.win id o l ∈ xs) → (spendAllS σ xs)[id]? = some Pl.dead
  | [], _, _, h => by rcases h with h | ⟨_, _, h⟩ <;> cases h
  | x :: r, σ, hl, h => by
    have hl' : id < (spendS σ x).length := by cases x <;> simp [spendS, hl]
    have here : (x = .own id ∨ ∃ o l, x = .win id o l) → (spendAllS (spendS σ x) r)[id]? = some Pl.dead := by
      intro hx
      refine dead_stays (later_spendAll r _) ?_
      rcases hx with rfl | ⟨o, l, rfl⟩ <;> simp [spendS, hl]
    rcases h with h | ⟨o, l, h⟩
    · rcases List.mem_cons.1 h with rfl | h
      · exact here (.inl rfl)
      · exact spent id r _ hl' (.inl h)
    · rcases List.mem_cons.1 h with rfl | h
      · exact here (.inr ⟨o, l, rfl⟩)
      · exact spent id r _ hl' (.inr ⟨o, l, h⟩)

theorem Rep.slNil {t : Ty} {capd : Bool} {s : Sl t.den} (h1 : s.nl = true) (h2 : s.l = []) : Rep w U σ (.slice none 0 0) (.sl t capd s) := by
  refine .sl t capd s none 0 0 ?_ (by simp)
  exact ⟨h1, h2, rfl, rfl⟩
theorem Rep.slSome {t : Ty} {s : Sl t.den} {a : Addr} {n c : Nat} (h1 : s.nl = false) (h2 : n = s.l.length) (h3 : n ≤ c)
    (h4 : ∀ i x, s.l[i]? = some x → ∃ ce, RepT w U t x ce ∧ ∀ j v, ce[j]? = some v → w.cell? (a.add (i * t.size + j)) = some v ∧ ¬ U a.block) : Rep w U σ (.slice (some a) n c) (.sl t false s) := by
  refine .sl t false s (some a) n c ?_ (by simp)
  exact ⟨h1, h2, h3, h4⟩

/-- a slice of ours as data, once nobody else may write it -/
theorem own_shown (hr : HR w M σ h) {U' : Nat → Prop} (hk : Keeps w w (Un M σ) U') {id : Nat} {v : Value} (hv : Rep w (Un M σ) σ v (.own id))
    (hfree : ∀ b n c z, σ[id]? = some (Pl.at b n c z) → ¬ U' b) (σ' : Sig) : Rep w U' σ' v (shown h (.own id)) := by
  cases hB : h.getD id .dead with
  | rows t s =>
    simp only [shown, hB]
    rcases hr.own hv hB with ⟨h1, h2, _, rfl⟩ | ⟨h1, h2, a, _, rfl⟩ | ⟨h1, b, c, hp, rfl, hrow⟩
    · exact Rep.slNil h1 h2
    · exact Rep.slSome h1 (by simp [h2]) (Nat.le_refl _) fun i x hx => by rw [h2] at hx; cases hx
    · have hn : s.l.length ≤ c := by obtain ⟨_, _, _, _, h, _⟩ := hrow; exact h
      refine Rep.slSome h1 rfl hn fun i x hx => ?_
      obtain ⟨ce, g1, g2⟩ := hrow.elem hx
      refine ⟨ce, RepT.mono hk g1, fun j u hu => ⟨?_, hfree _ _ _ _ hp⟩⟩
      have := g2 j u hu
      rw [Addr.add_mk] at this ⊢
      simpa using this
  | _ => simp only [shown, hB]; exact .undef _

theorem win_shown (hr : HR w M σ h) {U' : Nat → Prop} (hk : Keeps w w (Un M σ) U') {id off len : Nat} {v : Value} (hv : Rep w (Un M σ) σ v (.win id off len))
    (hfree : ∀ b n c z, σ[id]? = some (Pl.at b n c z) → ¬ U' b) (σ' : Sig) : Rep w U' σ' v (shown h (.win id off len)) := by
  have key : ∀ (t : Ty) (l : List t.den) (b n c : Nat) (a : Addr) (c' : Nat), σ[id]? = some (.at b n c t.size) → RowAt w (Un M σ) t b c l → v = .slice (some a) len c' → off + len ≤ l.length → len ≤ c' → (0 < len → a = ⟨b, off * t.size, none⟩) →
      ∀ nl, nl = false → Rep w U' σ' v (.sl t false (⟨nl, (l.drop off).take len⟩ : Sl t.den)) := by
    rintro t l b n c a c' hp hrow rfl h1 h2 h3 nl rfl
    refine Rep.slSome rfl (by simp; omega) h2 fun i x hx => ?_
    simp only [List.getElem?_take, List.getElem?_drop] at hx
    split at hx
    · rename_i hi
      obtain ⟨ce, g1, g2⟩ := hrow.elem hx
      refine ⟨ce, RepT.mono hk g1, fun j u hu => ?_⟩
      have := h3 (by omega)
      subst this
      refine ⟨?_, hfree _ _ _ _ hp⟩
      have := g2 j u hu
      rw [Addr.add_mk] at this ⊢
      rwa [show off * t.size + (i * t.size + j) = (off + i) * t.size + j by rw [Nat.add_mul]; omega]
    · cases hx
  cases hB : h.getD id .dead with
  | rows t s =>
    simp only [shown, hB]
    rcases (hr.win hv).1 t s hB with ⟨rfl, rfl, hl, A, c, rfl, ⟨rfl, hn, rfl⟩ | ⟨hA, hn⟩⟩ | ⟨b, c, a, c', hnl, hp, e, g1, g2, g3, hrow⟩
    · exact Rep.slNil hn (by simp)
    · cases A with
      | none => exact absurd rfl hA
      | some a => exact Rep.slSome hn (by simp) (Nat.zero_le _) fun i x hx => by simp at hx
    · exact key t s.l b _ c a c' hp hrow e g1 g2 g3 _ hnl
  | arr t n l =>
    simp only [shown, hB]
    obtain ⟨b, a, c', hp, hn, e, g1, g2, g3, hrow⟩ := (hr.win hv).2 t n l hB
    exact key t l b _ _ a c' hp hrow e (by omega) g2 g3 _ rfl
  | _ => simp only [shown, hB]; exact .undef _
theorem Later.atPl {σ σ' : Sig} (hl : Later σ σ') {id b n c z : Nat} (hlt : id < σ.length) (h : σ'[id]? = some (Pl.at b n c z)) : σ[id]? = some (Pl.at b n c z) := by
  obtain ⟨p', e, hor⟩ := hl id _ (List.getElem?_eq_getElem hlt)
  rw [h] at e; have e := Option.some.inj e
  rcases hor with h1 | h1
  · rw [List.getElem?_eq_getElem hlt, ← h1, ← e]
  · rw [h1] at e; cases e

theorem spendAll_length : ∀ (xs : List V) (h : Heap), (spendAll h xs).length = h.length
  | [], h => rfl
  | x :: r, h => by simp only [spendAll]; rw [spendAll_length r]; cases x <;> simp [spend]

/-- what is given away, as it is known then -/
theorem spend_repsOf (hr : HR w M σ h) {xs ys : List V} {vs : List Value} (hsub : ∀ y ∈ ys, y ∈ xs) (hR : Reps w (Un M σ) σ vs ys) :
    Reps w (Un M (spendAllS σ xs)) (spendAllS σ xs) vs (ys.map (shown h)) := by
  obtain ⟨hr1, hst⟩ := spendAllS_ok xs hr
  have hk := hst.keeps M
  refine ⟨by simp [hR.1], fun j v x hv hx => ?_⟩
  rw [List.getElem?_map] at hx
  obtain ⟨y, hy, rfl⟩ := Option.map_eq_some_iff.1 hx
  have hv' := hR.2 j v y hv hy
  have hmem := hsub y (List.mem_of_getElem? hy)
  have free : ∀ id, (V.own id ∈ xs ∨ ∃ o l, V.win id o l ∈ xs) → ∀ b n c z, σ[id]? = some (Pl.at b n c z) → ¬ Un M (spendAllS σ xs) b := by
    rintro id hm b n c z hp (hM | ⟨id', n', c', z', hp'⟩)
    · exact hr.out b ⟨id, n, c, z, hp⟩ hM
    · have hd := spent id xs σ (List.getElem?_eq_some_iff.1 hp).1 hm
      have hlen : id' < σ.length := by
        have := (List.getElem?_eq_some_iff.1 hp').1
        rw [hr1.len] at this
        have e := spendAll_length xs h
        rw [hr.len]; omega
      have hp2 := hst.later.atPl hlen hp'
      have := hr.inj id' id b n' c' z' n c z hp2 hp
      subst this
      rw [hd] at hp'; cases hp'
  cases y
  case own id => exact own_shown hr hk hv' (free id (.inl hmem)) _
  case win id o l => exact win_shown hr hk hv' (free id (.inr ⟨o, l, hmem⟩)) _
  all_goals exact hst.rep hv'

theorem spend_reps (hr : HR w M σ h) {xs : List V} {vs : List Value} (hR : Reps w (Un M σ) σ vs xs) (hs : xs.all (solid h) = true) :
    Reps w (Un M (spendAllS σ xs)) (spendAllS σ xs) vs (xs.map (shown h)) := spend_repsOf hr (fun _ h => h) hR

/-! ### Stores -/

theorem setRow_heap_other (w : World) (g : Nat) (cur : Array Value) (b : Nat) (hb : b ≠ g) : (w.setRow g cur).heap[b]? = w.heap[b]? := by
  unfold World.setRow
  simp only [Array.getElem?_modify]
  rw [if_neg (fun e => hb e.symm)]

theorem Step.setRow {w : World} {σ : Sig} {g : Nat} (cur : Array Value) (hg : σ.has g) : Step w (w.setRow g cur) σ σ :=
  ⟨rfl, rfl, rfl, by simp [World.setRow], fun b hb hn => setRow_heap_other w g cur b fun e => hn (e ▸ hg), .refl _, fun _ h => .inl h⟩

theorem splice_get {α : Type} (l : List α) (off : Nat) (news : List α) (hf : off + news.length ≤ l.length) (k : Nat) :
    (splice l off news)[k]? = if off ≤ k ∧ k < off + news.length then news[k - off]? else l[k]? := by
  unfold splice
  by_cases h1 : k < off
  · rw [if_neg (by omega), List.getElem?_append_left (by rw [List.length_take]; omega), List.getElem?_take, if_pos h1]
  · rw [List.getElem?_append_right (by rw [List.length_take]; omega), List.length_take, Nat.min_eq_left (by omega)]
    by_cases h2 : k < off + news.length
    · rw [if_pos ⟨by omega, h2⟩, List.getElem?_append_left (by omega)]
    · rw [if_neg (by omega), List.getElem?_append_right (by omega), List.getElem?_drop]
      congr 1; omega

theorem splice_length {α : Type} (l : List α) (off : Nat) (news : List α) (hf : off + news.length ≤ l.length) : (splice l off news).length = l.length := by
  unfold splice; simp; omega

theorem run_storeAt {t : TypeId} {d : TD} (hd : TDOk P t d) {g o : Nat} {v : Value} {cur : Array Value} {et : TypeId} (hg : w.heap[g]? = some (.cells cur et (0, 0))) (hl : v.cells.toList.length = d.size)
    (hf : o + d.size ≤ cur.size) (h1 : ∀ u ∈ v.cells.toList, u.oneCell' = true) :
    (Instr.storeAt t (.pointer (some ⟨g, o, none⟩)) v).run P w = .ok () (w.setRow g (splice cur.toList o v.cells.toList).toArray) := by
  have hst := run_storeCells_at P g o et v.cells.toList 0 cur w hg (by omega) h1
  have hl' : v.cells.size = d.size := by simpa using hl
  simp only [Nat.add_zero] at hst
  simp [Instr.storeAt, Instr.sureAddr, storeVar, hd.run_size, hl', hst, splice]

/-- one element of a row is another -/
theorem RowAt.set {t : Ty} {b c : Nat} {l : List t.den} (hr : RowAt w U t b c l) {i off : Nat} {y : t.den} (hi : i < l.length) {vs : List Value} (hfit : off + vs.length ≤ t.size)
    (hy : ∀ ce, (∃ x, l[i]? = some x ∧ RepT w U t x ce) → RepT w U t y (splice ce off vs)) {w' : World} {U' : Nat → Prop} (hk : Keeps w w' U U') {cur : Array Value} {et : TypeId} (hg : w.heap[b]? = some (.cells cur et (0, 0)))
    (hw : w'.heap[b]? = some (.cells (splice cur.toList (i * t.size + off) vs).toArray et (0, 0))) : RowAt w' U' t b c (l.set i y) := by
  obtain ⟨cur0, et0, h1, h2, h3, h4⟩ := hr
  rw [hg] at h1; cases h1
  have hic : (i + 1) * t.size ≤ c * t.size := Nat.mul_le_mul_right _ (by omega)
  rw [Nat.succ_mul] at hic
  have hfit2 : i * t.size + off + vs.length ≤ cur.toList.length := by simp; omega
  refine ⟨_, et, hw, ?_, by simpa using h3, fun k x hx => ?_⟩
  · simp only [List.size_toArray]; rw [splice_length _ _ _ hfit2]; simpa using h2
  · have hkl : k < l.length := by have := (List.getElem?_eq_some_iff.1 hx).1; simpa using this
    by_cases hik : i = k
    · subst hik
      rw [List.getElem?_set_self hi] at hx; cases hx
      obtain ⟨ce, g1, g2⟩ := h4 i _ (List.getElem?_eq_getElem hi)
      have hcl := g1.length
      refine ⟨_, RepT.mono hk (hy ce ⟨_, List.getElem?_eq_getElem hi, g1⟩), fun j v hv => ?_⟩
      have hj : j < t.size := by
        have := (List.getElem?_eq_some_iff.1 hv).1
        rw [splice_length _ _ _ (by omega)] at this; omega
      rw [splice_get _ _ _ (by omega)] at hv
      simp only [List.getElem?_toArray]
      rw [splice_get _ _ _ hfit2]
      split at hv
      · rename_i hc
        rw [if_pos (by omega), show i * t.size + j - (i * t.size + off) = j - off by omega]; exact hv
      · rename_i hc
        rw [if_neg (by omega)]
        have := g2 j v hv
        simpa using this
    · rw [List.getElem?_set_ne hik] at hx
      obtain ⟨ce, g1, g2⟩ := h4 k x hx
      have hcl := g1.length
      refine ⟨ce, RepT.mono hk g1, fun j v hv => ?_⟩
      have hj : j < t.size := by rw [← hcl]; exact (List.getElem?_eq_some_iff.1 hv).1
      simp only [List.getElem?_toArray]
      rw [splice_get _ _ _ hfit2, if_neg ?_]
      · have := g2 j v hv; simpa using this
      · rintro ⟨c1, c2⟩
        rcases Nat.lt_or_gt_of_ne hik with hlt | hlt
        · have : (i + 1) * t.size ≤ k * t.size := Nat.mul_le_mul_right _ hlt
          rw [Nat.succ_mul] at this; omega
        · have : (k + 1) * t.size ≤ i * t.size := Nat.mul_le_mul_right _ hlt
          rw [Nat.succ_mul] at this; omega

theorem implode_whole {t : Ty} {cs : List V} {y : t.den} {vs : List Value} (hi : implode t cs = some (y, [])) (hr : Reps w U σ vs cs) : RepT w U t y vs := by
  obtain ⟨c1, c2, rfl, g1, g2⟩ := implode_ok hi hr
  have := g2.inv_nil; subst this; simpa using g1

theorem storeV_ok {t : TypeId} {d : TD} (hd : TDOk P t d) {p x : V} {h' : Heap} (hs : storeV d h p x = some h') (hr : HR w M σ h) {a v : Value} (ha : Rep w (Un M σ) σ a p) (hv : Rep w (Un M σ) σ v x) :
    ∃ w' σ', (Instr.storeAt t a v).run P w = .ok () w' ∧ HR w' M σ' h' ∧ Step w w' σ σ' := by
  unfold storeV at hs
  by_cases hc0 : x.cells.length = d.size ∧ d.size ≠ 0 ∧ x.cells.all (solid h) = true
  case neg => rw [if_neg hc0] at hs; cases hs
  rw [if_pos hc0] at hs
  obtain ⟨hsz, hnz, hso⟩ := hc0
  obtain ⟨hcells, hone⟩ := hr.cells hv (by omega) hso
  have hvl : v.cells.toList.length = d.size := by rw [hcells.1, hsz]
  split at hs
  · rename_i id off
    split at hs
    · rename_i et cs hB
      split at hs
      · rename_i hfit
        cases hs
        obtain ⟨b, hp, rfl, cur, h1, h2, h3⟩ := hr.ptr ha hB
        have hrun := run_storeAt hd (o := off) h1 hvl (by omega) hone
        have hst := Step.setRow (w := w) (splice cur.toList off v.cells.toList).toArray ⟨id, _, _, _, hp⟩
        refine ⟨_, σ, hrun, ?_, hst⟩
        refine hr.write hst hp (fun b' hb' => setRow_heap_other w b _ b' hb') ?_
        refine ⟨?_, ?_, rfl, _, setRow_heap w b cur _ et _ h1, ?_, fun i u X hu hX => ?_⟩
        · rw [splice_length _ _ _ (by rw [hsz]; exact hfit)]
        · rfl
        · simp only [List.size_toArray]; rw [splice_length _ _ _ (by rw [hvl, Array.length_toList, h2]; exact hfit), splice_length _ _ _ (by rw [hsz]; exact hfit)]; simpa using h2
        · have hall : Reps w (Un M σ) σ cur.toList cs := ⟨by simpa using h2, fun j u X hu hX => h3 j u X (by simpa using hu) hX⟩
          exact hst.rep ((hall.splice hcells off).2 i u X (by simpa using hu) hX)
      · cases hs
    · cases hs
  · rename_i id i off
    obtain ⟨hr1, hst1⟩ := spendAllS_ok x.cells hr
    have hsh := spend_reps hr hcells hso
    have ha1 := hst1.rep ha
    have he := hr1.eptr ha1
    -- an element, of a row or of an array
    have one : ∀ (ty : Ty) (l : List ty.den) (b n c : Nat) (y : ty.den) (B : List ty.den → Blk), (spendAllS σ x.cells)[id]? = some (.at b n c ty.size) → RowAt w (Un M (spendAllS σ x.cells)) ty b c l → i < l.length →
        a = .pointer (some ⟨b, i * ty.size + off, none⟩) → implode ty (splice (explode ty (l.getD i ty.zero)) off (x.cells.map (shown h))) = some (y, []) → off + d.size ≤ ty.size →
        (∀ w' U', RowAt w' U' ty b c (l.set i y) → (∀ cur et, w.heap[b]? = some (.cells cur et (0, 0)) → ∃ cur', w'.heap[b]? = some (.cells cur' et (0, 0))) → BR w' U' (spendAllS σ x.cells) (.at b n c ty.size) (B (l.set i y))) →
        ∃ w' σ', (Instr.storeAt t a v).run P w = .ok () w' ∧ HR w' M σ' ((spendAll h x.cells).set id (B (l.set i y))) ∧ Step w w' σ σ' := by
      intro ty l b n c y B hp hrow hi ea hy hfit hB
      subst ea
      have hrow0 := hrow
      obtain ⟨cur, et, h1, h2, h3, h4⟩ := hrow0
      have hic : (i + 1) * ty.size ≤ c * ty.size := Nat.mul_le_mul_right _ (by omega)
      rw [Nat.succ_mul] at hic
      have hrun := run_storeAt hd (o := i * ty.size + off) h1 hvl (by omega) hone
      have hst := Step.setRow (w := w) (splice cur.toList (i * ty.size + off) v.cells.toList).toArray ⟨id, _, _, _, hp⟩
      refine ⟨_, _, hrun, ?_, hst1.trans hst⟩
      refine hr1.write hst hp (fun b' hb' => setRow_heap_other w b _ b' hb') (hB _ _ ?_ fun cur' et' g => by rw [h1] at g; cases g; exact ⟨_, setRow_heap w b cur _ et _ h1⟩)
      refine hrow.set hi (by omega) (fun ce ⟨x0, hx0, hce⟩ => ?_) (hst.keeps M) h1 (setRow_heap w b cur _ et _ h1)
      have e0 : l.getD i ty.zero = x0 := by rw [List.getD_eq_getElem?_getD, hx0]; rfl
      rw [e0] at hy
      exact implode_whole hy ((hce.reps).splice hsh off)
    split at hs
    · rename_i ty s hB
      obtain ⟨b, c, hp, hi, hnl, ea, hrow⟩ := he.1 ty s hB
      split at hs
      · rename_i y hy
        split at hs
        · rename_i hfit
          cases hs
          exact one ty s.l b _ c y (fun l => .rows ty ⟨s.nl, l⟩) hp hrow hi ea hy hfit fun w' U' hR hL => ⟨hnl, by simp, rfl, hR, by
            obtain ⟨cur, et, g1, g2⟩ := hr1.lie hp hB
            obtain ⟨cur', g3⟩ := hL cur et g1
            exact ⟨cur', et, g3, g2⟩⟩
        · cases hs
      · cases hs
    · rename_i ty n l hB
      obtain ⟨b, hp, hn, hi, ea, hrow⟩ := he.2 ty n l hB
      split at hs
      · rename_i hagg
        split at hs
        · rename_i hc
          obtain ⟨rfl, rfl, hsize⟩ := hc
          split at hs
          · rename_i l' hl'
            cases hs
            have hrow0 := hrow
            obtain ⟨cur, et, h1, h2, h3, h4⟩ := hrow0
            obtain ⟨e1, e2, e3⟩ := listOf_ok hl' hsh
            subst ea
            rw [Nat.zero_mul, Nat.zero_add] at *
            have hrun := run_storeAt hd (o := 0) h1 hvl (by omega) hone
            have hst := Step.setRow (w := w) (splice cur.toList 0 v.cells.toList).toArray ⟨id, _, _, _, hp⟩
            refine ⟨_, _, hrun, ?_, hst1.trans hst⟩
            refine hr1.write hst hp (fun b' hb' => setRow_heap_other w b _ b' hb') ⟨rfl, e1.symm, rfl, rfl, _, et, setRow_heap w b cur _ et _ h1, ?_, by omega, fun k x hx => ?_⟩
            · simp only [List.size_toArray]; rw [splice_length _ _ _ (by simp at hvl ⊢; omega)]; simpa using h2
            · obtain ⟨ce, g1, g2⟩ := e3 k x hx
              refine ⟨ce, RepT.mono (hst.keeps M) g1, fun j u hu => ?_⟩
              have h5 := g2 j u hu
              have hlt := (List.getElem?_eq_some_iff.1 h5).1
              simp only [List.getElem?_toArray]
              rw [splice_get _ _ _ (by simp at hvl ⊢; omega), if_pos (by omega)]
              simpa using h5
          · cases hs
        · cases hs
      · split at hs
        · rename_i y hy
          split at hs
          · rename_i hfit
            cases hs
            exact one ty l b _ _ y (fun l => .arr ty n l) hp hrow (by omega) ea hy hfit fun w' U' hR _ => ⟨rfl, by simp [hn], rfl, rfl, hR⟩
          · cases hs
        · cases hs
    · cases hs
  · cases hs

end
end Go.Proofs.YtnebpmcmdmpoaaaDoor.R
