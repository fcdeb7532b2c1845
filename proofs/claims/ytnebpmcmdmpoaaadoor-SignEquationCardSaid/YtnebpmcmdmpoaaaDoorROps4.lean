/- Parts of slices, lengths, conversions. -/
import Derived.Test.YtnebpmcmdmpoaaaDoorROps3
namespace Go.Proofs.YtnebpmcmdmpoaaaDoor.R
open Go
set_option linter.unusedVariables false
set_option linter.unusedSimpArgs false

section
variable {P : Program} {T : Types} {w : World} {U : Nat → Prop} {σ : Sig} {M : Nat → Prop} {Ω : Type} {h : Heap}

/-- optional operands -/
def ORep (w : World) (U : Nat → Prop) (σ : Sig) : Option Value → Option V → Prop
  | none, none => True
  | some v, some x => Rep w U σ v x
  | _, _ => False

def BndV (d : Int) (o : Option Value) (l : Int) : Prop := (o = none ∧ l = d) ∨ ∃ k, o = some (.int k l)

theorem bnd_ok {d l : Int} {o : Option V} {o' : Option Value} (hb : bnd d o = some l) (hr : ORep w U σ o' o) : BndV d o' l := by
  unfold bnd at hb
  split at hb
  · cases hb; cases o' with
    | none => exact .inl ⟨rfl, rfl⟩
    | some _ => exact hr.elim
  · cases hb; cases o' with
    | none => exact hr.elim
    | some v => cases hr; exact .inr ⟨_, rfl⟩
  · cases hb

theorem inS_iff {l u n : Int} : inS l u n = true ↔ 0 ≤ l ∧ l ≤ u ∧ u ≤ n := by simp [inS, and_assoc]

theorem run_bounds {s : Bool} {len cap : Nat} {lo hi : Option Value} {l u : Int} (hl : BndV 0 lo l) (hu : BndV len hi u) (h0 : 0 ≤ l) (h1 : l ≤ u) (h2 : u ≤ cap) (hlc : len ≤ cap) :
    (Instr.sliceBounds s len cap lo hi none).run P w = .ok (l.toNat, u.toNat, cap) w := by
  have eu : (u.toNat : Int) = u := Int.toNat_of_nonneg (by omega)
  have u0 : 0 ≤ u := by omega
  rcases hl with ⟨rfl, rfl⟩ | ⟨k, rfl⟩ <;> rcases hu with ⟨rfl, rfl⟩ | ⟨k', rfl⟩ <;>
    simp [Instr.sliceBounds, run_sliceBound, *]

theorem run_bounds3 {s : Bool} {len cap : Nat} {lo hi : Option Value} {l u m : Int} {km : IntKind} (hl : BndV 0 lo l) (hu : ∃ k, hi = some (.int k u)) (h0 : 0 ≤ l) (h1 : l ≤ u) (h2 : u ≤ m) (h3 : m ≤ cap) :
    (Instr.sliceBounds s len cap lo hi (some (.int km m))).run P w = .ok (l.toNat, u.toNat, m.toNat) w := by
  have eu : (u.toNat : Int) = u := Int.toNat_of_nonneg (by omega)
  have em : (m.toNat : Int) = m := Int.toNat_of_nonneg (by omega)
  obtain ⟨k', rfl⟩ := hu
  rcases hl with ⟨rfl, rfl⟩ | ⟨k, rfl⟩ <;> simp [Instr.sliceBounds, run_sliceBound, *, (by omega : 0 ≤ u), (by omega : 0 ≤ m)]

theorem elemOk_ok (hT : TOk P T) {t : TypeId} {d : TD} (hd : TDOk P t d) {ty : Ty} (he : elemOk T d ty = true) : ∃ e, P.underlying t = some (.slice e) ∧ ∀ w, (sizeOf e).run P w = .ok ty.size w := by
  have hs := hd.sh
  unfold elemOk at he
  split at he
  · rename_i e h1
    rw [h1] at hs
    cases h2 : T.get e with
    | none => rw [h2] at he; cases he
    | some de =>
      rw [h2] at he
      exact ⟨e, hs, fun w => by rw [(hT _ _ h2).run_size, beq_iff_eq.1 he]⟩
  · cases he

theorem run_sliceAt_sl {t e : TypeId} {z : Nat} (ht : P.underlying t = some (.slice e)) (hz : (sizeOf e).run P w = .ok z w) {A : Option Addr} {n c : Nat} {lo hi mx : Option Value} {l u m : Nat}
    (hb : (Instr.sliceBounds true n c lo hi mx).run P w = .ok (l, u, m) w) :
    (Instr.sliceAt t (.slice A n c) lo hi mx).run P w = .ok (.slice (if m = l then A else A.map (·.add (l * z))) (u - l) (m - l)) w := by
  simp [Instr.sliceAt, Instr.slice, run_underlying ht, hb, hz]

theorem run_sliceAt_arr {t e : TypeId} {z m : Nat} (ht : P.underlying t = some (.array m e)) (hz : (sizeOf e).run P w = .ok z w) {a : Addr} {lo hi : Option Value} {l u : Nat}
    (hb : (Instr.sliceBounds false m m lo hi none).run P w = .ok (l, u, m) w) :
    (Instr.sliceAt t (.pointer (some a)) lo hi none).run P w = .ok (.slice (some (if m = l then a else a.add (l * z))) (u - l) (m - l)) w := by
  simp [Instr.sliceAt, run_underlying ht, Instr.sureAddr, hb, hz]

theorem SlRep.part {α : Type} {R : α → List Value → Prop} {z : Nat} {s : Sl α} {A : Option Addr} {n c l u m : Nat} (hs : SlRep w U R z s A n c) (h1 : l ≤ u) (h2 : u ≤ n) (h3 : u ≤ m) (h4 : m ≤ c) :
    SlRep w U R z ⟨s.nl, (s.l.take u).drop l⟩ (if m = l then A else A.map (·.add (l * z))) (u - l) (m - l) := by
  cases A with
  | none =>
    obtain ⟨g1, g2, rfl, rfl⟩ := hs
    have : u = 0 := by omega
    have : l = 0 := by omega
    have : m = 0 := by omega
    subst_vars
    simp [SlRep, g1, g2]
  | some a =>
    obtain ⟨g1, rfl, g3, g4⟩ := hs
    have key : ∀ a', (m ≠ l → a' = a.add (l * z)) → SlRep w U R z ⟨s.nl, (s.l.take u).drop l⟩ (some a') (u - l) (m - l) := by
      intro a' ha'
      refine ⟨g1, by simp; omega, by omega, fun i x hx => ?_⟩
      simp only [List.getElem?_drop, List.getElem?_take] at hx
      split at hx
      · rename_i hi
        have hml : m ≠ l := by omega
        rw [ha' hml]
        obtain ⟨ce, q1, q2⟩ := g4 _ x hx
        refine ⟨ce, q1, fun j v hv => ?_⟩
        rw [Addr.add_add, Addr.block_add]
        have := q2 j v hv
        rwa [show l * z + (i * z + j) = (l + i) * z + j by rw [Nat.add_mul]; omega]
      · cases hx
    by_cases hm : m = l
    · rw [if_pos hm]; exact key a fun h => absurd hm h
    · rw [if_neg hm]; exact key _ fun _ => rfl

theorem sliceV_ok (hT : TOk P T) {t : TypeId} {d : TD} (hd : TDOk P t d) (h : Heap) (x : V) (lo hi mx : Option V) :
    One (Ω := Ω) (sliceV T d h x lo hi mx) fun v => ∀ w M σ a lo' hi' mx', HR w M σ h → Rep w (Un M σ) σ a x → ORep w (Un M σ) σ lo' lo → ORep w (Un M σ) σ hi' hi → ORep w (Un M σ) σ mx' mx →
      Gives P w (Un M σ) σ (Instr.sliceAt t a lo' hi' mx') v := by
  have hs := hd.sh
  unfold sliceV
  split
  · rename_i s
    split
    · rename_i l u hsh hl hu
      rw [hsh] at hs
      have hs : P.underlying t = some .string := hs
      refine One.bif (fun hb => One.here fun w M σ a lo' hi' mx' hr ha h1 h2 h3 => ?_) fun _ => One.no
      obtain ⟨g1, g2, g3⟩ := inS_iff.1 hb
      cases ha
      cases mx' with
      | some _ => exact h3.elim
      | none =>
        have := run_bounds (P := P) (w := w) (s := false) (cap := s.size) (bnd_ok hl h1) (bnd_ok hu h2) g1 g2 g3 (Nat.le_refl _)
        exact Gives.str (by simp [Instr.sliceAt, Instr.slice, run_underlying hs, this])
    · exact One.no
  · rename_i ty capd s
    split
    · rename_i l u he hl hu
      obtain ⟨e, ht, hz⟩ := elemOk_ok hT hd he
      split
      · refine One.bif (fun hb => One.here fun w M σ a lo' hi' mx' hr ha h1 h2 h3 => ?_) fun _ => One.no
        obtain ⟨g1, g2, g3⟩ := inS_iff.1 hb
        cases mx' with
        | some _ => exact h3.elim
        | none =>
          cases ha with
          | sl _ _ _ A n c hsl _ =>
            have hn : n = s.l.length ∧ n ≤ c := by
              cases A with
              | none => obtain ⟨_, q2, rfl, rfl⟩ := hsl; simp [q2]
              | some a => exact ⟨hsl.2.1, hsl.2.2.1⟩
            have hb' := run_bounds (P := P) (w := w) (s := true) (len := n) (cap := c) (bnd_ok hl h1) (by rw [hn.1]; exact bnd_ok hu h2) g1 g2 (by omega) hn.2
            refine .mk (.sl _ _ _ _ _ _ (SlRep.part hsl (l := l.toNat) (u := u.toNat) (m := c) (by omega) (by omega) (by omega) (Nat.le_refl _)) (by simp)) (run_sliceAt_sl ht (hz w) hb')
      · rename_i km m
        refine One.ite (fun hh => One.bif (fun hb => One.here fun w M σ a lo' hi' mx' hr ha h1 h2 h3 => ?_) fun _ => One.no) fun _ => One.no
        rw [Bool.and_eq_true, decide_eq_true_eq] at hb
        obtain ⟨hb, g4⟩ := hb
        obtain ⟨g1, g2, g3⟩ := inS_iff.1 hb
        cases mx' with
        | none => exact h3.elim
        | some mv =>
          cases h3
          cases ha with
          | sl _ _ _ A n c hsl _ =>
            have hn : n = s.l.length ∧ n ≤ c := by
              cases A with
              | none => obtain ⟨_, q2, rfl, rfl⟩ := hsl; simp [q2]
              | some a => exact ⟨hsl.2.1, hsl.2.2.1⟩
            have hu' : ∃ k, hi' = some (.int k u) := by
              rcases bnd_ok hu h2 with ⟨rfl, _⟩ | h
              · cases hi with
                | none => cases hh
                | some _ => exact h2.elim
              · exact h
            have hb' := run_bounds3 (P := P) (w := w) (s := true) (len := n) (cap := c) (km := km) (bnd_ok hl h1) hu' g1 g2 g3 (by omega)
            refine .mk (.sl _ _ _ _ _ _ (SlRep.part hsl (l := l.toNat) (u := u.toNat) (m := m.toNat) (by omega) (by omega) (by omega) (by omega)) fun hc => ?_) (run_sliceAt_sl ht (hz w) hb')
            have := of_decide_eq_true hc; omega
      · exact One.no
    · exact One.no
  · rename_i id
    cases hB : h.getD id .dead with
    | rows ty s =>
      dsimp only
      split
      · rename_i he
        obtain ⟨e, ht, hz⟩ := elemOk_ok hT hd he
        refine One.here fun w M σ a lo' hi' mx' hr ha h1 h2 h3 => ?_
        cases lo' with
        | some _ => exact h1.elim
        | none =>
        cases hi' with
        | some _ => exact h2.elim
        | none =>
        cases mx' with
        | some _ => exact h3.elim
        | none =>
        have same : ∀ A n c, n ≤ c → a = .slice A n c → (Instr.sliceAt t a none none none).run P w = .ok a w := by
          rintro A n c hnc rfl
          have hb' := run_bounds (P := P) (w := w) (s := true) (len := n) (cap := c) (lo := none) (hi := none) (l := 0) (u := n) (.inl ⟨rfl, rfl⟩) (.inl ⟨rfl, rfl⟩) (by omega) (by omega) (by omega) hnc
          rw [run_sliceAt_sl ht (hz w) hb']
          cases A <;> simp [Addr.add_zero']
        rcases hr.own ha hB with ⟨_, _, _, rfl⟩ | ⟨_, _, a', _, rfl⟩ | ⟨_, b, c, _, rfl, hrow⟩
        · exact .mk ha (same _ _ _ (Nat.le_refl _) rfl)
        · exact .mk ha (same _ _ _ (Nat.le_refl _) rfl)
        · obtain ⟨cur, et, _, _, hlc, _⟩ := hrow
          exact .mk ha (same _ _ _ hlc rfl)
      · rename_i he hnn
        obtain ⟨e, ht, hz⟩ := elemOk_ok hT hd he
        split
        · rename_i l u hl hu
          refine One.bif (fun hb => One.here fun w M σ a lo' hi' mx' hr ha h1 h2 h3 => ?_) fun _ => One.no
          obtain ⟨g1, g2, g3⟩ := inS_iff.1 hb
          cases mx' with
          | some _ => exact h3.elim
          | none =>
          rcases hr.own ha hB with ⟨_, q, hp, rfl⟩ | ⟨_, q, a', hp, rfl⟩ | ⟨_, b, c, hp, rfl, hrow⟩
          · rw [q] at g3 hu
            simp at g3
            have hb' := run_bounds (P := P) (w := w) (s := true) (len := 0) (cap := 0) (bnd_ok hl h1) (bnd_ok hu h2) g1 g2 (by omega) (Nat.le_refl _)
            have e1 : l.toNat = 0 := by omega
            have e2 : u.toNat = 0 := by omega
            have e3 : (u - l).toNat = 0 := by omega
            refine .mk (v' := .slice none 0 0) (.win _ _ _ _ _ hp ⟨rfl, e1, e3⟩) ?_
            rw [run_sliceAt_sl ht (hz w) hb', e1, e2]; simp
          · rw [q] at g3 hu
            simp at g3
            have hb' := run_bounds (P := P) (w := w) (s := true) (len := 0) (cap := 0) (bnd_ok hl h1) (bnd_ok hu h2) g1 g2 (by omega) (Nat.le_refl _)
            have e1 : l.toNat = 0 := by omega
            have e2 : u.toNat = 0 := by omega
            have e3 : (u - l).toNat = 0 := by omega
            refine .mk (v' := .slice (some a') 0 0) (.win _ _ _ _ _ hp ⟨_, _, rfl, e1, e3⟩) ?_
            rw [run_sliceAt_sl ht (hz w) hb', e1, e2]; simp
          · obtain ⟨cur, et, _, _, hlc, _⟩ := hrow
            have hb' := run_bounds (P := P) (w := w) (s := true) (len := s.l.length) (cap := c) (bnd_ok hl h1) (bnd_ok hu h2) g1 g2 (by omega) hlc
            have e3 : (u - l).toNat = u.toNat - l.toNat := by omega
            refine .mk (.win _ _ _ _ _ hp ⟨if c = l.toNat then ⟨b, 0, none⟩ else ⟨b, l.toNat * ty.size, none⟩, c - l.toNat, rfl, by omega, by omega, fun hpos => ?_⟩) ?_
            · rw [if_neg (by omega)]
            · rw [run_sliceAt_sl ht (hz w) hb', e3]
              by_cases hc : c = l.toNat
              · simp [hc]
              · simp [hc, Addr.add_mk]
        · exact One.no
      · exact One.no
    | _ => exact One.no
  · rename_i id off len
    have key : ∀ ty, (∀ t' s, h.getD id .dead = .rows t' s → t' = ty) → (∀ t' n l, h.getD id .dead = .arr t' n l → t' = ty) → ((∃ s, h.getD id .dead = .rows ty s) ∨ ∃ n l, h.getD id .dead = .arr ty n l) →
        One (Ω := Ω) (fun K => match elemOk T d ty, bnd 0 lo, bnd len hi, mx with
          | true, some l, some u, none => bif inS l u len then K (.win id (off + l.toNat) (u - l).toNat) else none
          | _, _, _, _ => none) fun v => ∀ w M σ a lo' hi' mx', HR w M σ h → Rep w (Un M σ) σ a (.win id off len) → ORep w (Un M σ) σ lo' lo → ORep w (Un M σ) σ hi' hi → ORep w (Un M σ) σ mx' mx →
          Gives P w (Un M σ) σ (Instr.sliceAt t a lo' hi' mx') v := by
      intro ty _ _ hB
      split
      · rename_i l u he hl hu
        obtain ⟨e, ht, hz⟩ := elemOk_ok hT hd he
        refine One.bif (fun hb => One.here fun w M σ a lo' hi' mx' hr ha h1 h2 h3 => ?_) fun _ => One.no
        obtain ⟨g1, g2, g3⟩ := inS_iff.1 hb
        cases mx' with
        | some _ => exact h3.elim
        | none =>
        have fin : ∀ (b n c : Nat) (a' : Addr) (c' : Nat), σ[id]? = some (.at b n c ty.size) → a = .slice (some a') len c' → off + len ≤ n → len ≤ c' → (0 < len → a' = ⟨b, off * ty.size, none⟩) →
            Gives P w (Un M σ) σ (Instr.sliceAt t a lo' hi' none) (.win id (off + l.toNat) (u - l).toNat) := by
          rintro b n c a' c' hp rfl q1 q2 q3
          have hb' := run_bounds (P := P) (w := w) (s := true) (len := len) (cap := c') (bnd_ok hl h1) (bnd_ok hu h2) g1 g2 (by omega) q2
          have e3 : (u - l).toNat = u.toNat - l.toNat := by omega
          refine .mk (.win _ _ _ _ _ hp ⟨if c' = l.toNat then a' else a'.add (l.toNat * ty.size), c' - l.toNat, rfl, by omega, by omega, fun hpos => ?_⟩) ?_
          · rw [if_neg (by omega), q3 (by omega), Addr.add_mk, Nat.add_mul]
          · rw [run_sliceAt_sl ht (hz w) hb', e3]
            by_cases hc : c' = l.toNat
            · simp [hc]
            · simp [hc]
        rcases hB with ⟨s, hB⟩ | ⟨n, l', hB⟩
        · rcases (hr.win ha).1 ty s hB with ⟨rfl, rfl, _, A, c, rfl, _⟩ | ⟨b, c, a', c', _, hp, e1, q1, q2, q3, _⟩
          · have e1 : l.toNat = 0 := by omega
            have e2 : u.toNat = 0 := by omega
            have e3 : (u - l).toNat = 0 := by omega
            have hb' := run_bounds (P := P) (w := w) (s := true) (len := 0) (cap := c) (bnd_ok hl h1) (bnd_ok hu h2) g1 g2 (by omega) (Nat.zero_le _)
            have hrun := run_sliceAt_sl (A := A) ht (hz w) hb'
            rw [e1, e2] at hrun
            have hrun : (Instr.sliceAt t (.slice A 0 c) lo' hi' none).run P w = .ok (.slice A 0 c) w := by
              rw [hrun]; cases A <;> simp [Addr.add_zero']
            refine .mk ?_ hrun
            rw [e1, e3]; exact ha
          · exact fin b _ c a' c' hp e1 q1 q2 q3
        · obtain ⟨b, a', c', hp, _, e1, q1, q2, q3, _⟩ := (hr.win ha).2 ty n l' hB
          exact fin b _ _ a' c' hp e1 q1 q2 q3
      · exact One.no
    split
    · rename_i ty s hB
      exact key ty (fun t' s' e => by rw [hB] at e; cases e; rfl) (fun _ _ _ e => by rw [hB] at e; cases e) (.inl ⟨s, hB⟩)
    · rename_i ty n l hB
      exact key ty (fun _ _ e => by rw [hB] at e; cases e) (fun t' _ _ e => by rw [hB] at e; cases e; rfl) (.inr ⟨n, l, hB⟩)
    · exact One.no
  · rename_i id
    split
    · rename_i n e ty m l hsh hB
      rw [hsh] at hs
      have hs : P.underlying t = some (.array n e) := hs
      split
      · rename_i de l' u hde hl hu
        refine One.ite (fun hc => One.bif (fun hb => One.here fun w M σ a lo' hi' mx' hr ha h1 h2 h3 => ?_) fun _ => One.no) fun _ => One.no
        obtain ⟨rfl, hz⟩ := hc
        obtain ⟨g1, g2, g3⟩ := inS_iff.1 hb
        cases mx' with
        | some _ => exact h3.elim
        | none =>
        obtain ⟨b, hp, hn, _, rfl, hrow⟩ := (hr.eptr ha).2 ty m l hB
        have hb' := run_bounds (P := P) (w := w) (s := false) (len := m) (cap := m) (bnd_ok hl h1) (bnd_ok hu h2) g1 g2 (by omega) (Nat.le_refl _)
        have hsz := (hT _ _ hde).run_size w
        have e3 : (u - l').toNat = u.toNat - l'.toNat := by omega
        refine .mk (.win _ _ _ _ _ hp ⟨if m = l'.toNat then ⟨b, 0, none⟩ else ⟨b, l'.toNat * ty.size, none⟩, m - l'.toNat, rfl, by omega, by omega, fun hpos => ?_⟩) ?_
        · rw [if_neg (by omega)]
        · rw [e3, run_sliceAt_arr hs hsz hb', hz, Addr.add_mk]
          simp
      · exact One.no
    · exact One.no
  · rename_i cs
    split
    · rename_i n e hsh
      rw [hsh] at hs
      have hs : P.underlying t = some (.array n e) := hs
      split
      · rename_i de l u hde hl hu
        have hd' := hT _ _ hde
        split
        · rename_i ty hty
          split
          · rename_i v hv
            refine One.ite (fun _ => One.no) fun hn0 => One.bif (fun hb => One.here fun w M σ a lo' hi' mx' hr ha h1 h2 h3 => ?_) fun _ => One.no
            obtain ⟨g1, g2, g3⟩ := inS_iff.1 hb
            cases mx' with
            | some _ => exact h3.elim
            | none =>
            obtain ⟨a', vs, rfl, q1, q2, q3⟩ := ha.fp_cells
            have hb' := run_bounds (P := P) (w := w) (s := false) (len := n) (cap := n) (bnd_ok hl h1) (bnd_ok hu h2) g1 g2 (by omega) (Nat.le_refl _)
            have hsz := hd'.run_size w
            have hz := (hd'.ty ty hty).1
            obtain ⟨e1, e2, e3⟩ := listOf_ok hv (q2.take _)
            have hwhole : SlRep w (Un M σ) (RepT w (Un M σ) ty) ty.size (⟨false, v⟩ : Sl ty.den) (some a') n n := by
              refine ⟨rfl, e1.symm, Nat.le_refl _, fun i x hx => ?_⟩
              obtain ⟨ce, p1, p2⟩ := e3 i x hx
              refine ⟨ce, p1, fun j y hy => ?_⟩
              have h5 := p2 j y hy
              rw [List.getElem?_take] at h5
              split at h5
              · refine ⟨q1 _ y h5, ?_⟩
                have hlt : i * ty.size + j < cs.length := by rw [← q2.1]; exact (List.getElem?_eq_some_iff.1 h5).1
                exact q3 _ _ (List.getElem?_eq_getElem hlt)
              · cases h5
            refine .mk (.sl _ _ _ _ _ _ (SlRep.part hwhole (l := l.toNat) (u := u.toNat) (m := n) (by omega) (by omega) (by omega) (Nat.le_refl _)) (by simp)) ?_
            rw [run_sliceAt_arr hs hsz hb', ← hz]
            by_cases hc : n = l.toNat
            · rw [if_pos hc, if_pos hc]
            · rw [if_neg hc, if_neg hc]; rfl
          · exact One.no
        · exact One.no
      · exact One.no
    · exact One.no
  · exact One.no
end
end Go.Proofs.YtnebpmcmdmpoaaaDoor.R
