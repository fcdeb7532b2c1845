/- append. -/
import Derived.Test.YtnebpmcmdmpoaaaDoorROps7
namespace Go.Proofs.YtnebpmcmdmpoaaaDoor.R
open Go
set_option linter.unusedVariables false
set_option linter.unusedSimpArgs false

section
variable {P : Program} {T : Types} {w : World} {U : Nat → Prop} {σ : Sig} {M : Nat → Prop} {Ω : Type} {h : Heap}

theorem srcOk_str {tx : TypeId} {dx : TD} (hd : TDOk P tx dx) {s : ByteArray} (hs : srcOk dx (.str s) = true) : P.underlying tx = some .string := by
  have hsh := hd.sh
  simp only [srcOk] at hs
  cases e : dx.sh <;> rw [e] at hs hsh <;> first | exact hsh | cases hs

theorem srcOk_sl {tx : TypeId} {dx : TD} (hd : TDOk P tx dx) {x : V} (hne : ∀ s, x ≠ .str s) (hs : srcOk dx x = true) : ∃ e, P.underlying tx = some (.slice e) := by
  have hsh := hd.sh
  cases x <;> first
    | exact absurd rfl (hne _)
    | (simp only [srcOk] at hs; cases e : dx.sh <;> rw [e] at hs hsh <;> first | exact ⟨_, hsh⟩ | cases hs)

theorem src_ok (hr : HR w M σ h) {t : Ty} {x : V} {xs : List t.den} {v : Value} (hx : elems h t x = some xs) (hv : Rep w (Un M σ) σ v x) {tx : TypeId} {dx : TD} (hd : TDOk P tx dx) (hs : srcOk dx x = true) :
    ∃ news, Src P t.size tx v xs.length news w ∧ RowL w (Un M σ) t xs news := by
  rcases elems_ok hr hx hv with ⟨s, rfl, rfl, h1, h2⟩ | ⟨rfl, rfl⟩ | ⟨a, c, news, rfl, h1, h2, h3⟩
  · have hk := srcOk_str hd hs
    refine ⟨byteCells s, ?_, h2⟩
    have := Src.ofString (w := w) hk s
    have hl : xs.length = s.size := by have := h2.1; rw [byteCells_length, h1, Nat.mul_one] at this; exact this.symm
    rw [h1, hl]; exact this
  · obtain ⟨e, hk⟩ := srcOk_sl hd (fun s e => by subst e; cases hv) hs
    exact ⟨[], Src.ofNil w hk 0, .nil⟩
  · obtain ⟨e, hk⟩ := srcOk_sl hd (fun s e => by subst e; cases hv) hs
    exact ⟨news, Src.ofSlice w hk a _ c news h2.1 h3 h2.one, h2⟩

/-- a block of ours under a new name -/
theorem HR.move {w w' : World} (hr : HR w M σ h) {id b n c z n' c' z' : Nat} {B : Blk} (hi : σ[id]? = some (Pl.at b n c z)) (hw : ∀ b', b' ≠ b → w'.heap[b']? = w.heap[b']?)
    (ho : w'.os = w.os ∧ w'.tape = w.tape ∧ w'.output = w.output ∧ w'.heap.size = w.heap.size) :
    Step w w' σ (σ.set id .dead ++ [.at b n' c' z']) ∧
    (BR w' (Un M (σ.set id .dead ++ [.at b n' c' z'])) (σ.set id .dead ++ [.at b n' c' z']) (.at b n' c' z') B → HR w' M (σ.set id .dead ++ [.at b n' c' z']) (h.set id .dead ++ [B])) := by
  have hil : id < σ.length := (List.getElem?_eq_some_iff.1 hi).1
  have hlast : ∀ (i : Nat) (q : Pl), (σ.set id .dead ++ [Pl.at b n' c' z'])[i]? = some q → (i < σ.length ∧ i ≠ id ∧ σ[i]? = some q) ∨ (i = id ∧ q = .dead) ∨ (i = σ.length ∧ q = .at b n' c' z') := by
    intro i q hq
    by_cases hi' : i < σ.length
    · rw [List.getElem?_append_left (by simpa using hi')] at hq
      by_cases e : id = i
      · subst e; rw [List.getElem?_set_self hil] at hq; cases hq; exact .inr (.inl ⟨rfl, rfl⟩)
      · rw [List.getElem?_set_ne e] at hq; exact .inl ⟨hi', fun e' => e e'.symm, hq⟩
    · rw [List.getElem?_append_right (by simpa using hi')] at hq
      have : i - σ.length = 0 := by have := (List.getElem?_eq_some_iff.1 hq).1; simp at this; omega
      simp only [List.length_set] at hq
      rw [this] at hq; simp at hq
      exact .inr (.inr ⟨by omega, hq.symm⟩)
  have hst : Step w w' σ (σ.set id .dead ++ [.at b n' c' z']) := by
    refine ⟨ho.1, ho.2.1, ho.2.2.1, Nat.le_of_eq ho.2.2.2.symm, fun b' _ hn => hw b' fun e => hn (e ▸ ⟨id, _, _, _, hi⟩), (Later.kill σ id).trans (.append _ _), ?_⟩
    rintro b' ⟨i, n1, c1, z1, hq⟩
    rcases hlast i _ hq with ⟨_, _, hq⟩ | ⟨_, e⟩ | ⟨_, e⟩
    · exact .inl ⟨i, _, _, _, hq⟩
    · cases e
    · cases e; exact .inl ⟨id, _, _, _, hi⟩
  refine ⟨hst, fun hB => ⟨by simp [hr.len], ?_, ?_, ?_, ?_⟩⟩
  · intro i j b' n1 c1 z1 n2 c2 z2 h1 h2
    rcases hlast i _ h1 with ⟨_, e1, q1⟩ | ⟨_, e1⟩ | ⟨e1, e1'⟩ <;> rcases hlast j _ h2 with ⟨_, e2, q2⟩ | ⟨_, e2⟩ | ⟨e2, e2'⟩
    · exact hr.inj i j b' _ _ _ _ _ _ q1 q2
    · cases e2
    · have := (Pl.at.inj e2').1; subst this; exact absurd (hr.inj i id _ _ _ _ _ _ _ q1 hi) e1
    · cases e1
    · cases e1
    · cases e1
    · have := (Pl.at.inj e1').1; subst this; exact absurd (hr.inj j id _ _ _ _ _ _ _ q2 hi) e2
    · cases e2
    · rw [e1, e2]
  · intro b' hb'
    rcases hst.new b' hb' with h' | h'
    · exact hr.out b' h'
    · obtain ⟨i, n1, c1, z1, hq⟩ := hb'
      rcases hlast i _ hq with ⟨_, _, hq⟩ | ⟨_, e⟩ | ⟨_, e⟩
      · exact hr.out b' ⟨i, _, _, _, hq⟩
      · cases e
      · cases e; exact hr.out _ ⟨id, _, _, _, hi⟩
  · rintro b' (hm | ⟨i, n1, c1, z1, hq⟩)
    · rw [ho.2.2.2]; exact hr.lim b' (.inl hm)
    · rw [ho.2.2.2]
      rcases hlast i _ hq with ⟨_, _, hq⟩ | ⟨_, e⟩ | ⟨_, e⟩
      · exact hr.lim b' (.inr ⟨i, _, _, _, hq⟩)
      · cases e
      · cases e; exact hr.lim _ (.inr ⟨id, _, _, _, hi⟩)
  · intro i q C hq hC
    rcases hlast i _ hq with ⟨hlt, hne, hq'⟩ | ⟨rfl, rfl⟩ | ⟨rfl, rfl⟩
    · rw [List.getElem?_append_left (by simp; rw [← hr.len]; exact hlt), List.getElem?_set_ne (fun e => hne e.symm)] at hC
      refine (hr.blk i q C hq' hC).mono (hst.keeps M) hst.later fun b1 n1 c1 z1 e => hw b1 fun eb => hne ?_
      rw [e, eb] at hq'
      exact hr.inj i id b _ _ _ _ _ _ hq' hi
    · rw [List.getElem?_append_left (by simp; rw [← hr.len]; exact hil), List.getElem?_set_self (by rw [← hr.len]; exact hil)] at hC
      cases hC; trivial
    · rw [List.getElem?_append_right (by simp [hr.len])] at hC
      simp [hr.len] at hC; subst hC; exact hB

theorem HR.pushPlace (hr : HR w M σ h) {p : Pl} {B : Blk} (hp : ∀ b n c z, p ≠ .at b n c z) (hB : BR w (Un M (σ ++ [p])) (σ ++ [p]) p B) : HR w M (σ ++ [p]) (h ++ [B]) ∧ Step w w σ (σ ++ [p]) :=
  ⟨hr.push (Step.place w σ p hp) (fun _ _ => rfl) (fun b n c z e => absurd e (hp b n c z)) hB, Step.place w σ p hp⟩

theorem own_last (hr : σ.length = h.length) {p : Pl} {v : Value} (hat : OwnAt p v) : Rep w U (σ ++ [p]) v (.own h.length) := by
  refine .own _ p _ ?_ hat
  rw [← hr, List.getElem?_append_right (Nat.le_refl _)]; simp

/-- nothing is appended to nothing -/
theorem run_append_zero {t tx ty e : TypeId} {i : TypeInfo} (ht : P.underlying t = some (.slice e)) (hi : P.info? e = some i) {base : Option Addr} {x : Value} {n : Nat} {news : List Value} (hs : Src P i.size tx x n news w) (hn : n = 0) :
    (Builtin.append_ #[t, tx] ty #[.slice base 0 0, x]).run P w = .ok (.slice base 0 0) w := by
  subst hn
  have hnl : news = [] := List.length_eq_zero_iff.1 (by rw [hs.newsLen]; simp)
  have hc := hs.cells
  rw [hnl] at hc
  rcases hs.kind with ⟨e', hk⟩ | hk <;> cases base <;>
    simp [Builtin.append_, run_underlying ht, run_underlying hk, sizeOf, typeInfo, hi, hs.len, hc, storeCells]

theorem isEmpty_false {α : Type} {l : List α} (h : 0 < l.length) : l.isEmpty = false := by cases l <;> simp at h ⊢

/-- elements behind elements, in a new row -/
theorem append_grow (hT : TOk P T) {t tx ty e : TypeId} {de : TD} (ht : P.underlying t = some (.slice e)) (hd : TDOk P e de) {et : Ty} (hty : de.ty = some et) (hb0 : de.bytes ≠ 0) (hr : HR w M σ h)
    {base : Option Addr} {l xs : List et.den} {cap : Nat} {olds news : List Value} (hold : (Builtin.firstCells et.size l.length (.slice base l.length cap)).run P w.drew = .ok olds.toArray w.drew)
    (hro : RowL w (Un M σ) et l olds) {x : Value} (hs : Src P et.size tx x xs.length news w) (hrn : RowL w (Un M σ) et xs news) (hg : cap < l.length + xs.length)
    (hlim : ((l.length : Int) + xs.length) * de.bytes ≤ roomLim) :
    GivesW P w M σ (Builtin.append_ #[t, tx] ty #[.slice base l.length cap, x]) (.own h.length) (h ++ [.rows et ⟨false, l ++ xs⟩]) := by
  obtain ⟨i, z, hi, hsz, hby, hz, hzc⟩ := hd.info
  obtain ⟨hts, hzt⟩ := hd.ty et hty
  have e1 : i.size = et.size := by rw [hsz, hts]
  have hlimN : (l.length + xs.length) * i.bytes ≤ 140737488355328 := by
    rw [hby]; have : (((l.length + xs.length) * de.bytes : Nat) : Int) ≤ 140737488355328 := by rw [← roomLim_eq]; push_cast; exact hlim
    omega
  have h63 : ((l.length + xs.length : Nat) : Int) ≤ 9223372036854775807 := by
    have : l.length + xs.length ≤ (l.length + xs.length) * i.bytes := Nat.le_mul_of_pos_right _ (by omega)
    omega
  have hrun := run_append_grow_src (P := P) w t tx ty e i z ht hi hz base l.length cap olds (by rw [e1]; exact hold) x xs.length news (by rw [e1]; exact hs) hg h63 (growslice_fits hg hlimN)
  have hzl : z.cells.size = et.size := by
    have : z.cells.toList.length = et.size := by rw [hzc, hzt, zeroVals_length]
    simpa using this
  have hcap := grownCap_ge w (l.length + xs.length) cap e
  have hrd : HR w.drew M σ h := hr.mono (Step.drew w σ) fun _ _ => rfl
  have hrow : RowL w.drew (Un M σ) et (l ++ xs) (olds ++ news) := (hro.append hrn).mono ((Step.drew w σ).keeps M)
  have hn := hrd.newRow (cells := (olds ++ news).toArray ++ Builtin.zeroCells z.cells (grownCap w (l.length + xs.length) cap e - (l.length + xs.length))) (e := e) (c := grownCap w (l.length + xs.length) cap e)
    (rest := (Builtin.zeroCells z.cells (grownCap w (l.length + xs.length) cap e - (l.length + xs.length))).toList) (hd.lie et hty) hrow (by simp)
    (by
      rw [Array.size_append, size_zeroCells, hzl, List.size_toArray, List.length_append, hro.1, hrn.1, ← Nat.add_mul, ← Nat.add_mul]
      congr 1; omega)
    (by simpa using hcap)
  rw [List.length_append] at hn
  exact ⟨_, _, _, hrun, hn.1, hn.2.1, (Step.drew w σ).trans hn.2.2⟩
/-- elements behind elements, in the row that is there -/
theorem append_room (hT : TOk P T) {t tx ty e : TypeId} {de : TD} (ht : P.underlying t = some (.slice e)) (hd : TDOk P e de) {et : Ty} (hty : de.ty = some et) (hr : HR w M σ h)
    {id b c : Nat} {l xs : List et.den} (hi : σ[id]? = some (.at b l.length c et.size)) (hrow : RowAt w (Un M σ) et b c l) {news : List Value}
    {x : Value} (hs : Src P et.size tx x xs.length news w) (hrn : RowL w (Un M σ) et xs news) (hroom : l.length + xs.length ≤ c) (hlie : LieAt w b et) :
    GivesW P w M σ (Builtin.append_ #[t, tx] ty #[.slice (some ⟨b, 0, none⟩) l.length c, x]) (.own h.length) (h.set id .dead ++ [.rows et ⟨false, l ++ xs⟩]) := by
  obtain ⟨i, z, hif, hsz, hby, hz, hzc⟩ := hd.info
  obtain ⟨hts, hzt⟩ := hd.ty et hty
  have e1 : i.size = et.size := by rw [hsz, hts]
  obtain ⟨cur, et', h1, h2, h3, h4⟩ := hrow
  have hfit : l.length * et.size + news.length ≤ cur.toList.length := by
    have hcl : cur.toList.length = c * et.size := by simpa using h2
    rw [hrn.1, ← Nat.add_mul, hcl]; exact Nat.mul_le_mul_right _ hroom
  have hst := run_storeCells_at P b (l.length * et.size) et' news 0 cur w h1 (by simpa using hfit) hs.one
  simp only [Nat.add_zero] at hst
  have hadd : (⟨b, 0, none⟩ : Addr).add (l.length * et.size) = ⟨b, l.length * et.size, none⟩ := by rw [Addr.add_mk, Nat.zero_add]
  have hrun : (Builtin.append_ #[t, tx] ty #[.slice (some ⟨b, 0, none⟩) l.length c, x]).run P w =
      .ok (.slice (some ⟨b, 0, none⟩) (l.length + xs.length) c) (w.setRow b (splice cur.toList (l.length * et.size) news).toArray) := by
    rcases hs.kind with ⟨e', hk⟩ | hk <;>
      simp [Builtin.append_, run_underlying ht, run_underlying hk, sizeOf, typeInfo, hif, hs.len, hroom, e1, hs.cells, hadd, hst, splice]
  obtain ⟨hstep, hmk⟩ := hr.move (w' := w.setRow b (splice cur.toList (l.length * et.size) news).toArray) (n' := l.length + xs.length) (c' := c) (z' := et.size) (B := .rows et ⟨false, l ++ xs⟩) hi
    (fun b' hb' => setRow_heap_other w b _ b' hb') ⟨rfl, rfl, rfl, by simp [World.setRow]⟩
  have hk := hstep.keeps M
  refine ⟨_, _, _, hrun, hmk ⟨rfl, by simp, rfl, ?_, ?_⟩, ?_, hstep⟩
  · have hpre : RowL w (Un M σ) et l (cur.toList.take (l.length * et.size)) := by
      refine ⟨by rw [List.length_take]; omega, fun k y hy => ?_⟩
      obtain ⟨ce, g1, g2⟩ := h4 k y hy
      refine ⟨ce, g1, fun j v hv => ?_⟩
      have hj : j < et.size := by rw [← g1.length]; exact (List.getElem?_eq_some_iff.1 hv).1
      have hkl : k < l.length := (List.getElem?_eq_some_iff.1 hy).1
      have : (k + 1) * et.size ≤ l.length * et.size := Nat.mul_le_mul_right _ hkl
      rw [Nat.succ_mul] at this
      rw [List.getElem?_take, if_pos (by omega)]
      simpa using g2 j v hv
    have hall : RowL (w.setRow b (splice cur.toList (l.length * et.size) news).toArray) _ et (l ++ xs) (cur.toList.take (l.length * et.size) ++ news) := (hpre.append hrn).mono hk
    refine RowAt.ofL (et := et') (rest := cur.toList.drop (l.length * et.size + news.length)) hall ?_ ?_ (by simpa using hroom)
    · rw [setRow_heap w b cur _ et' _ h1]; simp [splice]
    · simp only [List.length_append, List.length_take, List.length_drop, Array.length_toList] at hfit ⊢
      rw [h2] at hfit ⊢; omega
  · obtain ⟨cur', et'', g1, g2⟩ := hlie
    rw [h1] at g1
    cases g1
    exact ⟨_, et', setRow_heap w b cur _ et' _ h1, g2⟩
  · have := own_last (w := w.setRow b (splice cur.toList (l.length * et.size) news).toArray) (U := Un M (σ.set id .dead ++ [.at b (l.length + xs.length) c et.size])) (σ := σ.set id .dead) (h := h) (by simp [hr.len]) (p := .at b (l.length + xs.length) c et.size) (v := .slice (some ⟨b, 0, none⟩) (l.length + xs.length) c) rfl
    exact this

/-- it goes on once, with a value and a memory -/
def OneW {Ω : Type} (f : (V → Heap → Option Ω) → Option Ω) (Φ : V → Heap → Prop) : Prop :=
  ∀ K r, f K = some r → ∃ v h, K v h = some r ∧ (∀ K', f K' = K' v h) ∧ Φ v h
theorem OneW.here {Φ : V → Heap → Prop} {v : V} {h : Heap} (hp : Φ v h) : OneW (Ω := Ω) (fun K => K v h) Φ := fun K r hr => ⟨v, h, hr, fun _ => rfl, hp⟩
theorem OneW.no {Φ : V → Heap → Prop} : OneW (Ω := Ω) (fun _ => none) Φ := fun K r hr => by cases hr
theorem OneW.bif {Φ : V → Heap → Prop} {b : Bool} {f g : (V → Heap → Option Ω) → Option Ω} (h1 : b = true → OneW f Φ) (h2 : b = false → OneW g Φ) : OneW (fun K => bif b then f K else g K) Φ := by
  cases b
  · simpa using h2 rfl
  · simpa using h1 rfl
theorem OneW.ite {Φ : V → Heap → Prop} {c : Prop} [Decidable c] {f g : (V → Heap → Option Ω) → Option Ω} (h1 : c → OneW f Φ) (h2 : ¬ c → OneW g Φ) : OneW (fun K => if c then f K else g K) Φ := by
  by_cases h : c
  · simpa [h] using h1 h
  · simpa [h] using h2 h
theorem OneW.dite {Φ : V → Heap → Prop} {c : Prop} [Decidable c] {f : c → (V → Heap → Option Ω) → Option Ω} {g : ¬ c → (V → Heap → Option Ω) → Option Ω} (h1 : ∀ h : c, OneW (f h) Φ) (h2 : ∀ h : ¬ c, OneW (g h) Φ) :
    OneW (fun K => if h : c then f h K else g h K) Φ := by
  by_cases h : c
  · simpa [h] using h1 h
  · simpa [h] using h2 h

theorem appendV_ok (hT : TOk P T) {t tx : TypeId} {d dx : TD} (hd : TDOk P t d) (hdx : TDOk P tx dx) (h : Heap) (s x : V) (ty : TypeId) :
    OneW (Ω := Ω) (appendV T d dx h s x) fun v h' => ∀ w M σ sv xv, HR w M σ h → Rep w (Un M σ) σ sv s → Rep w (Un M σ) σ xv x → GivesW P w M σ (Builtin.append_ #[t, tx] ty #[sv, xv]) v h' := by
  have hs := hd.sh
  unfold appendV
  refine OneW.ite (fun _ => OneW.no) fun hsrc => ?_
  have hsrc : srcOk dx x = true := by simpa using hsrc
  split
  · rename_i e he
    rw [he] at hs
    have hs : P.underlying t = some (.slice e) := hs
    cases hde : T.get e with
    | none => exact OneW.no
    | some de =>
      have hd' := hT _ _ hde
      dsimp only
      cases hty : de.ty with
      | none => exact OneW.no
      | some et =>
        obtain ⟨i, z, hi, hsz, hby, hz, hzc⟩ := hd'.info
        have hts := (hd'.ty et hty).1
        have e1 : i.size = et.size := by rw [hsz, hts]
        dsimp only
        refine OneW.ite (fun _ => OneW.no) fun hb0 => ?_
        cases hel : elems h et x with
        | none => exact OneW.no
        | some xs =>
          dsimp only
          split
          · rename_i id
            cases hB : h.getD id .dead with
            | rows t' s' =>
              dsimp only
              refine OneW.dite (fun ht' => ?_) fun _ => OneW.no
              subst ht'
              refine OneW.bif (fun hlim => OneW.here fun w M σ sv xv hr hsv hxv => ?_) fun _ => OneW.no
              have hlim := of_decide_eq_true hlim
              obtain ⟨news, hS, hrn⟩ := src_ok hr hel hxv hdx hsrc
              have hk := hr.kill id
              have hks := Step.kill w σ id
              have hSn : xs.length = 0 → xs = [] := List.length_eq_zero_iff.1
              rcases hr.own hsv hB with ⟨h1, h2, hp, rfl⟩ | ⟨h1, h2, a, hp, rfl⟩ | ⟨h1, b, c, hp, rfl, hrow⟩
              · by_cases hn : xs.length = 0
                · have hrun := run_append_zero (P := P) (ty := ty) (base := none) hs hi (by rw [e1]; exact hS) hn
                  have hp2 := hk.pushPlace (p := .nil) (B := .rows t' ⟨s'.nl && xs.isEmpty, s'.l ++ xs⟩) (fun _ _ _ _ => by simp) ⟨by simp [h1, hSn hn], by simp [h2, hSn hn]⟩
                  exact ⟨_, _, _, hrun, hp2.1, by have := own_last (w := w) (U := Un M (σ.set id .dead ++ [.nil])) (σ := σ.set id .dead) (h := h) (by simp [hr.len]) (p := .nil) (v := .slice none 0 0) rfl; exact this, hks.trans hp2.2⟩
                · have hg := append_grow hT (ty := ty) hs hd' hty hb0 hk (base := none) (l := []) (xs := xs) (cap := 0) (olds := []) (news := news) (run_firstCells_none _ _ _ _ _) .nil hS (hrn.mono (hks.keeps M)) (by simp; omega) (by rw [h2] at hlim; simpa using hlim)
                  obtain ⟨v', w', σ', g1, g2, g3, g4⟩ := hg
                  rw [isEmpty_false (by omega : 0 < xs.length), Bool.and_false, h2]
                  rw [List.length_set] at g3
                  exact ⟨v', w', σ', g1, g2, g3, hks.trans g4⟩
              · by_cases hn : xs.length = 0
                · have hrun := run_append_zero (P := P) (ty := ty) (base := some a) hs hi (by rw [e1]; exact hS) hn
                  have hp2 := hk.pushPlace (p := .emp a) (B := .rows t' ⟨s'.nl && xs.isEmpty, s'.l ++ xs⟩) (fun _ _ _ _ => by simp) ⟨by simp [h1], by simp [h2, hSn hn]⟩
                  exact ⟨_, _, _, hrun, hp2.1, by have := own_last (w := w) (U := Un M (σ.set id .dead ++ [.emp a])) (σ := σ.set id .dead) (h := h) (by simp [hr.len]) (p := .emp a) (v := .slice (some a) 0 0) rfl; exact this, hks.trans hp2.2⟩
                · have hg := append_grow hT (ty := ty) hs hd' hty hb0 hk (base := some a) (l := []) (xs := xs) (cap := 0) (olds := []) (news := news) (run_firstCells_some _ _ _ _ _ _ [] (by simp) fun j v hv => by simp at hv) .nil hS (hrn.mono (hks.keeps M)) (by simp; omega) (by rw [h2] at hlim; simpa using hlim)
                  obtain ⟨v', w', σ', g1, g2, g3, g4⟩ := hg
                  rw [isEmpty_false (by omega : 0 < xs.length), Bool.and_false, h2]
                  rw [List.length_set] at g3
                  exact ⟨v', w', σ', g1, g2, g3, hks.trans g4⟩
              · by_cases hroom : s'.l.length + xs.length ≤ c
                · have := append_room hT (ty := ty) hs hd' hty hr hp hrow hS hrn hroom (hr.lie hp hB)
                  rw [h1, Bool.false_and]; exact this
                · obtain ⟨olds, q1, q2⟩ := gather (w := w) (U := Un M σ) (a := ⟨b, 0, none⟩) s'.l 0 fun i x hx => by
                    obtain ⟨ce, q1, q2⟩ := hrow.elem hx
                    exact ⟨ce, q1, fun j v hv => by have := q2 j v hv; rw [Addr.add_mk] at this ⊢; simpa using this⟩
                  have hg := append_grow hT (ty := ty) hs hd' hty hb0 hk (base := some ⟨b, 0, none⟩) (l := s'.l) (xs := xs) (cap := c) (olds := olds) (news := news)
                    (run_firstCells_some _ _ _ _ _ _ olds q1.1 fun j v hv => by have := q2 j v hv; simpa using this) (q1.mono (hks.keeps M)) hS (hrn.mono (hks.keeps M)) (by omega) hlim
                  obtain ⟨v', w', σ', g1, g2, g3, g4⟩ := hg
                  rw [h1, Bool.false_and]
                  rw [List.length_set] at g3
                  exact ⟨v', w', σ', g1, g2, g3, hks.trans g4⟩
            | _ => exact OneW.no
          · refine OneW.bif (fun hlim => OneW.here fun w M σ sv xv hr hsv hxv => ?_) fun _ => OneW.no
            have hlim := of_decide_eq_true hlim
            obtain ⟨news, hS, hrn⟩ := src_ok hr hel hxv hdx hsrc
            cases hsv
            by_cases hn : xs.length = 0
            · have hrun := run_append_zero (P := P) (ty := ty) (base := none) hs hi (by rw [e1]; exact hS) hn
              have hx0 : xs = [] := List.length_eq_zero_iff.1 hn
              have hp2 := hr.pushPlace (p := .nil) (B := .rows et ⟨xs.isEmpty, xs⟩) (fun _ _ _ _ => by simp) ⟨by simp [hx0], hx0⟩
              exact ⟨_, _, _, hrun, hp2.1, own_last hr.len rfl, hp2.2⟩
            · have hg := append_grow hT (ty := ty) hs hd' hty hb0 hr (base := none) (l := []) (xs := xs) (cap := 0) (olds := []) (news := news) (run_firstCells_none _ _ _ _ _) .nil hS hrn (by simp; omega) (by simpa using hlim)
              rw [isEmpty_false (by omega : 0 < xs.length)]
              exact hg
          · rename_i t' capd s'
            cases hsl : s'.l with
            | cons _ _ => exact OneW.no
            | nil =>
              dsimp only
              refine OneW.bif (fun hlim => OneW.here fun w M σ sv xv hr hsv hxv => ?_) fun _ => OneW.no
              rw [Bool.and_eq_true, decide_eq_true_eq] at hlim
              obtain ⟨hcap, hlim⟩ := hlim
              obtain ⟨news, hS, hrn⟩ := src_ok hr hel hxv hdx hsrc
              cases hsv with
              | sl _ _ _ A n c hsr hcd =>
                have hAc : (A = none ∧ n = 0 ∧ c = 0 ∧ s'.nl = true) ∨ (∃ a, A = some a ∧ n = 0 ∧ c = 0 ∧ s'.nl = false) := by
                  cases A with
                  | none => obtain ⟨q1, q2, q3, q4⟩ := hsr; exact .inl ⟨rfl, q3, q4, q1⟩
                  | some a =>
                    obtain ⟨q1, q2, q3, _⟩ := hsr
                    rw [hsl] at q2
                    have : n = 0 := q2
                    have := hcd hcap
                    exact .inr ⟨a, rfl, by omega, by omega, q1⟩
                rcases hAc with ⟨rfl, rfl, rfl, hnl⟩ | ⟨a, rfl, rfl, rfl, hnl⟩
                · by_cases hn : xs.length = 0
                  · have hrun := run_append_zero (P := P) (ty := ty) (base := none) hs hi (by rw [e1]; exact hS) hn
                    have hx0 : xs = [] := List.length_eq_zero_iff.1 hn
                    have hp2 := hr.pushPlace (p := .nil) (B := .rows et ⟨s'.nl && xs.isEmpty, xs⟩) (fun _ _ _ _ => by simp) ⟨by simp [hnl, hx0], hx0⟩
                    exact ⟨_, _, _, hrun, hp2.1, own_last hr.len rfl, hp2.2⟩
                  · have hg := append_grow hT (ty := ty) hs hd' hty hb0 hr (base := none) (l := []) (xs := xs) (cap := 0) (olds := []) (news := news) (run_firstCells_none _ _ _ _ _) .nil hS hrn (by simp; omega) (by simpa using hlim)
                    rw [isEmpty_false (by omega : 0 < xs.length), Bool.and_false]
                    exact hg
                · by_cases hn : xs.length = 0
                  · have hrun := run_append_zero (P := P) (ty := ty) (base := some a) hs hi (by rw [e1]; exact hS) hn
                    have hx0 : xs = [] := List.length_eq_zero_iff.1 hn
                    have hp2 := hr.pushPlace (p := .emp a) (B := .rows et ⟨s'.nl && xs.isEmpty, xs⟩) (fun _ _ _ _ => by simp) ⟨by simp [hnl], hx0⟩
                    exact ⟨_, _, _, hrun, hp2.1, own_last hr.len rfl, hp2.2⟩
                  · have hg := append_grow hT (ty := ty) hs hd' hty hb0 hr (base := some a) (l := []) (xs := xs) (cap := 0) (olds := []) (news := news) (run_firstCells_some _ _ _ _ _ _ [] (by simp) fun j v hv => by simp at hv) .nil hS hrn (by simp; omega) (by simpa using hlim)
                    rw [isEmpty_false (by omega : 0 < xs.length), Bool.and_false]
                    exact hg
          · exact OneW.no
  · exact OneW.no
end
end Go.Proofs.YtnebpmcmdmpoaaaDoor.R
