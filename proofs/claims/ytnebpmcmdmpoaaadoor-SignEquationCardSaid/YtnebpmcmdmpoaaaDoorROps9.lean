/- copy, conversions, lengths, least and greatest. -/
import Derived.Test.YtnebpmcmdmpoaaaDoorROps8
namespace Go.Proofs.YtnebpmcmdmpoaaaDoor.R
open Go
set_option linter.unusedVariables false
set_option linter.unusedSimpArgs false

section
variable {P : Program} {T : Types} {w : World} {U : Nat → Prop} {σ : Sig} {M : Nat → Prop} {Ω : Type} {h : Heap}

theorem lenV_ok (hr : HR w M σ h) {t : TypeId} {d : TD} (hd : TDOk P t d) {x : V} {n : Int} (hl : lenV h d.sh x = some n) {v : Value} (hv : Rep w (Un M σ) σ v x) (ty : TypeId) :
    (Builtin.len_ #[t] ty #[v]).run P w = .ok (.int .i64 n) w := by
  have hs := hd.sh
  have sl : ∀ {e A m c}, P.underlying t = some (.slice e) → v = .slice A m c → (m : Int) = n → (Builtin.len_ #[t] ty #[v]).run P w = .ok (.int .i64 n) w := by
    rintro e A m c h1 rfl rfl
    simp [Builtin.len_, run_underlying h1, goInt]
  unfold lenV at hl
  split at hl
  · split at hl
    · rename_i e
      rw [e] at hs
      have hs : P.underlying t = some .string := hs
      cases hl; cases hv
      simp [Builtin.len_, run_underlying hs, goInt]
    · cases hl
  · split at hl
    · rename_i e
      rw [e] at hs
      cases hl
      cases hv with
      | sl _ _ s A m c h _ =>
        refine sl hs rfl ?_
        cases A with
        | none => obtain ⟨_, q, rfl, _⟩ := h; rw [q]; rfl
        | some a => obtain ⟨_, rfl, _⟩ := h; rfl
    · cases hl
  · split at hl
    · rename_i e hB
      rw [e] at hs
      cases hl
      rcases hr.own hv hB with ⟨_, q, _, rfl⟩ | ⟨_, q, a, _, rfl⟩ | ⟨_, b, c, _, rfl, _⟩
      · exact sl hs rfl (by rw [q]; rfl)
      · exact sl hs rfl (by rw [q]; rfl)
      · exact sl hs rfl rfl
    · cases hl
  · split at hl
    · rename_i e hB
      rw [e] at hs
      cases hl
      rcases (hr.win hv).1 _ _ hB with ⟨rfl, rfl, hl, A, c, rfl, _⟩ | ⟨b, c, a, c', hnl, hp, e, _⟩
      · exact sl hs rfl rfl
      · exact sl hs e rfl
    · rename_i e hB
      rw [e] at hs
      cases hl
      obtain ⟨b, a, c', hp, hn, e, _⟩ := (hr.win hv).2 _ _ _ hB
      exact sl hs e rfl
    · cases hl
  · split at hl
    · rename_i e
      rw [e] at hs
      cases hl; cases hv
      exact sl hs rfl rfl
    · cases hl
  · cases hl

theorem minV_ok {b : Builtin} {xs : List V} {v : V} (hm : minV b xs = some v) {vs : List Value} (hR : Reps w U σ vs xs) (ats : Array TypeId) (ty : TypeId) :
    (b = .min → Gives P w U σ (Builtin.min_ ats ty vs.toArray) v) ∧ (b = .max → Gives P w U σ (Builtin.max_ ats ty vs.toArray) v) := by
  unfold minV at hm
  split at hm
  · obtain ⟨v1, r1, rfl, h1, hR⟩ := hR.inv_cons
    obtain ⟨v2, r2, rfl, h2, hR⟩ := hR.inv_cons
    have := hR.inv_nil; subst this
    cases h1; cases h2
    split at hm
    · split at hm
      · cases hm; exact ⟨fun _ => Gives.int (by simp [Builtin.min_, Builtin.min2]), fun e => by cases e⟩
      · cases hm; exact ⟨fun e => (by cases e), fun _ => Gives.int (by simp [Builtin.max_, Builtin.max2])⟩
      · cases hm
    · cases hm
  · obtain ⟨v1, r1, rfl, h1, hR⟩ := hR.inv_cons
    obtain ⟨v2, r2, rfl, h2, hR⟩ := hR.inv_cons
    obtain ⟨v3, r3, rfl, h3, hR⟩ := hR.inv_cons
    have := hR.inv_nil; subst this
    cases h1; cases h2; cases h3
    split at hm
    · split at hm
      · cases hm; exact ⟨fun _ => Gives.int (by simp [Builtin.min_, Builtin.min2]), fun e => by cases e⟩
      · cases hm; exact ⟨fun e => (by cases e), fun _ => Gives.int (by simp [Builtin.max_, Builtin.max2])⟩
      · cases hm
    · cases hm
  · cases hm

theorem strOf_eq (l : List Int) : strOfNums l = strOf l := rfl

theorem RowL.ints {k : IntKind} {xs : List Int} {news : List Value} (h : RowL w U (.int k) xs news) : news = xs.map (Value.int k) := by
  apply List.ext_getElem?
  intro j
  have hl : news.length = xs.length := by
    have e : news.length = xs.length * 1 := h.1
    omega
  by_cases hj : j < xs.length
  · obtain ⟨ce, g1, g2⟩ := h.2 j xs[j] (List.getElem?_eq_getElem hj)
    have g1 : ce = [.int k xs[j]] := g1
    subst g1
    have h3 := g2 0 _ rfl
    have e : j * Ty.size (.int k) + 0 = j := by simp [Ty.size]
    rw [e] at h3
    rw [h3, List.getElem?_map, List.getElem?_eq_getElem hj]; rfl
  · rw [List.getElem?_eq_none (by omega), List.getElem?_eq_none (by simp; omega)]

theorem isU8_ok (hT : TOk P T) {e : TypeId} (h : isU8 T e = true) : P.underlying e = some (.int .u8) := by
  unfold isU8 at h
  cases q : T.get e with
  | none => rw [q] at h; cases h
  | some de =>
    rw [q] at h
    have hs := (hT _ _ q).sh
    dsimp only at h
    split at h
    · rename_i e1; rw [e1] at hs; exact hs
    · cases h

theorem freeze_heap (w : World) (g o n b : Nat) (hb : b ≠ g) : (w.freeze ⟨g, o, none⟩ n).heap[b]? = w.heap[b]? := by
  unfold World.freeze
  split
  · rfl
  · simp only [Array.getElem?_modify]; rw [if_neg (fun e => hb e.symm)]

theorem freeze_cell (w : World) (g o n : Nat) (a : Addr) : (w.freeze ⟨g, o, none⟩ n).cell? a = w.cell? a := by
  unfold World.freeze
  split
  · rfl
  · unfold World.cell?
    simp only [Array.getElem?_modify]
    by_cases hb : g = a.block
    · rw [if_pos hb]
      cases w.heap[a.block]? with
      | none => rfl
      | some o => cases o <;> rfl
    · rw [if_neg hb]

theorem freeze_other (w : World) (a : Addr) (n : Nat) : (w.freeze a n).os = w.os ∧ (w.freeze a n).tape = w.tape ∧ (w.freeze a n).output = w.output ∧ (w.freeze a n).heap.size = w.heap.size := by
  unfold World.freeze; split
  · exact ⟨rfl, rfl, rfl, rfl⟩
  · exact ⟨rfl, rfl, rfl, by simp⟩

theorem bytes_ok (hr : HR w M σ h) (e : TypeId) (s : ByteArray) : GivesW P w M σ (Conv.stringToBytes e s) (.sl (.int .u8) false ⟨false, bytesOf s⟩) h := by
  let cap := grownCap w s.size 0 e
  let cells : Array Value := s.data.map (fun b => Value.int .u8 b.toNat) ++ Array.replicate (cap - s.size) (.int .u8 0)
  let w1 := w.drew.alloc (.cells cells e)
  have hshape : w1.shape? w.heap.size = some (e, cells.size) := by
    have := World.heap_alloc_at w.drew (.cells cells e)
    simp only [World.shape?]
    rw [show w1.heap[w.heap.size]? = some (.cells cells e) from this]
  have hrun : (Conv.stringToBytes e s).run P w = .ok (.slice (some ⟨w.heap.size, 0, none⟩) s.size cap) (w1.freeze ⟨w.heap.size, cells.size, none⟩ 1) := by
    simp only [Conv.stringToBytes, Sem.run_bind, run_choose]
    have : Question.forced (.appendCap s.size 0 e) = false := rfl
    rw [this]
    simp only [Bool.false_eq_true, if_false, Result.andThen_ok, newRow, Sem.run_bind, run_newObj, Sem.run_pure, markStringish, run_shape]
    show ((Sem.run P (match w1.shape? w.heap.size with | some (_, n) => freeze { block := w.heap.size, off := n } 1 | _ => pure ()) w1).andThen fun a w' => Result.ok (Value.slice (some ⟨w.heap.size, 0, none⟩) s.size cap) w') = _
    rw [hshape]; rfl
  have hst : Step w (w1.freeze ⟨w.heap.size, cells.size, none⟩ 1) σ σ := by
    obtain ⟨f1, f2, f3, f4⟩ := freeze_other w1 ⟨w.heap.size, cells.size, none⟩ 1
    refine ⟨f1, f2, f3, by rw [f4]; simp [w1], fun b hb _ => ?_, .refl _, fun _ h => .inl h⟩
    rw [freeze_heap _ _ _ _ _ (by omega)]
    exact World.heap_alloc_lt w.drew _ hb
  have hblk : ∀ b, b < w.heap.size → (w1.freeze ⟨w.heap.size, cells.size, none⟩ 1).heap[b]? = w.heap[b]? := fun b hb => by
    rw [freeze_heap _ _ _ _ _ (by omega)]
    exact World.heap_alloc_lt w.drew _ hb
  have hbl : (bytesOf s).length = s.size := by simp [bytesOf]
  have hu : ¬ Un M σ w.heap.size := fun hc => by have := hr.lim _ hc; omega
  refine ⟨_, _, σ, hrun, hr.mono hst fun b hb => hblk b (hr.lim b (.inr hb)), ?_, hst⟩
  refine Rep.slSome rfl hbl.symm (grownCap_ge w s.size 0 e) fun i x hx => ⟨[.int .u8 x], rfl, fun j v hv => ?_⟩
  refine ⟨?_, by rw [show (⟨w.heap.size, 0, none⟩ : Addr).block = w.heap.size from rfl]; exact hu⟩
  cases j with
  | succ j => simp at hv
  | zero =>
    simp at hv; subst hv
    rw [freeze_cell, Addr.add_mk]
    have hx' : (s.data.toList.map fun b => (b.toNat : Int))[i]? = some x := hx
    rw [List.getElem?_map] at hx'
    obtain ⟨y, hy, e'⟩ := Option.map_eq_some_iff.1 hx'
    subst e'
    have hi : i < s.data.size := by have := (List.getElem?_eq_some_iff.1 hy).1; simpa using this
    have hc := cell_of_row w1 w.heap.size (0 + (i * 1 + 0)) cells e (0, 0) (World.heap_alloc_at w.drew _)
    show w1.cell? ⟨w.heap.size, 0 + (i * 1 + 0), none⟩ = _
    rw [hc]
    have e3 : 0 + (i * 1 + 0) = i := by omega
    rw [e3]
    simp only [cells]
    rw [Array.getElem?_append_left (by simpa using hi), Array.getElem?_map]
    have : s.data[i]? = some y := by simpa using hy
    rw [this]; rfl

theorem bytesStr_ok {src dst e : TypeId} (h1 : P.underlying src = some (.slice e)) (h3 : P.underlying e = some (.int .u8)) (h2 : P.underlying dst = some .string) {a : Addr} {c : Nat} {l : List Int} {news : List Value}
    (hn : news = l.map (Value.int .u8)) (g : CellsHold w a news) : (convert src dst (.slice (some a) l.length c)).run P w = .ok (.string (strOf l)) w := by
  have hl := run_loadCells_list (P := P) w a news g
  rw [hn, List.length_map] at hl
  rw [run_convert_bytes_string w src dst e _ _ c h1 h3 h2, run_bytesToString w _ _ c l hl, foldl_push_bytes]
  simp [strOf, ByteArray.empty, ByteArray.emptyWithCapacity]
  rfl

theorem convertV_ok (hT : TOk P T) (h : Heap) (src dst : TypeId) (x : V) :
    One (Ω := Ω) (convertV T h src dst x) fun v => ∀ w M σ a, HR w M σ h → Rep w (Un M σ) σ a x → GivesW P w M σ (convert src dst a) v h := by
  unfold convertV
  split
  · rename_i ds dd hds hdd
    have h1 := (hT _ _ hds).sh
    have h2 := (hT _ _ hdd).sh
    split
    · rename_i ks kd k n es ed
      rw [es] at h1; rw [ed] at h2
      refine One.here fun w M σ a hr ha => (Gives.int ?_ : Gives P w (Un M σ) σ _ _).toW hr
      cases ha
      have h1 : P.underlying src = some (.int ks) := h1
      have h2 : P.underlying dst = some (.int kd) := h2
      simp [convert, run_underlying h1, run_underlying h2, Conv.intToInt]
    · rename_i e s es ed
      rw [es] at h1; rw [ed] at h2
      have h1 : P.underlying src = some .string := h1
      have h2 : P.underlying dst = some (.slice e) := h2
      refine One.ite (fun hu => One.here fun w M σ a hr ha => ?_) fun _ => One.no
      cases ha
      have h3 := isU8_ok hT hu
      obtain ⟨v', w', σ', g1, g2⟩ := bytes_ok (P := P) hr e s
      exact ⟨v', w', σ', by simp [convert, run_underlying h1, run_underlying h2, run_underlying h3, g1], g2⟩
    · rename_i e es ed
      rw [es] at h1; rw [ed] at h2
      have h1 : P.underlying src = some (.slice e) := h1
      have h2 : P.underlying dst = some .string := h2
      refine One.ite (fun hu => ?_) fun _ => One.no
      rw [Bool.and_eq_true] at hu
      have h3 := isU8_ok hT hu.1
      split
      case h_2 => exact One.no
      case h_1 =>
        rename_i l hel
        refine One.here fun w M σ a hr ha => (Gives.str ?_ : Gives P w (Un M σ) σ _ _).toW hr
        rcases elems_ok hr hel ha with ⟨s, rfl, rfl, _⟩ | ⟨rfl, rfl⟩ | ⟨a', c, news, rfl, g1, g2, g3⟩
        · simp [isStr] at hu
        · rw [run_convert_bytes_nil w src e h1 h3 0 0 dst h2]; rfl
        · exact bytesStr_ok h1 h3 h2 (RowL.ints g2) g3
    · exact One.no
  · exact One.no
/-! ### copy -/

/-- elements of a row are others -/
theorem RowAt.splice {t : Ty} {b c : Nat} {l xs : List t.den} (hr : RowAt w U t b c l) {off : Nat} {news : List Value} (hn : RowL w U t xs news) (hfit : off + xs.length ≤ l.length) {w' : World} {U' : Nat → Prop} (hk : Keeps w w' U U')
    {cur : Array Value} {et : TypeId} (hg : w.heap[b]? = some (.cells cur et (0, 0))) (hw : w'.heap[b]? = some (.cells (R.splice cur.toList (off * t.size) news).toArray et (0, 0))) : RowAt w' U' t b c (R.splice l off xs) := by
  obtain ⟨cur0, et0, h1, h2, h3, h4⟩ := hr
  rw [hg] at h1; cases h1
  have hnl : news.length = xs.length * t.size := hn.1
  have hlc : (off + xs.length) * t.size ≤ l.length * t.size := Nat.mul_le_mul_right _ hfit
  have hlc2 : l.length * t.size ≤ c * t.size := Nat.mul_le_mul_right _ h3
  rw [Nat.add_mul] at hlc
  have hcl : cur.toList.length = c * t.size := by simpa using h2
  have hfit2 : off * t.size + news.length ≤ cur.toList.length := by rw [hnl, hcl]; omega
  refine ⟨_, et, hw, ?_, by rw [splice_length _ _ _ hfit]; exact h3, fun k x hx => ?_⟩
  · simp only [List.size_toArray]; rw [splice_length _ _ _ hfit2]; simpa using h2
  · rw [splice_get _ _ _ hfit] at hx
    split at hx
    · rename_i hc
      obtain ⟨ce, g1, g2⟩ := hn.2 _ x hx
      refine ⟨ce, RepT.mono hk g1, fun j v hv => ?_⟩
      have hj : j < t.size := by rw [← g1.length]; exact (List.getElem?_eq_some_iff.1 hv).1
      have h5 := g2 j v hv
      have e : k * t.size = off * t.size + (k - off) * t.size := by rw [← Nat.add_mul]; congr 1; omega
      have hlt := (List.getElem?_eq_some_iff.1 h5).1
      simp only [List.getElem?_toArray]
      rw [splice_get _ _ _ hfit2, if_pos (by omega), show k * t.size + j - off * t.size = (k - off) * t.size + j by omega]
      exact h5
    · rename_i hc
      obtain ⟨ce, g1, g2⟩ := h4 k x hx
      refine ⟨ce, RepT.mono hk g1, fun j v hv => ?_⟩
      have hj : j < t.size := by rw [← g1.length]; exact (List.getElem?_eq_some_iff.1 hv).1
      simp only [List.getElem?_toArray]
      rw [splice_get _ _ _ hfit2, if_neg ?_]
      · have := g2 j v hv; simpa using this
      · rintro ⟨c1, c2⟩
        rcases Nat.lt_or_ge k off with hlt | hge
        · have : (k + 1) * t.size ≤ off * t.size := Nat.mul_le_mul_right _ hlt
          rw [Nat.succ_mul] at this; omega
        · have hk2 : off + xs.length ≤ k := by omega
          have : (off + xs.length) * t.size ≤ k * t.size := Nat.mul_le_mul_right _ hk2
          rw [Nat.add_mul] at this; omega

theorem RowL.take {t : Ty} {xs : List t.den} {news : List Value} (h : RowL w U t xs news) (n : Nat) (hn : n ≤ xs.length) : RowL w U t (xs.take n) (news.take (n * t.size)) := by
  refine ⟨?_, fun i x hx => ?_⟩
  · have h1 := h.1
    have : n * t.size ≤ xs.length * t.size := Nat.mul_le_mul_right _ hn
    rw [List.length_take, List.length_take, h1, Nat.min_eq_left this, Nat.min_eq_left hn]
  · rw [List.getElem?_take] at hx
    split at hx
    · rename_i hi
      obtain ⟨ce, g1, g2⟩ := h.2 i x hx
      refine ⟨ce, g1, fun j v hv => ?_⟩
      have hj : j < t.size := by rw [← g1.length]; exact (List.getElem?_eq_some_iff.1 hv).1
      have : (i + 1) * t.size ≤ n * t.size := Nat.mul_le_mul_right _ hi
      rw [Nat.succ_mul] at this
      rw [List.getElem?_take, if_pos (by omega)]; exact g2 j v hv
    · cases hx

/-- what copy reads -/
theorem copy_src (hr : HR w M σ h) {t : Ty} {x : V} (hx0 : isStr x = false) {xs : List t.den} {v : Value} (hx : elems h t x = some xs) (hv : Rep w (Un M σ) σ v x) :
    ∃ news, RowL w (Un M σ) t xs news ∧ (∀ w, (Builtin.lenOf v).run P w = .ok xs.length w) ∧ ∀ n, n ≤ xs.length → (Builtin.firstCells t.size n v).run P w = .ok (news.take (n * t.size)).toArray w := by
  rcases elems_ok hr hx hv with ⟨s, rfl, rfl, h1, h2⟩ | ⟨rfl, rfl⟩ | ⟨a, c, news, rfl, h1, h2, h3⟩
  · cases hx0
  · refine ⟨[], .nil, fun _ => rfl, fun n hn => ?_⟩
    have : n = 0 := by simpa using hn
    subst this
    simp [Builtin.firstCells]
  · refine ⟨news, h2, fun _ => rfl, fun n hn => ?_⟩
    have ht := h2.take n hn
    have e2 : (xs.take n).length = n := by rw [List.length_take]; exact Nat.min_eq_left hn
    have e1 := ht.1
    rw [e2] at e1
    exact run_firstCells_some w t.size n a _ c (news.take (n * t.size)) e1 (h3.take _)

theorem copyV_ok (hT : TOk P T) {t : TypeId} {d : TD} (hd : TDOk P t d) (h : Heap) (dst src : V) (ty : TypeId) (ats : List TypeId) :
    OneW (Ω := Ω) (copyV T d h dst src) fun v h' => ∀ w M σ dv sv, HR w M σ h → Rep w (Un M σ) σ dv dst → Rep w (Un M σ) σ sv src → GivesW P w M σ (Builtin.copy_ (t :: ats).toArray ty #[dv, sv]) v h' := by
  have hs := hd.sh
  unfold copyV
  split
  · rename_i e id off len he
    rw [he] at hs
    have hs : P.underlying t = some (.slice e) := hs
    cases hde : T.get e with
    | none => exact OneW.no
    | some de =>
      have hd' := hT _ _ hde
      dsimp only
      cases hty : de.ty with
      | none => exact OneW.no
      | some et =>
        have hts := (hd'.ty et hty).1
        dsimp only
        refine OneW.ite (fun _ => OneW.no) fun hc => ?_
        have hstr : isStr src = false := by cases q : isStr src with
          | true => exact absurd (.inl q) hc
          | false => rfl
        have hl0 : len ≠ 0 := fun q => hc (.inr q)
        cases hel : elems h et src with
        | none => exact OneW.no
        | some xs =>
          dsimp only
          have into : ∀ (w : World) (M : Nat → Prop) (σ : Sig) (dv sv : Value) (b n c : Nat) (a : Addr) (c' : Nat) (l : List et.den) (B : List et.den → Blk), HR w M σ h → Rep w (Un M σ) σ sv src → σ[id]? = some (.at b n c et.size) →
              RowAt w (Un M σ) et b c l → dv = .slice (some a) len c' → off + len ≤ l.length → (0 < len → a = ⟨b, off * et.size, none⟩) →
              (∀ w' U', RowAt w' U' et b c (splice l off (xs.take len)) → (∀ cur et, w.heap[b]? = some (.cells cur et (0, 0)) → ∃ cur', w'.heap[b]? = some (.cells cur' et (0, 0))) → BR w' U' σ (.at b n c et.size) (B (splice l off (xs.take len)))) →
              GivesW P w M σ (Builtin.copy_ (t :: ats).toArray ty #[dv, sv]) (.int .i64 (min xs.length len : Nat)) (h.set id (B (splice l off (xs.take len)))) := by
            rintro w M σ dv sv b n c a c' l B hr hsv hp hrow rfl hfit ha hB
            obtain ⟨news, g1, g2, g3⟩ := copy_src (P := P) hr hstr hel hsv
            have hm : min xs.length len ≤ xs.length := Nat.min_le_left _ _
            have g3 := g3 _ hm
            have ht := g1.take _ hm
            have htk : xs.take (min xs.length len) = xs.take len := by
              rcases Nat.le_total xs.length len with q | q
              · rw [Nat.min_eq_left q, List.take_of_length_le (Nat.le_refl _), List.take_of_length_le q]
              · rw [Nat.min_eq_right q]
            rw [htk] at ht
            have hlen : (xs.take len).length = min xs.length len := by rw [List.length_take, Nat.min_comm]
            have := ha (by omega); subst this
            have hrow0 := hrow
            obtain ⟨cur, et', q1, q2, q3, q4⟩ := hrow0
            have hcl : cur.toList.length = c * et.size := by simpa using q2
            have hfit2 : off * et.size + (news.take (min xs.length len * et.size)).length ≤ cur.toList.length := by
              have e1 := ht.1
              have : (off + (xs.take len).length) * et.size ≤ c * et.size := Nat.mul_le_mul_right _ (by rw [hlen]; have := Nat.min_le_right xs.length len; omega)
              rw [Nat.add_mul] at this
              rw [e1, hcl]; exact this
            have hst := run_storeCells_at P b (off * et.size) et' (news.take (min xs.length len * et.size)) 0 cur w q1 (by simpa using hfit2) ht.one
            simp only [Nat.add_zero] at hst
            have hstep := Step.setRow (w := w) (splice cur.toList (off * et.size) (news.take (min xs.length len * et.size))).toArray ⟨id, _, _, _, hp⟩
            have hmin : Nat.min xs.length len = min xs.length len := rfl
            refine ⟨.int .i64 (min xs.length len : Nat), w.setRow b (splice cur.toList (off * et.size) (news.take (min xs.length len * et.size))).toArray, σ, ?_, ?_, .int _ _, hstep⟩
            · have g3' : (Builtin.firstCells de.size (xs.length.min len) sv).run P w = .ok (news.take (min xs.length len * et.size)).toArray w := by rw [← hts]; exact g3
              have hst' : (storeCells ⟨b, off * et.size, none⟩ (news.take (min xs.length len * et.size)).toArray.toList).run P w = .ok () (w.setRow b (splice cur.toList (off * et.size) (news.take (min xs.length len * et.size))).toArray) := by
                simpa [splice] using hst
              have hats : (t :: ats).toArray[0]? = some t := by simp
              unfold Builtin.copy_
              rw [hats]
              simp only [List.getElem?_toArray, List.getElem?_cons_zero, List.getElem?_cons_succ, Sem.run_bind, run_underlying hs, Result.andThen_ok, g2, hd'.run_size, g3', hst']
              rfl
            · refine hr.write hstep hp (fun b' hb' => setRow_heap_other w b _ b' hb') (hB _ _ ?_ fun cur1 et1 g => by rw [q1] at g; cases g; exact ⟨_, setRow_heap w b cur _ et' _ q1⟩)
              exact hrow.splice ht (by rw [hlen]; have := Nat.min_le_right xs.length len; omega) (hstep.keeps M) q1 (setRow_heap w b cur _ et' _ q1)
          cases hB : h.getD id .dead with
          | rows t' s' =>
            dsimp only
            refine OneW.dite (fun ht' => ?_) fun _ => OneW.no
            subst ht'
            refine OneW.here fun w M σ dv sv hr hdv hsv => ?_
            rcases (hr.win hdv).1 _ _ hB with ⟨e0, _⟩ | ⟨b, c, a, c', hnl, hp, e1, g1, g2, g3, hrow⟩
            · exact absurd e0 hl0
            · exact into w M σ dv sv b _ c a c' s'.l (fun l => .rows t' ⟨s'.nl, l⟩) hr hsv hp hrow e1 g1 g3 fun w' U' hR hL => ⟨hnl, by rw [splice_length]; rw [List.length_take]; omega, rfl, hR, by
                obtain ⟨cur, et1, q1, q2⟩ := hr.lie hp hB
                obtain ⟨cur', q3⟩ := hL cur et1 q1
                exact ⟨cur', et1, q3, q2⟩⟩
          | arr t' n l =>
            dsimp only
            refine OneW.dite (fun ht' => ?_) fun _ => OneW.no
            subst ht'
            refine OneW.here fun w M σ dv sv hr hdv hsv => ?_
            obtain ⟨b, a, c', hp, hn, e1, g1, g2, g3, hrow⟩ := (hr.win hdv).2 _ _ _ hB
            exact into w M σ dv sv b _ _ a c' l (fun l => .arr t' n l) hr hsv hp hrow e1 (by omega) g3 fun w' U' hR _ => ⟨rfl, by rw [splice_length]; exact hn; rw [List.length_take]; omega, rfl, rfl, hR⟩
          | _ => exact OneW.no
  · exact OneW.no
end
end Go.Proofs.YtnebpmcmdmpoaaaDoor.R
