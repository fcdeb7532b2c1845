/- Addresses of fields and elements, fields, elements, lengths, parts, conversions. -/
import Derived.Test.YtnebpmcmdmpoaaaDoorROps2
import Derived.Laws.BytesString
namespace Go.Proofs.YtnebpmcmdmpoaaaDoor.R
open Go
set_option linter.unusedVariables false
set_option linter.unusedSimpArgs false

section
variable {P : Program} {T : Types} {w : World} {U : Nat → Prop} {σ : Sig} {M : Nat → Prop} {Ω : Type} {h : Heap}

theorem Gives.mk {s : Sem Value} {v : V} {v' : Value} (hr : Rep w U σ v' v) (he : s.run P w = .ok v' w) : Gives P w U σ s v := ⟨v', he, hr⟩

theorem fieldOff_ok {t : TypeId} {d : TD} (hd : TDOk P t d) {f off : Nat} {ft : TypeId} (hf : fieldOff d f = some (off, ft)) :
    ∃ F fl, P.underlying t = some (.struct F) ∧ F[f]? = some fl ∧ fl.offset = off ∧ fl.type = ft := by
  have hs := hd.sh
  unfold fieldOff at hf
  split at hf
  · rename_i fs e
    rw [e] at hs
    obtain ⟨F, hF, hm, _⟩ := hs
    rw [← hm] at hf
    simp only [List.getElem?_map, Option.map_eq_some_iff] at hf
    obtain ⟨fl, h1, h2⟩ := hf
    cases h2
    exact ⟨F, fl, hF, by simpa using h1, rfl, rfl⟩
  · cases hf

theorem sizeOfT_ok (hT : TOk P T) {t : TypeId} (hz : ¬ sizeOfT T t = 0) : ∃ d, T.get t = some d ∧ TDOk P t d ∧ d.size = sizeOfT T t := by
  unfold sizeOfT at hz ⊢
  cases e : T.get t with
  | none => rw [e] at hz; simp at hz
  | some d => exact ⟨d, rfl, hT t d e, rfl⟩

theorem run_fieldAt {t : TypeId} {F : Array Field} {fl : Field} {f : Nat} (hF : P.underlying t = some (.struct F)) (hf : F[f]? = some fl) (hz : ∃ d, TDOk P fl.type d ∧ d.size ≠ 0) (a : Addr) :
    (Instr.fieldAt t (.pointer (some a)) f).run P w = .ok (.pointer (some (a.add fl.offset))) w := by
  obtain ⟨d, hd, hz⟩ := hz
  simp [Instr.fieldAt, run_underlying hF, hf, Instr.sureAddr, fieldPlace, hd.run_size, hz]

theorem fieldAddrV_ok (hT : TOk P T) {t : TypeId} {d : TD} (hd : TDOk P t d) {x v : V} {f : Nat} (hf : fieldAddrV T d x f = some v) {a : Value} (hr : HR w M σ h) (ha : Rep w (Un M σ) σ a x)
    (hs : ∀ id, x = .ptr id 0 → True) (hal : solid h x = true) :
    Gives P w (Un M σ) σ (Instr.fieldAt t a f) v := by
  unfold fieldAddrV at hf
  cases ho : fieldOff d f with
  | none => rw [ho] at hf; cases hf
  | some q =>
    obtain ⟨off, ft⟩ := q
    rw [ho] at hf
    dsimp only at hf
    split at hf
    · cases hf
    · rename_i hz
      obtain ⟨F, fl, hF, hfl, rfl, rfl⟩ := fieldOff_ok hd ho
      obtain ⟨d', _, hd', hsz⟩ := sizeOfT_ok hT hz
      have hz' : ∃ d, TDOk P fl.type d ∧ d.size ≠ 0 := ⟨d', hd', by omega⟩
      split at hf <;> try cases hf
      · rename_i id o
        cases ha with
        | ptr _ _ p _ hp hat =>
          cases p with
          | dead =>
            exfalso
            have hb := hr.get hp
            simp only [solid] at hal
            split at hal
            · cases hal
            · rename_i e; cases hB : h.getD id .dead <;> rw [hB] at hb <;> first | exact hb | exact e hB
          | «at» b n c z =>
            have hat : a = .pointer (some ⟨b, o, none⟩) := hat
            subst hat
            exact .mk (.ptr _ _ _ _ hp rfl) (by rw [run_fieldAt hF hfl hz', Addr.add_mk])
          | _ => exact hat.elim
      · rename_i id i o
        cases ha with
        | eptr _ _ _ p _ hp hat =>
          cases p with
          | dead =>
            exfalso
            have hb := hr.get hp
            simp only [solid] at hal
            split at hal
            · cases hal
            · rename_i e; cases hB : h.getD id .dead <;> rw [hB] at hb <;> first | exact hb | exact e hB
          | «at» b n c z =>
            obtain ⟨hi, rfl⟩ := hat
            exact .mk (.eptr _ _ _ _ _ hp ⟨hi, rfl⟩) (by rw [run_fieldAt hF hfl hz', Addr.add_mk, Nat.add_assoc])
          | _ => exact hat.elim
      · rename_i cs
        obtain ⟨a', vs, rfl, g1, g2, g3⟩ := ha.fp_cells
        refine .mk (Rep.fp_mk (g1.drop _) (g2.drop _) fun j x hx => ?_) (run_fieldAt hF hfl hz' a')
        rw [Addr.block_add]
        rw [List.getElem?_drop] at hx
        exact g3 _ x hx

theorem fieldV_ok (hT : TOk P T) {t : TypeId} {d : TD} (hd : TDOk P t d) {x v : V} {f : Nat} (hf : fieldV T d x f = some v) {a : Value} (ha : Rep w U σ a x) :
    Gives P w U σ (Instr.field t a f) v := by
  unfold fieldV at hf
  split at hf
  · rename_i off ft cs ho
    split at hf
    · rename_i dt hdt
      obtain ⟨F, fl, hF, hfl, rfl, rfl⟩ := fieldOff_ok hd ho
      obtain ⟨vs, rfl, hvs⟩ := ha.agg_reps
      have hd' := hT _ _ hdt
      unfold TD.shape at hf
      split at hf
      · rename_i hle
        have hdr := hvs.drop fl.offset
        split at hf
        · rename_i hag
          cases hf
          refine .mk (Rep.agg_mk (hdr.take dt.size)) ?_
          simp [Instr.field, run_underlying hF, hfl, part, asAgg, hd'.run_isAgg, hag, hd'.run_size]
          apply Array.ext'
          simp [List.take_drop, Nat.add_comm]
        · rename_i hag
          cases hc : cs.drop fl.offset with
          | nil => rw [hc] at hf; cases hf
          | cons y r =>
            rw [hc] at hf hdr
            cases hf
            obtain ⟨u, r', e, hu, _⟩ := hdr.inv_cons
            refine .mk hu ?_
            have : vs[fl.offset]? = some u := by
              have : (vs.toList.drop fl.offset)[0]? = some u := by rw [e]; rfl
              simpa [List.getElem?_drop] using this
            simp [Instr.field, run_underlying hF, hfl, part, asAgg, hd'.run_isAgg, hag, this]
      · cases hf
    · cases hf
  · cases hf

theorem inB_iff {i n : Int} : inB i n = true ↔ 0 ≤ i ∧ i < n := by simp [inB]

theorem bt_ok (s : ByteArray) (i : Int) (h0 : 0 ≤ i) (h1 : i < s.size) : s[i.toNat]? = some (s.data.toList.getD i.toNat 0) ∧ (((s.data.toList.getD i.toNat 0).toNat : Nat) : Int) = bt s i := by
  have hlt : i.toNat < s.size := by omega
  have hl : i.toNat < s.data.toList.length := by simpa using hlt
  refine ⟨?_, rfl⟩
  have e1 : s[i.toNat]? = some s[i.toNat] := by
    simp [getElem?_def, hlt]
  rw [e1, List.getD_eq_getElem?_getD, List.getElem?_eq_getElem hl]
  simp
  rfl

theorem run_index_arr {t e : TypeId} {n : Nat} {de : TD} (hs : P.underlying t = some (.array n e)) (hd' : TDOk P e de) {vs : Array Value} {k : IntKind} {i : Int} (h0 : 0 ≤ i) (h1 : i < n) (w : World) :
    (de.agg = true → (Instr.index t (.agg vs) (.int k i)).run P w = .ok (.agg ((vs.toList.drop (i.toNat * de.size)).take de.size).toArray) w) ∧
    (de.agg = false → ∀ u, vs[i.toNat * de.size]? = some u → (Instr.index t (.agg vs) (.int k i)).run P w = .ok u w) := by
  refine ⟨fun hag => ?_, fun hag u this => ?_⟩
  · simp [Instr.index, asIntOf, run_underlying hs, h0, h1, part, hd'.run_isAgg, hag, hd'.run_size]
    apply Array.ext'
    simp [List.take_drop, Nat.add_comm]
  · simp [Instr.index, asIntOf, run_underlying hs, h0, h1, part, hd'.run_isAgg, hag, hd'.run_size, this]

theorem elemAs_ok {t e : TypeId} {n : Nat} {de : TD} (hs : P.underlying t = some (.array n e)) (hd' : TDOk P e de) {cs : List V} {k : IntKind} {i : Int} (h0 : 0 ≤ i) (h1 : i < n) {v : V} (hv : elemAs de n cs i = some v) {a : Value} (ha : Rep w U σ a (.agg cs)) :
    Gives P w U σ (Instr.index t a (.int k i)) v := by
  unfold elemAs at hv
  split at hv
  · rename_i ty hty
    split at hv
    · rename_i hc
      split at hv
      · rename_i l hl
        cases hv
        obtain ⟨vs, rfl, hvs⟩ := ha.agg_reps
        obtain ⟨e1, e2, e3⟩ := listOf_ok hl hvs
        have hlt : i.toNat < l.length := by rw [e1]; omega
        obtain ⟨ce, g1, g2⟩ := e3 _ _ (getD_of hlt ty.zero)
        have hcl := g1.length
        have hce : (vs.toList.drop (i.toNat * de.size)).take de.size = ce := by
          apply List.ext_getElem?
          intro j
          by_cases hj : j < ce.length
          · rw [List.getElem?_take_of_lt (by omega), List.getElem?_drop, ← hc.1, g2 j _ (List.getElem?_eq_getElem hj), List.getElem?_eq_getElem hj]
          · rw [List.getElem?_eq_none (by rw [List.length_take]; omega), List.getElem?_eq_none (by omega)]
        obtain ⟨q1, q2⟩ := run_index_arr (P := P) hs hd' (vs := vs) (k := k) h0 h1 w
        cases hag : de.agg with
        | true =>
          refine .mk (v' := .agg ce.toArray) (RepV.inject ⟨ce, g1, .inl ⟨by rw [hc.2, hag], rfl⟩⟩) ?_
          rw [q1 hag, hce]
        | false =>
          have hna : ty.isAgg = false := by rw [hc.2, hag]
          have hone : ty.size = 1 := by cases ty <;> first | rfl | cases hna
          cases ce with
          | nil => simp at hcl; omega
          | cons u r =>
            have hr0 : r = [] := by
              have : (u :: r).length = 1 := by rw [hcl, hone]
              simpa using this
            subst hr0
            refine .mk (v' := u) (RepV.inject ⟨[u], g1, .inr ⟨hna, rfl⟩⟩) ?_
            refine q2 hag u ?_
            have := g2 0 u rfl
            rw [← hc.1]
            simpa using this
      · cases hv
    · cases hv
  · cases hv

theorem indexV_ok (hT : TOk P T) {t : TypeId} {d : TD} (hd : TDOk P t d) (x : V) (k : IntKind) (i : Int) :
    One (Ω := Ω) (indexV T d x i) fun v => ∀ w U σ a, Rep w U σ a x → Gives P w U σ (Instr.index t a (.int k i)) v := by
  have hs := hd.sh
  unfold indexV
  split
  · rename_i s e
    rw [e] at hs
    have hs : P.underlying t = some .string := hs
    refine One.bif (fun hb => One.here fun w U σ a ha => ?_) fun _ => One.no
    obtain ⟨h0, h1⟩ := inB_iff.1 hb
    cases ha
    obtain ⟨g1, g2⟩ := bt_ok s i h0 h1
    exact Gives.int (by simp [Instr.index, asIntOf, run_underlying hs, h0, g1, ← g2])
  · rename_i n e cs he
    rw [he] at hs
    have hs : P.underlying t = some (.array n e) := hs
    cases hde : T.get e with
    | none => exact One.no
    | some de =>
      refine One.bif (fun hb => ?_) fun _ => One.no
      obtain ⟨h0, h1⟩ := inB_iff.1 hb
      have hd' := hT _ _ hde
      unfold elemAt
      cases hea : elemAs de n cs i with
      | some v => exact One.here fun w U σ a ha => elemAs_ok hs hd' h0 h1 hea ha
      | none =>
        dsimp only
        cases hv : de.shape (cs.drop (i.toNat * de.size)) with
        | none => exact One.no
        | some v =>
          refine One.here fun w U σ a ha => ?_
          obtain ⟨vs, rfl, hvs⟩ := ha.agg_reps
          obtain ⟨q1, q2⟩ := run_index_arr (P := P) hs hd' (vs := vs) (k := k) h0 h1 w
          have hdr := hvs.drop (i.toNat * de.size)
          unfold TD.shape at hv
          split at hv
          · rename_i hle
            split at hv
            · rename_i hag
              cases hv
              exact .mk (Rep.agg_mk (hdr.take de.size)) (q1 hag)
            · rename_i hag
              cases hc : cs.drop (i.toNat * de.size) with
              | nil => rw [hc] at hv; cases hv
              | cons y r =>
                rw [hc] at hv hdr
                cases hv
                obtain ⟨u, r', e', hu, _⟩ := hdr.inv_cons
                refine .mk hu ?_
                have : vs[i.toNat * de.size]? = some u := by
                  have : (vs.toList.drop (i.toNat * de.size))[0]? = some u := by rw [e']; rfl
                  simpa [List.getElem?_drop] using this
                exact q2 (by simpa using hag) u this
          · cases hv
  · exact One.no

theorem HR.win (hr : HR w M σ h) {id off len : Nat} {v : Value} (hv : Rep w (Un M σ) σ v (.win id off len)) :
    (∀ t s, h.getD id .dead = .rows t s → (len = 0 ∧ off = 0 ∧ s.l = [] ∧ ∃ A c, v = .slice A 0 c ∧ ((A = none ∧ s.nl = true ∧ c = 0) ∨ (A ≠ none ∧ s.nl = false))) ∨
      ∃ b c a c', s.nl = false ∧ σ[id]? = some (.at b s.l.length c t.size) ∧ v = .slice (some a) len c' ∧ off + len ≤ s.l.length ∧ len ≤ c' ∧ (0 < len → a = ⟨b, off * t.size, none⟩) ∧ RowAt w (Un M σ) t b c s.l) ∧
    (∀ t n l, h.getD id .dead = .arr t n l → ∃ b a c', σ[id]? = some (.at b n n t.size) ∧ n = l.length ∧ v = .slice (some a) len c' ∧ off + len ≤ n ∧ len ≤ c' ∧ (0 < len → a = ⟨b, off * t.size, none⟩) ∧ RowAt w (Un M σ) t b n l) := by
  cases hv with
  | win _ _ _ p _ hp hat =>
    have hb := hr.get hp
    refine ⟨fun t s hB => ?_, fun t n l hB => ?_⟩
    · rw [hB] at hb
      cases p with
      | dead => exact hb.elim
      | nil => obtain ⟨rfl, rfl, rfl⟩ := hat; exact .inl ⟨rfl, rfl, hb.2, _, _, rfl, .inl ⟨rfl, hb.1, rfl⟩⟩
      | emp a => obtain ⟨a', c, rfl, rfl, rfl⟩ := hat; exact .inl ⟨rfl, rfl, hb.2, _, _, rfl, .inr ⟨by simp, hb.1⟩⟩
      | «at» b n c z =>
        obtain ⟨h1, rfl, rfl, h4, _⟩ := hb
        obtain ⟨a, c', rfl, g2, g3, g4⟩ := hat
        exact .inr ⟨b, c, a, c', h1, hp, rfl, g2, g3, g4, h4⟩
    · rw [hB] at hb
      cases p with
      | «at» b n' c z =>
        obtain ⟨rfl, h1, rfl, rfl, h4⟩ := hb
        obtain ⟨a, c', rfl, g2, g3, g4⟩ := hat
        exact ⟨b, a, c', hp, h1, rfl, g2, g3, g4, h4⟩
      | _ => exact hb.elim

theorem run_indexAt_slice {t e : TypeId} {de : TD} (ht : P.underlying t = some (.slice e)) (hd : TDOk P e de) (a : Addr) (n c : Nat) (k : IntKind) (i : Int) (h0 : 0 ≤ i) (h1 : i < n) :
    (Instr.indexAt t (.slice (some a) n c) (.int k i)).run P w = .ok (.pointer (some (a.add (i.toNat * de.size)))) w := by
  simp [Instr.indexAt, asIntOf, run_underlying ht, h0, h1, hd.run_size]

theorem run_indexAt_arr {t e : TypeId} {de : TD} {n : Nat} (ht : P.underlying t = some (.array n e)) (hd : TDOk P e de) (a : Addr) (k : IntKind) (i : Int) (h0 : 0 ≤ i) (h1 : i < n) :
    (Instr.indexAt t (.pointer (some a)) (.int k i)).run P w = .ok (.pointer (some (a.add (i.toNat * de.size)))) w := by
  simp [Instr.indexAt, asIntOf, run_underlying ht, h0, h1, hd.run_size, Instr.sureAddr]

theorem solid_alive (hr : HR w M σ h) {id : Nat} {p : Pl} (hp : σ[id]? = some p) (hs : (match h.getD id .dead with | .dead => false | _ => true) = true) : p ≠ .dead := by
  rintro rfl
  have hb := hr.get hp
  cases hB : h.getD id .dead <;> rw [hB] at hb hs <;> first | exact hb | cases hs

theorem indexAddrV_ok (hT : TOk P T) {t : TypeId} {d : TD} (hd : TDOk P t d) (h : Heap) (x : V) (k : IntKind) (i : Int) :
    One (Ω := Ω) (indexAddrV T d h x i) fun v => ∀ w M σ a, HR w M σ h → Rep w (Un M σ) σ a x → Gives P w (Un M σ) σ (Instr.indexAt t a (.int k i)) v := by
  have hs := hd.sh
  unfold indexAddrV
  split
  · rename_i e he
    rw [he] at hs
    have hs : P.underlying t = some (.slice e) := hs
    cases hde : T.get e with
    | none => exact One.no
    | some de =>
      have hd' := hT _ _ hde
      dsimp only
      split
      · rename_i id
        cases hB : h.getD id .dead with
        | rows t' s =>
          refine One.ite (fun hz => One.bif (fun hb => One.here fun w M σ a hr ha => ?_) fun _ => One.no) fun _ => One.no
          obtain ⟨h0, h1⟩ := inB_iff.1 hb
          rcases hr.own ha hB with ⟨_, hl, _⟩ | ⟨_, hl, _⟩ | ⟨_, b, c, hp, rfl, hrow⟩
          · rw [hl] at h1; simp at h1; omega
          · rw [hl] at h1; simp at h1; omega
          · refine .mk (.eptr id i.toNat 0 _ _ hp ⟨by omega, rfl⟩) ?_
            rw [run_indexAt_slice hs hd' _ _ _ _ _ h0 h1, Addr.add_mk, hz]; simp
        | _ => exact One.no
      · rename_i id off len
        cases hB : h.getD id .dead with
        | rows t' s =>
          refine One.ite (fun hz => One.bif (fun hb => One.here fun w M σ a hr ha => ?_) fun _ => One.no) fun _ => One.no
          obtain ⟨h0, h1⟩ := inB_iff.1 hb
          rcases (hr.win ha).1 t' s hB with ⟨rfl, _⟩ | ⟨b, c, a', c', _, hp, rfl, g1, g2, g3, hrow⟩
          · omega
          · have := g3 (by omega); subst this
            refine .mk (.eptr id (off + i.toNat) 0 _ _ hp ⟨by omega, rfl⟩) ?_
            rw [run_indexAt_slice hs hd' _ _ _ _ _ h0 h1, Addr.add_mk, hz, Nat.add_mul]; simp
        | arr t' n l =>
          refine One.ite (fun hz => One.bif (fun hb => One.here fun w M σ a hr ha => ?_) fun _ => One.no) fun _ => One.no
          obtain ⟨h0, h1⟩ := inB_iff.1 hb
          obtain ⟨b, a', c', hp, hn, rfl, g1, g2, g3, hrow⟩ := (hr.win ha).2 t' n l hB
          have := g3 (by omega); subst this
          refine .mk (.eptr id (off + i.toNat) 0 _ _ hp ⟨by omega, rfl⟩) ?_
          rw [run_indexAt_slice hs hd' _ _ _ _ _ h0 h1, Addr.add_mk, hz, Nat.add_mul]; simp
        | _ => exact One.no
      · rename_i t' capd s
        refine One.ite (fun hz => One.bif (fun hb => One.here fun w M σ a hr ha => ?_) fun _ => One.no) fun _ => One.no
        obtain ⟨h0, h1⟩ := inB_iff.1 hb
        cases ha with
        | sl _ _ _ A n c hsl _ =>
          cases A with
          | none => rw [hsl.2.1] at h1; simp at h1; omega
          | some a' =>
            obtain ⟨g1, rfl, g3, g4⟩ := hsl
            obtain ⟨ce, q1, q2⟩ := g4 i.toNat _ (getD_of (by omega) t'.zero)
            refine .mk (Rep.fp_mk (vs := ce) (fun j v hv => ?_) q1.reps fun j x hx => ?_) (run_indexAt_slice hs hd' _ _ _ _ _ h0 h1)
            · rw [Addr.add_add, ← hz]; exact (q2 j v hv).1
            · obtain ⟨v, hv, _⟩ := q1.reps (σ := σ).get hx
              rw [Addr.block_add]; exact (q2 j v hv).2
      · exact One.no
  · rename_i n e he
    rw [he] at hs
    have hs : P.underlying t = some (.array n e) := hs
    cases hde : T.get e with
    | none => exact One.no
    | some de =>
      have hd' := hT _ _ hde
      dsimp only
      split
      · rename_i id
        cases hB : h.getD id .dead with
        | arr t' m l =>
          refine One.ite (fun hz => One.bif (fun hb => One.here fun w M σ a hr ha => ?_) fun _ => One.no) fun _ => One.no
          obtain ⟨hz, rfl⟩ := hz
          obtain ⟨h0, h1⟩ := inB_iff.1 hb
          obtain ⟨b, hp, hn, _, rfl, hrow⟩ := (hr.eptr ha).2 t' m l hB
          refine .mk (.eptr id i.toNat 0 _ _ hp ⟨by omega, rfl⟩) ?_
          rw [run_indexAt_arr hs hd' _ _ _ h0 h1, Addr.add_mk, hz]; simp
        | _ => exact One.no
      · rename_i id off
        refine One.bif (fun hb => ?_) fun _ => One.no
        cases hB : h.getD id .dead with
        | box _ cs =>
          dsimp only
          refine One.here fun w M σ a hr ha => ?_
          obtain ⟨h0, h1⟩ := inB_iff.1 hb
          obtain ⟨b, hp, rfl, _⟩ := hr.ptr ha hB
          refine .mk (.ptr id _ _ _ hp rfl) ?_
          rw [run_indexAt_arr hs hd' _ _ _ h0 h1, Addr.add_mk]
        | _ => exact One.no
      · rename_i cs
        refine One.bif (fun hb => One.here fun w M σ a hr ha => ?_) fun _ => One.no
        obtain ⟨h0, h1⟩ := inB_iff.1 hb
        obtain ⟨a', vs, rfl, g1, g2, g3⟩ := ha.fp_cells
        refine .mk (Rep.fp_mk (g1.drop _) (g2.drop _) fun j x hx => ?_) (run_indexAt_arr hs hd' _ _ _ h0 h1)
        rw [Addr.block_add]
        rw [List.getElem?_drop] at hx
        exact g3 _ x hx
      · exact One.no
  · exact One.no
end
end Go.Proofs.YtnebpmcmdmpoaaaDoor.R
