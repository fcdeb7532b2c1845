/- The address and the text of an own row of bytes (strings.Builder's String). -/
import Derived.Test.YtnebpmcmdmpoaaaDoorROps9
import Derived.Lib.UnsafeStr
namespace Go.Proofs.YtnebpmcmdmpoaaaDoor.R
open Go
set_option linter.unusedVariables false
set_option linter.unusedSimpArgs false
section
variable {P : Program} {Ω : Type} {T : Types} {h : Heap}

theorem elems_own {t : Ty} {id : Nat} {l : List t.den} (he : elems h t (.own id) = some l) : ∃ nl, h.getD id .dead = .rows t ⟨nl, l⟩ := by
  unfold elems at he
  dsimp only at he
  split at he
  · rename_i t' s hB
    split at he
    · rename_i ht
      subst ht
      cases he
      exact ⟨s.nl, hB⟩
    · cases he
  · cases he

theorem dataV_ok (x : V) (h : Heap) : One (Ω := Ω) (dataV h x) fun v => ∀ w M σ a ts ty, HR w M σ h → Rep w (Un M σ) σ a x → Gives P w (Un M σ) σ (Builtin.unsafeSliceData_ ts ty #[a]) v := by
  unfold dataV
  split
  · rename_i id
    cases he : elems h (.int .u8) (.own id) with
    | none => exact One.no
    | some l =>
      obtain ⟨nl, hB⟩ := elems_own he
      refine One.bif (fun _ => One.no) fun hne => One.here fun w M σ a ts ty hr ha => ?_
      have hl : l ≠ [] := by intro e; rw [e] at hne; simp at hne
      rcases hr.own ha hB with ⟨_, e, _⟩ | ⟨_, e, _⟩ | ⟨h1, b, c, hp, rfl, hrow⟩
      · exact absurd e hl
      · exact absurd e hl
      · obtain ⟨cur, et, g1, g2, g3, g4⟩ := hrow
        have hpos : 0 < l.length := List.length_pos_iff.2 hl
        exact ⟨_, Lib.run_unsafeSliceData_row w ts ty _ _ c (by dsimp only at g3; omega), .eptr _ _ _ _ _ hp ⟨hpos, by simp⟩⟩
  · exact One.no

theorem run_loadInts {w : World} : ∀ (l : List Int) (a : Addr) (acc : ByteArray), (∀ j x, l[j]? = some x → w.cell? (a.add j) = some (.int .u8 x)) →
    (loadBytes a acc l.length).run P w = .ok ⟨acc.data ++ (l.map fun n => UInt8.ofNat n.toNat).toArray⟩ w
  | [], a, acc, _ => by simp [loadBytes]
  | x :: l, a, acc, h => by
    have h0 : w.cell? a = some (.int .u8 x) := by
      have := h 0 x rfl
      simpa [Addr.add] using this
    have ih := run_loadInts l (a.add 1) (acc.push x.toNat.toUInt8) (fun j y hy => by
      have := h (j + 1) y (by simpa using hy)
      rw [Addr.add_add, Nat.add_comm]; exact this)
    simp only [List.length_cons, loadBytes, Sem.run_bind, run_load, h0, Result.andThen]
    rw [ih]
    congr 1
    apply ByteArray.ext
    simp [ByteArray.push]

theorem run_unsafeString_ints {w : World} (pt it ty e : TypeId) (hp : P.underlying pt = some (.pointer e)) (hc : P.cellsOf e = 1) (g cells : Nat) (hsh : w.shape? g = some (e, cells)) (l : List Int) (h0 : l ≠ []) (hn : l.length ≤ cells) (h63 : l.length ≤ 9223372036854775807)
    (hcell : ∀ j x, l[j]? = some x → w.cell? ((⟨g, 0, none⟩ : Addr).add j) = some (.int .u8 x)) :
    (Builtin.unsafeString_ #[pt, it] ty #[.pointer (some ⟨g, 0, none⟩), .int .i64 l.length]).run P w = .ok (.string (strOf l)) (w.freeze ⟨g, 0, none⟩ l.length) := by
  have hl : l.length ≠ 0 := by simpa using h0
  have hlb := run_loadInts (P := P) (w := w) l ⟨g, 0, none⟩ .empty hcell
  have hlies := Lib.liesAt_bytes (P := P) hc (cells / P.cellsOf e) l.length (by rw [hc]; simpa using hn)
  have h63' : ¬ (9223372036854775807 : Int) < (l.length : Int) := by omega
  have hdef : Builtin.unsafeString_ #[pt, it] ty #[.pointer (some ⟨g, 0, none⟩), .int .i64 l.length] =
      (do
        let n ← asInt (.int .i64 l.length)
        if n < 0 then runtimePanic (.error "unsafe.String: len out of range")
        if n > IntKind.i64.max then unsupported (.unsafePointer "String: a length above the largest int")
        if n = 0 then pure (.string .empty)
        else if ← variablesAt ⟨g, 0, none⟩ (← elemOf pt) n.toNat then do
          let s ← loadBytes ⟨g, 0, none⟩ .empty n.toNat
          freeze ⟨g, 0, none⟩ n.toNat
          pure (.string s)
        else unsupported (.unsafePointer "String: not so many bytes at ptr")) := rfl
  rw [hdef]
  have hmax : IntKind.i64.max = 9223372036854775807 := rfl
  have hneg : ¬ (l.length : Int) < 0 := by omega
  simp [asInt, asIntOf, hmax, h63', hneg, hl, variablesAt, hsh, elemOf, run_underlying hp, hlies, hlb, strOf]

/-- a block of ours is given up, and something was done to it -/
theorem HR.killTo {w w' : World} {M : Nat → Prop} {σ : Sig} (hr : HR w M σ h) {id b n c z : Nat} (hi : σ[id]? = some (Pl.at b n c z)) (hw : ∀ b', b' ≠ b → w'.heap[b']? = w.heap[b']?)
    (ho : w'.os = w.os ∧ w'.tape = w.tape ∧ w'.output = w.output ∧ w'.heap.size = w.heap.size) :
    Step w w' σ (σ.set id .dead) ∧ HR w' M (σ.set id .dead) (h.set id .dead) := by
  have hst : Step w w' σ (σ.set id .dead) :=
    ⟨ho.1, ho.2.1, ho.2.2.1, Nat.le_of_eq ho.2.2.2.symm, fun b' _ hn => hw b' fun e => hn (e ▸ ⟨id, _, _, _, hi⟩), Later.kill σ id, fun b' hb => .inl (Sig.has_kill hb)⟩
  have hk := hr.kill id
  have hil : id < σ.length := (List.getElem?_eq_some_iff.1 hi).1
  refine ⟨hst, hk.len, hk.inj, hk.out, fun b' hb => ho.2.2.2.symm ▸ hk.lim b' hb, fun i q C hq hC => ?_⟩
  by_cases e : id = i
  · subst e
    rw [List.getElem?_set_self hil] at hq
    rw [List.getElem?_set_self (by rw [← hr.len]; exact hil)] at hC
    cases hq; cases hC; trivial
  · rw [List.getElem?_set_ne e] at hq hC
    refine (hr.blk i q C hq hC).mono (hst.keeps M) hst.later fun b1 n1 c1 z1 e1 => hw b1 fun eb => e ?_
    rw [e1, eb] at hq
    exact hr.inj id i b _ _ _ _ _ _ hi hq

theorem cellsOf_ok (hT : TOk P T) {t : TypeId} (hz : sizeOfT T t = 1) : P.cellsOf t = 1 := by
  obtain ⟨d, _, hd, e⟩ := sizeOfT_ok hT (t := t) (by omega)
  obtain ⟨i, z, h1, h2, _⟩ := hd.info
  unfold Program.cellsOf
  rw [h1]
  simp only [Option.map_some, Option.getD_some]
  omega

theorem textV_ok (hT : TOk P T) (h : Heap) (pt it ty : TypeId) (p n : V) : OneW (Ω := Ω) (textV T h pt p n) fun v h' => ∀ w M σ a b, HR w M σ h → Rep w (Un M σ) σ a p → Rep w (Un M σ) σ b n →
    GivesW P w M σ (Builtin.unsafeString_ #[pt, it] ty #[a, b]) v h' := by
  unfold textV
  cases hd : T.get pt with
  | none => exact OneW.no
  | some d =>
    dsimp only
    have hs := (hT _ _ hd).sh
    split
    · rename_i e hsh
      rw [hsh] at hs
      split
      · rename_i hc
        split
        · rename_i id m
          cases he : elems h (.int .u8) (.own id) with
          | none => exact OneW.no
          | some l =>
            obtain ⟨nl, hB⟩ := elems_own he
            refine OneW.bif (fun hb => ?_) fun _ => OneW.no
            simp only [Bool.and_eq_true, beq_iff_eq, Bool.not_eq_true', List.isEmpty_eq_false_iff, decide_eq_true_eq] at hb
            refine OneW.here fun w M σ a b hr ha hn => ?_
            obtain ⟨hm, hne, h63⟩ := hb
            cases hn
            cases ha with
            | eptr _ _ _ pl _ hp hat =>
              have hbr := hr.get hp
              rw [hB] at hbr
              cases pl with
              | dead => exact hbr.elim
              | nil => exact hat.elim
              | emp a => exact hat.elim
              | «at» g n c z =>
                obtain ⟨_, rfl⟩ := hat
                obtain ⟨_, _, rfl, hrow, cur2, et2, q1, q2⟩ := hbr
                obtain ⟨cur, et, g1, g2, g3, g4⟩ := hrow
                rw [g1] at q1
                obtain ⟨e1, e2⟩ : cur2 = cur ∧ et2 = et := by cases q1; exact ⟨rfl, rfl⟩
                rw [e2] at q2
                have q2 := q2 rfl
                subst hm
                obtain ⟨s1, s2⟩ := hr.killTo hp (w' := w.freeze ⟨g, 0, none⟩ l.length) (fun b' hb' => freeze_heap w g 0 _ b' hb') (freeze_other w _ _)
                have g3 : l.length ≤ c := g3
                have hsize : cur.size = c := by rw [g2]; simp [Ty.size]
                refine ⟨_, _, _, ?_, s2, .str _, s1⟩
                have h63 : l.length ≤ 9223372036854775807 := by omega
                refine run_unsafeString_ints pt it ty e hs ?_ g cur.size ?_ l hne (by rw [hsize]; exact g3) h63 ?_
                · exact cellsOf_ok hT hc.2
                · rw [hc.1, ← q2]; simp [World.shape?, g1]
                · intro j x hx
                  obtain ⟨ce, r1, r2⟩ := g4 j x hx
                  have r1 : ce = [.int .u8 x] := r1
                  subst r1
                  have r3 := r2 0 _ rfl
                  have e1 : j * Ty.size (.int .u8) + 0 = j := by simp [Ty.size]
                  rw [e1] at r3
                  rw [Addr.add_mk]
                  simp [World.cell?, g1, r3]
        · exact OneW.no
      · exact OneW.no
    · exact OneW.no
end
end Go.Proofs.YtnebpmcmdmpoaaaDoor.R
