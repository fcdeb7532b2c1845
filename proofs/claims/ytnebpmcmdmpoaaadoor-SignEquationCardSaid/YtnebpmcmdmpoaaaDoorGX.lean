-- what callers know of the library's functions: out of the shelf's contracts, laid at this seat's program
import Derived.Test.YtnebpmcmdmpoaaaDoorG0
import Derived.Test.YtnebpmcmdmpoaaaDoorShelf
import Derived.KernelRfl
namespace Go.Proofs.YtnebpmcmdmpoaaaDoor.R
open Go Go.RowKit
set_option maxRecDepth 100000
set_option linter.unusedVariables false

theorem Step.ofBelow {w w' : World} (h : Below w.heap.size w w') : Step w w' [] [] :=
  ⟨h.os, h.tape, h.output, h.size, fun b hb _ => h.block b hb, .refl _, fun b ⟨_, _, _, _, h⟩ => by simp at h⟩
theorem Step.same (w : World) : Step w w [] [] := .refl w []

open Classical in
noncomputable def F_strings_ReplaceAll (a : ByteArray × ByteArray × ByteArray × Unit) : Option (ByteArray × Unit) :=
  if a.1.size < 4294967281 ∧ 1 ≤ a.2.1.size ∧ a.1.size + Lib.countB a.1 a.2.1 * a.2.2.1.size ≤ 140737488355328 then some ((⟨(Lib.replaceAll a.1.data.toList a.2.1.data.toList a.2.2.1.data.toList).toArray⟩ : ByteArray), ()) else none
theorem f_strings_ReplaceAll_at : Tryd.prog.funcs[43]? = some Tryd.f43 := by kernel_rfl
theorem F_strings_ReplaceAll_ok (a : Tys [.str, .str, .str]) (r : Tys [.str]) (h : F_strings_ReplaceAll a = some r) (m : Int) : PContract Tryd.prog (GL m) 43 (injL [.str, .str, .str] a) (injR [.str] r) := by
  unfold F_strings_ReplaceAll at h
  split at h
  case isFalse => cases h
  rename_i hc
  cases h
  refine ⟨callOk_of f_strings_ReplaceAll_at (by kernel_rfl) (by kernel_rfl), fun U w vs hU hg hx => ?_⟩
  obtain ⟨v1, r1, rfl, h1, hr1⟩ := hx.inv_cons
  obtain ⟨v2, r2, rfl, h2, hr2⟩ := hr1.inv_cons
  obtain ⟨v3, r3, rfl, h3, hr3⟩ := hr2.inv_cons
  obtain rfl := hr3.inv_nil
  obtain ⟨s, old, new, u⟩ := a
  cases h1; cases h2; cases h3
  have hm : w.cell? ⟨4, 0, none⟩ = some (.int .i64 m) := by
    have hgl := hg 4 [.int .i64 m] rfl
    obtain ⟨a, us, e, hc, hr, _⟩ := hgl.fp_cells
    cases e
    obtain ⟨v, r, rfl, hv, _⟩ := hr.inv_cons
    cases hv
    have := hc 0 _ rfl
    simpa [Addr.add] using this
  exact (Tryd.strings_ReplaceAll s old new m w hc.1 hm hc.2.1 hc.2.2).mono fun e w' ⟨e1, e2⟩ => ⟨_, e1, .str _, .ofBelow e2⟩

open Classical in
noncomputable def F_strings_Join (a : Sl ByteArray × ByteArray × Unit) : Option (ByteArray × Unit) :=
  if a.1.l.length ≤ 140737488355328 ∧ (Lib.join (a.1.l.map fun x : ByteArray => x.data.toList) a.2.1.data.toList).length ≤ 140737488355328 then some ((⟨(Lib.join (a.1.l.map fun x : ByteArray => x.data.toList) a.2.1.data.toList).toArray⟩ : ByteArray), ()) else none
theorem f_strings_Join_at : Tryd.prog.funcs[53]? = some Tryd.f53 := by kernel_rfl
theorem F_strings_Join_ok (a : Tys [.sl .str, .str]) (r : Tys [.str]) (h : F_strings_Join a = some r) (m : Int) : PContract Tryd.prog (GL m) 53 (injL [.sl .str, .str] a) (injR [.str] r) := by
  unfold F_strings_Join at h
  split at h
  case isFalse => cases h
  rename_i hc
  cases h
  refine ⟨callOk_of f_strings_Join_at (by kernel_rfl) (by kernel_rfl), fun U w vs hU hg hx => ?_⟩
  obtain ⟨v1, r1, rfl, h1, hr1⟩ := hx.inv_cons
  obtain ⟨v2, r2, rfl, h2, hr2⟩ := hr1.inv_cons
  obtain rfl := hr2.inv_nil
  obtain ⟨s, sep, u⟩ := a
  cases h2
  cases h1 with
  | sl t capd s A n c hs _ =>
    by_cases hl : s.l = []
    · have hn : n = 0 := by
        cases A with
        | none => exact hs.2.2.1
        | some a => have := hs.2.1; rw [hl] at this; exact this
      subst hn
      refine (Tryd.strings_Join_none A c sep w).mono fun e w' ⟨e1, e2⟩ => ⟨_, e1, ?_, e2 ▸ .same w⟩
      have : (⟨#[]⟩ : ByteArray) = ⟨(Lib.join (s.l.map fun x : ByteArray => x.data.toList) sep.data.toList).toArray⟩ := by rw [hl]; rfl
      rw [this]
      exact .str _
    · cases A with
      | none => exact absurd hs.2.1 hl
      | some a =>
        obtain ⟨_, rfl, hcap, hel⟩ := hs
        have hcell : ∀ (j : Nat) (x : ByteArray), s.l[j]? = some x → w.cell? (a.add j) = some (.string x) := by
          intro j x hx
          obtain ⟨ce, g1, g2⟩ := hel j x hx
          have g1 : ce = [.string x] := g1
          subst g1
          have := (g2 0 _ rfl).1
          simpa [Ty.size] using this
        obtain ⟨x0, hx0⟩ : ∃ x, s.l[0]? = some x := by
          cases hsl : s.l with
          | nil => exact absurd hsl hl
          | cons x r => exact ⟨x, rfl⟩
        have h00 := hcell 0 x0 hx0
        rw [Addr.add_zero'] at h00
        obtain ⟨b, off, sp⟩ := a
        have hsp : sp = none := by
          cases sp with
          | none => rfl
          | some q => unfold World.cell? at h00; simp at h00; split at h00 <;> cases h00
        subst hsp
        have hbk : b < w.heap.size := by
          rcases Nat.lt_or_ge b w.heap.size with h | h
          · exact h
          · unfold World.cell? at h00; simp [Array.getElem?_eq_none h] at h00
        exact (Tryd.strings_Join b off c s.l sep w (fun j x hx => by have := hcell j x hx; rwa [Addr.add_mk] at this) hbk hc.1 hcap hc.2).mono fun e w' ⟨e1, e2⟩ => ⟨_, e1, .str _, .ofBelow e2⟩

theorem f_strings_Builder_copyCheck_at : Tryd.prog.funcs[74]? = some Tryd.f74 := by kernel_rfl
theorem lays240 : Lays.n240 Tryd.prog Tryd.lays156_ren := { Tryd.lays156 with }
theorem I_strings_Builder_copyCheck_ok (m : Int) (Ω : Type) (xs : List V) (h : Heap) : OneW (Ω := Ω) (copyCheckV 68 xs h) (Contract Tryd.prog (GL m) 74 xs h) :=
  copyCheck_ok (callOk_of f_strings_Builder_copyCheck_at (by kernel_rfl) (by kernel_rfl)) (fun b w h0 => Any.Builder_copyCheck_used lays240 Tryd.Builder_Extra_156.toX72 b w h0) (fun b w h0 h1 h2 => Any.Builder_copyCheck_fresh lays240 Tryd.Builder_Extra_156.toX72 b w h0 h1 h2) (GL m) xs h

end Go.Proofs.YtnebpmcmdmpoaaaDoor.R
