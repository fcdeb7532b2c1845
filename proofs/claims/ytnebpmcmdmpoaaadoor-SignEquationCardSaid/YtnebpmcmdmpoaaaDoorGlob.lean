/- What the variables of the program hold that the rows list, and what the parameters of the laws read as. -/
import Derived.Test.YtnebpmcmdmpoaaaDoorRows
import Derived.Test.YtnebpmcmdmpoaaaDoorRFrame
import Derived.Test.YtnebpmcmdmpoaaaDoorG0
import Derived.LaidMore
import Derived.Lay
import Derived.Shelf.Vars
import Derived.Stop.Joined
import Derived.KernelRfl
namespace Go.Proofs.YtnebpmcmdmpoaaaDoor.R
open Go Go.RowKit Go.ChangeShapes Go.WideShapes Go.ChangeAt
set_option maxRecDepth 100000
set_option linter.unusedVariables false
theorem o9 : OpensR Tryd.prog 9 (.str) := OpensR.str Tryd.underlying9 (by kernel_rfl)
theorem o3 : OpensR Tryd.prog 3 (.int .i64) := OpensR.int Tryd.underlying3 (by kernel_rfl)
theorem o23 : OpensR Tryd.prog 23 (.pair (.int .i64) (.int .i64)) := OpensR.struct Tryd.underlying23 (by kernel_rfl) (OpensAt.cons rfl o3 (OpensAt.one rfl o3))
theorem o25 : OpensR Tryd.prog 25 (.pair (.int .i64) (.int .i64)) := OpensR.struct Tryd.underlying25 (by kernel_rfl) (OpensAt.cons rfl o3 (OpensAt.one rfl o3))
theorem own : ownKnob Tryd.prog.godebug = none := by kernel_rfl
theorem laidOut : laidOutB Tryd.prog = true := by kernel_rfl
theorem glob (W : World) (hsh : W.ShapedOpen Tryd.prog) (h : laidMetH Tryd.prog Rows.signTellsRow.laid W) : ∃ m, GOk (GL m) W NoU := by
  rw [MakeChecks.laidMetH_plain _ _ _ (by kernel_rfl)] at h
  obtain ⟨ps, ⟨g0, t0, cs0, f0, p0, q0, hg0, ht0, hv0, hd0, ⟨g1, t1, cs1, f1, p1, q1, hg1, ht1, hv1, hd1, ⟨g2, t2, cs2, f2, p2, q2, hg2, ht2, hv2, hd2, ⟨g3, t3, cs3, f3, p3, q3, hg3, ht3, hv3, hd3, _, _⟩, _⟩, _⟩, _⟩, _, _⟩ := h
  obtain rfl := Option.some.inj ((show Tryd.prog.globalNamed "bourne/digest.first" = some 2 by kernel_rfl).symm.trans hg1)
  obtain rfl := Option.some.inj ((show (Tryd.prog.globals[2]?).map (·.type) = some 82 by kernel_rfl).symm.trans ht1)
  have e1 := trod_ints (ns := [1779033703, 3144134277, 1013904242, 2773480762, 1359893119, 2600822924, 528734635, 1541459225]) Tryd.underlying82 Tryd.underlying60 (by kernel_rfl) (by kernel_rfl) hd1
  obtain rfl := Option.some.inj ((show Tryd.prog.globalNamed "bourne/digest.orders" = some 3 by kernel_rfl).symm.trans hg2)
  obtain rfl := Option.some.inj ((show (Tryd.prog.globals[3]?).map (·.type) = some 91 by kernel_rfl).symm.trans ht2)
  have e2 := trod_rows (rows := [[0, 1, 2, 3, 4, 5, 6, 7, 8, 9, 10, 11, 12, 13, 14, 15], [14, 10, 4, 8, 9, 15, 13, 6, 1, 12, 0, 2, 11, 7, 5, 3], [11, 8, 12, 0, 5, 2, 15, 13, 10, 14, 3, 6, 7, 1, 9, 4], [7, 9, 3, 1, 13, 12, 11, 14, 2, 6, 5, 10, 4, 0, 15, 8], [9, 0, 5, 7, 2, 4, 10, 15, 14, 1, 11, 12, 6, 8, 3, 13], [2, 12, 6, 10, 0, 11, 8, 3, 4, 13, 7, 5, 15, 14, 1, 9], [12, 5, 1, 15, 14, 13, 4, 10, 0, 7, 6, 3, 9, 2, 8, 11], [13, 11, 7, 14, 12, 1, 3, 9, 5, 0, 15, 4, 8, 6, 2, 10], [6, 15, 14, 9, 11, 3, 0, 8, 12, 2, 13, 7, 1, 4, 10, 5], [10, 2, 8, 4, 7, 6, 1, 5, 15, 11, 9, 14, 3, 12, 13, 0]]) Tryd.underlying91 Tryd.underlying90 Tryd.underlying5 (by kernel_rfl) (by kernel_rfl) (by kernel_rfl) (by decide) hd2
  obtain ⟨m, hm⟩ := cell_of_shapedOpen_int (g := 4) (k := .i64) (zero := #[.int .i64 0]) hsh (of_decide_eq_true (by kernel_rfl)) (by kernel_rfl) rfl (by kernel_rfl) (by kernel_rfl) Tryd.underlying3
  refine ⟨m, fun g cs hg => ?_⟩
  have hmem := lookup_mem hg
  simp only [GL, List.mem_cons, Prod.mk.injEq, List.not_mem_nil, or_false] at hmem
  rcases hmem with ⟨rfl, rfl⟩ | ⟨rfl, rfl⟩ | ⟨rfl, rfl⟩
  · exact fp_of_cells (vs := ([1779033703, 3144134277, 1013904242, 2773480762, 1359893119, 2600822924, 528734635, 1541459225] : List Int).map (Value.int .u32)) (fun j v hv => by
      rw [World.var?_cell hg1 hv1 j, ← Array.getElem?_toList, e1]; exact hv) (reps_ints .u32 [1779033703, 3144134277, 1013904242, 2773480762, 1359893119, 2600822924, 528734635, 1541459225])
  · exact fp_of_cells (vs := ([0, 1, 2, 3, 4, 5, 6, 7, 8, 9, 10, 11, 12, 13, 14, 15, 14, 10, 4, 8, 9, 15, 13, 6, 1, 12, 0, 2, 11, 7, 5, 3, 11, 8, 12, 0, 5, 2, 15, 13, 10, 14, 3, 6, 7, 1, 9, 4, 7, 9, 3, 1, 13, 12, 11, 14, 2, 6, 5, 10, 4, 0, 15, 8, 9, 0, 5, 7, 2, 4, 10, 15, 14, 1, 11, 12, 6, 8, 3, 13, 2, 12, 6, 10, 0, 11, 8, 3, 4, 13, 7, 5, 15, 14, 1, 9, 12, 5, 1, 15, 14, 13, 4, 10, 0, 7, 6, 3, 9, 2, 8, 11, 13, 11, 7, 14, 12, 1, 3, 9, 5, 0, 15, 4, 8, 6, 2, 10, 6, 15, 14, 9, 11, 3, 0, 8, 12, 2, 13, 7, 1, 4, 10, 5, 10, 2, 8, 4, 7, 6, 1, 5, 15, 11, 9, 14, 3, 12, 13, 0] : List Int).map (Value.int .u8)) (fun j v hv => by
      rw [World.var?_cell hg2 hv2 j, ← Array.getElem?_toList, e2]; exact hv) (reps_ints .u8 [0, 1, 2, 3, 4, 5, 6, 7, 8, 9, 10, 11, 12, 13, 14, 15, 14, 10, 4, 8, 9, 15, 13, 6, 1, 12, 0, 2, 11, 7, 5, 3, 11, 8, 12, 0, 5, 2, 15, 13, 10, 14, 3, 6, 7, 1, 9, 4, 7, 9, 3, 1, 13, 12, 11, 14, 2, 6, 5, 10, 4, 0, 15, 8, 9, 0, 5, 7, 2, 4, 10, 15, 14, 1, 11, 12, 6, 8, 3, 13, 2, 12, 6, 10, 0, 11, 8, 3, 4, 13, 7, 5, 15, 14, 1, 9, 12, 5, 1, 15, 14, 13, 4, 10, 0, 7, 6, 3, 9, 2, 8, 11, 13, 11, 7, 14, 12, 1, 3, 9, 5, 0, 15, 4, 8, 6, 2, 10, 6, 15, 14, 9, 11, 3, 0, 8, 12, 2, 13, 7, 1, 4, 10, 5, 10, 2, 8, 4, 7, 6, 1, 5, 15, 11, 9, 14, 3, 12, 13, 0])
  · exact fp_of_cells (vs := [.int .i64 m]) (fun j v hv => by
      cases j with
      | zero => cases hv; exact hm
      | succ j => simp at hv) (.one (.int .i64 m))
end Go.Proofs.YtnebpmcmdmpoaaaDoor.R
