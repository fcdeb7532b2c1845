-- written by xprint.py (this session's program over the kit's print program)
import Derived.Test.YthmbleephognnaaQx0
namespace Go.Proofs.Ythmbleephognnaa.Q
open Go.RowKit Go.Proofs.YthmbleephognnaaW.PrintWords Go.Proofs.YthmbleephognnaaW.PrintLast Go.Proofs.YthmbleephognnaaW.PrintMore
attribute [local go_sem] max2_int min2_int max_two min_two max_three min_three max_four min_four -- for this text's walks alone
set_option linter.unusedVariables false
set_option linter.unusedSimpArgs false

/-! ### bournelaw37_few: function 9 -/
def bournelaw37_few.f (a0_0 : ByteArray) (l0_1 : List ByteArray) (a0_2 : Int) (l0_3 : List (S58)) (l0_4 : List (S98)) (l0_5 : List (S100)) (l0_6 : List (S102)) (l0_7 : List (S104)) (l0_8 : List (S106)) (l0_9 : List Int) (a0_10 : Int) (l1 : List (S45)) (l2 : List (S47)) : Option (Bool) := if (l0_3.length : Int) ≤ 64 then (if (l1.length : Int) ≤ 40 then (some (decide ((l2.length : Int) ≤ 80))) else (some false)) else (some false)
set_option maxHeartbeats 8000000 in
set_option maxRecDepth 100000 in
theorem bournelaw37_few.calls (a0_0 : ByteArray) (A0_1 : Option Addr) (c0_1 : Nat) (l0_1 : List ByteArray) (a0_2 : Int) (A0_3 : Option Addr) (c0_3 : Nat) (l0_3 : List (S58)) (A0_4 : Option Addr) (c0_4 : Nat) (l0_4 : List (S98)) (A0_5 : Option Addr) (c0_5 : Nat) (l0_5 : List (S100)) (A0_6 : Option Addr) (c0_6 : Nat) (l0_6 : List (S102)) (A0_7 : Option Addr) (c0_7 : Nat) (l0_7 : List (S104)) (A0_8 : Option Addr) (c0_8 : Nat) (l0_8 : List (S106)) (A0_9 : Option Addr) (c0_9 : Nat) (l0_9 : List Int) (a0_10 : Int) (A1 : Option Addr) (c1 : Nat) (l1 : List (S45)) (A2 : Option Addr) (c2 : Nat) (l2 : List (S47)) (r : Bool) (w : World) (hr0_1 : Kd.C Kd.string w A0_1 l0_1.length l0_1) (hc0_1 : l0_1.length ≤ c0_1) (hr0_3 : Kd.C k58 w A0_3 l0_3.length l0_3) (hc0_3 : l0_3.length ≤ c0_3) (hr0_4 : Kd.C k98 w A0_4 l0_4.length l0_4) (hc0_4 : l0_4.length ≤ c0_4) (hr0_5 : Kd.C k100 w A0_5 l0_5.length l0_5) (hc0_5 : l0_5.length ≤ c0_5) (hr0_6 : Kd.C k102 w A0_6 l0_6.length l0_6) (hc0_6 : l0_6.length ≤ c0_6) (hr0_7 : Kd.C k104 w A0_7 l0_7.length l0_7) (hc0_7 : l0_7.length ≤ c0_7) (hr0_8 : Kd.C k106 w A0_8 l0_8.length l0_8) (hc0_8 : l0_8.length ≤ c0_8) (hr0_9 : Kd.C (Kd.int .i64) w A0_9 l0_9.length l0_9) (hc0_9 : l0_9.length ≤ c0_9) (hr1 : Kd.C k45 w A1 l1.length l1) (hc1 : l1.length ≤ c1) (hr2 : Kd.C k47 w A2 l2.length l2) (hc2 : l2.length ≤ c2) (h : bournelaw37_few.f a0_0 l0_1 a0_2 l0_3 l0_4 l0_5 l0_6 l0_7 l0_8 l0_9 a0_10 l1 l2 = some r) :
  Calls Try.prog 9 #[.agg #[.string a0_0,.slice A0_1 l0_1.length c0_1,.int .i64 a0_2,.slice A0_3 l0_3.length c0_3,.slice A0_4 l0_4.length c0_4,.slice A0_5 l0_5.length c0_5,.slice A0_6 l0_6.length c0_6,.slice A0_7 l0_7.length c0_7,.slice A0_8 l0_8.length c0_8,.slice A0_9 l0_9.length c0_9,.int .i64 a0_10],.slice A1 l1.length c1,.slice A2 l2.length c2] w fun e w' => e = .returned (.bool r) ∧ Below w.heap.size w w' := by
 have hu31 := Try.underlying31
 have HR0_1 := Aside0.mk hr0_1
 have HC0_1 := Aside0.mk hc0_1
 clear hr0_1 hc0_1
 have HR0_3 := Aside0.mk hr0_3
 have HC0_3 := Aside0.mk hc0_3
 clear hr0_3 hc0_3
 have HR0_4 := Aside0.mk hr0_4
 have HC0_4 := Aside0.mk hc0_4
 clear hr0_4 hc0_4
 have HR0_5 := Aside0.mk hr0_5
 have HC0_5 := Aside0.mk hc0_5
 clear hr0_5 hc0_5
 have HR0_6 := Aside0.mk hr0_6
 have HC0_6 := Aside0.mk hc0_6
 clear hr0_6 hc0_6
 have HR0_7 := Aside0.mk hr0_7
 have HC0_7 := Aside0.mk hc0_7
 clear hr0_7 hc0_7
 have HR0_8 := Aside0.mk hr0_8
 have HC0_8 := Aside0.mk hc0_8
 clear hr0_8 hc0_8
 have HR0_9 := Aside0.mk hr0_9
 have HC0_9 := Aside0.mk hc0_9
 clear hr0_9 hc0_9
 have HR1 := Aside0.mk hr1
 have HC1 := Aside0.mk hc1
 clear hr1 hc1
 have HR2 := Aside0.mk hr2
 have HC2 := Aside0.mk hc2
 clear hr2 hc2
 have HB := Aside0.mk (Below.refl w.heap.size w)
 have H : (if (l0_3.length : Int) ≤ 64 then (if (l1.length : Int) ≤ 40 then (some (decide ((l2.length : Int) ≤ 80))) else (some false)) else (some false)) = some r := h
 clear h
 by_cases c4 : (l0_3.length : Int) ≤ 64
 ·rw [if_pos c4] at H
  have c4b0 : decide ((l0_3.length : Int) ≤ 64) = true := decide_eq_true c4
  have c4b1 : decide (l0_3.length ≤ 64) = true := decide_eq_true (by omega)
  clear c4
  by_cases c5 : (l1.length : Int) ≤ 40
  ·rw [if_pos c5] at H
   have c5b0 : decide ((l1.length : Int) ≤ 40) = true := decide_eq_true c5
   have c5b1 : decide (l1.length ≤ 40) = true := decide_eq_true (by omega)
   clear c5
   obtain rfl := Option.some.inj H
   go_enter Try.func9,Try.ntmps9
   go_wp2_with (first | ((with_reducible refine gate_dst (N := 3) rfl ?_);(try (refine gate_guard (by rfl) ?_;dsimp only));refine box_event ?hg (N := 3) ?hd (cs := #[.string a0_0,.slice A0_1 l0_1.length c0_1,.int .i64 a0_2,.slice A0_3 l0_3.length c0_3,.slice A0_4 l0_4.length c0_4,.slice A0_5 l0_5.length c0_5,.slice A0_6 l0_6.length c0_6,.slice A0_7 l0_7.length c0_7,.slice A0_8 l0_8.length c0_8,.slice A0_9 l0_9.length c0_9,.int .i64 a0_10]) (t := 31) ?hr ?_;(case hd => rfl);(case hg => rfl);(case hr => first | (go_simp;done) | (go_simp;rfl));intro gb218 hg w6 hbox hb;have n0_ := Aside0.mk (below_step (by repeat (first | (with_reducible first | exact HB.out | apply below_alloc | apply pw_below_drewN | apply below_drew1) | exact HB.out)) hb);have n1_ := Aside0.mk (hbox);have n2_ := Aside0.mk ((by rw [hg];exact (below_size (by repeat (first | (with_reducible first | exact HB.out | apply below_alloc | apply pw_below_drewN | apply below_drew1) | exact HB.out))) : w.heap.size ≤ gb218));have n3_ := Aside0.mk ((by rw [hg];exact (below_size (by repeat (first | (with_reducible first | exact HB.out | apply below_alloc | apply pw_below_drewN | apply below_drew1) | exact HB.out))) : w.heap.size ≤ gb218));clear HB;have HB := n0_;have BK218 := n1_;have GW218 := n2_;have GE218 := n3_;clear n0_ n1_ n2_ n3_;clear hb hbox hg;have hcz7_0 : w6.cell? ⟨gb218,0,none⟩ = some (.string a0_0) := (blk_cell BK218.out 0).trans rfl;have hcz7_1 : w6.cell? ⟨gb218,1,none⟩ = some (.slice A0_1 l0_1.length c0_1) := (blk_cell BK218.out 1).trans rfl;have hcz7_2 : w6.cell? ⟨gb218,2,none⟩ = some (.int .i64 a0_2) := (blk_cell BK218.out 2).trans rfl;have hcz7_3 : w6.cell? ⟨gb218,3,none⟩ = some (.slice A0_3 l0_3.length c0_3) := (blk_cell BK218.out 3).trans rfl;have hcz7_4 : w6.cell? ⟨gb218,4,none⟩ = some (.slice A0_4 l0_4.length c0_4) := (blk_cell BK218.out 4).trans rfl;have hcz7_5 : w6.cell? ⟨gb218,5,none⟩ = some (.slice A0_5 l0_5.length c0_5) := (blk_cell BK218.out 5).trans rfl;have hcz7_6 : w6.cell? ⟨gb218,6,none⟩ = some (.slice A0_6 l0_6.length c0_6) := (blk_cell BK218.out 6).trans rfl;have hcz7_7 : w6.cell? ⟨gb218,7,none⟩ = some (.slice A0_7 l0_7.length c0_7) := (blk_cell BK218.out 7).trans rfl;have hcz7_8 : w6.cell? ⟨gb218,8,none⟩ = some (.slice A0_8 l0_8.length c0_8) := (blk_cell BK218.out 8).trans rfl;have hcz7_9 : w6.cell? ⟨gb218,9,none⟩ = some (.slice A0_9 l0_9.length c0_9) := (blk_cell BK218.out 9).trans rfl;have hcz7_10 : w6.cell? ⟨gb218,10,none⟩ = some (.int .i64 a0_10) := (blk_cell BK218.out 10).trans rfl;have hfz7_0 := blk_frozen BK218.out 0;have hfz7_1 := blk_frozen BK218.out 1;have hfz7_2 := blk_frozen BK218.out 2;have hfz7_3 := blk_frozen BK218.out 3;have hfz7_4 := blk_frozen BK218.out 4;have hfz7_5 := blk_frozen BK218.out 5;have hfz7_6 := blk_frozen BK218.out 6;have hfz7_7 := blk_frozen BK218.out 7;have hfz7_8 := blk_frozen BK218.out 8;have hfz7_9 := blk_frozen BK218.out 9;have hfz7_10 := blk_frozen BK218.out 10))
   go_ret
   exact ⟨by first | rfl | (simp [errW_none,errW_some] <;> rfl) | (simp [*,errW_none,errW_some] <;> rfl),by repeat (first | (with_reducible first | exact HB.out | apply below_alloc | apply pw_below_drewN | apply below_drew1 | refine below_set ?_ GE218.out) | exact HB.out)⟩
  ·rw [if_neg c5] at H
   have c5b0 : decide ((l1.length : Int) ≤ 40) = false := decide_eq_false c5
   have c5b1 : decide (l1.length ≤ 40) = false := decide_eq_false (by omega)
   clear c5
   obtain rfl := Option.some.inj H
   go_enter Try.func9,Try.ntmps9
   go_wp2_with (first | ((with_reducible refine gate_dst (N := 3) rfl ?_);(try (refine gate_guard (by rfl) ?_;dsimp only));refine box_event ?hg (N := 3) ?hd (cs := #[.string a0_0,.slice A0_1 l0_1.length c0_1,.int .i64 a0_2,.slice A0_3 l0_3.length c0_3,.slice A0_4 l0_4.length c0_4,.slice A0_5 l0_5.length c0_5,.slice A0_6 l0_6.length c0_6,.slice A0_7 l0_7.length c0_7,.slice A0_8 l0_8.length c0_8,.slice A0_9 l0_9.length c0_9,.int .i64 a0_10]) (t := 31) ?hr ?_;(case hd => rfl);(case hg => rfl);(case hr => first | (go_simp;done) | (go_simp;rfl));intro gb218 hg w8 hbox hb;have n0_ := Aside0.mk (below_step (by repeat (first | (with_reducible first | exact HB.out | apply below_alloc | apply pw_below_drewN | apply below_drew1) | exact HB.out)) hb);have n1_ := Aside0.mk (hbox);have n2_ := Aside0.mk ((by rw [hg];exact (below_size (by repeat (first | (with_reducible first | exact HB.out | apply below_alloc | apply pw_below_drewN | apply below_drew1) | exact HB.out))) : w.heap.size ≤ gb218));have n3_ := Aside0.mk ((by rw [hg];exact (below_size (by repeat (first | (with_reducible first | exact HB.out | apply below_alloc | apply pw_below_drewN | apply below_drew1) | exact HB.out))) : w.heap.size ≤ gb218));clear HB;have HB := n0_;have BK218 := n1_;have GW218 := n2_;have GE218 := n3_;clear n0_ n1_ n2_ n3_;clear hb hbox hg;have hcz9_0 : w8.cell? ⟨gb218,0,none⟩ = some (.string a0_0) := (blk_cell BK218.out 0).trans rfl;have hcz9_1 : w8.cell? ⟨gb218,1,none⟩ = some (.slice A0_1 l0_1.length c0_1) := (blk_cell BK218.out 1).trans rfl;have hcz9_2 : w8.cell? ⟨gb218,2,none⟩ = some (.int .i64 a0_2) := (blk_cell BK218.out 2).trans rfl;have hcz9_3 : w8.cell? ⟨gb218,3,none⟩ = some (.slice A0_3 l0_3.length c0_3) := (blk_cell BK218.out 3).trans rfl;have hcz9_4 : w8.cell? ⟨gb218,4,none⟩ = some (.slice A0_4 l0_4.length c0_4) := (blk_cell BK218.out 4).trans rfl;have hcz9_5 : w8.cell? ⟨gb218,5,none⟩ = some (.slice A0_5 l0_5.length c0_5) := (blk_cell BK218.out 5).trans rfl;have hcz9_6 : w8.cell? ⟨gb218,6,none⟩ = some (.slice A0_6 l0_6.length c0_6) := (blk_cell BK218.out 6).trans rfl;have hcz9_7 : w8.cell? ⟨gb218,7,none⟩ = some (.slice A0_7 l0_7.length c0_7) := (blk_cell BK218.out 7).trans rfl;have hcz9_8 : w8.cell? ⟨gb218,8,none⟩ = some (.slice A0_8 l0_8.length c0_8) := (blk_cell BK218.out 8).trans rfl;have hcz9_9 : w8.cell? ⟨gb218,9,none⟩ = some (.slice A0_9 l0_9.length c0_9) := (blk_cell BK218.out 9).trans rfl;have hcz9_10 : w8.cell? ⟨gb218,10,none⟩ = some (.int .i64 a0_10) := (blk_cell BK218.out 10).trans rfl;have hfz9_0 := blk_frozen BK218.out 0;have hfz9_1 := blk_frozen BK218.out 1;have hfz9_2 := blk_frozen BK218.out 2;have hfz9_3 := blk_frozen BK218.out 3;have hfz9_4 := blk_frozen BK218.out 4;have hfz9_5 := blk_frozen BK218.out 5;have hfz9_6 := blk_frozen BK218.out 6;have hfz9_7 := blk_frozen BK218.out 7;have hfz9_8 := blk_frozen BK218.out 8;have hfz9_9 := blk_frozen BK218.out 9;have hfz9_10 := blk_frozen BK218.out 10))
   go_ret
   exact ⟨by first | rfl | (simp [errW_none,errW_some] <;> rfl) | (simp [*,errW_none,errW_some] <;> rfl),by repeat (first | (with_reducible first | exact HB.out | apply below_alloc | apply pw_below_drewN | apply below_drew1 | refine below_set ?_ GE218.out) | exact HB.out)⟩
 ·rw [if_neg c4] at H
  have c4b0 : decide ((l0_3.length : Int) ≤ 64) = false := decide_eq_false c4
  have c4b1 : decide (l0_3.length ≤ 64) = false := decide_eq_false (by omega)
  clear c4
  obtain rfl := Option.some.inj H
  go_enter Try.func9,Try.ntmps9
  go_wp2_with (first | ((with_reducible refine gate_dst (N := 3) rfl ?_);(try (refine gate_guard (by rfl) ?_;dsimp only));refine box_event ?hg (N := 3) ?hd (cs := #[.string a0_0,.slice A0_1 l0_1.length c0_1,.int .i64 a0_2,.slice A0_3 l0_3.length c0_3,.slice A0_4 l0_4.length c0_4,.slice A0_5 l0_5.length c0_5,.slice A0_6 l0_6.length c0_6,.slice A0_7 l0_7.length c0_7,.slice A0_8 l0_8.length c0_8,.slice A0_9 l0_9.length c0_9,.int .i64 a0_10]) (t := 31) ?hr ?_;(case hd => rfl);(case hg => rfl);(case hr => first | (go_simp;done) | (go_simp;rfl));intro gb218 hg w10 hbox hb;have n0_ := Aside0.mk (below_step (by repeat (first | (with_reducible first | exact HB.out | apply below_alloc | apply pw_below_drewN | apply below_drew1) | exact HB.out)) hb);have n1_ := Aside0.mk (hbox);have n2_ := Aside0.mk ((by rw [hg];exact (below_size (by repeat (first | (with_reducible first | exact HB.out | apply below_alloc | apply pw_below_drewN | apply below_drew1) | exact HB.out))) : w.heap.size ≤ gb218));have n3_ := Aside0.mk ((by rw [hg];exact (below_size (by repeat (first | (with_reducible first | exact HB.out | apply below_alloc | apply pw_below_drewN | apply below_drew1) | exact HB.out))) : w.heap.size ≤ gb218));clear HB;have HB := n0_;have BK218 := n1_;have GW218 := n2_;have GE218 := n3_;clear n0_ n1_ n2_ n3_;clear hb hbox hg;have hcz11_0 : w10.cell? ⟨gb218,0,none⟩ = some (.string a0_0) := (blk_cell BK218.out 0).trans rfl;have hcz11_1 : w10.cell? ⟨gb218,1,none⟩ = some (.slice A0_1 l0_1.length c0_1) := (blk_cell BK218.out 1).trans rfl;have hcz11_2 : w10.cell? ⟨gb218,2,none⟩ = some (.int .i64 a0_2) := (blk_cell BK218.out 2).trans rfl;have hcz11_3 : w10.cell? ⟨gb218,3,none⟩ = some (.slice A0_3 l0_3.length c0_3) := (blk_cell BK218.out 3).trans rfl;have hcz11_4 : w10.cell? ⟨gb218,4,none⟩ = some (.slice A0_4 l0_4.length c0_4) := (blk_cell BK218.out 4).trans rfl;have hcz11_5 : w10.cell? ⟨gb218,5,none⟩ = some (.slice A0_5 l0_5.length c0_5) := (blk_cell BK218.out 5).trans rfl;have hcz11_6 : w10.cell? ⟨gb218,6,none⟩ = some (.slice A0_6 l0_6.length c0_6) := (blk_cell BK218.out 6).trans rfl;have hcz11_7 : w10.cell? ⟨gb218,7,none⟩ = some (.slice A0_7 l0_7.length c0_7) := (blk_cell BK218.out 7).trans rfl;have hcz11_8 : w10.cell? ⟨gb218,8,none⟩ = some (.slice A0_8 l0_8.length c0_8) := (blk_cell BK218.out 8).trans rfl;have hcz11_9 : w10.cell? ⟨gb218,9,none⟩ = some (.slice A0_9 l0_9.length c0_9) := (blk_cell BK218.out 9).trans rfl;have hcz11_10 : w10.cell? ⟨gb218,10,none⟩ = some (.int .i64 a0_10) := (blk_cell BK218.out 10).trans rfl;have hfz11_0 := blk_frozen BK218.out 0;have hfz11_1 := blk_frozen BK218.out 1;have hfz11_2 := blk_frozen BK218.out 2;have hfz11_3 := blk_frozen BK218.out 3;have hfz11_4 := blk_frozen BK218.out 4;have hfz11_5 := blk_frozen BK218.out 5;have hfz11_6 := blk_frozen BK218.out 6;have hfz11_7 := blk_frozen BK218.out 7;have hfz11_8 := blk_frozen BK218.out 8;have hfz11_9 := blk_frozen BK218.out 9;have hfz11_10 := blk_frozen BK218.out 10))
  go_ret
  exact ⟨by first | rfl | (simp [errW_none,errW_some] <;> rfl) | (simp [*,errW_none,errW_some] <;> rfl),by repeat (first | (with_reducible first | exact HB.out | apply below_alloc | apply pw_below_drewN | apply below_drew1 | refine below_set ?_ GE218.out) | exact HB.out)⟩

/-! ### bourneref37_Has: function 20 -/
def bourneref37_Has.l0 : Nat → List Int → Int → Int → Option (Bool)
 | 0,_,_,_ => none
 | k + 1,x0,x1,x5 => if x5 < (x0.length : Int) then (if 0 ≤ x5 then (if (rd x0 x5) = x1 then (some true) else (bourneref37_Has.l0 k x0 x1 (wrap64 (x5 + 1)))) else (none)) else (some false)
def bourneref37_Has.f (k : Nat) (l0 : List Int) (a1 : Int) : Option (Bool) := bourneref37_Has.l0 k l0 a1 0
set_option maxHeartbeats 8000000 in
set_option maxRecDepth 100000 in
theorem bourneref37_Has.calls (k : Nat) (A0 : Option Addr) (c0 : Nat) (l0 : List Int) (a1 : Int) (r : Bool) (w : World) (hr0 : Kd.C (Kd.int .i64) w A0 l0.length l0) (hc0 : l0.length ≤ c0) (h : bourneref37_Has.f k l0 a1 = some r) :
  Calls Try.prog 20 #[.slice A0 l0.length c0,.int .i64 a1] w fun e w' => e = .returned (.bool r) ∧ Drawn0 w w' := by
 have HR0 := Aside0.mk hr0
 have HC0 := Aside0.mk hc0
 clear hr0 hc0
 have H : (bourneref37_Has.l0 k l0 a1 0) = some r := h
 clear h
 have H' := Aside0.mk H
 clear H
 go_enter Try.func20,Try.ntmps20
 go_wp2
 go_loopg [5] k (fun kq v5 w' => ∃ (x5_1 : Int),v5 = .int .i64 x5_1 ∧ Aside0 (bourneref37_Has.l0 kq l0 a1 x5_1 = some r) ∧ Aside0 (kq ≤ k) ∧ Drawn0 w w')
 case atStart => exact ⟨(0),(by first | rfl | (simp;done) | (simp [*];done)),H',⟨Nat.le_refl _⟩,by repeat (first | exact Drawn0.refl _ | apply Drawn0.step)⟩
 case round =>
  clear H'
  try clear c2
  try clear p2
  obtain ⟨x5_1,rfl,HA,HK1,⟨m1,rfl⟩⟩ := hrel
  cases gk with
  | zero => exact absurd HA.out (by simp [bourneref37_Has.l0])
  | succ k1 =>
   have H := HA.out
   clear HA
   simp only [bourneref37_Has.l0] at H
   by_cases c3 : x5_1 < (l0.length : Int)
   ·rw [if_pos c3] at H
    have c3b0 : decide (x5_1 < (l0.length : Int)) = true := decide_eq_true c3
    clear c3
    by_cases c4 : 0 ≤ x5_1
    ·rw [if_pos c4] at H
     have c4b0 : decide (0 ≤ x5_1) = true := decide_eq_true c4
     clear c4
     by_cases c5 : (rd l0 x5_1) = a1
     ·rw [if_pos c5] at H
      have c5b0 : ((rd l0 x5_1) == a1) = true := beq_iff_eq.mpr c5
      have c5b1 : ((rd l0 x5_1) != a1) = false := bne_eq_false_iff_eq.mpr c5
      clear c5
      obtain rfl := Option.some.inj H
      have p219 : 0 ≤ (x5_1 : Int) := of_decide_eq_true (by first | (with_reducible assumption) | assumption)
      have q219 : x5_1 < (l0.length : Int) := of_decide_eq_true (by first | (with_reducible assumption) | assumption)
      obtain ⟨ad219,e219,hx219_0⟩ := Kd.at_int HR0.out x5_1 p219 q219
      cases e219
      replace p219 := eq_true p219
      replace q219 := eq_true q219
      go_wp2
      go_ret
      exact ⟨by first | rfl | (simp;done) | (simp [*];done),by repeat (first | exact Drawn0.refl _ | apply Drawn0.step)⟩
     ·rw [if_neg c5] at H
      have c5b0 : ((rd l0 x5_1) == a1) = false := beq_eq_false_iff_ne.mpr c5
      have c5b1 : ((rd l0 x5_1) != a1) = true := bne_iff_ne.mpr c5
      have H' := Aside0.mk H
      clear H
      have p219 : 0 ≤ (x5_1 : Int) := of_decide_eq_true (by first | (with_reducible assumption) | assumption)
      have q219 : x5_1 < (l0.length : Int) := of_decide_eq_true (by first | (with_reducible assumption) | assumption)
      obtain ⟨ad219,e219,hx219_0⟩ := Kd.at_int HR0.out x5_1 p219 q219
      cases e219
      replace p219 := eq_true p219
      replace q219 := eq_true q219
      go_wp2
      go_roundg k1
      case measure => have := HK1.out;omega
      case rel => exact ⟨(wrap64 (x5_1 + 1)),(by first | rfl | (simp;done) | (simp [*];done)),H',⟨by have := HK1.out;omega⟩,by repeat (first | exact Drawn0.refl _ | apply Drawn0.step)⟩
    ·rw [if_neg c4] at H
     exact absurd H (by simp)
   ·rw [if_neg c3] at H
    have c3b0 : decide (x5_1 < (l0.length : Int)) = false := decide_eq_false c3
    clear c3
    obtain rfl := Option.some.inj H
    go_wp2
    go_ret
    exact ⟨by first | rfl | (simp;done) | (simp [*];done),by repeat (first | exact Drawn0.refl _ | apply Drawn0.step)⟩

/-! ### bourneref37_Reach: function 14 -/
mutual
def bourneref37_Reach.l0 : Nat → Int → List Int → ByteArray → List ByteArray → Int → List (S58) → List (S98) → List (S100) → List (S102) → List (S104) → List (S106) → List Int → Int → Option (List Int)
 | 0,_,_,_,_,_,_,_,_,_,_,_,_,_ => none
 | k + 1,x1,x5,x221000,x221001,x221002,x221003,x221004,x221005,x221006,x221007,x221008,x221009,x221010 => if x1 ≥ 0 then (if x1 < (x221003.length : Int) then ((bourneref37_Has.f k x5 x1).bind fun t221 => (bourneref37_Reach.j1 k x1 x5 (!t221) x221000 x221001 x221002 x221003 x221004 x221005 x221006 x221007 x221008 x221009 x221010)) else (bourneref37_Reach.j1 k x1 x5 false x221000 x221001 x221002 x221003 x221004 x221005 x221006 x221007 x221008 x221009 x221010)) else (bourneref37_Reach.j1 k x1 x5 false x221000 x221001 x221002 x221003 x221004 x221005 x221006 x221007 x221008 x221009 x221010)
def bourneref37_Reach.j1 : Nat → Int → List Int → Bool → ByteArray → List ByteArray → Int → List (S58) → List (S98) → List (S100) → List (S102) → List (S104) → List (S106) → List Int → Int → Option (List Int)
 | 0,_,_,_,_,_,_,_,_,_,_,_,_,_,_ => none
 | k + 1,x1,x5,x20,x221000,x221001,x221002,x221003,x221004,x221005,x221006,x221007,x221008,x221009,x221010 => if x20 = true then (if x5.length < 17592186044416 then ((some (x5 ++ [x1] : List Int)).bind fun y222 => (if 0 ≤ x1 then (if x1 < (x221003.length : Int) then (if ((rd_T58 x221003 x1).f9) ≥ 24 then (some y222) else (bourneref37_Reach.l0 k ((rd_T58 x221003 x1).f8) y222 x221000 x221001 x221002 x221003 x221004 x221005 x221006 x221007 x221008 x221009 x221010)) else (none)) else (none))) else (none)) else (some x5)
end
def bourneref37_Reach.f (k : Nat) (a0_0 : ByteArray) (l0_1 : List ByteArray) (a0_2 : Int) (l0_3 : List (S58)) (l0_4 : List (S98)) (l0_5 : List (S100)) (l0_6 : List (S102)) (l0_7 : List (S104)) (l0_8 : List (S106)) (l0_9 : List Int) (a0_10 : Int) (a1 : Int) : Option (List Int) := bourneref37_Reach.l0 k a1 ([] : List Int) a0_0 l0_1 a0_2 l0_3 l0_4 l0_5 l0_6 l0_7 l0_8 l0_9 a0_10
set_option maxHeartbeats 8000000 in
set_option maxRecDepth 100000 in
theorem bourneref37_Reach.calls (k : Nat) (a0_0 : ByteArray) (A0_1 : Option Addr) (c0_1 : Nat) (l0_1 : List ByteArray) (a0_2 : Int) (A0_3 : Option Addr) (c0_3 : Nat) (l0_3 : List (S58)) (A0_4 : Option Addr) (c0_4 : Nat) (l0_4 : List (S98)) (A0_5 : Option Addr) (c0_5 : Nat) (l0_5 : List (S100)) (A0_6 : Option Addr) (c0_6 : Nat) (l0_6 : List (S102)) (A0_7 : Option Addr) (c0_7 : Nat) (l0_7 : List (S104)) (A0_8 : Option Addr) (c0_8 : Nat) (l0_8 : List (S106)) (A0_9 : Option Addr) (c0_9 : Nat) (l0_9 : List Int) (a0_10 : Int) (a1 : Int) (r : List Int) (w : World) (hr0_1 : Kd.C Kd.string w A0_1 l0_1.length l0_1) (hc0_1 : l0_1.length ≤ c0_1) (hr0_3 : Kd.C k58 w A0_3 l0_3.length l0_3) (hc0_3 : l0_3.length ≤ c0_3) (hr0_4 : Kd.C k98 w A0_4 l0_4.length l0_4) (hc0_4 : l0_4.length ≤ c0_4) (hr0_5 : Kd.C k100 w A0_5 l0_5.length l0_5) (hc0_5 : l0_5.length ≤ c0_5) (hr0_6 : Kd.C k102 w A0_6 l0_6.length l0_6) (hc0_6 : l0_6.length ≤ c0_6) (hr0_7 : Kd.C k104 w A0_7 l0_7.length l0_7) (hc0_7 : l0_7.length ≤ c0_7) (hr0_8 : Kd.C k106 w A0_8 l0_8.length l0_8) (hc0_8 : l0_8.length ≤ c0_8) (hr0_9 : Kd.C (Kd.int .i64) w A0_9 l0_9.length l0_9) (hc0_9 : l0_9.length ≤ c0_9) (h : bourneref37_Reach.f k a0_0 l0_1 a0_2 l0_3 l0_4 l0_5 l0_6 l0_7 l0_8 l0_9 a0_10 a1 = some r) :
  Calls Try.prog 14 #[.agg #[.string a0_0,.slice A0_1 l0_1.length c0_1,.int .i64 a0_2,.slice A0_3 l0_3.length c0_3,.slice A0_4 l0_4.length c0_4,.slice A0_5 l0_5.length c0_5,.slice A0_6 l0_6.length c0_6,.slice A0_7 l0_7.length c0_7,.slice A0_8 l0_8.length c0_8,.slice A0_9 l0_9.length c0_9,.int .i64 a0_10],.int .i64 a1] w fun e w' => ∃ v0_ : Value,e = .returned (v0_) ∧ Kd.R (Kd.int .i64) 3 w' w.heap.size (fun _ => True) v0_ r ∧ Below w.heap.size w w' := by
 have hu31 := Try.underlying31
 have HR0_1 := Aside0.mk hr0_1
 have HC0_1 := Aside0.mk hc0_1
 clear hr0_1 hc0_1
 have HR0_3 := Aside0.mk hr0_3
 have HC0_3 := Aside0.mk hc0_3
 clear hr0_3 hc0_3
 have HR0_4 := Aside0.mk hr0_4
 have HC0_4 := Aside0.mk hc0_4
 clear hr0_4 hc0_4
 have HR0_5 := Aside0.mk hr0_5
 have HC0_5 := Aside0.mk hc0_5
 clear hr0_5 hc0_5
 have HR0_6 := Aside0.mk hr0_6
 have HC0_6 := Aside0.mk hc0_6
 clear hr0_6 hc0_6
 have HR0_7 := Aside0.mk hr0_7
 have HC0_7 := Aside0.mk hc0_7
 clear hr0_7 hc0_7
 have HR0_8 := Aside0.mk hr0_8
 have HC0_8 := Aside0.mk hc0_8
 clear hr0_8 hc0_8
 have HR0_9 := Aside0.mk hr0_9
 have HC0_9 := Aside0.mk hc0_9
 clear hr0_9 hc0_9
 have HB := Aside0.mk (Below.refl w.heap.size w)
 have H : (bourneref37_Reach.l0 k a1 ([] : List Int) a0_0 l0_1 a0_2 l0_3 l0_4 l0_5 l0_6 l0_7 l0_8 l0_9 a0_10) = some r := h
 clear h
 have H' := Aside0.mk H
 clear H
 go_enter Try.func14,Try.ntmps14
 go_wp2_with (first | ((with_reducible refine gate_dst (N := 2) rfl ?_);(try (refine gate_guard (by rfl) ?_;dsimp only));refine box_event ?hg (N := 2) ?hd (cs := #[.string a0_0,.slice A0_1 l0_1.length c0_1,.int .i64 a0_2,.slice A0_3 l0_3.length c0_3,.slice A0_4 l0_4.length c0_4,.slice A0_5 l0_5.length c0_5,.slice A0_6 l0_6.length c0_6,.slice A0_7 l0_7.length c0_7,.slice A0_8 l0_8.length c0_8,.slice A0_9 l0_9.length c0_9,.int .i64 a0_10]) (t := 31) ?hr ?_;(case hd => rfl);(case hg => rfl);(case hr => first | (go_simp;done) | (go_simp;rfl));intro gb220 hg w3 hbox hb;have n0_ := Aside0.mk (below_step (by repeat (first | (with_reducible first | exact HB.out | apply below_alloc | apply pw_below_drewN | apply below_drew1) | exact HB.out)) hb);have n1_ := Aside0.mk (hbox);have n2_ := Aside0.mk ((by rw [hg];exact (below_size (by repeat (first | (with_reducible first | exact HB.out | apply below_alloc | apply pw_below_drewN | apply below_drew1) | exact HB.out))) : w.heap.size ≤ gb220));have n3_ := Aside0.mk ((by rw [hg];exact (below_size (by repeat (first | (with_reducible first | exact HB.out | apply below_alloc | apply pw_below_drewN | apply below_drew1) | exact HB.out))) : w.heap.size ≤ gb220));clear HB;have HB := n0_;have BK220 := n1_;have GW220 := n2_;have GE220 := n3_;clear n0_ n1_ n2_ n3_;clear hb hbox hg))
 go_loopg [1,5] k (fun kq v1 v5 w' => ∃ (x1_1 : Int) (x5_1 : List Int),v1 = .int .i64 x1_1 ∧ Aside0 (bourneref37_Reach.l0 kq x1_1 x5_1 a0_0 l0_1 a0_2 l0_3 l0_4 l0_5 l0_6 l0_7 l0_8 l0_9 a0_10 = some r) ∧ Aside0 (kq ≤ k) ∧ Aside0 (Kd.R (Kd.int .i64) 3 w' w.heap.size (fun _ => True) v5 x5_1) ∧ Aside0 (w'.heap[gb220]? = some (.cells #[.string a0_0,(.slice A0_1 l0_1.length c0_1),.int .i64 a0_2,(.slice A0_3 l0_3.length c0_3),(.slice A0_4 l0_4.length c0_4),(.slice A0_5 l0_5.length c0_5),(.slice A0_6 l0_6.length c0_6),(.slice A0_7 l0_7.length c0_7),(.slice A0_8 l0_8.length c0_8),(.slice A0_9 l0_9.length c0_9),.int .i64 a0_10] 31 (0,0))) ∧ Aside0 (Below w.heap.size w w'))
 case atStart => exact ⟨(a1),(([] : List Int)),(by first | rfl | (simp;done) | (simp [*];done)),H',⟨Nat.le_refl _⟩,⟨by first | exact Kd.R_nil _ _ _ _ _ | exact Kd.N_nil _ _ _ _ _ | exact Kd.V_nil _ _ _ _ _ | exact Kd.Q_nil _ _ _ _ _ | exact Kd.S_nil _ _ _ _ _⟩,⟨by (with_reducible repeat (first | refine blk_drewN ?_ _ | refine blk_drew ?_ | refine blk_alloc ?_ _));exact BK220.out⟩,⟨by repeat (first | (with_reducible first | exact HB.out | apply below_alloc | apply pw_below_drewN | apply below_drew1 | refine below_set ?_ GE220.out) | exact HB.out)⟩⟩
 case round =>
  clear H'
  try clear c1
  try clear p2
  obtain ⟨x1_1,x5_1,rfl,HA,HK1,HO_5,BK220,HB⟩ := hrel
  cases gk with
  | zero => exact absurd HA.out (by simp [bourneref37_Reach.l0])
  | succ k1 =>
   have H := HA.out
   clear HA
   simp only [bourneref37_Reach.l0] at H
   have HC4 := Aside0.mk H
   clear H
   go_upto_region 2 with (fail)
   go_cut [20] (fun v20 wc => ∃ (kq : Nat) (x20_3 : Bool),v20 = .bool x20_3 ∧ Aside0 (bourneref37_Reach.j1 kq x1_1 x5_1 x20_3 a0_0 l0_1 a0_2 l0_3 l0_4 l0_5 l0_6 l0_7 l0_8 l0_9 a0_10 = some r) ∧ Aside0 (kq ≤ k1) ∧ Aside0 (Kd.R (Kd.int .i64) 3 wc w.heap.size (fun _ => True) u5 x5_1) ∧ Aside0 (wc.heap[gb220]? = some (.cells #[.string a0_0,(.slice A0_1 l0_1.length c0_1),.int .i64 a0_2,(.slice A0_3 l0_3.length c0_3),(.slice A0_4 l0_4.length c0_4),(.slice A0_5 l0_5.length c0_5),(.slice A0_6 l0_6.length c0_6),(.slice A0_7 l0_7.length c0_7),(.slice A0_8 l0_8.length c0_8),(.slice A0_9 l0_9.length c0_9),.int .i64 a0_10] 31 (0,0))) ∧ Aside0 (Below w.heap.size w wc))
   case first =>
    have H := HC4.out
    clear HC4
    by_cases c5 : x1_1 ≥ 0
    ·rw [if_pos c5] at H
     have c5b0 : decide (0 ≤ x1_1) = true := decide_eq_true c5
     clear c5
     (first | rw [c5b0] | (simp only [i64_w,i32_w];rw [c5b0]) | skip)
     by_cases c6 : x1_1 < (l0_3.length : Int)
     ·rw [if_pos c6] at H
      have c6b0 : decide (x1_1 < (l0_3.length : Int)) = true := decide_eq_true c6
      clear c6
      replace H := Option.bind_eq_some_iff.mp H
      obtain ⟨t221,A70,H⟩ := H
      replace H : (bourneref37_Reach.j1 k1 x1_1 x5_1 (!t221) a0_0 l0_1 a0_2 l0_3 l0_4 l0_5 l0_6 l0_7 l0_8 l0_9 a0_10) = some r := H
      have A7 := Aside0.mk A70
      clear A70
      have H' := Aside0.mk H
      clear H
      have hcz8_0 : wr.cell? ⟨gb220,0,none⟩ = some (.string a0_0) := (blk_cell BK220.out 0).trans rfl
      have hcz8_1 : wr.cell? ⟨gb220,1,none⟩ = some (.slice A0_1 l0_1.length c0_1) := (blk_cell BK220.out 1).trans rfl
      have hcz8_2 : wr.cell? ⟨gb220,2,none⟩ = some (.int .i64 a0_2) := (blk_cell BK220.out 2).trans rfl
      have hcz8_3 : wr.cell? ⟨gb220,3,none⟩ = some (.slice A0_3 l0_3.length c0_3) := (blk_cell BK220.out 3).trans rfl
      have hcz8_4 : wr.cell? ⟨gb220,4,none⟩ = some (.slice A0_4 l0_4.length c0_4) := (blk_cell BK220.out 4).trans rfl
      have hcz8_5 : wr.cell? ⟨gb220,5,none⟩ = some (.slice A0_5 l0_5.length c0_5) := (blk_cell BK220.out 5).trans rfl
      have hcz8_6 : wr.cell? ⟨gb220,6,none⟩ = some (.slice A0_6 l0_6.length c0_6) := (blk_cell BK220.out 6).trans rfl
      have hcz8_7 : wr.cell? ⟨gb220,7,none⟩ = some (.slice A0_7 l0_7.length c0_7) := (blk_cell BK220.out 7).trans rfl
      have hcz8_8 : wr.cell? ⟨gb220,8,none⟩ = some (.slice A0_8 l0_8.length c0_8) := (blk_cell BK220.out 8).trans rfl
      have hcz8_9 : wr.cell? ⟨gb220,9,none⟩ = some (.slice A0_9 l0_9.length c0_9) := (blk_cell BK220.out 9).trans rfl
      have hcz8_10 : wr.cell? ⟨gb220,10,none⟩ = some (.int .i64 a0_10) := (blk_cell BK220.out 10).trans rfl
      have hfz8_0 := blk_frozen BK220.out 0
      have hfz8_1 := blk_frozen BK220.out 1
      have hfz8_2 := blk_frozen BK220.out 2
      have hfz8_3 := blk_frozen BK220.out 3
      have hfz8_4 := blk_frozen BK220.out 4
      have hfz8_5 := blk_frozen BK220.out 5
      have hfz8_6 := blk_frozen BK220.out 6
      have hfz8_7 := blk_frozen BK220.out 7
      have hfz8_8 := blk_frozen BK220.out 8
      have hfz8_9 := blk_frozen BK220.out 9
      have hfz8_10 := blk_frozen BK220.out 10
      obtain ⟨Ao9,co9,eo9⟩ := Kd.R_slice HO_5.out
      subst eo9
      go_wp2_with (first | (go_at_call 20;(with_reducible refine (bourneref37_Has.calls k1 _ _ x5_1 x1_1 t221 _ ?side1 ?side2 A7.out).mono ?_);(case side1 => repeat (first | exact (Kd.R_reads' HO_5.out).2.2 | (with_reducible refine Kd.C_alloc ?_ _) | (with_reducible refine Kd.C_drewN ?_ _) | (with_reducible refine Kd.C_drew ?_)));(case side2 => exact (Kd.R_reads' HO_5.out).2.1);rintro e w' ⟨rfl,⟨nd,rfl⟩⟩))
      go_meet
      case rel => exact ⟨_,(!t221),(by first | rfl | (simp;done) | (simp [*];done)),H',⟨by have := HK1.out;first | omega | exact Nat.le_refl _⟩,⟨by (with_reducible repeat (first | apply Kd.R_alloc | apply Kd.R_drewN | apply Kd.R_drew));exact HO_5.out⟩,⟨by (with_reducible repeat (first | refine blk_drewN ?_ _ | refine blk_drew ?_ | refine blk_alloc ?_ _));exact BK220.out⟩,⟨by repeat (first | (with_reducible first | exact HB.out | apply below_alloc | apply pw_below_drewN | apply below_drew1 | refine below_set ?_ GE220.out) | exact HB.out)⟩⟩
     ·rw [if_neg c6] at H
      have c6b0 : decide (x1_1 < (l0_3.length : Int)) = false := decide_eq_false c6
      clear c6
      have H' := Aside0.mk H
      clear H
      have hcz10_0 : wr.cell? ⟨gb220,0,none⟩ = some (.string a0_0) := (blk_cell BK220.out 0).trans rfl
      have hcz10_1 : wr.cell? ⟨gb220,1,none⟩ = some (.slice A0_1 l0_1.length c0_1) := (blk_cell BK220.out 1).trans rfl
      have hcz10_2 : wr.cell? ⟨gb220,2,none⟩ = some (.int .i64 a0_2) := (blk_cell BK220.out 2).trans rfl
      have hcz10_3 : wr.cell? ⟨gb220,3,none⟩ = some (.slice A0_3 l0_3.length c0_3) := (blk_cell BK220.out 3).trans rfl
      have hcz10_4 : wr.cell? ⟨gb220,4,none⟩ = some (.slice A0_4 l0_4.length c0_4) := (blk_cell BK220.out 4).trans rfl
      have hcz10_5 : wr.cell? ⟨gb220,5,none⟩ = some (.slice A0_5 l0_5.length c0_5) := (blk_cell BK220.out 5).trans rfl
      have hcz10_6 : wr.cell? ⟨gb220,6,none⟩ = some (.slice A0_6 l0_6.length c0_6) := (blk_cell BK220.out 6).trans rfl
      have hcz10_7 : wr.cell? ⟨gb220,7,none⟩ = some (.slice A0_7 l0_7.length c0_7) := (blk_cell BK220.out 7).trans rfl
      have hcz10_8 : wr.cell? ⟨gb220,8,none⟩ = some (.slice A0_8 l0_8.length c0_8) := (blk_cell BK220.out 8).trans rfl
      have hcz10_9 : wr.cell? ⟨gb220,9,none⟩ = some (.slice A0_9 l0_9.length c0_9) := (blk_cell BK220.out 9).trans rfl
      have hcz10_10 : wr.cell? ⟨gb220,10,none⟩ = some (.int .i64 a0_10) := (blk_cell BK220.out 10).trans rfl
      have hfz10_0 := blk_frozen BK220.out 0
      have hfz10_1 := blk_frozen BK220.out 1
      have hfz10_2 := blk_frozen BK220.out 2
      have hfz10_3 := blk_frozen BK220.out 3
      have hfz10_4 := blk_frozen BK220.out 4
      have hfz10_5 := blk_frozen BK220.out 5
      have hfz10_6 := blk_frozen BK220.out 6
      have hfz10_7 := blk_frozen BK220.out 7
      have hfz10_8 := blk_frozen BK220.out 8
      have hfz10_9 := blk_frozen BK220.out 9
      have hfz10_10 := blk_frozen BK220.out 10
      go_wp2
      go_meet
      case rel => exact ⟨_,(false),(by first | rfl | (simp;done) | (simp [*];done)),H',⟨by have := HK1.out;first | omega | exact Nat.le_refl _⟩,⟨by (with_reducible repeat (first | apply Kd.R_alloc | apply Kd.R_drewN | apply Kd.R_drew));exact HO_5.out⟩,⟨by (with_reducible repeat (first | refine blk_drewN ?_ _ | refine blk_drew ?_ | refine blk_alloc ?_ _));exact BK220.out⟩,⟨by repeat (first | (with_reducible first | exact HB.out | apply below_alloc | apply pw_below_drewN | apply below_drew1 | refine below_set ?_ GE220.out) | exact HB.out)⟩⟩
    ·rw [if_neg c5] at H
     have c5b0 : decide (0 ≤ x1_1) = false := decide_eq_false c5
     clear c5
     (first | rw [c5b0] | (simp only [i64_w,i32_w];rw [c5b0]) | skip)
     have H' := Aside0.mk H
     clear H
     go_wp2
     go_meet
     case rel => exact ⟨_,(false),(by first | rfl | (simp;done) | (simp [*];done)),H',⟨by have := HK1.out;first | omega | exact Nat.le_refl _⟩,⟨by (with_reducible repeat (first | apply Kd.R_alloc | apply Kd.R_drewN | apply Kd.R_drew));exact HO_5.out⟩,⟨by (with_reducible repeat (first | refine blk_drewN ?_ _ | refine blk_drew ?_ | refine blk_alloc ?_ _));exact BK220.out⟩,⟨by repeat (first | (with_reducible first | exact HB.out | apply below_alloc | apply pw_below_drewN | apply below_drew1 | refine below_set ?_ GE220.out) | exact HB.out)⟩⟩
   case rest =>
    clear HC4
    try clear c1
    try clear p2
    try clear c5
    try clear c5b0
    try clear c6
    try clear c6b0
    try clear hcz10_0
    try clear hcz10_1
    try clear hcz10_10
    try clear hcz10_2
    try clear hcz10_3
    try clear hcz10_4
    try clear hcz10_5
    try clear hcz10_6
    try clear hcz10_7
    try clear hcz10_8
    try clear hcz10_9
    try clear hcz8_0
    try clear hcz8_1
    try clear hcz8_10
    try clear hcz8_2
    try clear hcz8_3
    try clear hcz8_4
    try clear hcz8_5
    try clear hcz8_6
    try clear hcz8_7
    try clear hcz8_8
    try clear hcz8_9
    try clear hfz10_0
    try clear hfz10_1
    try clear hfz10_10
    try clear hfz10_2
    try clear hfz10_3
    try clear hfz10_4
    try clear hfz10_5
    try clear hfz10_6
    try clear hfz10_7
    try clear hfz10_8
    try clear hfz10_9
    try clear hfz8_0
    try clear hfz8_1
    try clear hfz8_10
    try clear hfz8_2
    try clear hfz8_3
    try clear hfz8_4
    try clear hfz8_5
    try clear hfz8_6
    try clear hfz8_7
    try clear hfz8_8
    try clear hfz8_9
    try clear p2
    obtain ⟨kq,x20_3,rfl,HA,HJ3,HO_5,BK220,HB⟩ := hcut
    cases kq with
    | zero => exact absurd HA.out (by simp [bourneref37_Reach.j1])
    | succ kj3 =>
     have H := HA.out
     clear HA
     simp only [bourneref37_Reach.j1] at H
     by_cases c11 : x20_3 = true
     ·subst c11
      have H1 : (if x5_1.length < 17592186044416 then ((some (x5_1 ++ [x1_1] : List Int)).bind fun y222 => (if 0 ≤ x1_1 then (if x1_1 < (l0_3.length : Int) then (if ((rd_T58 l0_3 x1_1).f9) ≥ 24 then (some y222) else (bourneref37_Reach.l0 kj3 ((rd_T58 l0_3 x1_1).f8) y222 a0_0 l0_1 a0_2 l0_3 l0_4 l0_5 l0_6 l0_7 l0_8 l0_9 a0_10)) else (none)) else (none))) else (none)) = some r := by rw [if_pos rfl] at H;exact H
      clear H
      have H := H1
      clear H1
      by_cases c12 : x5_1.length < 17592186044416
      ·rw [if_pos c12] at H
       have LMc12 := Aside0.mk c12
       clear c12
       obtain ⟨y222,hy222⟩ : ∃ y_ : List Int,y_ = (x5_1 ++ [x1_1]) := ⟨_,rfl⟩
       replace H : (if 0 ≤ x1_1 then (if x1_1 < (l0_3.length : Int) then (if ((rd_T58 l0_3 x1_1).f9) ≥ 24 then (some y222) else (bourneref37_Reach.l0 kj3 ((rd_T58 l0_3 x1_1).f8) y222 a0_0 l0_1 a0_2 l0_3 l0_4 l0_5 l0_6 l0_7 l0_8 l0_9 a0_10)) else (none)) else (none)) = some r := by first | (rw [hy222];with_reducible exact H) | (have H2_ := (Option.bind_some _ _).symm.trans H;rw [hy222];with_reducible exact H2_) | (have H2_ := (Option.bind_some _ _).symm.trans H;with_reducible exact H2_) | with_reducible exact H | (rw [hy222];exact H) | exact H
       have Ny222 := Aside0.mk hy222
       clear hy222
       by_cases c13 : 0 ≤ x1_1
       ·rw [if_pos c13] at H
        have c13b0 : decide (0 ≤ x1_1) = true := decide_eq_true c13
        clear c13
        by_cases c14 : x1_1 < (l0_3.length : Int)
        ·rw [if_pos c14] at H
         have c14b0 : decide (x1_1 < (l0_3.length : Int)) = true := decide_eq_true c14
         clear c14
         by_cases c15 : ((rd_T58 l0_3 x1_1).f9) ≥ 24
         ·rw [if_pos c15] at H
          have c15b0 : decide (24 ≤ ((rd_T58 l0_3 x1_1).f9)) = true := decide_eq_true c15
          clear c15
          obtain rfl := Option.some.inj H
          go_wp2_with (first | ((with_reducible refine gate_builtin (b := .append) (xs := #[.tmp 21,.tmp 23]) rfl ?_);(try (refine gate_guard (by rfl) ?_;dsimp only));at_builtin;refine Kd.R_append (Kd.int .i64) (w0 := w) w.heap.size rfl (.tmp 21) (.tmp 23) 29 3 (.int .i64 0) 8 rfl Try.underlying29 info3 rfl (by decide) (by omega) u5 x5_1 x1_1 [.int .i64 x1_1] (fun _ => True) (fun _ => False) rfl rfl ?aP (fun _ hk => hk.elim) ?aF ?aO ?aB ?aS ?aL ?_;(case aP => exact rfl);(case aB => exact (by repeat (first | (with_reducible first | exact HB.out | apply below_alloc | apply pw_below_drewN | apply below_drew1 | refine below_set ?_ GE220.out) | exact HB.out)));(case aF => exact (fun _ _ => trivial));(case aO => exact (by (with_reducible repeat (first | apply Kd.R_alloc | apply Kd.R_drewN | apply Kd.R_drew));exact HO_5.out));(case aS => exact (below_size (by repeat (first | (with_reducible first | exact HB.out | apply below_alloc | apply pw_below_drewN | apply below_drew1 | refine below_set ?_ GE220.out) | exact HB.out))));(case aL => have := LMc12.out;omega);intro v223 w16 ho hb hg hat;rw [← Ny222.out] at ho;have n0_ := Aside0.mk (blk_grown (g := gb220) (o := .cells #[.string a0_0,.slice A0_1 l0_1.length c0_1,.int .i64 a0_2,.slice A0_3 l0_3.length c0_3,.slice A0_4 l0_4.length c0_4,.slice A0_5 l0_5.length c0_5,.slice A0_6 l0_6.length c0_6,.slice A0_7 l0_7.length c0_7,.slice A0_8 l0_8.length c0_8,.slice A0_9 l0_9.length c0_9,.int .i64 a0_10] 31 (0,0)) (by (with_reducible repeat (first | refine blk_drewN ?_ _ | refine blk_drew ?_ | refine blk_alloc ?_ _));exact BK220.out) hg (Kd.R_ne HO_5.out BK220.out (by decide)));have n1_ := Aside0.mk (hb);have n2_ := Aside0.mk (ho);clear BK220;clear HB;clear HO_5;have BK220 := n0_;have HB := n1_;have HO224 := n2_;clear n0_ n1_ n2_;clear ho hb hg hat;have hcz17_0 : w16.cell? ⟨gb220,0,none⟩ = some (.string a0_0) := (blk_cell BK220.out 0).trans rfl;have hcz17_1 : w16.cell? ⟨gb220,1,none⟩ = some (.slice A0_1 l0_1.length c0_1) := (blk_cell BK220.out 1).trans rfl;have hcz17_2 : w16.cell? ⟨gb220,2,none⟩ = some (.int .i64 a0_2) := (blk_cell BK220.out 2).trans rfl;have hcz17_3 : w16.cell? ⟨gb220,3,none⟩ = some (.slice A0_3 l0_3.length c0_3) := (blk_cell BK220.out 3).trans rfl;have hcz17_4 : w16.cell? ⟨gb220,4,none⟩ = some (.slice A0_4 l0_4.length c0_4) := (blk_cell BK220.out 4).trans rfl;have hcz17_5 : w16.cell? ⟨gb220,5,none⟩ = some (.slice A0_5 l0_5.length c0_5) := (blk_cell BK220.out 5).trans rfl;have hcz17_6 : w16.cell? ⟨gb220,6,none⟩ = some (.slice A0_6 l0_6.length c0_6) := (blk_cell BK220.out 6).trans rfl;have hcz17_7 : w16.cell? ⟨gb220,7,none⟩ = some (.slice A0_7 l0_7.length c0_7) := (blk_cell BK220.out 7).trans rfl;have hcz17_8 : w16.cell? ⟨gb220,8,none⟩ = some (.slice A0_8 l0_8.length c0_8) := (blk_cell BK220.out 8).trans rfl;have hcz17_9 : w16.cell? ⟨gb220,9,none⟩ = some (.slice A0_9 l0_9.length c0_9) := (blk_cell BK220.out 9).trans rfl;have hcz17_10 : w16.cell? ⟨gb220,10,none⟩ = some (.int .i64 a0_10) := (blk_cell BK220.out 10).trans rfl;have hfz17_0 := blk_frozen BK220.out 0;have hfz17_1 := blk_frozen BK220.out 1;have hfz17_2 := blk_frozen BK220.out 2;have hfz17_3 := blk_frozen BK220.out 3;have hfz17_4 := blk_frozen BK220.out 4;have hfz17_5 := blk_frozen BK220.out 5;have hfz17_6 := blk_frozen BK220.out 6;have hfz17_7 := blk_frozen BK220.out 7;have hfz17_8 := blk_frozen BK220.out 8;have hfz17_9 := blk_frozen BK220.out 9;have hfz17_10 := blk_frozen BK220.out 10;have p225 : 0 ≤ (x1_1 : Int) := of_decide_eq_true (by first | (with_reducible assumption) | assumption);have q225 : x1_1 < (l0_3.length : Int) := of_decide_eq_true (by first | (with_reducible assumption) | assumption);obtain ⟨ad225,A225_4,c225_4,A225_5,c225_5,A225_11,c225_11,e225,hx225_0,hx225_1,hx225_2,hx225_3,hx225_4,hx225_5,hx225_6,hx225_7,hx225_8,hx225_9,hx225_10,hx225_11,hl225_4,hi225_4,hl225_5,hi225_5,hl225_11,hi225_11⟩ := at_T58 HR0_3.out x1_1 p225 q225;cases e225;replace hx225_0 := (HB.out.cell (World.block_lt_of_cell? w _ hx225_0)).trans hx225_0;replace hx225_1 := (HB.out.cell (World.block_lt_of_cell? w _ hx225_1)).trans hx225_1;replace hx225_2 := (HB.out.cell (World.block_lt_of_cell? w _ hx225_2)).trans hx225_2;replace hx225_3 := (HB.out.cell (World.block_lt_of_cell? w _ hx225_3)).trans hx225_3;replace hx225_4 := (HB.out.cell (World.block_lt_of_cell? w _ hx225_4)).trans hx225_4;replace hx225_5 := (HB.out.cell (World.block_lt_of_cell? w _ hx225_5)).trans hx225_5;replace hx225_6 := (HB.out.cell (World.block_lt_of_cell? w _ hx225_6)).trans hx225_6;replace hx225_7 := (HB.out.cell (World.block_lt_of_cell? w _ hx225_7)).trans hx225_7;replace hx225_8 := (HB.out.cell (World.block_lt_of_cell? w _ hx225_8)).trans hx225_8;replace hx225_9 := (HB.out.cell (World.block_lt_of_cell? w _ hx225_9)).trans hx225_9;replace hx225_10 := (HB.out.cell (World.block_lt_of_cell? w _ hx225_10)).trans hx225_10;replace hx225_11 := (HB.out.cell (World.block_lt_of_cell? w _ hx225_11)).trans hx225_11;have HR225_4 := Aside0.mk hi225_4;have HC225_4 := Aside0.mk hl225_4;clear hi225_4 hl225_4;have HR225_5 := Aside0.mk hi225_5;have HC225_5 := Aside0.mk hl225_5;clear hi225_5 hl225_5;have HR225_11 := Aside0.mk hi225_11;have HC225_11 := Aside0.mk hl225_11;clear hi225_11 hl225_11;replace p225 := eq_true p225;replace q225 := eq_true q225))
          go_ret
          exact ⟨_,by first | rfl | (simp [errW_none,errW_some] <;> rfl) | (simp [*,errW_none,errW_some] <;> rfl),by (with_reducible repeat (first | apply Kd.R_alloc | apply Kd.R_drewN | apply Kd.R_drew));exact HO224.out,by repeat (first | (with_reducible first | exact HB.out | apply below_alloc | apply pw_below_drewN | apply below_drew1 | refine below_set ?_ GE220.out) | exact HB.out)⟩
         ·rw [if_neg c15] at H
          have c15b0 : decide (24 ≤ ((rd_T58 l0_3 x1_1).f9)) = false := decide_eq_false c15
          clear c15
          have H' := Aside0.mk H
          clear H
          go_wp2_with (first | ((with_reducible refine gate_builtin (b := .append) (xs := #[.tmp 21,.tmp 23]) rfl ?_);(try (refine gate_guard (by rfl) ?_;dsimp only));at_builtin;refine Kd.R_append (Kd.int .i64) (w0 := w) w.heap.size rfl (.tmp 21) (.tmp 23) 29 3 (.int .i64 0) 8 rfl Try.underlying29 info3 rfl (by decide) (by omega) u5 x5_1 x1_1 [.int .i64 x1_1] (fun _ => True) (fun _ => False) rfl rfl ?aP (fun _ hk => hk.elim) ?aF ?aO ?aB ?aS ?aL ?_;(case aP => exact rfl);(case aB => exact (by repeat (first | (with_reducible first | exact HB.out | apply below_alloc | apply pw_below_drewN | apply below_drew1 | refine below_set ?_ GE220.out) | exact HB.out)));(case aF => exact (fun _ _ => trivial));(case aO => exact (by (with_reducible repeat (first | apply Kd.R_alloc | apply Kd.R_drewN | apply Kd.R_drew));exact HO_5.out));(case aS => exact (below_size (by repeat (first | (with_reducible first | exact HB.out | apply below_alloc | apply pw_below_drewN | apply below_drew1 | refine below_set ?_ GE220.out) | exact HB.out))));(case aL => have := LMc12.out;omega);intro v223 w18 ho hb hg hat;rw [← Ny222.out] at ho;have n0_ := Aside0.mk (blk_grown (g := gb220) (o := .cells #[.string a0_0,.slice A0_1 l0_1.length c0_1,.int .i64 a0_2,.slice A0_3 l0_3.length c0_3,.slice A0_4 l0_4.length c0_4,.slice A0_5 l0_5.length c0_5,.slice A0_6 l0_6.length c0_6,.slice A0_7 l0_7.length c0_7,.slice A0_8 l0_8.length c0_8,.slice A0_9 l0_9.length c0_9,.int .i64 a0_10] 31 (0,0)) (by (with_reducible repeat (first | refine blk_drewN ?_ _ | refine blk_drew ?_ | refine blk_alloc ?_ _));exact BK220.out) hg (Kd.R_ne HO_5.out BK220.out (by decide)));have n1_ := Aside0.mk (hb);have n2_ := Aside0.mk (ho);clear BK220;clear HB;clear HO_5;have BK220 := n0_;have HB := n1_;have HO224 := n2_;clear n0_ n1_ n2_;clear ho hb hg hat;have hcz19_0 : w18.cell? ⟨gb220,0,none⟩ = some (.string a0_0) := (blk_cell BK220.out 0).trans rfl;have hcz19_1 : w18.cell? ⟨gb220,1,none⟩ = some (.slice A0_1 l0_1.length c0_1) := (blk_cell BK220.out 1).trans rfl;have hcz19_2 : w18.cell? ⟨gb220,2,none⟩ = some (.int .i64 a0_2) := (blk_cell BK220.out 2).trans rfl;have hcz19_3 : w18.cell? ⟨gb220,3,none⟩ = some (.slice A0_3 l0_3.length c0_3) := (blk_cell BK220.out 3).trans rfl;have hcz19_4 : w18.cell? ⟨gb220,4,none⟩ = some (.slice A0_4 l0_4.length c0_4) := (blk_cell BK220.out 4).trans rfl;have hcz19_5 : w18.cell? ⟨gb220,5,none⟩ = some (.slice A0_5 l0_5.length c0_5) := (blk_cell BK220.out 5).trans rfl;have hcz19_6 : w18.cell? ⟨gb220,6,none⟩ = some (.slice A0_6 l0_6.length c0_6) := (blk_cell BK220.out 6).trans rfl;have hcz19_7 : w18.cell? ⟨gb220,7,none⟩ = some (.slice A0_7 l0_7.length c0_7) := (blk_cell BK220.out 7).trans rfl;have hcz19_8 : w18.cell? ⟨gb220,8,none⟩ = some (.slice A0_8 l0_8.length c0_8) := (blk_cell BK220.out 8).trans rfl;have hcz19_9 : w18.cell? ⟨gb220,9,none⟩ = some (.slice A0_9 l0_9.length c0_9) := (blk_cell BK220.out 9).trans rfl;have hcz19_10 : w18.cell? ⟨gb220,10,none⟩ = some (.int .i64 a0_10) := (blk_cell BK220.out 10).trans rfl;have hfz19_0 := blk_frozen BK220.out 0;have hfz19_1 := blk_frozen BK220.out 1;have hfz19_2 := blk_frozen BK220.out 2;have hfz19_3 := blk_frozen BK220.out 3;have hfz19_4 := blk_frozen BK220.out 4;have hfz19_5 := blk_frozen BK220.out 5;have hfz19_6 := blk_frozen BK220.out 6;have hfz19_7 := blk_frozen BK220.out 7;have hfz19_8 := blk_frozen BK220.out 8;have hfz19_9 := blk_frozen BK220.out 9;have hfz19_10 := blk_frozen BK220.out 10;have p225 : 0 ≤ (x1_1 : Int) := of_decide_eq_true (by first | (with_reducible assumption) | assumption);have q225 : x1_1 < (l0_3.length : Int) := of_decide_eq_true (by first | (with_reducible assumption) | assumption);obtain ⟨ad225,A225_4,c225_4,A225_5,c225_5,A225_11,c225_11,e225,hx225_0,hx225_1,hx225_2,hx225_3,hx225_4,hx225_5,hx225_6,hx225_7,hx225_8,hx225_9,hx225_10,hx225_11,hl225_4,hi225_4,hl225_5,hi225_5,hl225_11,hi225_11⟩ := at_T58 HR0_3.out x1_1 p225 q225;cases e225;replace hx225_0 := (HB.out.cell (World.block_lt_of_cell? w _ hx225_0)).trans hx225_0;replace hx225_1 := (HB.out.cell (World.block_lt_of_cell? w _ hx225_1)).trans hx225_1;replace hx225_2 := (HB.out.cell (World.block_lt_of_cell? w _ hx225_2)).trans hx225_2;replace hx225_3 := (HB.out.cell (World.block_lt_of_cell? w _ hx225_3)).trans hx225_3;replace hx225_4 := (HB.out.cell (World.block_lt_of_cell? w _ hx225_4)).trans hx225_4;replace hx225_5 := (HB.out.cell (World.block_lt_of_cell? w _ hx225_5)).trans hx225_5;replace hx225_6 := (HB.out.cell (World.block_lt_of_cell? w _ hx225_6)).trans hx225_6;replace hx225_7 := (HB.out.cell (World.block_lt_of_cell? w _ hx225_7)).trans hx225_7;replace hx225_8 := (HB.out.cell (World.block_lt_of_cell? w _ hx225_8)).trans hx225_8;replace hx225_9 := (HB.out.cell (World.block_lt_of_cell? w _ hx225_9)).trans hx225_9;replace hx225_10 := (HB.out.cell (World.block_lt_of_cell? w _ hx225_10)).trans hx225_10;replace hx225_11 := (HB.out.cell (World.block_lt_of_cell? w _ hx225_11)).trans hx225_11;have HR225_4 := Aside0.mk hi225_4;have HC225_4 := Aside0.mk hl225_4;clear hi225_4 hl225_4;have HR225_5 := Aside0.mk hi225_5;have HC225_5 := Aside0.mk hl225_5;clear hi225_5 hl225_5;have HR225_11 := Aside0.mk hi225_11;have HC225_11 := Aside0.mk hl225_11;clear hi225_11 hl225_11;replace p225 := eq_true p225;replace q225 := eq_true q225;have p226 : 0 ≤ (x1_1 : Int) := of_decide_eq_true (by first | (with_reducible assumption) | assumption);have q226 : x1_1 < (l0_3.length : Int) := of_decide_eq_true (by first | (with_reducible assumption) | assumption);obtain ⟨ad226,A226_4,c226_4,A226_5,c226_5,A226_11,c226_11,e226,hx226_0,hx226_1,hx226_2,hx226_3,hx226_4,hx226_5,hx226_6,hx226_7,hx226_8,hx226_9,hx226_10,hx226_11,hl226_4,hi226_4,hl226_5,hi226_5,hl226_11,hi226_11⟩ := at_T58 HR0_3.out x1_1 p226 q226;obtain rfl : ad225 = ad226 := (by injection e226);replace hx226_0 := (HB.out.cell (World.block_lt_of_cell? w _ hx226_0)).trans hx226_0;replace hx226_1 := (HB.out.cell (World.block_lt_of_cell? w _ hx226_1)).trans hx226_1;replace hx226_2 := (HB.out.cell (World.block_lt_of_cell? w _ hx226_2)).trans hx226_2;replace hx226_3 := (HB.out.cell (World.block_lt_of_cell? w _ hx226_3)).trans hx226_3;replace hx226_4 := (HB.out.cell (World.block_lt_of_cell? w _ hx226_4)).trans hx226_4;replace hx226_5 := (HB.out.cell (World.block_lt_of_cell? w _ hx226_5)).trans hx226_5;replace hx226_6 := (HB.out.cell (World.block_lt_of_cell? w _ hx226_6)).trans hx226_6;replace hx226_7 := (HB.out.cell (World.block_lt_of_cell? w _ hx226_7)).trans hx226_7;replace hx226_8 := (HB.out.cell (World.block_lt_of_cell? w _ hx226_8)).trans hx226_8;replace hx226_9 := (HB.out.cell (World.block_lt_of_cell? w _ hx226_9)).trans hx226_9;replace hx226_10 := (HB.out.cell (World.block_lt_of_cell? w _ hx226_10)).trans hx226_10;replace hx226_11 := (HB.out.cell (World.block_lt_of_cell? w _ hx226_11)).trans hx226_11;have HR226_4 := Aside0.mk hi226_4;have HC226_4 := Aside0.mk hl226_4;clear hi226_4 hl226_4;have HR226_5 := Aside0.mk hi226_5;have HC226_5 := Aside0.mk hl226_5;clear hi226_5 hl226_5;have HR226_11 := Aside0.mk hi226_11;have HC226_11 := Aside0.mk hl226_11;clear hi226_11 hl226_11;replace p226 := eq_true p226;replace q226 := eq_true q226;have ea_ := Option.some.inj (hx225_4.symm.trans hx226_4);injection ea_ with ea_ en_ ec_;subst ea_;subst ec_;clear en_;have ea_ := Option.some.inj (hx225_5.symm.trans hx226_5);injection ea_ with ea_ en_ ec_;subst ea_;subst ec_;clear en_;have ea_ := Option.some.inj (hx225_11.symm.trans hx226_11);injection ea_ with ea_ en_ ec_;subst ea_;subst ec_;clear en_))
          go_roundg kj3
          case measure => have := HK1.out;have := HJ3.out;omega
          case rel => exact ⟨((rd_T58 l0_3 x1_1).f8),(y222),(by first | rfl | (simp;done) | (simp [*];done)),H',⟨by have := HK1.out;have := HJ3.out;omega⟩,⟨by (with_reducible repeat (first | apply Kd.R_alloc | apply Kd.R_drewN | apply Kd.R_drew));exact HO224.out⟩,⟨by (with_reducible repeat (first | refine blk_drewN ?_ _ | refine blk_drew ?_ | refine blk_alloc ?_ _));exact BK220.out⟩,⟨by repeat (first | (with_reducible first | exact HB.out | apply below_alloc | apply pw_below_drewN | apply below_drew1 | refine below_set ?_ GE220.out) | exact HB.out)⟩⟩
        ·rw [if_neg c14] at H
         exact absurd H (by simp)
       ·rw [if_neg c13] at H
        exact absurd H (by simp)
      ·rw [if_neg c12] at H
       exact absurd H (by simp)
     ·replace c11 := Bool.eq_false_iff.mpr c11
      subst c11
      have H1 : (some x5_1) = some r := by rw [if_neg (show ¬ (false = true) by decide)] at H;exact H
      clear H
      have H := H1
      clear H1
      obtain rfl := Option.some.inj H
      go_wp2
      go_ret
      exact ⟨_,by first | rfl | (simp [errW_none,errW_some] <;> rfl) | (simp [*,errW_none,errW_some] <;> rfl),by (with_reducible repeat (first | apply Kd.R_alloc | apply Kd.R_drewN | apply Kd.R_drew));exact HO_5.out,by repeat (first | (with_reducible first | exact HB.out | apply below_alloc | apply pw_below_drewN | apply below_drew1 | refine below_set ?_ GE220.out) | exact HB.out)⟩

/-! ### bourneref01_Add: function 32 -/
def bourneref01_Add.j0 : Nat → Int → Int → Bool → Option (Int)
 | 0,_,_,_ => none
 | k + 1,x0,x1,x12 => if x12 = true then (some 9223372036854775807) else (if x1 < 0 then (if x0 < (wrap64 ((-9223372036854775808) - x1)) then (some (-9223372036854775808)) else (some (wrap64 (x0 + x1)))) else (some (wrap64 (x0 + x1))))
def bourneref01_Add.f (k : Nat) (a0 : Int) (a1 : Int) : Option (Int) := if a1 > 0 then (bourneref01_Add.j0 k a0 a1 (decide (a0 > (wrap64 (9223372036854775807 - a1))))) else (bourneref01_Add.j0 k a0 a1 false)
set_option maxHeartbeats 8000000 in
set_option maxRecDepth 100000 in
theorem bourneref01_Add.calls (k : Nat) (a0 : Int) (a1 : Int) (r : Int) (w : World) (h : bourneref01_Add.f k a0 a1 = some r) :
  Calls Try.prog 32 #[.int .i64 a0,.int .i64 a1] w fun e w' => e = .returned (.int .i64 r) ∧ Drawn0 w w' := by
 have H : (if a1 > 0 then (bourneref01_Add.j0 k a0 a1 (decide (a0 > (wrap64 (9223372036854775807 - a1))))) else (bourneref01_Add.j0 k a0 a1 false)) = some r := h
 clear h
 have HC3 := Aside0.mk H
 clear H
 go_enter Try.func32,Try.ntmps32
 go_upto_region 1 with (fail)
 go_cut [12] (fun v12 wc => ∃ (kq : Nat) (x12_2 : Bool),v12 = .bool x12_2 ∧ Aside0 (bourneref01_Add.j0 kq a0 a1 x12_2 = some r) ∧ Aside0 (kq ≤ k) ∧ Drawn0 w wc)
 case first =>
  have H := HC3.out
  clear HC3
  by_cases c4 : a1 > 0
  ·rw [if_pos c4] at H
   have c4b0 : decide (0 < a1) = true := decide_eq_true c4
   clear c4
   (first | rw [c4b0] | (simp only [i64_w,i32_w];rw [c4b0]) | skip)
   have H' := Aside0.mk H
   clear H
   go_wp2
   go_meet
   case rel => exact ⟨_,(decide (a0 > (wrap64 (9223372036854775807 - a1)))),(by first | rfl | (simp;done) | (simp [*];done)),H',⟨by first | omega | exact Nat.le_refl _⟩,by repeat (first | exact Drawn0.refl _ | apply Drawn0.step)⟩
  ·rw [if_neg c4] at H
   have c4b0 : decide (0 < a1) = false := decide_eq_false c4
   clear c4
   (first | rw [c4b0] | (simp only [i64_w,i32_w];rw [c4b0]) | skip)
   have H' := Aside0.mk H
   clear H
   go_wp2
   go_meet
   case rel => exact ⟨_,(false),(by first | rfl | (simp;done) | (simp [*];done)),H',⟨by first | omega | exact Nat.le_refl _⟩,by repeat (first | exact Drawn0.refl _ | apply Drawn0.step)⟩
 case rest =>
  clear HC3
  try clear p2
  try clear c3
  try clear c4
  try clear c4b0
  obtain ⟨kq,x12_2,rfl,HA,HJ2,⟨mc2,rfl⟩⟩ := hcut
  cases kq with
  | zero => exact absurd HA.out (by simp [bourneref01_Add.j0])
  | succ kj2 =>
   have H := HA.out
   clear HA
   simp only [bourneref01_Add.j0] at H
   by_cases c5 : x12_2 = true
   ·subst c5
    have H1 : (some 9223372036854775807) = some r := by rw [if_pos rfl] at H;exact H
    clear H
    have H := H1
    clear H1
    obtain rfl := Option.some.inj H
    go_wp2
    go_ret
    exact ⟨by first | rfl | (simp;done) | (simp [*];done),by repeat (first | exact Drawn0.refl _ | apply Drawn0.step)⟩
   ·replace c5 := Bool.eq_false_iff.mpr c5
    subst c5
    have H1 : (if a1 < 0 then (if a0 < (wrap64 ((-9223372036854775808) - a1)) then (some (-9223372036854775808)) else (some (wrap64 (a0 + a1)))) else (some (wrap64 (a0 + a1)))) = some r := by rw [if_neg (show ¬ (false = true) by decide)] at H;exact H
    clear H
    have H := H1
    clear H1
    by_cases c6 : a1 < 0
    ·rw [if_pos c6] at H
     have c6b0 : decide (a1 < 0) = true := decide_eq_true c6
     clear c6
     by_cases c7 : a0 < (wrap64 ((-9223372036854775808) - a1))
     ·rw [if_pos c7] at H
      have c7b0 : decide (a0 < (wrap64 ((-9223372036854775808) - a1))) = true := decide_eq_true c7
      clear c7
      obtain rfl := Option.some.inj H
      go_wp2
      go_ret
      exact ⟨by first | rfl | (simp;done) | (simp [*];done),by repeat (first | exact Drawn0.refl _ | apply Drawn0.step)⟩
     ·rw [if_neg c7] at H
      have c7b0 : decide (a0 < (wrap64 ((-9223372036854775808) - a1))) = false := decide_eq_false c7
      clear c7
      obtain rfl := Option.some.inj H
      go_wp2
      go_ret
      exact ⟨by first | rfl | (simp;done) | (simp [*];done),by repeat (first | exact Drawn0.refl _ | apply Drawn0.step)⟩
    ·rw [if_neg c6] at H
     have c6b0 : decide (a1 < 0) = false := decide_eq_false c6
     clear c6
     obtain rfl := Option.some.inj H
     go_wp2
     go_ret
     exact ⟨by first | rfl | (simp;done) | (simp [*];done),by repeat (first | exact Drawn0.refl _ | apply Drawn0.step)⟩

end Go.Proofs.Ythmbleephognnaa.Q
