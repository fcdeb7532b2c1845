-- written by xprint.py (this session's program over the kit's print program)
import Derived.Test.YthmbleephognnaaQx0
import Derived.Test.YthmbleephognnaaQx2
import Derived.Test.YthmbleephognnaaQx3
import Derived.Test.YthmbleephognnaaQx8
import Derived.Test.YthmbleephognnaaQx9
import Derived.Test.YthmbleephognnaaQx10
import Derived.Test.YthmbleephognnaaQx14
import Derived.Test.YthmbleephognnaaQx15d
namespace Go.Proofs.Ythmbleephognnaa.Q
open Go.RowKit Go.Proofs.YthmbleephognnaaW.PrintWords Go.Proofs.YthmbleephognnaaW.PrintLast Go.Proofs.YthmbleephognnaaW.PrintMore
attribute [local go_sem] max2_int min2_int max_two min_two max_three min_three max_four min_four -- for this text's walks alone
set_option linter.unusedVariables false
set_option linter.unusedSimpArgs false
set_option maxHeartbeats 8000000 in
set_option maxRecDepth 100000 in
theorem bournelaw37_AllotStops.calls (k : Nat) (a0_0 : ByteArray) (A0_1 : Option Addr) (c0_1 : Nat) (l0_1 : List ByteArray) (a0_2 : Int) (A0_3 : Option Addr) (c0_3 : Nat) (l0_3 : List (S58)) (A0_4 : Option Addr) (c0_4 : Nat) (l0_4 : List (S98)) (A0_5 : Option Addr) (c0_5 : Nat) (l0_5 : List (S100)) (A0_6 : Option Addr) (c0_6 : Nat) (l0_6 : List (S102)) (A0_7 : Option Addr) (c0_7 : Nat) (l0_7 : List (S104)) (A0_8 : Option Addr) (c0_8 : Nat) (l0_8 : List (S106)) (A0_9 : Option Addr) (c0_9 : Nat) (l0_9 : List Int) (a0_10 : Int) (A1 : Option Addr) (c1 : Nat) (l1 : List (S45)) (A2 : Option Addr) (c2 : Nat) (l2 : List Int) (r : Bool) (w : World) (hr0_1 : Kd.C Kd.string w A0_1 l0_1.length l0_1) (hc0_1 : l0_1.length ≤ c0_1) (hr0_3 : Kd.C k58 w A0_3 l0_3.length l0_3) (hc0_3 : l0_3.length ≤ c0_3) (hr0_4 : Kd.C k98 w A0_4 l0_4.length l0_4) (hc0_4 : l0_4.length ≤ c0_4) (hr0_5 : Kd.C k100 w A0_5 l0_5.length l0_5) (hc0_5 : l0_5.length ≤ c0_5) (hr0_6 : Kd.C k102 w A0_6 l0_6.length l0_6) (hc0_6 : l0_6.length ≤ c0_6) (hr0_7 : Kd.C k104 w A0_7 l0_7.length l0_7) (hc0_7 : l0_7.length ≤ c0_7) (hr0_8 : Kd.C k106 w A0_8 l0_8.length l0_8) (hc0_8 : l0_8.length ≤ c0_8) (hr0_9 : Kd.C (Kd.int .i64) w A0_9 l0_9.length l0_9) (hc0_9 : l0_9.length ≤ c0_9) (hr1 : Kd.C k45 w A1 l1.length l1) (hc1 : l1.length ≤ c1) (hr2 : Kd.C (Kd.int .i64) w A2 l2.length l2) (hc2 : l2.length ≤ c2) (h : bournelaw37_AllotStops.f k a0_0 l0_1 a0_2 l0_3 l0_4 l0_5 l0_6 l0_7 l0_8 l0_9 a0_10 l1 l2 = some r) :
  Calls Try.prog 4 #[.agg #[.string a0_0,.slice A0_1 l0_1.length c0_1,.int .i64 a0_2,.slice A0_3 l0_3.length c0_3,.slice A0_4 l0_4.length c0_4,.slice A0_5 l0_5.length c0_5,.slice A0_6 l0_6.length c0_6,.slice A0_7 l0_7.length c0_7,.slice A0_8 l0_8.length c0_8,.slice A0_9 l0_9.length c0_9,.int .i64 a0_10],.slice A1 l1.length c1,.slice A2 l2.length c2] w fun e w' => e = .returned (.bool r) ∧ Below w.heap.size w w' := by
 have hu31 := Try.underlying31
 have hu45 := Try.underlying45
 have HR0_1 := Aside0.mk hr0_1
 have HC0_1 := Aside0.mk hc0_1
 clear hr0_1 hc0_1
 have HR0_3 := Aside0.mk hr0_3
 have HC0_3 := Aside0.mk hc0_3
 clear hr0_3 hc0_3
 have HR0_4 := Aside0.mk hr0_4
 have HC0_4 := Aside0.mk hc0_4
 clear hr0_4 hc0_4
 have HR0_5 := Aside0.mk hr0_5
 have HC0_5 := Aside0.mk hc0_5
 clear hr0_5 hc0_5
 have HR0_6 := Aside0.mk hr0_6
 have HC0_6 := Aside0.mk hc0_6
 clear hr0_6 hc0_6
 have HR0_7 := Aside0.mk hr0_7
 have HC0_7 := Aside0.mk hc0_7
 clear hr0_7 hc0_7
 have HR0_8 := Aside0.mk hr0_8
 have HC0_8 := Aside0.mk hc0_8
 clear hr0_8 hc0_8
 have HR0_9 := Aside0.mk hr0_9
 have HC0_9 := Aside0.mk hc0_9
 clear hr0_9 hc0_9
 have HR1 := Aside0.mk hr1
 have HC1 := Aside0.mk hc1
 clear hr1 hc1
 have HR2 := Aside0.mk hr2
 have HC2 := Aside0.mk hc2
 clear hr2 hc2
 have HB := Aside0.mk (Below.refl w.heap.size w)
 have H : ((bournelaw37_small.f k).bind fun t310 => ((bournelaw37_few.f a0_0 l0_1 a0_2 l0_3 l0_4 l0_5 l0_6 l0_7 l0_8 l0_9 a0_10 l1 ([] : List (S47))).bind fun t311 => (if t311 = true then ((allot_Day.f k a0_0 l0_1 a0_2 l0_3 l0_4 l0_5 l0_6 l0_7 l0_8 l0_9 a0_10 l1 l2).bind fun bt312 => (if (bt312.1.length : Int) = (l1.length : Int) then (bournelaw37_AllotStops.j0 k l1 l2 t310 bt312.1 bt312.2 ((bt312.2.length : Int) != (l0_3.length : Int)) a0_0 l0_1 a0_2 l0_3 l0_4 l0_5 l0_6 l0_7 l0_8 l0_9 a0_10) else (none))) else (some t310)))) = some r := h
 clear h
 replace H := Option.bind_eq_some_iff.mp H
 obtain ⟨t310,A40,H⟩ := H
 replace H : ((bournelaw37_few.f a0_0 l0_1 a0_2 l0_3 l0_4 l0_5 l0_6 l0_7 l0_8 l0_9 a0_10 l1 ([] : List (S47))).bind fun t311 => (if t311 = true then ((allot_Day.f k a0_0 l0_1 a0_2 l0_3 l0_4 l0_5 l0_6 l0_7 l0_8 l0_9 a0_10 l1 l2).bind fun bt312 => (if (bt312.1.length : Int) = (l1.length : Int) then (bournelaw37_AllotStops.j0 k l1 l2 t310 bt312.1 bt312.2 ((bt312.2.length : Int) != (l0_3.length : Int)) a0_0 l0_1 a0_2 l0_3 l0_4 l0_5 l0_6 l0_7 l0_8 l0_9 a0_10) else (none))) else (some t310))) = some r := H
 have A4 := Aside0.mk A40
 clear A40
 replace H := Option.bind_eq_some_iff.mp H
 obtain ⟨t311,A50,H⟩ := H
 replace H : (if t311 = true then ((allot_Day.f k a0_0 l0_1 a0_2 l0_3 l0_4 l0_5 l0_6 l0_7 l0_8 l0_9 a0_10 l1 l2).bind fun bt312 => (if (bt312.1.length : Int) = (l1.length : Int) then (bournelaw37_AllotStops.j0 k l1 l2 t310 bt312.1 bt312.2 ((bt312.2.length : Int) != (l0_3.length : Int)) a0_0 l0_1 a0_2 l0_3 l0_4 l0_5 l0_6 l0_7 l0_8 l0_9 a0_10) else (none))) else (some t310)) = some r := H
 have A5 := Aside0.mk A50
 clear A50
 by_cases c6 : t311 = true
 ·subst c6
  have H1 : ((allot_Day.f k a0_0 l0_1 a0_2 l0_3 l0_4 l0_5 l0_6 l0_7 l0_8 l0_9 a0_10 l1 l2).bind fun bt312 => (if (bt312.1.length : Int) = (l1.length : Int) then (bournelaw37_AllotStops.j0 k l1 l2 t310 bt312.1 bt312.2 ((bt312.2.length : Int) != (l0_3.length : Int)) a0_0 l0_1 a0_2 l0_3 l0_4 l0_5 l0_6 l0_7 l0_8 l0_9 a0_10) else (none))) = some r := by rw [if_pos rfl] at H;exact H
  clear H
  have H := H1
  clear H1
  replace H := Option.bind_eq_some_iff.mp H
  obtain ⟨⟨t312,t315⟩,A70,H⟩ := H
  replace H : (if (t312.length : Int) = (l1.length : Int) then (bournelaw37_AllotStops.j0 k l1 l2 t310 t312 t315 ((t315.length : Int) != (l0_3.length : Int)) a0_0 l0_1 a0_2 l0_3 l0_4 l0_5 l0_6 l0_7 l0_8 l0_9 a0_10) else (none)) = some r := H
  have A7 := Aside0.mk A70
  clear A70
  have HC8 := Aside0.mk H
  clear H
  go_enter Try.func4,Try.ntmps4
  go_upto_region 6 with (first | ((with_reducible refine gate_dst (N := 3) rfl ?_);(try (refine gate_guard (by rfl) ?_;dsimp only));refine box_event ?hg (N := 3) ?hd (cs := #[.string a0_0,.slice A0_1 l0_1.length c0_1,.int .i64 a0_2,.slice A0_3 l0_3.length c0_3,.slice A0_4 l0_4.length c0_4,.slice A0_5 l0_5.length c0_5,.slice A0_6 l0_6.length c0_6,.slice A0_7 l0_7.length c0_7,.slice A0_8 l0_8.length c0_8,.slice A0_9 l0_9.length c0_9,.int .i64 a0_10]) (t := 31) ?hr ?_;(case hd => rfl);(case hg => rfl);(case hr => first | (go_simp;done) | (go_simp;rfl));intro gb309 hg w9 hbox hb;have n0_ := Aside0.mk (below_step (by repeat (first | (with_reducible first | exact HB.out | apply below_alloc | apply pw_below_drewN | apply below_drew1) | exact HB.out)) hb);have n1_ := Aside0.mk (hbox);have n2_ := Aside0.mk ((by rw [hg];exact (below_size (by repeat (first | (with_reducible first | exact HB.out | apply below_alloc | apply pw_below_drewN | apply below_drew1) | exact HB.out))) : w.heap.size ≤ gb309));have n3_ := Aside0.mk ((by rw [hg];exact (below_size (by repeat (first | (with_reducible first | exact HB.out | apply below_alloc | apply pw_below_drewN | apply below_drew1) | exact HB.out))) : w.heap.size ≤ gb309));clear HB;have HB := n0_;have BK309 := n1_;have GW309 := n2_;have GE309 := n3_;clear n0_ n1_ n2_ n3_;clear hb hbox hg) | ((with_reducible refine gate_callee (f := 8) rfl ?_);refine goesL_ (some 20) rfl rfl Try.func8 (by kernel_rfl) rfl #[] rfl (by (try simp only [List.map_toArray,List.map_cons,List.map_nil]);first | done | rfl | (simp only [List.length_drop,List.length_take];rfl)) ?_;(with_reducible refine (bournelaw37_small.calls k t310 _ A4.out).mono ?_);rintro e w10 ⟨rfl,hb⟩;refine ⟨_,rfl,?_⟩;have n0_ := Aside0.mk (blk_below (g := gb309) (o := .cells #[.string a0_0,.slice A0_1 l0_1.length c0_1,.int .i64 a0_2,.slice A0_3 l0_3.length c0_3,.slice A0_4 l0_4.length c0_4,.slice A0_5 l0_5.length c0_5,.slice A0_6 l0_6.length c0_6,.slice A0_7 l0_7.length c0_7,.slice A0_8 l0_8.length c0_8,.slice A0_9 l0_9.length c0_9,.int .i64 a0_10] 31 (0,0)) (by (with_reducible repeat (first | refine blk_drewN ?_ _ | refine blk_drew ?_ | refine blk_alloc ?_ _));exact BK309.out) hb);have n1_ := Aside0.mk (below_step (by repeat (first | (with_reducible first | exact HB.out | apply below_alloc | apply pw_below_drewN | apply below_drew1 | refine below_set ?_ GE309.out) | exact HB.out)) hb);clear BK309;clear HB;have BK309 := n0_;have HB := n1_;clear n0_ n1_;(try clear hb);(try clear hb2);(try clear hk);(try clear hi);have hcz11_0 : w10.cell? ⟨gb309,0,none⟩ = some (.string a0_0) := (blk_cell BK309.out 0).trans rfl;have hcz11_1 : w10.cell? ⟨gb309,1,none⟩ = some (.slice A0_1 l0_1.length c0_1) := (blk_cell BK309.out 1).trans rfl;have hcz11_2 : w10.cell? ⟨gb309,2,none⟩ = some (.int .i64 a0_2) := (blk_cell BK309.out 2).trans rfl;have hcz11_3 : w10.cell? ⟨gb309,3,none⟩ = some (.slice A0_3 l0_3.length c0_3) := (blk_cell BK309.out 3).trans rfl;have hcz11_4 : w10.cell? ⟨gb309,4,none⟩ = some (.slice A0_4 l0_4.length c0_4) := (blk_cell BK309.out 4).trans rfl;have hcz11_5 : w10.cell? ⟨gb309,5,none⟩ = some (.slice A0_5 l0_5.length c0_5) := (blk_cell BK309.out 5).trans rfl;have hcz11_6 : w10.cell? ⟨gb309,6,none⟩ = some (.slice A0_6 l0_6.length c0_6) := (blk_cell BK309.out 6).trans rfl;have hcz11_7 : w10.cell? ⟨gb309,7,none⟩ = some (.slice A0_7 l0_7.length c0_7) := (blk_cell BK309.out 7).trans rfl;have hcz11_8 : w10.cell? ⟨gb309,8,none⟩ = some (.slice A0_8 l0_8.length c0_8) := (blk_cell BK309.out 8).trans rfl;have hcz11_9 : w10.cell? ⟨gb309,9,none⟩ = some (.slice A0_9 l0_9.length c0_9) := (blk_cell BK309.out 9).trans rfl;have hcz11_10 : w10.cell? ⟨gb309,10,none⟩ = some (.int .i64 a0_10) := (blk_cell BK309.out 10).trans rfl;have hfz11_0 := blk_frozen BK309.out 0;have hfz11_1 := blk_frozen BK309.out 1;have hfz11_2 := blk_frozen BK309.out 2;have hfz11_3 := blk_frozen BK309.out 3;have hfz11_4 := blk_frozen BK309.out 4;have hfz11_5 := blk_frozen BK309.out 5;have hfz11_6 := blk_frozen BK309.out 6;have hfz11_7 := blk_frozen BK309.out 7;have hfz11_8 := blk_frozen BK309.out 8;have hfz11_9 := blk_frozen BK309.out 9;have hfz11_10 := blk_frozen BK309.out 10) | ((with_reducible refine gate_callee (f := 9) rfl ?_);refine goesL_ (some 23) rfl rfl Try.func9 (by kernel_rfl) rfl #[.agg #[.string a0_0,.slice A0_1 l0_1.length c0_1,.int .i64 a0_2,.slice A0_3 l0_3.length c0_3,.slice A0_4 l0_4.length c0_4,.slice A0_5 l0_5.length c0_5,.slice A0_6 l0_6.length c0_6,.slice A0_7 l0_7.length c0_7,.slice A0_8 l0_8.length c0_8,.slice A0_9 l0_9.length c0_9,.int .i64 a0_10],.slice A1 l1.length c1,.slice none 0 0] rfl (by (try simp only [List.map_toArray,List.map_cons,List.map_nil]);first | done | rfl | (simp only [List.length_drop,List.length_take];rfl)) ?_;(refine (bournelaw37_few.calls a0_0 _ _ l0_1 a0_2 _ _ l0_3 _ _ l0_4 _ _ l0_5 _ _ l0_6 _ _ l0_7 _ _ l0_8 _ _ l0_9 a0_10 _ _ l1 _ _ ([] : List (S47)) true _ ?side1 ?side2 ?side3 ?side4 ?side5 ?side6 ?side7 ?side8 ?side9 ?side10 ?side11 ?side12 ?side13 ?side14 ?side15 ?side16 ?side17 ?side18 ?side19 ?side20 A5.out).mono ?_);(case side1 => repeat (first | exact (Kd.C_below HR0_1.out HB.out) | (with_reducible refine Kd.C_alloc ?_ _) | (with_reducible refine Kd.C_drewN ?_ _) | (with_reducible refine Kd.C_drew ?_)));(case side2 => exact HC0_1.out);(case side3 => repeat (first | exact (Kd.C_below HR0_3.out HB.out) | (with_reducible refine Kd.C_alloc ?_ _) | (with_reducible refine Kd.C_drewN ?_ _) | (with_reducible refine Kd.C_drew ?_)));(case side4 => exact HC0_3.out);(case side5 => repeat (first | exact (Kd.C_below HR0_4.out HB.out) | (with_reducible refine Kd.C_alloc ?_ _) | (with_reducible refine Kd.C_drewN ?_ _) | (with_reducible refine Kd.C_drew ?_)));(case side6 => exact HC0_4.out);(case side7 => repeat (first | exact (Kd.C_below HR0_5.out HB.out) | (with_reducible refine Kd.C_alloc ?_ _) | (with_reducible refine Kd.C_drewN ?_ _) | (with_reducible refine Kd.C_drew ?_)));(case side8 => exact HC0_5.out);(case side9 => repeat (first | exact (Kd.C_below HR0_6.out HB.out) | (with_reducible refine Kd.C_alloc ?_ _) | (with_reducible refine Kd.C_drewN ?_ _) | (with_reducible refine Kd.C_drew ?_)));(case side10 => exact HC0_6.out);(case side11 => repeat (first | exact (Kd.C_below HR0_7.out HB.out) | (with_reducible refine Kd.C_alloc ?_ _) | (with_reducible refine Kd.C_drewN ?_ _) | (with_reducible refine Kd.C_drew ?_)));(case side12 => exact HC0_7.out);(case side13 => repeat (first | exact (Kd.C_below HR0_8.out HB.out) | (with_reducible refine Kd.C_alloc ?_ _) | (with_reducible refine Kd.C_drewN ?_ _) | (with_reducible refine Kd.C_drew ?_)));(case side14 => exact HC0_8.out);(case side15 => repeat (first | exact (Kd.C_below HR0_9.out HB.out) | (with_reducible refine Kd.C_alloc ?_ _) | (with_reducible refine Kd.C_drewN ?_ _) | (with_reducible refine Kd.C_drew ?_)));(case side16 => exact HC0_9.out);(case side17 => repeat (first | exact (Kd.C_below HR1.out HB.out) | (with_reducible refine Kd.C_alloc ?_ _) | (with_reducible refine Kd.C_drewN ?_ _) | (with_reducible refine Kd.C_drew ?_)));(case side18 => exact HC1.out);(case side19 => exact Kd.C_nil _ _);(case side20 => exact Nat.le_refl _);rintro e w12 ⟨rfl,hb⟩;refine ⟨_,rfl,?_⟩;have n0_ := Aside0.mk (blk_below (g := gb309) (o := .cells #[.string a0_0,.slice A0_1 l0_1.length c0_1,.int .i64 a0_2,.slice A0_3 l0_3.length c0_3,.slice A0_4 l0_4.length c0_4,.slice A0_5 l0_5.length c0_5,.slice A0_6 l0_6.length c0_6,.slice A0_7 l0_7.length c0_7,.slice A0_8 l0_8.length c0_8,.slice A0_9 l0_9.length c0_9,.int .i64 a0_10] 31 (0,0)) (by (with_reducible repeat (first | refine blk_drewN ?_ _ | refine blk_drew ?_ | refine blk_alloc ?_ _));exact BK309.out) hb);have n1_ := Aside0.mk (below_step (by repeat (first | (with_reducible first | exact HB.out | apply below_alloc | apply pw_below_drewN | apply below_drew1 | refine below_set ?_ GE309.out) | exact HB.out)) hb);clear BK309;clear HB;have BK309 := n0_;have HB := n1_;clear n0_ n1_;(try clear hb);(try clear hb2);(try clear hk);(try clear hi);have hcz13_0 : w12.cell? ⟨gb309,0,none⟩ = some (.string a0_0) := (blk_cell BK309.out 0).trans rfl;have hcz13_1 : w12.cell? ⟨gb309,1,none⟩ = some (.slice A0_1 l0_1.length c0_1) := (blk_cell BK309.out 1).trans rfl;have hcz13_2 : w12.cell? ⟨gb309,2,none⟩ = some (.int .i64 a0_2) := (blk_cell BK309.out 2).trans rfl;have hcz13_3 : w12.cell? ⟨gb309,3,none⟩ = some (.slice A0_3 l0_3.length c0_3) := (blk_cell BK309.out 3).trans rfl;have hcz13_4 : w12.cell? ⟨gb309,4,none⟩ = some (.slice A0_4 l0_4.length c0_4) := (blk_cell BK309.out 4).trans rfl;have hcz13_5 : w12.cell? ⟨gb309,5,none⟩ = some (.slice A0_5 l0_5.length c0_5) := (blk_cell BK309.out 5).trans rfl;have hcz13_6 : w12.cell? ⟨gb309,6,none⟩ = some (.slice A0_6 l0_6.length c0_6) := (blk_cell BK309.out 6).trans rfl;have hcz13_7 : w12.cell? ⟨gb309,7,none⟩ = some (.slice A0_7 l0_7.length c0_7) := (blk_cell BK309.out 7).trans rfl;have hcz13_8 : w12.cell? ⟨gb309,8,none⟩ = some (.slice A0_8 l0_8.length c0_8) := (blk_cell BK309.out 8).trans rfl;have hcz13_9 : w12.cell? ⟨gb309,9,none⟩ = some (.slice A0_9 l0_9.length c0_9) := (blk_cell BK309.out 9).trans rfl;have hcz13_10 : w12.cell? ⟨gb309,10,none⟩ = some (.int .i64 a0_10) := (blk_cell BK309.out 10).trans rfl;have hfz13_0 := blk_frozen BK309.out 0;have hfz13_1 := blk_frozen BK309.out 1;have hfz13_2 := blk_frozen BK309.out 2;have hfz13_3 := blk_frozen BK309.out 3;have hfz13_4 := blk_frozen BK309.out 4;have hfz13_5 := blk_frozen BK309.out 5;have hfz13_6 := blk_frozen BK309.out 6;have hfz13_7 := blk_frozen BK309.out 7;have hfz13_8 := blk_frozen BK309.out 8;have hfz13_9 := blk_frozen BK309.out 9;have hfz13_10 := blk_frozen BK309.out 10) | ((with_reducible refine gate_callee (f := 10) rfl ?_);refine goesL_ (some 31) rfl rfl Try.func10 (by kernel_rfl) rfl #[.agg #[.string a0_0,.slice A0_1 l0_1.length c0_1,.int .i64 a0_2,.slice A0_3 l0_3.length c0_3,.slice A0_4 l0_4.length c0_4,.slice A0_5 l0_5.length c0_5,.slice A0_6 l0_6.length c0_6,.slice A0_7 l0_7.length c0_7,.slice A0_8 l0_8.length c0_8,.slice A0_9 l0_9.length c0_9,.int .i64 a0_10],.slice A1 l1.length c1,.slice A2 l2.length c2] rfl (by (try simp only [List.map_toArray,List.map_cons,List.map_nil]);first | done | rfl | (simp only [List.length_drop,List.length_take];rfl)) ?_;(with_reducible refine (allot_Day.calls k a0_0 _ _ l0_1 a0_2 _ _ l0_3 _ _ l0_4 _ _ l0_5 _ _ l0_6 _ _ l0_7 _ _ l0_8 _ _ l0_9 a0_10 _ _ l1 _ _ l2 t312 t315 _ ?side1 ?side2 ?side3 ?side4 ?side5 ?side6 ?side7 ?side8 ?side9 ?side10 ?side11 ?side12 ?side13 ?side14 ?side15 ?side16 ?side17 ?side18 ?side19 ?side20 A7.out).mono ?_);(case side1 => repeat (first | exact (Kd.C_below HR0_1.out HB.out) | (with_reducible refine Kd.C_alloc ?_ _) | (with_reducible refine Kd.C_drewN ?_ _) | (with_reducible refine Kd.C_drew ?_)));(case side2 => exact HC0_1.out);(case side3 => repeat (first | exact (Kd.C_below HR0_3.out HB.out) | (with_reducible refine Kd.C_alloc ?_ _) | (with_reducible refine Kd.C_drewN ?_ _) | (with_reducible refine Kd.C_drew ?_)));(case side4 => exact HC0_3.out);(case side5 => repeat (first | exact (Kd.C_below HR0_4.out HB.out) | (with_reducible refine Kd.C_alloc ?_ _) | (with_reducible refine Kd.C_drewN ?_ _) | (with_reducible refine Kd.C_drew ?_)));(case side6 => exact HC0_4.out);(case side7 => repeat (first | exact (Kd.C_below HR0_5.out HB.out) | (with_reducible refine Kd.C_alloc ?_ _) | (with_reducible refine Kd.C_drewN ?_ _) | (with_reducible refine Kd.C_drew ?_)));(case side8 => exact HC0_5.out);(case side9 => repeat (first | exact (Kd.C_below HR0_6.out HB.out) | (with_reducible refine Kd.C_alloc ?_ _) | (with_reducible refine Kd.C_drewN ?_ _) | (with_reducible refine Kd.C_drew ?_)));(case side10 => exact HC0_6.out);(case side11 => repeat (first | exact (Kd.C_below HR0_7.out HB.out) | (with_reducible refine Kd.C_alloc ?_ _) | (with_reducible refine Kd.C_drewN ?_ _) | (with_reducible refine Kd.C_drew ?_)));(case side12 => exact HC0_7.out);(case side13 => repeat (first | exact (Kd.C_below HR0_8.out HB.out) | (with_reducible refine Kd.C_alloc ?_ _) | (with_reducible refine Kd.C_drewN ?_ _) | (with_reducible refine Kd.C_drew ?_)));(case side14 => exact HC0_8.out);(case side15 => repeat (first | exact (Kd.C_below HR0_9.out HB.out) | (with_reducible refine Kd.C_alloc ?_ _) | (with_reducible refine Kd.C_drewN ?_ _) | (with_reducible refine Kd.C_drew ?_)));(case side16 => exact HC0_9.out);(case side17 => repeat (first | exact (Kd.C_below HR1.out HB.out) | (with_reducible refine Kd.C_alloc ?_ _) | (with_reducible refine Kd.C_drewN ?_ _) | (with_reducible refine Kd.C_drew ?_)));(case side18 => exact HC1.out);(case side19 => repeat (first | exact (Kd.C_below HR2.out HB.out) | (with_reducible refine Kd.C_alloc ?_ _) | (with_reducible refine Kd.C_drewN ?_ _) | (with_reducible refine Kd.C_drew ?_)));(case side20 => exact HC2.out);rintro e w14 ⟨v313,v316,rfl,ho0,ho1,hb⟩;refine ⟨_,rfl,?_⟩;have n0_ := Aside0.mk (Kd.R_lower ho0 (below_size (by repeat (first | (with_reducible first | exact HB.out | apply below_alloc | apply pw_below_drewN | apply below_drew1 | refine below_set ?_ GE309.out) | exact HB.out))));have n1_ := Aside0.mk (Kd.R_lower ho1 (below_size (by repeat (first | (with_reducible first | exact HB.out | apply below_alloc | apply pw_below_drewN | apply below_drew1 | refine below_set ?_ GE309.out) | exact HB.out))));have n2_ := Aside0.mk (blk_below (g := gb309) (o := .cells #[.string a0_0,.slice A0_1 l0_1.length c0_1,.int .i64 a0_2,.slice A0_3 l0_3.length c0_3,.slice A0_4 l0_4.length c0_4,.slice A0_5 l0_5.length c0_5,.slice A0_6 l0_6.length c0_6,.slice A0_7 l0_7.length c0_7,.slice A0_8 l0_8.length c0_8,.slice A0_9 l0_9.length c0_9,.int .i64 a0_10] 31 (0,0)) (by (with_reducible repeat (first | refine blk_drewN ?_ _ | refine blk_drew ?_ | refine blk_alloc ?_ _));exact BK309.out) hb);have n3_ := Aside0.mk (below_step (by repeat (first | (with_reducible first | exact HB.out | apply below_alloc | apply pw_below_drewN | apply below_drew1 | refine below_set ?_ GE309.out) | exact HB.out)) hb);clear BK309;clear HB;have HO314 := n0_;have HO317 := n1_;have BK309 := n2_;have HB := n3_;clear n0_ n1_ n2_ n3_;(try clear hb);(try clear hb2);(try clear hk);(try clear hi);(try clear ho0);(try clear ho1)))
  (try simp only [Act.put,List.setIfInBounds_toArray,List.set_cons_zero,List.set_cons_succ])
  go_cut [46] (fun v46 wc => ∃ (kq : Nat) (x46_7 : Bool),v46 = .bool x46_7 ∧ Aside0 (bournelaw37_AllotStops.j0 kq l1 l2 t310 t312 t315 x46_7 a0_0 l0_1 a0_2 l0_3 l0_4 l0_5 l0_6 l0_7 l0_8 l0_9 a0_10 = some r) ∧ Aside0 (kq ≤ k) ∧ Aside0 (Kd.R k47 47 wc w.heap.size (fun _ => True) v313 t312) ∧ Aside0 (Kd.R (Kd.int .i64) 3 wc w.heap.size (fun _ => True) v316 t315) ∧ Aside0 (wc.heap[gb309]? = some (.cells #[.string a0_0,(.slice A0_1 l0_1.length c0_1),.int .i64 a0_2,(.slice A0_3 l0_3.length c0_3),(.slice A0_4 l0_4.length c0_4),(.slice A0_5 l0_5.length c0_5),(.slice A0_6 l0_6.length c0_6),(.slice A0_7 l0_7.length c0_7),(.slice A0_8 l0_8.length c0_8),(.slice A0_9 l0_9.length c0_9),.int .i64 a0_10] 31 (0,0))) ∧ Aside0 (Below w.heap.size w wc))
  case first =>
   have H := HC8.out
   clear HC8
   by_cases c15 : (t312.length : Int) = (l1.length : Int)
   ·rw [if_pos c15] at H
    have c15b0 : ((t312.length : Int) == (l1.length : Int)) = true := beq_iff_eq.mpr c15
    have c15b1 : ((t312.length : Int) != (l1.length : Int)) = false := bne_eq_false_iff_eq.mpr c15
    have c15b2 : (t312.length == l1.length) = true := by first | simpa using c15 | (simp at c15 ⊢;omega)
    clear c15
    (first | rw [c15b0] | (simp only [i64_w,i32_w];rw [c15b0]) | skip)
    have H' := Aside0.mk H
    clear H
    obtain ⟨Ao16,co16,eo16⟩ := Kd.R_slice HO314.out
    subst eo16
    obtain ⟨Ao17,co17,eo17⟩ := Kd.R_slice HO317.out
    subst eo17
    have hcz18_0 : w14.cell? ⟨gb309,0,none⟩ = some (.string a0_0) := (blk_cell BK309.out 0).trans rfl
    have hcz18_1 : w14.cell? ⟨gb309,1,none⟩ = some (.slice A0_1 l0_1.length c0_1) := (blk_cell BK309.out 1).trans rfl
    have hcz18_2 : w14.cell? ⟨gb309,2,none⟩ = some (.int .i64 a0_2) := (blk_cell BK309.out 2).trans rfl
    have hcz18_3 : w14.cell? ⟨gb309,3,none⟩ = some (.slice A0_3 l0_3.length c0_3) := (blk_cell BK309.out 3).trans rfl
    have hcz18_4 : w14.cell? ⟨gb309,4,none⟩ = some (.slice A0_4 l0_4.length c0_4) := (blk_cell BK309.out 4).trans rfl
    have hcz18_5 : w14.cell? ⟨gb309,5,none⟩ = some (.slice A0_5 l0_5.length c0_5) := (blk_cell BK309.out 5).trans rfl
    have hcz18_6 : w14.cell? ⟨gb309,6,none⟩ = some (.slice A0_6 l0_6.length c0_6) := (blk_cell BK309.out 6).trans rfl
    have hcz18_7 : w14.cell? ⟨gb309,7,none⟩ = some (.slice A0_7 l0_7.length c0_7) := (blk_cell BK309.out 7).trans rfl
    have hcz18_8 : w14.cell? ⟨gb309,8,none⟩ = some (.slice A0_8 l0_8.length c0_8) := (blk_cell BK309.out 8).trans rfl
    have hcz18_9 : w14.cell? ⟨gb309,9,none⟩ = some (.slice A0_9 l0_9.length c0_9) := (blk_cell BK309.out 9).trans rfl
    have hcz18_10 : w14.cell? ⟨gb309,10,none⟩ = some (.int .i64 a0_10) := (blk_cell BK309.out 10).trans rfl
    have hfz18_0 := blk_frozen BK309.out 0
    have hfz18_1 := blk_frozen BK309.out 1
    have hfz18_2 := blk_frozen BK309.out 2
    have hfz18_3 := blk_frozen BK309.out 3
    have hfz18_4 := blk_frozen BK309.out 4
    have hfz18_5 := blk_frozen BK309.out 5
    have hfz18_6 := blk_frozen BK309.out 6
    have hfz18_7 := blk_frozen BK309.out 7
    have hfz18_8 := blk_frozen BK309.out 8
    have hfz18_9 := blk_frozen BK309.out 9
    have hfz18_10 := blk_frozen BK309.out 10
    go_wp2
    go_meet
    case rel => exact ⟨_,(((t315.length : Int) != (l0_3.length : Int))),(by first | rfl | (simp;done) | (simp [*];done)),H',⟨by first | omega | exact Nat.le_refl _⟩,⟨by (with_reducible repeat (first | apply Kd.R_alloc | apply Kd.R_drewN | apply Kd.R_drew));exact HO314.out⟩,⟨by (with_reducible repeat (first | apply Kd.R_alloc | apply Kd.R_drewN | apply Kd.R_drew));exact HO317.out⟩,⟨by (with_reducible repeat (first | refine blk_drewN ?_ _ | refine blk_drew ?_ | refine blk_alloc ?_ _));exact BK309.out⟩,⟨by repeat (first | (with_reducible first | exact HB.out | apply below_alloc | apply pw_below_drewN | apply below_drew1 | refine below_set ?_ GE309.out) | exact HB.out)⟩⟩
   ·rw [if_neg c15] at H
    exact absurd H (by simp)
  case rest =>
   clear HC8
   try clear c1
   try clear c2
   try clear p2
   try clear c4
   try clear c6
   try clear c8
   try clear c9
   try clear c10
   try clear c15
   try clear c15b0
   try clear c15b1
   try clear c15b2
   try clear hcz11_0
   try clear hcz11_1
   try clear hcz11_10
   try clear hcz11_2
   try clear hcz11_3
   try clear hcz11_4
   try clear hcz11_5
   try clear hcz11_6
   try clear hcz11_7
   try clear hcz11_8
   try clear hcz11_9
   try clear hcz13_0
   try clear hcz13_1
   try clear hcz13_10
   try clear hcz13_2
   try clear hcz13_3
   try clear hcz13_4
   try clear hcz13_5
   try clear hcz13_6
   try clear hcz13_7
   try clear hcz13_8
   try clear hcz13_9
   try clear hcz18_0
   try clear hcz18_1
   try clear hcz18_10
   try clear hcz18_2
   try clear hcz18_3
   try clear hcz18_4
   try clear hcz18_5
   try clear hcz18_6
   try clear hcz18_7
   try clear hcz18_8
   try clear hcz18_9
   try clear hfz11_0
   try clear hfz11_1
   try clear hfz11_10
   try clear hfz11_2
   try clear hfz11_3
   try clear hfz11_4
   try clear hfz11_5
   try clear hfz11_6
   try clear hfz11_7
   try clear hfz11_8
   try clear hfz11_9
   try clear hfz13_0
   try clear hfz13_1
   try clear hfz13_10
   try clear hfz13_2
   try clear hfz13_3
   try clear hfz13_4
   try clear hfz13_5
   try clear hfz13_6
   try clear hfz13_7
   try clear hfz13_8
   try clear hfz13_9
   try clear hfz18_0
   try clear hfz18_1
   try clear hfz18_10
   try clear hfz18_2
   try clear hfz18_3
   try clear hfz18_4
   try clear hfz18_5
   try clear hfz18_6
   try clear hfz18_7
   try clear hfz18_8
   try clear hfz18_9
   obtain ⟨kq,x46_7,rfl,HA,HJ7,HO_9,HO_10,BK309,HB⟩ := hcut
   cases kq with
   | zero => exact absurd HA.out (by simp [bournelaw37_AllotStops.j0])
   | succ kj7 =>
    have H := HA.out
    clear HA
    simp only [bournelaw37_AllotStops.j0] at H
    by_cases c19 : x46_7 = true
    ·subst c19
     have H1 : (none) = some r := by rw [if_pos rfl] at H;exact H
     clear H
     have H := H1
     clear H1
     exact absurd H (by simp)
    ·replace c19 := Bool.eq_false_iff.mpr c19
     subst c19
     have H1 : (bournelaw37_AllotStops.l0 kj7 l1 l2 t310 t312 t315 0 a0_0 l0_1 a0_2 l0_3 l0_4 l0_5 l0_6 l0_7 l0_8 l0_9 a0_10) = some r := by rw [if_neg (show ¬ (false = true) by decide)] at H;exact H
     clear H
     have H := H1
     clear H1
     have H' := Aside0.mk H
     clear H
     go_wp2
     go_loopg [11] kj7 (fun kq v11 w' => ∃ (x11_2 : Int),v11 = .int .i64 x11_2 ∧ Aside0 (bournelaw37_AllotStops.l0 kq l1 l2 t310 t312 t315 x11_2 a0_0 l0_1 a0_2 l0_3 l0_4 l0_5 l0_6 l0_7 l0_8 l0_9 a0_10 = some r) ∧ Aside0 (kq ≤ kj7) ∧ Aside0 (Kd.R k47 47 w' w.heap.size (fun _ => True) v313 t312) ∧ Aside0 (Kd.R (Kd.int .i64) 3 w' w.heap.size (fun _ => True) v316 t315) ∧ Aside0 (w'.heap[gb309]? = some (.cells #[.string a0_0,(.slice A0_1 l0_1.length c0_1),.int .i64 a0_2,(.slice A0_3 l0_3.length c0_3),(.slice A0_4 l0_4.length c0_4),(.slice A0_5 l0_5.length c0_5),(.slice A0_6 l0_6.length c0_6),(.slice A0_7 l0_7.length c0_7),(.slice A0_8 l0_8.length c0_8),(.slice A0_9 l0_9.length c0_9),.int .i64 a0_10] 31 (0,0))) ∧ Aside0 (Below w.heap.size w w'))
     case atStart => exact ⟨(0),(by first | rfl | (simp;done) | (simp [*];done)),H',⟨Nat.le_refl _⟩,⟨by (with_reducible repeat (first | apply Kd.R_alloc | apply Kd.R_drewN | apply Kd.R_drew));exact HO_9.out⟩,⟨by (with_reducible repeat (first | apply Kd.R_alloc | apply Kd.R_drewN | apply Kd.R_drew));exact HO_10.out⟩,⟨by (with_reducible repeat (first | refine blk_drewN ?_ _ | refine blk_drew ?_ | refine blk_alloc ?_ _));exact BK309.out⟩,⟨by repeat (first | (with_reducible first | exact HB.out | apply below_alloc | apply pw_below_drewN | apply below_drew1 | refine below_set ?_ GE309.out) | exact HB.out)⟩⟩
     case round =>
      clear H'
      try clear c1
      try clear c2
      try clear p2
      try clear c4
      try clear c6
      try clear c8
      try clear c9
      try clear c10
      try clear c15
      try clear c15b0
      try clear c15b1
      try clear c15b2
      try clear c19
      try clear hcz11_0
      try clear hcz11_1
      try clear hcz11_10
      try clear hcz11_2
      try clear hcz11_3
      try clear hcz11_4
      try clear hcz11_5
      try clear hcz11_6
      try clear hcz11_7
      try clear hcz11_8
      try clear hcz11_9
      try clear hcz13_0
      try clear hcz13_1
      try clear hcz13_10
      try clear hcz13_2
      try clear hcz13_3
      try clear hcz13_4
      try clear hcz13_5
      try clear hcz13_6
      try clear hcz13_7
      try clear hcz13_8
      try clear hcz13_9
      try clear hcz18_0
      try clear hcz18_1
      try clear hcz18_10
      try clear hcz18_2
      try clear hcz18_3
      try clear hcz18_4
      try clear hcz18_5
      try clear hcz18_6
      try clear hcz18_7
      try clear hcz18_8
      try clear hcz18_9
      try clear hfz11_0
      try clear hfz11_1
      try clear hfz11_10
      try clear hfz11_2
      try clear hfz11_3
      try clear hfz11_4
      try clear hfz11_5
      try clear hfz11_6
      try clear hfz11_7
      try clear hfz11_8
      try clear hfz11_9
      try clear hfz13_0
      try clear hfz13_1
      try clear hfz13_10
      try clear hfz13_2
      try clear hfz13_3
      try clear hfz13_4
      try clear hfz13_5
      try clear hfz13_6
      try clear hfz13_7
      try clear hfz13_8
      try clear hfz13_9
      try clear hfz18_0
      try clear hfz18_1
      try clear hfz18_10
      try clear hfz18_2
      try clear hfz18_3
      try clear hfz18_4
      try clear hfz18_5
      try clear hfz18_6
      try clear hfz18_7
      try clear hfz18_8
      try clear hfz18_9
      try clear p2
      obtain ⟨x11_2,rfl,HA,HK2,HO_9,HO_10,BK309,HB⟩ := hrel
      cases gk with
      | zero => exact absurd HA.out (by simp [bournelaw37_AllotStops.l0])
      | succ k2 =>
       have H := HA.out
       clear HA
       simp only [bournelaw37_AllotStops.l0] at H
       by_cases c20 : x11_2 < (l1.length : Int)
       ·rw [if_pos c20] at H
        have c20b0 : decide (x11_2 < (l1.length : Int)) = true := decide_eq_true c20
        clear c20
        by_cases c21 : 0 ≤ x11_2
        ·rw [if_pos c21] at H
         have c21b0 : decide (0 ≤ x11_2) = true := decide_eq_true c21
         clear c21
         replace H := Option.bind_eq_some_iff.mp H
         obtain ⟨t319,A220,H⟩ := H
         replace H : (if x11_2 < (t312.length : Int) then (if ((rd_T47 t312 x11_2).f0) = ((rd_T45 l1 x11_2).f0) then (if ((rd_T47 t312 x11_2).f1) < 0 then (none) else (if ((rd_T47 t312 x11_2).f1) > (mx 0 ((rd_T45 l1 x11_2).f4)) then (none) else (if t319 = true then (bournelaw37_AllotStops.j2 k2 l1 l2 t310 t312 t315 x11_2 t319 false a0_0 l0_1 a0_2 l0_3 l0_4 l0_5 l0_6 l0_7 l0_8 l0_9 a0_10) else (bournelaw37_AllotStops.j2 k2 l1 l2 t310 t312 t315 x11_2 t319 (((rd_T47 t312 x11_2).f1) != 0) a0_0 l0_1 a0_2 l0_3 l0_4 l0_5 l0_6 l0_7 l0_8 l0_9 a0_10)))) else (none)) else (none)) = some r := H
         have A22 := Aside0.mk A220
         clear A220
         have HC23 := Aside0.mk H
         clear H
         try go_wp2
         (repeat (rw [drewN_self wr];generalize hq_ : World.drewN wr _ = wr;have n0_ : Aside0 (Kd.R (Kd.int .i64) 3 wr w.heap.size (fun _ => True) v316 t315) := ⟨by rw [← hq_];exact (by (with_reducible repeat (first | apply Kd.R_alloc | apply Kd.R_drewN | apply Kd.R_drew));exact HO_10.out)⟩;have n1_ : Aside0 (Kd.R k47 47 wr w.heap.size (fun _ => True) v313 t312) := ⟨by rw [← hq_];exact (by (with_reducible repeat (first | apply Kd.R_alloc | apply Kd.R_drewN | apply Kd.R_drew));exact HO_9.out)⟩;have n2_ : Aside0 (wr.heap[gb309]? = some (.cells #[.string a0_0,.slice A0_1 l0_1.length c0_1,.int .i64 a0_2,.slice A0_3 l0_3.length c0_3,.slice A0_4 l0_4.length c0_4,.slice A0_5 l0_5.length c0_5,.slice A0_6 l0_6.length c0_6,.slice A0_7 l0_7.length c0_7,.slice A0_8 l0_8.length c0_8,.slice A0_9 l0_9.length c0_9,.int .i64 a0_10] 31 (0,0))) := ⟨by rw [← hq_];exact (by (with_reducible repeat (first | refine blk_drewN ?_ _ | refine blk_drew ?_ | refine blk_alloc ?_ _));exact BK309.out)⟩;have n3_ : Aside0 (Below w.heap.size w wr) := ⟨by rw [← hq_];exact (by repeat (first | (with_reducible first | exact HB.out | apply below_alloc | apply pw_below_drewN | apply below_drew1 | refine below_set ?_ GE309.out) | exact HB.out))⟩;clear HO_10 HO_9 BK309 HB hq_;have HO_10 := n0_;have HO_9 := n1_;have BK309 := n2_;have HB := n3_;clear n0_ n1_ n2_ n3_))
         have n0_ := Aside0.mk (Kd.R_drew HO_9.out)
         have n1_ := Aside0.mk (Kd.R_drew HO_10.out)
         have n2_ := Aside0.mk (blk_drew BK309.out)
         have n3_ := Aside0.mk (below_drew1 HB.out)
         clear HO_9
         clear HO_10
         clear BK309
         clear HB
         have HO_9 := n0_
         have HO_10 := n1_
         have BK309 := n2_
         have HB := n3_
         clear n0_ n1_ n2_ n3_
         have p318 : 0 ≤ (x11_2 : Int) := of_decide_eq_true (by first | (with_reducible assumption) | assumption)
         have q318 : x11_2 < (l1.length : Int) := of_decide_eq_true (by first | (with_reducible assumption) | assumption)
         obtain ⟨ad318,e318,hx318_0,hx318_1,hx318_2,hx318_3,hx318_4,hx318_5,hx318_6,hx318_7,hx318_8⟩ := at_T45 HR1.out x11_2 p318 q318
         have hw318_8 := hx318_8
         have hw318_7 := hx318_7
         have hw318_6 := hx318_6
         have hw318_5 := hx318_5
         have hw318_4 := hx318_4
         have hw318_3 := hx318_3
         have hw318_2 := hx318_2
         have hw318_1 := hx318_1
         have hw318_0 := hx318_0
         cases e318
         replace hx318_0 := (HB.out.cell (World.block_lt_of_cell? w _ hx318_0)).trans hx318_0
         replace hx318_1 := (HB.out.cell (World.block_lt_of_cell? w _ hx318_1)).trans hx318_1
         replace hx318_2 := (HB.out.cell (World.block_lt_of_cell? w _ hx318_2)).trans hx318_2
         replace hx318_3 := (HB.out.cell (World.block_lt_of_cell? w _ hx318_3)).trans hx318_3
         replace hx318_4 := (HB.out.cell (World.block_lt_of_cell? w _ hx318_4)).trans hx318_4
         replace hx318_5 := (HB.out.cell (World.block_lt_of_cell? w _ hx318_5)).trans hx318_5
         replace hx318_6 := (HB.out.cell (World.block_lt_of_cell? w _ hx318_6)).trans hx318_6
         replace hx318_7 := (HB.out.cell (World.block_lt_of_cell? w _ hx318_7)).trans hx318_7
         replace hx318_8 := (HB.out.cell (World.block_lt_of_cell? w _ hx318_8)).trans hx318_8
         replace p318 := eq_true p318
         replace q318 := eq_true q318
         refine start_ (n := 7) (S := fun w' => w'.cell? ⟨gb309,0,none⟩ = some (.string a0_0) ∧ w'.cell? ⟨gb309,1,none⟩ = some (.slice A0_1 l0_1.length c0_1) ∧ w'.cell? ⟨gb309,2,none⟩ = some (.int .i64 a0_2) ∧ w'.cell? ⟨gb309,3,none⟩ = some (.slice A0_3 l0_3.length c0_3) ∧ w'.cell? ⟨gb309,4,none⟩ = some (.slice A0_4 l0_4.length c0_4) ∧ w'.cell? ⟨gb309,5,none⟩ = some (.slice A0_5 l0_5.length c0_5) ∧ w'.cell? ⟨gb309,6,none⟩ = some (.slice A0_6 l0_6.length c0_6) ∧ w'.cell? ⟨gb309,7,none⟩ = some (.slice A0_7 l0_7.length c0_7) ∧ w'.cell? ⟨gb309,8,none⟩ = some (.slice A0_8 l0_8.length c0_8) ∧ w'.cell? ⟨gb309,9,none⟩ = some (.slice A0_9 l0_9.length c0_9) ∧ w'.cell? ⟨gb309,10,none⟩ = some (.int .i64 a0_10) ∧ w'.cell? (ad318.add ((x11_2).toNat * 9)) = some (.int .i64 ((rd_T45 l1 x11_2).f0)) ∧ w'.cell? ⟨(ad318.add ((x11_2).toNat * 9)).block,(ad318.add ((x11_2).toNat * 9)).off + 1,none⟩ = some (.int .i64 ((rd_T45 l1 x11_2).f1)) ∧ w'.cell? ⟨(ad318.add ((x11_2).toNat * 9)).block,(ad318.add ((x11_2).toNat * 9)).off + 2,none⟩ = some (.int .i64 ((rd_T45 l1 x11_2).f2)) ∧ w'.cell? ⟨(ad318.add ((x11_2).toNat * 9)).block,(ad318.add ((x11_2).toNat * 9)).off + 3,none⟩ = some (.int .i64 ((rd_T45 l1 x11_2).f3)) ∧ w'.cell? ⟨(ad318.add ((x11_2).toNat * 9)).block,(ad318.add ((x11_2).toNat * 9)).off + 4,none⟩ = some (.int .i64 ((rd_T45 l1 x11_2).f4)) ∧ w'.cell? ⟨(ad318.add ((x11_2).toNat * 9)).block,(ad318.add ((x11_2).toNat * 9)).off + 5,none⟩ = some (.int .i64 ((rd_T45 l1 x11_2).f5)) ∧ w'.cell? ⟨(ad318.add ((x11_2).toNat * 9)).block,(ad318.add ((x11_2).toNat * 9)).off + 6,none⟩ = some (.int .i64 ((rd_T45 l1 x11_2).f6)) ∧ w'.cell? ⟨(ad318.add ((x11_2).toNat * 9)).block,(ad318.add ((x11_2).toNat * 9)).off + 7,none⟩ = some (.int .i64 ((rd_T45 l1 x11_2).f7)) ∧ w'.cell? ⟨(ad318.add ((x11_2).toNat * 9)).block,(ad318.add ((x11_2).toNat * 9)).off + 8,none⟩ = some (.int .i64 ((rd_T45 l1 x11_2).f8))) (ds := []) #[false,false,false,false,false,false,false] (by kernel_rfl) rfl rfl ⟨(blk_cell BK309.out 0).trans rfl,(blk_cell BK309.out 1).trans rfl,(blk_cell BK309.out 2).trans rfl,(blk_cell BK309.out 3).trans rfl,(blk_cell BK309.out 4).trans rfl,(blk_cell BK309.out 5).trans rfl,(blk_cell BK309.out 6).trans rfl,(blk_cell BK309.out 7).trans rfl,(blk_cell BK309.out 8).trans rfl,(blk_cell BK309.out 9).trans rfl,(blk_cell BK309.out 10).trans rfl,((HB.out.cell (World.block_lt_of_cell? w _ hw318_0)).trans hw318_0),((HB.out.cell (World.block_lt_of_cell? w _ hw318_1)).trans hw318_1),((HB.out.cell (World.block_lt_of_cell? w _ hw318_2)).trans hw318_2),((HB.out.cell (World.block_lt_of_cell? w _ hw318_3)).trans hw318_3),((HB.out.cell (World.block_lt_of_cell? w _ hw318_4)).trans hw318_4),((HB.out.cell (World.block_lt_of_cell? w _ hw318_5)).trans hw318_5),((HB.out.cell (World.block_lt_of_cell? w _ hw318_6)).trans hw318_6),((HB.out.cell (World.block_lt_of_cell? w _ hw318_7)).trans hw318_7),((HB.out.cell (World.block_lt_of_cell? w _ hw318_8)).trans hw318_8)⟩ (fun hHeld => ?_)
         generalize wr.drew = w24 at HO_9 HO_10 BK309 HB hx318_0 hx318_1 hx318_2 hx318_3 hx318_4 hx318_5 hx318_6 hx318_7 hx318_8 hHeld ⊢
         refine pure_ (i := 1) (N := some 54) (v := ?_) (a' := ?_) #[false,true,false,false,false,false,false] rfl rfl (by kernel_rfl) (fun _ _ _ h => h) (Or.inl ⟨by rfl,?_⟩) ?_ ?_
         rotate_left
         ·intro w'
          go_simp
          with_reducible rfl
         rotate_left
         ·simp only [Act.put,List.setIfInBounds_toArray,List.set_cons_zero,List.set_cons_succ,i64_w,i32_w]
          rfl
         refine pure_ (i := 2) (N := some 55) (v := ?_) (a' := ?_) #[false,true,true,false,false,false,false] rfl rfl (by kernel_rfl) (fun _ _ _ h => h) (Or.inl ⟨by rfl,?_⟩) ?_ ?_
         rotate_left
         ·intro w'
          go_simp
          with_reducible rfl
         rotate_left
         ·simp only [Act.put,List.setIfInBounds_toArray,List.set_cons_zero,List.set_cons_succ,i64_w,i32_w]
          rfl
         refine pure_ (i := 3) (N := some 56) (v := ?_) (a' := ?_) #[false,true,true,true,false,false,false] rfl rfl (by kernel_rfl) (fun _ _ _ h => h) (Or.inl ⟨by rfl,?_⟩) ?_ ?_
         rotate_left
         ·intro w'
          go_simp
          with_reducible rfl
         rotate_left
         ·simp only [Act.put,List.setIfInBounds_toArray,List.set_cons_zero,List.set_cons_succ,i64_w,i32_w]
          rfl
         refine take_ (i := 0) (N := some 53) (v := ?_) (a' := ?_) #[true,true,true,true,false,false,false] rfl rfl (by kernel_rfl) (fun _ _ _ h => h) (Or.inl ⟨by rfl,?_⟩) hHeld ?_ ?_
         rotate_left
         ·rintro w' ⟨s0,s1,s2,s3,s4,s5,s6,s7,s8,s9,s10,s11,s12,s13,s14,s15,s16,s17,s18,s19⟩
          go_simp
          with_reducible rfl
         rotate_left
         ·simp only [Act.put,List.setIfInBounds_toArray,List.set_cons_zero,List.set_cons_succ,i64_w,i32_w]
          rfl
         refine take_ (i := 4) (N := some 57) (v := ?_) (a' := ?_) #[true,true,true,true,true,false,false] rfl rfl (by kernel_rfl) (fun _ _ _ h => h) (Or.inl ⟨by rfl,?_⟩) hHeld ?_ ?_
         rotate_left
         ·rintro w' ⟨s0,s1,s2,s3,s4,s5,s6,s7,s8,s9,s10,s11,s12,s13,s14,s15,s16,s17,s18,s19⟩
          go_simp
          with_reducible rfl
         rotate_left
         ·simp only [Act.put,List.setIfInBounds_toArray,List.set_cons_zero,List.set_cons_succ,i64_w,i32_w]
          rfl
         refine one_ (i := 5) (N := some 58) #[true,true,true,true,true,true,false] rfl rfl (by kernel_rfl) (by decide) (fun K hK => ?_)
         refine goes_ Try.func18 (by kernel_rfl) rfl #[.agg #[.string a0_0,.slice A0_1 l0_1.length c0_1,.int .i64 a0_2,.slice A0_3 l0_3.length c0_3,.slice A0_4 l0_4.length c0_4,.slice A0_5 l0_5.length c0_5,.slice A0_6 l0_6.length c0_6,.slice A0_7 l0_7.length c0_7,.slice A0_8 l0_8.length c0_8,.slice A0_9 l0_9.length c0_9,.int .i64 a0_10],.agg #[.int .i64 ((rd_T45 l1 x11_2).f0),.int .i64 ((rd_T45 l1 x11_2).f1),.int .i64 ((rd_T45 l1 x11_2).f2),.int .i64 ((rd_T45 l1 x11_2).f3),.int .i64 ((rd_T45 l1 x11_2).f4),.int .i64 ((rd_T45 l1 x11_2).f5),.int .i64 ((rd_T45 l1 x11_2).f6),.int .i64 ((rd_T45 l1 x11_2).f7),.int .i64 ((rd_T45 l1 x11_2).f8)]] (by rfl) rfl rfl (by (try simp only [List.map_toArray,List.map_cons,List.map_nil]);first | done | rfl | (simp only [List.length_drop,List.length_take];rfl)) ?_
         with_reducible refine (bournelaw37_place.calls a0_0 _ _ l0_1 a0_2 _ _ l0_3 _ _ l0_4 _ _ l0_5 _ _ l0_6 _ _ l0_7 _ _ l0_8 _ _ l0_9 a0_10 ((rd_T45 l1 x11_2).f0) ((rd_T45 l1 x11_2).f1) ((rd_T45 l1 x11_2).f2) ((rd_T45 l1 x11_2).f3) ((rd_T45 l1 x11_2).f4) ((rd_T45 l1 x11_2).f5) ((rd_T45 l1 x11_2).f6) ((rd_T45 l1 x11_2).f7) ((rd_T45 l1 x11_2).f8) t319 _ ?side1 ?side2 ?side3 ?side4 ?side5 ?side6 ?side7 ?side8 ?side9 ?side10 ?side11 ?side12 ?side13 ?side14 ?side15 ?side16 A22.out).mono ?_
         (case side1 => repeat (first | exact (Kd.C_below HR0_1.out HB.out) | (with_reducible refine Kd.C_alloc ?_ _) | (with_reducible refine Kd.C_drewN ?_ _) | (with_reducible refine Kd.C_drew ?_)))
         (case side2 => exact HC0_1.out)
         (case side3 => repeat (first | exact (Kd.C_below HR0_3.out HB.out) | (with_reducible refine Kd.C_alloc ?_ _) | (with_reducible refine Kd.C_drewN ?_ _) | (with_reducible refine Kd.C_drew ?_)))
         (case side4 => exact HC0_3.out)
         (case side5 => repeat (first | exact (Kd.C_below HR0_4.out HB.out) | (with_reducible refine Kd.C_alloc ?_ _) | (with_reducible refine Kd.C_drewN ?_ _) | (with_reducible refine Kd.C_drew ?_)))
         (case side6 => exact HC0_4.out)
         (case side7 => repeat (first | exact (Kd.C_below HR0_5.out HB.out) | (with_reducible refine Kd.C_alloc ?_ _) | (with_reducible refine Kd.C_drewN ?_ _) | (with_reducible refine Kd.C_drew ?_)))
         (case side8 => exact HC0_5.out)
         (case side9 => repeat (first | exact (Kd.C_below HR0_6.out HB.out) | (with_reducible refine Kd.C_alloc ?_ _) | (with_reducible refine Kd.C_drewN ?_ _) | (with_reducible refine Kd.C_drew ?_)))
         (case side10 => exact HC0_6.out)
         (case side11 => repeat (first | exact (Kd.C_below HR0_7.out HB.out) | (with_reducible refine Kd.C_alloc ?_ _) | (with_reducible refine Kd.C_drewN ?_ _) | (with_reducible refine Kd.C_drew ?_)))
         (case side12 => exact HC0_7.out)
         (case side13 => repeat (first | exact (Kd.C_below HR0_8.out HB.out) | (with_reducible refine Kd.C_alloc ?_ _) | (with_reducible refine Kd.C_drewN ?_ _) | (with_reducible refine Kd.C_drew ?_)))
         (case side14 => exact HC0_8.out)
         (case side15 => repeat (first | exact (Kd.C_below HR0_9.out HB.out) | (with_reducible refine Kd.C_alloc ?_ _) | (with_reducible refine Kd.C_drewN ?_ _) | (with_reducible refine Kd.C_drew ?_)))
         (case side16 => exact HC0_9.out)
         rintro e w25 ⟨rfl,hb⟩
         refine ⟨_,rfl,?_⟩
         have n0_ := Aside0.mk (Kd.R_below (by (with_reducible repeat (first | apply Kd.R_alloc | apply Kd.R_drewN | apply Kd.R_drew));exact HO_9.out) hb)
         have n1_ := Aside0.mk (Kd.R_below (by (with_reducible repeat (first | apply Kd.R_alloc | apply Kd.R_drewN | apply Kd.R_drew));exact HO_10.out) hb)
         have n2_ := Aside0.mk (blk_below (g := gb309) (o := .cells #[.string a0_0,.slice A0_1 l0_1.length c0_1,.int .i64 a0_2,.slice A0_3 l0_3.length c0_3,.slice A0_4 l0_4.length c0_4,.slice A0_5 l0_5.length c0_5,.slice A0_6 l0_6.length c0_6,.slice A0_7 l0_7.length c0_7,.slice A0_8 l0_8.length c0_8,.slice A0_9 l0_9.length c0_9,.int .i64 a0_10] 31 (0,0)) (by (with_reducible repeat (first | refine blk_drewN ?_ _ | refine blk_drew ?_ | refine blk_alloc ?_ _));exact BK309.out) hb)
         have n3_ := Aside0.mk (below_step (by repeat (first | (with_reducible first | exact HB.out | apply below_alloc | apply pw_below_drewN | apply below_drew1 | refine below_set ?_ GE309.out) | exact HB.out)) hb)
         clear HO_9
         clear HO_10
         clear BK309
         clear HB
         have HO_9 := n0_
         have HO_10 := n1_
         have BK309 := n2_
         have HB := n3_
         clear n0_ n1_ n2_ n3_
         (try clear hb)
         (try clear hb2)
         (try clear hk)
         (try clear hi)
         refine hK.out _ _ ⟨(blk_cell BK309.out 0).trans rfl,(blk_cell BK309.out 1).trans rfl,(blk_cell BK309.out 2).trans rfl,(blk_cell BK309.out 3).trans rfl,(blk_cell BK309.out 4).trans rfl,(blk_cell BK309.out 5).trans rfl,(blk_cell BK309.out 6).trans rfl,(blk_cell BK309.out 7).trans rfl,(blk_cell BK309.out 8).trans rfl,(blk_cell BK309.out 9).trans rfl,(blk_cell BK309.out 10).trans rfl,((HB.out.cell (World.block_lt_of_cell? w _ hw318_0)).trans hw318_0),((HB.out.cell (World.block_lt_of_cell? w _ hw318_1)).trans hw318_1),((HB.out.cell (World.block_lt_of_cell? w _ hw318_2)).trans hw318_2),((HB.out.cell (World.block_lt_of_cell? w _ hw318_3)).trans hw318_3),((HB.out.cell (World.block_lt_of_cell? w _ hw318_4)).trans hw318_4),((HB.out.cell (World.block_lt_of_cell? w _ hw318_5)).trans hw318_5),((HB.out.cell (World.block_lt_of_cell? w _ hw318_6)).trans hw318_6),((HB.out.cell (World.block_lt_of_cell? w _ hw318_7)).trans hw318_7),((HB.out.cell (World.block_lt_of_cell? w _ hw318_8)).trans hw318_8)⟩ (fun hHeld => ?_)
         clear hK K
         refine norm_ (a' := ?_) ?_ ?_
         rotate_left
         ·show Act.put _ (some 58) _ = _
          simp only [Act.put,List.setIfInBounds_toArray,List.set_cons_zero,List.set_cons_succ,i64_w,i32_w]
          rfl
         refine pure_ (i := 6) (N := some 12) (v := ?_) (a' := ?_) #[true,true,true,true,true,true,true] rfl rfl (by kernel_rfl) (fun _ _ _ h => h) (Or.inl ⟨by rfl,?_⟩) ?_ ?_
         rotate_left
         ·intro w'
          go_simp
          with_reducible rfl
         rotate_left
         ·simp only [Act.put,List.setIfInBounds_toArray,List.set_cons_zero,List.set_cons_succ,i64_w,i32_w]
          rfl
         refine done_ (by kernel_rfl) ?_
         go_upto_region 12 with (fail)
         go_cut [103] (fun v103 wc => ∃ (kq : Nat) (x103_22 : Bool),v103 = .bool x103_22 ∧ Aside0 (bournelaw37_AllotStops.j2 kq l1 l2 t310 t312 t315 x11_2 t319 x103_22 a0_0 l0_1 a0_2 l0_3 l0_4 l0_5 l0_6 l0_7 l0_8 l0_9 a0_10 = some r) ∧ Aside0 (kq ≤ k2) ∧ Aside0 (Kd.R k47 47 wc w.heap.size (fun _ => True) v313 t312) ∧ Aside0 (Kd.R (Kd.int .i64) 3 wc w.heap.size (fun _ => True) v316 t315) ∧ Aside0 (wc.heap[gb309]? = some (.cells #[.string a0_0,(.slice A0_1 l0_1.length c0_1),.int .i64 a0_2,(.slice A0_3 l0_3.length c0_3),(.slice A0_4 l0_4.length c0_4),(.slice A0_5 l0_5.length c0_5),(.slice A0_6 l0_6.length c0_6),(.slice A0_7 l0_7.length c0_7),(.slice A0_8 l0_8.length c0_8),(.slice A0_9 l0_9.length c0_9),.int .i64 a0_10] 31 (0,0))) ∧ Aside0 (Below w.heap.size w wc))
         case first =>
          have H := HC23.out
          clear HC23
          by_cases c26 : x11_2 < (t312.length : Int)
          ·rw [if_pos c26] at H
           have c26b0 : decide (x11_2 < (t312.length : Int)) = true := decide_eq_true c26
           clear c26
           (first | rw [c26b0] | (simp only [i64_w,i32_w];rw [c26b0]) | skip)
           by_cases c27 : ((rd_T47 t312 x11_2).f0) = ((rd_T45 l1 x11_2).f0)
           ·rw [if_pos c27] at H
            have c27b0 : (((rd_T47 t312 x11_2).f0) == ((rd_T45 l1 x11_2).f0)) = true := beq_iff_eq.mpr c27
            have c27b1 : (((rd_T47 t312 x11_2).f0) != ((rd_T45 l1 x11_2).f0)) = false := bne_eq_false_iff_eq.mpr c27
            clear c27
            by_cases c28 : ((rd_T47 t312 x11_2).f1) < 0
            ·rw [if_pos c28] at H
             exact absurd H (by simp)
            ·rw [if_neg c28] at H
             have c28b0 : decide (((rd_T47 t312 x11_2).f1) < 0) = false := decide_eq_false c28
             clear c28
             obtain ⟨ji29,hji29⟩ : ∃ j_ : Int,(mx 0 ((rd_T45 l1 x11_2).f4)) = j_ := ⟨_,rfl⟩
             replace H : (if ((rd_T47 t312 x11_2).f1) > (ji29) then (none) else (if t319 = true then (bournelaw37_AllotStops.j2 k2 l1 l2 t310 t312 t315 x11_2 t319 false a0_0 l0_1 a0_2 l0_3 l0_4 l0_5 l0_6 l0_7 l0_8 l0_9 a0_10) else (bournelaw37_AllotStops.j2 k2 l1 l2 t310 t312 t315 x11_2 t319 (((rd_T47 t312 x11_2).f1) != 0) a0_0 l0_1 a0_2 l0_3 l0_4 l0_5 l0_6 l0_7 l0_8 l0_9 a0_10))) = some r := by first | (rw [hji29] at H;exact H) | (simp only [hji29] at H ⊢;exact H)
             have hji29_ : (if 0 < ((rd_T45 l1 x11_2).f4) then ((rd_T45 l1 x11_2).f4) else 0) = ji29 := hji29
             by_cases c30 : ((rd_T47 t312 x11_2).f1) > (ji29)
             ·rw [if_pos c30] at H
              exact absurd H (by simp)
             ·rw [if_neg c30] at H
              have c30b0 : decide ((ji29) < ((rd_T47 t312 x11_2).f1)) = false := decide_eq_false c30
              clear c30
              by_cases c31 : t319 = true
              ·subst c31
               have H1 : (bournelaw37_AllotStops.j2 k2 l1 l2 t310 t312 t315 x11_2 true false a0_0 l0_1 a0_2 l0_3 l0_4 l0_5 l0_6 l0_7 l0_8 l0_9 a0_10) = some r := by rw [if_pos rfl] at H;exact H
               clear H
               have H := H1
               clear H1
               have H' := Aside0.mk H
               clear H
               try go_wp2
               (repeat (rw [drewN_self w25];generalize hq_ : World.drewN w25 _ = w25;have n0_ : Aside0 (Kd.R (Kd.int .i64) 3 w25 w.heap.size (fun _ => True) v316 t315) := ⟨by rw [← hq_];exact (by (with_reducible repeat (first | apply Kd.R_alloc | apply Kd.R_drewN | apply Kd.R_drew));exact HO_10.out)⟩;have n1_ : Aside0 (Kd.R k47 47 w25 w.heap.size (fun _ => True) v313 t312) := ⟨by rw [← hq_];exact (by (with_reducible repeat (first | apply Kd.R_alloc | apply Kd.R_drewN | apply Kd.R_drew));exact HO_9.out)⟩;have n2_ : Aside0 (w25.heap[gb309]? = some (.cells #[.string a0_0,.slice A0_1 l0_1.length c0_1,.int .i64 a0_2,.slice A0_3 l0_3.length c0_3,.slice A0_4 l0_4.length c0_4,.slice A0_5 l0_5.length c0_5,.slice A0_6 l0_6.length c0_6,.slice A0_7 l0_7.length c0_7,.slice A0_8 l0_8.length c0_8,.slice A0_9 l0_9.length c0_9,.int .i64 a0_10] 31 (0,0))) := ⟨by rw [← hq_];exact (by (with_reducible repeat (first | refine blk_drewN ?_ _ | refine blk_drew ?_ | refine blk_alloc ?_ _));exact BK309.out)⟩;have n3_ : Aside0 (Below w.heap.size w w25) := ⟨by rw [← hq_];exact (by repeat (first | (with_reducible first | exact HB.out | apply below_alloc | apply pw_below_drewN | apply below_drew1 | refine below_set ?_ GE309.out) | exact HB.out))⟩;clear HO_10 HO_9 BK309 HB hq_;have HO_10 := n0_;have HO_9 := n1_;have BK309 := n2_;have HB := n3_;clear n0_ n1_ n2_ n3_))
               have n0_ := Aside0.mk (Kd.R_drew HO_9.out)
               have n1_ := Aside0.mk (Kd.R_drew HO_10.out)
               have n2_ := Aside0.mk (blk_drew BK309.out)
               have n3_ := Aside0.mk (below_drew1 HB.out)
               clear HO_9
               clear HO_10
               clear BK309
               clear HB
               have HO_9 := n0_
               have HO_10 := n1_
               have BK309 := n2_
               have HB := n3_
               clear n0_ n1_ n2_ n3_
               obtain ⟨Ao33,co33,eo33⟩ := Kd.R_slice HO_9.out
               (first | subst eo33 | (injection eo33 with f1_ f2_ f3_;have f4_ := f1_.symm;have f5_ := f3_.symm;clear f1_ f2_ f3_;subst f4_;subst f5_))
               have p320 : 0 ≤ (x11_2 : Int) := of_decide_eq_true (by first | (with_reducible assumption) | assumption)
               have q320 : x11_2 < (t312.length : Int) := of_decide_eq_true (by first | (with_reducible assumption) | assumption)
               obtain ⟨ad320,e320,hx320_0,hx320_1⟩ := at_T47 (Kd.R_reads' HO_9.out).2.2 x11_2 p320 q320
               cases e320
               replace p320 := eq_true p320
               replace q320 := eq_true q320
               have p321 : 0 ≤ (x11_2 : Int) := of_decide_eq_true (by first | (with_reducible assumption) | assumption)
               have q321 : x11_2 < (l1.length : Int) := of_decide_eq_true (by first | (with_reducible assumption) | assumption)
               obtain ⟨ad321,e321,hx321_0,hx321_1,hx321_2,hx321_3,hx321_4,hx321_5,hx321_6,hx321_7,hx321_8⟩ := at_T45 HR1.out x11_2 p321 q321
               have hw321_8 := hx321_8
               have hw321_7 := hx321_7
               have hw321_6 := hx321_6
               have hw321_5 := hx321_5
               have hw321_4 := hx321_4
               have hw321_3 := hx321_3
               have hw321_2 := hx321_2
               have hw321_1 := hx321_1
               have hw321_0 := hx321_0
               obtain rfl : ad318 = ad321 := (by injection e321)
               replace hx321_0 := (HB.out.cell (World.block_lt_of_cell? w _ hx321_0)).trans hx321_0
               replace hx321_1 := (HB.out.cell (World.block_lt_of_cell? w _ hx321_1)).trans hx321_1
               replace hx321_2 := (HB.out.cell (World.block_lt_of_cell? w _ hx321_2)).trans hx321_2
               replace hx321_3 := (HB.out.cell (World.block_lt_of_cell? w _ hx321_3)).trans hx321_3
               replace hx321_4 := (HB.out.cell (World.block_lt_of_cell? w _ hx321_4)).trans hx321_4
               replace hx321_5 := (HB.out.cell (World.block_lt_of_cell? w _ hx321_5)).trans hx321_5
               replace hx321_6 := (HB.out.cell (World.block_lt_of_cell? w _ hx321_6)).trans hx321_6
               replace hx321_7 := (HB.out.cell (World.block_lt_of_cell? w _ hx321_7)).trans hx321_7
               replace hx321_8 := (HB.out.cell (World.block_lt_of_cell? w _ hx321_8)).trans hx321_8
               replace p321 := eq_true p321
               replace q321 := eq_true q321
               have p322 : 0 ≤ (x11_2 : Int) := of_decide_eq_true (by first | (with_reducible assumption) | assumption)
               have q322 : x11_2 < (t312.length : Int) := of_decide_eq_true (by first | (with_reducible assumption) | assumption)
               obtain ⟨ad322,e322,hx322_0,hx322_1⟩ := at_T47 (Kd.R_reads' HO_9.out).2.2 x11_2 p322 q322
               obtain rfl : ad320 = ad322 := (by injection e322)
               replace p322 := eq_true p322
               replace q322 := eq_true q322
               have p323 : 0 ≤ (x11_2 : Int) := of_decide_eq_true (by first | (with_reducible assumption) | assumption)
               have q323 : x11_2 < (t312.length : Int) := of_decide_eq_true (by first | (with_reducible assumption) | assumption)
               obtain ⟨ad323,e323,hx323_0,hx323_1⟩ := at_T47 (Kd.R_reads' HO_9.out).2.2 x11_2 p323 q323
               obtain rfl : ad320 = ad323 := (by injection e323)
               replace p323 := eq_true p323
               replace q323 := eq_true q323
               have p324 : 0 ≤ (x11_2 : Int) := of_decide_eq_true (by first | (with_reducible assumption) | assumption)
               have q324 : x11_2 < (l1.length : Int) := of_decide_eq_true (by first | (with_reducible assumption) | assumption)
               obtain ⟨ad324,e324,hx324_0,hx324_1,hx324_2,hx324_3,hx324_4,hx324_5,hx324_6,hx324_7,hx324_8⟩ := at_T45 HR1.out x11_2 p324 q324
               have hw324_8 := hx324_8
               have hw324_7 := hx324_7
               have hw324_6 := hx324_6
               have hw324_5 := hx324_5
               have hw324_4 := hx324_4
               have hw324_3 := hx324_3
               have hw324_2 := hx324_2
               have hw324_1 := hx324_1
               have hw324_0 := hx324_0
               obtain rfl : ad318 = ad324 := (by injection e324)
               replace hx324_0 := (HB.out.cell (World.block_lt_of_cell? w _ hx324_0)).trans hx324_0
               replace hx324_1 := (HB.out.cell (World.block_lt_of_cell? w _ hx324_1)).trans hx324_1
               replace hx324_2 := (HB.out.cell (World.block_lt_of_cell? w _ hx324_2)).trans hx324_2
               replace hx324_3 := (HB.out.cell (World.block_lt_of_cell? w _ hx324_3)).trans hx324_3
               replace hx324_4 := (HB.out.cell (World.block_lt_of_cell? w _ hx324_4)).trans hx324_4
               replace hx324_5 := (HB.out.cell (World.block_lt_of_cell? w _ hx324_5)).trans hx324_5
               replace hx324_6 := (HB.out.cell (World.block_lt_of_cell? w _ hx324_6)).trans hx324_6
               replace hx324_7 := (HB.out.cell (World.block_lt_of_cell? w _ hx324_7)).trans hx324_7
               replace hx324_8 := (HB.out.cell (World.block_lt_of_cell? w _ hx324_8)).trans hx324_8
               replace p324 := eq_true p324
               replace q324 := eq_true q324
               refine start_ (n := 45) (S := fun w' => w'.cell? (ad320.add ((x11_2).toNat * 2)) = some (.int .i64 ((rd_T47 t312 x11_2).f0)) ∧ w'.cell? ⟨(ad320.add ((x11_2).toNat * 2)).block,(ad320.add ((x11_2).toNat * 2)).off + 1,none⟩ = some (.int .i64 ((rd_T47 t312 x11_2).f1)) ∧ w'.cell? (ad318.add ((x11_2).toNat * 9)) = some (.int .i64 ((rd_T45 l1 x11_2).f0)) ∧ w'.cell? ⟨(ad318.add ((x11_2).toNat * 9)).block,(ad318.add ((x11_2).toNat * 9)).off + 1,none⟩ = some (.int .i64 ((rd_T45 l1 x11_2).f1)) ∧ w'.cell? ⟨(ad318.add ((x11_2).toNat * 9)).block,(ad318.add ((x11_2).toNat * 9)).off + 2,none⟩ = some (.int .i64 ((rd_T45 l1 x11_2).f2)) ∧ w'.cell? ⟨(ad318.add ((x11_2).toNat * 9)).block,(ad318.add ((x11_2).toNat * 9)).off + 3,none⟩ = some (.int .i64 ((rd_T45 l1 x11_2).f3)) ∧ w'.cell? ⟨(ad318.add ((x11_2).toNat * 9)).block,(ad318.add ((x11_2).toNat * 9)).off + 4,none⟩ = some (.int .i64 ((rd_T45 l1 x11_2).f4)) ∧ w'.cell? ⟨(ad318.add ((x11_2).toNat * 9)).block,(ad318.add ((x11_2).toNat * 9)).off + 5,none⟩ = some (.int .i64 ((rd_T45 l1 x11_2).f5)) ∧ w'.cell? ⟨(ad318.add ((x11_2).toNat * 9)).block,(ad318.add ((x11_2).toNat * 9)).off + 6,none⟩ = some (.int .i64 ((rd_T45 l1 x11_2).f6)) ∧ w'.cell? ⟨(ad318.add ((x11_2).toNat * 9)).block,(ad318.add ((x11_2).toNat * 9)).off + 7,none⟩ = some (.int .i64 ((rd_T45 l1 x11_2).f7)) ∧ w'.cell? ⟨(ad318.add ((x11_2).toNat * 9)).block,(ad318.add ((x11_2).toNat * 9)).off + 8,none⟩ = some (.int .i64 ((rd_T45 l1 x11_2).f8)) ∧ w'.cell? (ad320.add ((x11_2).toNat * 2)) = some (.int .i64 ((rd_T47 t312 x11_2).f0)) ∧ w'.cell? ⟨(ad320.add ((x11_2).toNat * 2)).block,(ad320.add ((x11_2).toNat * 2)).off + 1,none⟩ = some (.int .i64 ((rd_T47 t312 x11_2).f1)) ∧ w'.cell? (ad320.add ((x11_2).toNat * 2)) = some (.int .i64 ((rd_T47 t312 x11_2).f0)) ∧ w'.cell? ⟨(ad320.add ((x11_2).toNat * 2)).block,(ad320.add ((x11_2).toNat * 2)).off + 1,none⟩ = some (.int .i64 ((rd_T47 t312 x11_2).f1)) ∧ w'.cell? (ad318.add ((x11_2).toNat * 9)) = some (.int .i64 ((rd_T45 l1 x11_2).f0)) ∧ w'.cell? ⟨(ad318.add ((x11_2).toNat * 9)).block,(ad318.add ((x11_2).toNat * 9)).off + 1,none⟩ = some (.int .i64 ((rd_T45 l1 x11_2).f1)) ∧ w'.cell? ⟨(ad318.add ((x11_2).toNat * 9)).block,(ad318.add ((x11_2).toNat * 9)).off + 2,none⟩ = some (.int .i64 ((rd_T45 l1 x11_2).f2)) ∧ w'.cell? ⟨(ad318.add ((x11_2).toNat * 9)).block,(ad318.add ((x11_2).toNat * 9)).off + 3,none⟩ = some (.int .i64 ((rd_T45 l1 x11_2).f3)) ∧ w'.cell? ⟨(ad318.add ((x11_2).toNat * 9)).block,(ad318.add ((x11_2).toNat * 9)).off + 4,none⟩ = some (.int .i64 ((rd_T45 l1 x11_2).f4)) ∧ w'.cell? ⟨(ad318.add ((x11_2).toNat * 9)).block,(ad318.add ((x11_2).toNat * 9)).off + 5,none⟩ = some (.int .i64 ((rd_T45 l1 x11_2).f5)) ∧ w'.cell? ⟨(ad318.add ((x11_2).toNat * 9)).block,(ad318.add ((x11_2).toNat * 9)).off + 6,none⟩ = some (.int .i64 ((rd_T45 l1 x11_2).f6)) ∧ w'.cell? ⟨(ad318.add ((x11_2).toNat * 9)).block,(ad318.add ((x11_2).toNat * 9)).off + 7,none⟩ = some (.int .i64 ((rd_T45 l1 x11_2).f7)) ∧ w'.cell? ⟨(ad318.add ((x11_2).toNat * 9)).block,(ad318.add ((x11_2).toNat * 9)).off + 8,none⟩ = some (.int .i64 ((rd_T45 l1 x11_2).f8))) (ds := []) #[false,false,false,false,false,false,false,false,false,false,false,false,false,false,false,false,false,false,false,false,false,false,false,false,false,false,false,false,false,false,false,false,false,false,false,false,false,false,false,false,false,false,false,false,false] (by kernel_rfl) rfl rfl ⟨hx320_0,hx320_1,((HB.out.cell (World.block_lt_of_cell? w _ hw321_0)).trans hw321_0),((HB.out.cell (World.block_lt_of_cell? w _ hw321_1)).trans hw321_1),((HB.out.cell (World.block_lt_of_cell? w _ hw321_2)).trans hw321_2),((HB.out.cell (World.block_lt_of_cell? w _ hw321_3)).trans hw321_3),((HB.out.cell (World.block_lt_of_cell? w _ hw321_4)).trans hw321_4),((HB.out.cell (World.block_lt_of_cell? w _ hw321_5)).trans hw321_5),((HB.out.cell (World.block_lt_of_cell? w _ hw321_6)).trans hw321_6),((HB.out.cell (World.block_lt_of_cell? w _ hw321_7)).trans hw321_7),((HB.out.cell (World.block_lt_of_cell? w _ hw321_8)).trans hw321_8),hx322_0,hx322_1,hx323_0,hx323_1,((HB.out.cell (World.block_lt_of_cell? w _ hw324_0)).trans hw324_0),((HB.out.cell (World.block_lt_of_cell? w _ hw324_1)).trans hw324_1),((HB.out.cell (World.block_lt_of_cell? w _ hw324_2)).trans hw324_2),((HB.out.cell (World.block_lt_of_cell? w _ hw324_3)).trans hw324_3),((HB.out.cell (World.block_lt_of_cell? w _ hw324_4)).trans hw324_4),((HB.out.cell (World.block_lt_of_cell? w _ hw324_5)).trans hw324_5),((HB.out.cell (World.block_lt_of_cell? w _ hw324_6)).trans hw324_6),((HB.out.cell (World.block_lt_of_cell? w _ hw324_7)).trans hw324_7),((HB.out.cell (World.block_lt_of_cell? w _ hw324_8)).trans hw324_8)⟩ (fun hHeld => ?_);refine with_tabW bournelaw37_AllotStops.tab12 bournelaw37_AllotStops.bits12 (fun HT_ HW_ => ?_)
               generalize w25.drew = w32 at HO_9 HO_10 BK309 HB hx320_0 hx320_1 hx321_0 hx321_1 hx321_2 hx321_3 hx321_4 hx321_5 hx321_6 hx321_7 hx321_8 hx322_0 hx322_1 hx323_0 hx323_1 hx324_0 hx324_1 hx324_2 hx324_3 hx324_4 hx324_5 hx324_6 hx324_7 hx324_8 hHeld ⊢
               refine pure_ (i := 0) (N := some 59) (v := ?_) (a' := ?_) #[true,false,false,false,false,false,false,false,false,false,false,false,false,false,false,false,false,false,false,false,false,false,false,false,false,false,false,false,false,false,false,false,false,false,false,false,false,false,false,false,false,false,false,false,false] rfl rfl (any_of HT_.out (by kernel_rfl)) (fun _ _ _ h => h) (Or.inl ⟨by rfl,?_⟩) ?_ ?_
               rotate_left
               ·intro w'
                go_simp
                with_reducible rfl
               rotate_left
               ·simp only [Act.put,List.setIfInBounds_toArray,List.set_cons_zero,List.set_cons_succ,i64_w,i32_w]
                rfl
               refine pure_ (i := 1) (N := some 60) (v := ?_) (a' := ?_) #[true,true,false,false,false,false,false,false,false,false,false,false,false,false,false,false,false,false,false,false,false,false,false,false,false,false,false,false,false,false,false,false,false,false,false,false,false,false,false,false,false,false,false,false,false] rfl rfl (any_of HT_.out (by kernel_rfl)) (fun _ _ _ h => h) (Or.inl ⟨by rfl,?_⟩) ?_ ?_
               rotate_left
               ·intro w'
                go_simp
                with_reducible rfl
               rotate_left
               ·simp only [Act.put,List.setIfInBounds_toArray,List.set_cons_zero,List.set_cons_succ,i64_w,i32_w]
                rfl
               refine pure_ (i := 2) (N := some 61) (v := ?_) (a' := ?_) #[true,true,true,false,false,false,false,false,false,false,false,false,false,false,false,false,false,false,false,false,false,false,false,false,false,false,false,false,false,false,false,false,false,false,false,false,false,false,false,false,false,false,false,false,false] rfl rfl (any_of HT_.out (by kernel_rfl)) (fun _ _ _ h => h) (Or.inl ⟨by rfl,?_⟩) ?_ ?_
               rotate_left
               ·intro w'
                go_simp
                with_reducible rfl
               rotate_left
               ·simp only [Act.put,List.setIfInBounds_toArray,List.set_cons_zero,List.set_cons_succ,i64_w,i32_w]
                rfl
               refine pure_ (i := 3) (N := some 62) (v := ?_) (a' := ?_) #[true,true,true,true,false,false,false,false,false,false,false,false,false,false,false,false,false,false,false,false,false,false,false,false,false,false,false,false,false,false,false,false,false,false,false,false,false,false,false,false,false,false,false,false,false] rfl rfl (any_of HT_.out (by kernel_rfl)) (fun _ _ _ h => h) (Or.inl ⟨by rfl,?_⟩) ?_ ?_
               rotate_left
               ·intro w'
                go_simp
                with_reducible rfl
               rotate_left
               ·simp only [Act.put,List.setIfInBounds_toArray,List.set_cons_zero,List.set_cons_succ,i64_w,i32_w]
                rfl
               refine pure_ (i := 5) (N := some 64) (v := ?_) (a' := ?_) #[true,true,true,true,false,true,false,false,false,false,false,false,false,false,false,false,false,false,false,false,false,false,false,false,false,false,false,false,false,false,false,false,false,false,false,false,false,false,false,false,false,false,false,false,false] rfl rfl (any_of HT_.out (by kernel_rfl)) (fun _ _ _ h => h) (Or.inl ⟨by rfl,?_⟩) ?_ ?_
               rotate_left
               ·intro w'
                go_simp
                with_reducible rfl
               rotate_left
               ·simp only [Act.put,List.setIfInBounds_toArray,List.set_cons_zero,List.set_cons_succ,i64_w,i32_w]
                rfl
               refine pure_ (i := 6) (N := some 65) (v := ?_) (a' := ?_) #[true,true,true,true,false,true,true,false,false,false,false,false,false,false,false,false,false,false,false,false,false,false,false,false,false,false,false,false,false,false,false,false,false,false,false,false,false,false,false,false,false,false,false,false,false] rfl rfl (any_of HT_.out (by kernel_rfl)) (fun _ _ _ h => h) (Or.inl ⟨by rfl,?_⟩) ?_ ?_
               rotate_left
               ·intro w'
                go_simp
                with_reducible rfl
               rotate_left
               ·simp only [Act.put,List.setIfInBounds_toArray,List.set_cons_zero,List.set_cons_succ,i64_w,i32_w]
                rfl
               refine pure_ (i := 7) (N := some 66) (v := ?_) (a' := ?_) #[true,true,true,true,false,true,true,true,false,false,false,false,false,false,false,false,false,false,false,false,false,false,false,false,false,false,false,false,false,false,false,false,false,false,false,false,false,false,false,false,false,false,false,false,false] rfl rfl (any_of HT_.out (by kernel_rfl)) (fun _ _ _ h => h) (Or.inl ⟨by rfl,?_⟩) ?_ ?_
               rotate_left
               ·intro w'
                go_simp
                with_reducible rfl
               rotate_left
               ·simp only [Act.put,List.setIfInBounds_toArray,List.set_cons_zero,List.set_cons_succ,i64_w,i32_w]
                rfl
               refine pure_ (i := 8) (N := some 67) (v := ?_) (a' := ?_) #[true,true,true,true,false,true,true,true,true,false,false,false,false,false,false,false,false,false,false,false,false,false,false,false,false,false,false,false,false,false,false,false,false,false,false,false,false,false,false,false,false,false,false,false,false] rfl rfl (any_of HT_.out (by kernel_rfl)) (fun _ _ _ h => h) (Or.inl ⟨by rfl,?_⟩) ?_ ?_
               rotate_left
               ·intro w'
                go_simp
                with_reducible rfl
               rotate_left
               ·simp only [Act.put,List.setIfInBounds_toArray,List.set_cons_zero,List.set_cons_succ,i64_w,i32_w]
                rfl
               refine take_ (i := 4) (N := some 63) (v := ?_) (a' := ?_) #[true,true,true,true,true,true,true,true,true,false,false,false,false,false,false,false,false,false,false,false,false,false,false,false,false,false,false,false,false,false,false,false,false,false,false,false,false,false,false,false,false,false,false,false,false] rfl rfl (take_ofW HT_.out HW_.out (by kernel_rfl)) (fun _ _ _ h => h) (Or.inl ⟨by rfl,?_⟩) hHeld ?_ ?_
               rotate_left
               ·rintro w' ⟨s0,s1,s2,s3,s4,s5,s6,s7,s8,s9,s10,s11,s12,s13,s14,s15,s16,s17,s18,s19,s20,s21,s22,s23⟩
                go_simp
                with_reducible rfl
               rotate_left
               ·simp only [Act.put,List.setIfInBounds_toArray,List.set_cons_zero,List.set_cons_succ,i64_w,i32_w]
                rfl
               refine take_ (i := 9) (N := some 68) (v := ?_) (a' := ?_) #[true,true,true,true,true,true,true,true,true,true,false,false,false,false,false,false,false,false,false,false,false,false,false,false,false,false,false,false,false,false,false,false,false,false,false,false,false,false,false,false,false,false,false,false,false] rfl rfl (take_ofW HT_.out HW_.out (by kernel_rfl)) (fun _ _ _ h => h) (Or.inl ⟨by rfl,?_⟩) hHeld ?_ ?_
               rotate_left
               ·rintro w' ⟨s0,s1,s2,s3,s4,s5,s6,s7,s8,s9,s10,s11,s12,s13,s14,s15,s16,s17,s18,s19,s20,s21,s22,s23⟩
                go_simp
                with_reducible rfl
               rotate_left
               ·simp only [Act.put,List.setIfInBounds_toArray,List.set_cons_zero,List.set_cons_succ,i64_w,i32_w]
                rfl
               refine pure_ (i := 10) (N := some 69) (v := ?_) (a' := ?_) #[true,true,true,true,true,true,true,true,true,true,true,false,false,false,false,false,false,false,false,false,false,false,false,false,false,false,false,false,false,false,false,false,false,false,false,false,false,false,false,false,false,false,false,false,false] rfl rfl (any_of HT_.out (by kernel_rfl)) (fun _ _ _ h => h) (Or.inl ⟨by rfl,?_⟩) ?_ ?_
               rotate_left
               ·intro w'
                go_simp
                with_reducible rfl
               rotate_left
               ·simp only [Act.put,List.setIfInBounds_toArray,List.set_cons_zero,List.set_cons_succ,i64_w,i32_w]
                rfl
               refine pure_ (i := 11) (N := some 70) (v := ?_) (a' := ?_) #[true,true,true,true,true,true,true,true,true,true,true,true,false,false,false,false,false,false,false,false,false,false,false,false,false,false,false,false,false,false,false,false,false,false,false,false,false,false,false,false,false,false,false,false,false] rfl rfl (any_of HT_.out (by kernel_rfl)) (fun _ _ _ h => h) (Or.inl ⟨by rfl,?_⟩) ?_ ?_
               rotate_left
               ·intro w'
                go_simp
                with_reducible rfl
               rotate_left
               ·simp only [Act.put,List.setIfInBounds_toArray,List.set_cons_zero,List.set_cons_succ,i64_w,i32_w]
                rfl
               refine pure_ (i := 12) (N := some 71) (v := ?_) (a' := ?_) #[true,true,true,true,true,true,true,true,true,true,true,true,true,false,false,false,false,false,false,false,false,false,false,false,false,false,false,false,false,false,false,false,false,false,false,false,false,false,false,false,false,false,false,false,false] rfl rfl (any_of HT_.out (by kernel_rfl)) (fun _ _ _ h => h) (Or.inl ⟨by rfl,?_⟩) ?_ ?_
               rotate_left
               ·intro w'
                go_simp
                with_reducible rfl
               rotate_left
               ·simp only [Act.put,List.setIfInBounds_toArray,List.set_cons_zero,List.set_cons_succ,i64_w,i32_w]
                rfl
               refine pure_ (i := 13) (N := some 72) (v := ?_) (a' := ?_) #[true,true,true,true,true,true,true,true,true,true,true,true,true,true,false,false,false,false,false,false,false,false,false,false,false,false,false,false,false,false,false,false,false,false,false,false,false,false,false,false,false,false,false,false,false] rfl rfl (any_of HT_.out (by kernel_rfl)) (fun _ _ _ h => h) (Or.inl ⟨by rfl,?_⟩) ?_ ?_
               rotate_left
               ·intro w'
                go_simp
                with_reducible rfl
               rotate_left
               ·simp only [Act.put,List.setIfInBounds_toArray,List.set_cons_zero,List.set_cons_succ,i64_w,i32_w]
                rfl
               refine pure_ (i := 14) (N := some 73) (v := ?_) (a' := ?_) #[true,true,true,true,true,true,true,true,true,true,true,true,true,true,true,false,false,false,false,false,false,false,false,false,false,false,false,false,false,false,false,false,false,false,false,false,false,false,false,false,false,false,false,false,false] rfl rfl (any_of HT_.out (by kernel_rfl)) (fun _ _ _ h => h) (Or.inl ⟨by rfl,?_⟩) ?_ ?_
               rotate_left
               ·intro w'
                go_simp
                with_reducible rfl
               rotate_left
               ·simp only [Act.put,List.setIfInBounds_toArray,List.set_cons_zero,List.set_cons_succ,i64_w,i32_w]
                rfl
               refine pure_ (i := 15) (N := some 74) (v := ?_) (a' := ?_) #[true,true,true,true,true,true,true,true,true,true,true,true,true,true,true,true,false,false,false,false,false,false,false,false,false,false,false,false,false,false,false,false,false,false,false,false,false,false,false,false,false,false,false,false,false] rfl rfl (any_of HT_.out (by kernel_rfl)) (fun _ _ _ h => h) (Or.inl ⟨by rfl,?_⟩) ?_ ?_
               rotate_left
               ·intro w'
                go_simp
                with_reducible rfl
               rotate_left
               ·simp only [Act.put,List.setIfInBounds_toArray,List.set_cons_zero,List.set_cons_succ,i64_w,i32_w]
                rfl
               refine take_ (i := 16) (N := some 75) (v := ?_) (a' := ?_) #[true,true,true,true,true,true,true,true,true,true,true,true,true,true,true,true,true,false,false,false,false,false,false,false,false,false,false,false,false,false,false,false,false,false,false,false,false,false,false,false,false,false,false,false,false] rfl rfl (take_ofW HT_.out HW_.out (by kernel_rfl)) (fun _ _ _ h => h) (Or.inl ⟨by rfl,?_⟩) hHeld ?_ ?_
               rotate_left
               ·rintro w' ⟨s0,s1,s2,s3,s4,s5,s6,s7,s8,s9,s10,s11,s12,s13,s14,s15,s16,s17,s18,s19,s20,s21,s22,s23⟩
                go_simp
                with_reducible rfl
               rotate_left
               ·simp only [Act.put,List.setIfInBounds_toArray,List.set_cons_zero,List.set_cons_succ,i64_w,i32_w]
                rfl
               refine pure_ (i := 17) (N := some 76) (v := ?_) (a' := ?_) #[true,true,true,true,true,true,true,true,true,true,true,true,true,true,true,true,true,true,false,false,false,false,false,false,false,false,false,false,false,false,false,false,false,false,false,false,false,false,false,false,false,false,false,false,false] rfl rfl (any_of HT_.out (by kernel_rfl)) (fun _ _ _ h => h) (Or.inl ⟨by rfl,?_⟩) ?_ ?_
               rotate_left
               ·intro w'
                go_simp
                with_reducible rfl
               rotate_left
               ·simp only [Act.put,List.setIfInBounds_toArray,List.set_cons_zero,List.set_cons_succ,i64_w,i32_w]
                rfl
               refine pure_ (i := 18) (N := some 77) (v := ?_) (a' := ?_) #[true,true,true,true,true,true,true,true,true,true,true,true,true,true,true,true,true,true,true,false,false,false,false,false,false,false,false,false,false,false,false,false,false,false,false,false,false,false,false,false,false,false,false,false,false] rfl rfl (any_of HT_.out (by kernel_rfl)) (fun _ _ _ h => h) (Or.inl ⟨by rfl,?_⟩) ?_ ?_
               rotate_left
               ·intro w'
                go_simp
                with_reducible rfl
               rotate_left
               ·simp only [Act.put,List.setIfInBounds_toArray,List.set_cons_zero,List.set_cons_succ,i64_w,i32_w]
                rfl
               refine pure_ (i := 19) (N := some 78) (v := ?_) (a' := ?_) #[true,true,true,true,true,true,true,true,true,true,true,true,true,true,true,true,true,true,true,true,false,false,false,false,false,false,false,false,false,false,false,false,false,false,false,false,false,false,false,false,false,false,false,false,false] rfl rfl (any_of HT_.out (by kernel_rfl)) (fun _ _ _ h => h) (Or.inl ⟨by rfl,?_⟩) ?_ ?_
               rotate_left
               ·intro w'
                go_simp
                with_reducible rfl
               rotate_left
               ·simp only [Act.put,List.setIfInBounds_toArray,List.set_cons_zero,List.set_cons_succ,i64_w,i32_w]
                rfl
               refine pure_ (i := 20) (N := some 79) (v := ?_) (a' := ?_) #[true,true,true,true,true,true,true,true,true,true,true,true,true,true,true,true,true,true,true,true,true,false,false,false,false,false,false,false,false,false,false,false,false,false,false,false,false,false,false,false,false,false,false,false,false] rfl rfl (any_of HT_.out (by kernel_rfl)) (fun _ _ _ h => h) (Or.inl ⟨by rfl,?_⟩) ?_ ?_
               rotate_left
               ·intro w'
                go_simp
                with_reducible rfl
               rotate_left
               ·simp only [Act.put,List.setIfInBounds_toArray,List.set_cons_zero,List.set_cons_succ,i64_w,i32_w]
                rfl
               refine pure_ (i := 21) (N := some 80) (v := ?_) (a' := ?_) #[true,true,true,true,true,true,true,true,true,true,true,true,true,true,true,true,true,true,true,true,true,true,false,false,false,false,false,false,false,false,false,false,false,false,false,false,false,false,false,false,false,false,false,false,false] rfl rfl (any_of HT_.out (by kernel_rfl)) (fun _ _ _ h => h) (Or.inl ⟨by rfl,?_⟩) ?_ ?_
               rotate_left
               ·intro w'
                go_simp
                with_reducible rfl
               rotate_left
               ·simp only [Act.put,List.setIfInBounds_toArray,List.set_cons_zero,List.set_cons_succ,i64_w,i32_w]
                rfl
               refine pure_ (i := 22) (N := some 81) (v := ?_) (a' := ?_) #[true,true,true,true,true,true,true,true,true,true,true,true,true,true,true,true,true,true,true,true,true,true,true,false,false,false,false,false,false,false,false,false,false,false,false,false,false,false,false,false,false,false,false,false,false] rfl rfl (any_of HT_.out (by kernel_rfl)) (fun _ _ _ h => h) (Or.inl ⟨by rfl,?_⟩) ?_ ?_
               rotate_left
               ·intro w'
                go_simp
                with_reducible rfl
               rotate_left
               ·simp only [Act.put,List.setIfInBounds_toArray,List.set_cons_zero,List.set_cons_succ,i64_w,i32_w]
                rfl
               refine pure_ (i := 23) (N := some 82) (v := ?_) (a' := ?_) #[true,true,true,true,true,true,true,true,true,true,true,true,true,true,true,true,true,true,true,true,true,true,true,true,false,false,false,false,false,false,false,false,false,false,false,false,false,false,false,false,false,false,false,false,false] rfl rfl (any_of HT_.out (by kernel_rfl)) (fun _ _ _ h => h) (Or.inl ⟨by rfl,?_⟩) ?_ ?_
               rotate_left
               ·intro w'
                go_simp
                with_reducible rfl
               rotate_left
               ·simp only [Act.put,List.setIfInBounds_toArray,List.set_cons_zero,List.set_cons_succ,i64_w,i32_w]
                rfl
               refine pure_ (i := 25) (N := some 84) (v := ?_) (a' := ?_) #[true,true,true,true,true,true,true,true,true,true,true,true,true,true,true,true,true,true,true,true,true,true,true,true,false,true,false,false,false,false,false,false,false,false,false,false,false,false,false,false,false,false,false,false,false] rfl rfl (any_of HT_.out (by kernel_rfl)) (fun _ _ _ h => h) (Or.inl ⟨by rfl,?_⟩) ?_ ?_
               rotate_left
               ·intro w'
                go_simp
                with_reducible rfl
               rotate_left
               ·simp only [Act.put,List.setIfInBounds_toArray,List.set_cons_zero,List.set_cons_succ,i64_w,i32_w]
                rfl
               refine pure_ (i := 26) (N := some 85) (v := ?_) (a' := ?_) #[true,true,true,true,true,true,true,true,true,true,true,true,true,true,true,true,true,true,true,true,true,true,true,true,false,true,true,false,false,false,false,false,false,false,false,false,false,false,false,false,false,false,false,false,false] rfl rfl (any_of HT_.out (by kernel_rfl)) (fun _ _ _ h => h) (Or.inl ⟨by rfl,?_⟩) ?_ ?_
               rotate_left
               ·intro w'
                go_simp
                with_reducible rfl
               rotate_left
               ·simp only [Act.put,List.setIfInBounds_toArray,List.set_cons_zero,List.set_cons_succ,i64_w,i32_w]
                rfl
               refine pure_ (i := 27) (N := some 86) (v := ?_) (a' := ?_) #[true,true,true,true,true,true,true,true,true,true,true,true,true,true,true,true,true,true,true,true,true,true,true,true,false,true,true,true,false,false,false,false,false,false,false,false,false,false,false,false,false,false,false,false,false] rfl rfl (any_of HT_.out (by kernel_rfl)) (fun _ _ _ h => h) (Or.inl ⟨by rfl,?_⟩) ?_ ?_
               rotate_left
               ·intro w'
                go_simp
                with_reducible rfl
               rotate_left
               ·simp only [Act.put,List.setIfInBounds_toArray,List.set_cons_zero,List.set_cons_succ,i64_w,i32_w]
                rfl
               refine pure_ (i := 28) (N := some 87) (v := ?_) (a' := ?_) #[true,true,true,true,true,true,true,true,true,true,true,true,true,true,true,true,true,true,true,true,true,true,true,true,false,true,true,true,true,false,false,false,false,false,false,false,false,false,false,false,false,false,false,false,false] rfl rfl (any_of HT_.out (by kernel_rfl)) (fun _ _ _ h => h) (Or.inl ⟨by rfl,?_⟩) ?_ ?_
               rotate_left
               ·intro w'
                go_simp
                with_reducible rfl
               rotate_left
               ·simp only [Act.put,List.setIfInBounds_toArray,List.set_cons_zero,List.set_cons_succ,i64_w,i32_w]
                rfl
               refine take_ (i := 24) (N := some 83) (v := ?_) (a' := ?_) #[true,true,true,true,true,true,true,true,true,true,true,true,true,true,true,true,true,true,true,true,true,true,true,true,true,true,true,true,true,false,false,false,false,false,false,false,false,false,false,false,false,false,false,false,false] rfl rfl (take_ofW HT_.out HW_.out (by kernel_rfl)) (fun _ _ _ h => h) (Or.inl ⟨by rfl,?_⟩) hHeld ?_ ?_
               rotate_left
               ·rintro w' ⟨s0,s1,s2,s3,s4,s5,s6,s7,s8,s9,s10,s11,s12,s13,s14,s15,s16,s17,s18,s19,s20,s21,s22,s23⟩
                go_simp
                with_reducible rfl
               rotate_left
               ·simp only [Act.put,List.setIfInBounds_toArray,List.set_cons_zero,List.set_cons_succ,i64_w,i32_w]
                rfl
               refine take_ (i := 29) (N := some 88) (v := ?_) (a' := ?_) #[true,true,true,true,true,true,true,true,true,true,true,true,true,true,true,true,true,true,true,true,true,true,true,true,true,true,true,true,true,true,false,false,false,false,false,false,false,false,false,false,false,false,false,false,false] rfl rfl (take_ofW HT_.out HW_.out (by kernel_rfl)) (fun _ _ _ h => h) (Or.inl ⟨by rfl,?_⟩) hHeld ?_ ?_
               rotate_left
               ·rintro w' ⟨s0,s1,s2,s3,s4,s5,s6,s7,s8,s9,s10,s11,s12,s13,s14,s15,s16,s17,s18,s19,s20,s21,s22,s23⟩
                go_simp
                with_reducible rfl
               rotate_left
               ·simp only [Act.put,List.setIfInBounds_toArray,List.set_cons_zero,List.set_cons_succ,i64_w,i32_w]
                rfl
               refine pure_ (i := 30) (N := some 89) (v := ?_) (a' := ?_) #[true,true,true,true,true,true,true,true,true,true,true,true,true,true,true,true,true,true,true,true,true,true,true,true,true,true,true,true,true,true,true,false,false,false,false,false,false,false,false,false,false,false,false,false,false] rfl rfl (any_of HT_.out (by kernel_rfl)) (fun _ _ _ h => h) (Or.inl ⟨by rfl,?_⟩) ?_ ?_
               rotate_left
               ·intro w'
                go_simp
                with_reducible rfl
               rotate_left
               ·simp only [Act.put,List.setIfInBounds_toArray,List.set_cons_zero,List.set_cons_succ,i64_w,i32_w]
                rfl
               refine pure_ (i := 31) (N := some 90) (v := ?_) (a' := ?_) #[true,true,true,true,true,true,true,true,true,true,true,true,true,true,true,true,true,true,true,true,true,true,true,true,true,true,true,true,true,true,true,true,false,false,false,false,false,false,false,false,false,false,false,false,false] rfl rfl (any_of HT_.out (by kernel_rfl)) (fun _ _ _ h => h) (Or.inl ⟨by rfl,?_⟩) ?_ ?_
               rotate_left
               ·intro w'
                go_simp
                with_reducible rfl
               rotate_left
               ·simp only [Act.put,List.setIfInBounds_toArray,List.set_cons_zero,List.set_cons_succ,i64_w,i32_w]
                rfl
               refine pure_ (i := 32) (N := some 91) (v := ?_) (a' := ?_) #[true,true,true,true,true,true,true,true,true,true,true,true,true,true,true,true,true,true,true,true,true,true,true,true,true,true,true,true,true,true,true,true,true,false,false,false,false,false,false,false,false,false,false,false,false] rfl rfl (any_of HT_.out (by kernel_rfl)) (fun _ _ _ h => h) (Or.inl ⟨by rfl,?_⟩) ?_ ?_
               rotate_left
               ·intro w'
                go_simp
                with_reducible rfl
               rotate_left
               ·simp only [Act.put,List.setIfInBounds_toArray,List.set_cons_zero,List.set_cons_succ,i64_w,i32_w]
                rfl
               refine pure_ (i := 33) (N := some 92) (v := ?_) (a' := ?_) #[true,true,true,true,true,true,true,true,true,true,true,true,true,true,true,true,true,true,true,true,true,true,true,true,true,true,true,true,true,true,true,true,true,true,false,false,false,false,false,false,false,false,false,false,false] rfl rfl (any_of HT_.out (by kernel_rfl)) (fun _ _ _ h => h) (Or.inl ⟨by rfl,?_⟩) ?_ ?_
               rotate_left
               ·intro w'
                go_simp
                with_reducible rfl
               rotate_left
               ·simp only [Act.put,List.setIfInBounds_toArray,List.set_cons_zero,List.set_cons_succ,i64_w,i32_w]
                rfl
               refine pure_ (i := 34) (N := some 93) (v := ?_) (a' := ?_) #[true,true,true,true,true,true,true,true,true,true,true,true,true,true,true,true,true,true,true,true,true,true,true,true,true,true,true,true,true,true,true,true,true,true,true,false,false,false,false,false,false,false,false,false,false] rfl rfl (any_of HT_.out (by kernel_rfl)) (fun _ _ _ h => h) (Or.inl ⟨by rfl,?_⟩) ?_ ?_
               rotate_left
               ·intro w'
                go_simp
                with_reducible rfl
               rotate_left
               ·simp only [Act.put,List.setIfInBounds_toArray,List.set_cons_zero,List.set_cons_succ,i64_w,i32_w]
                rfl
               refine pure_ (i := 35) (N := some 94) (v := ?_) (a' := ?_) #[true,true,true,true,true,true,true,true,true,true,true,true,true,true,true,true,true,true,true,true,true,true,true,true,true,true,true,true,true,true,true,true,true,true,true,true,false,false,false,false,false,false,false,false,false] rfl rfl (any_of HT_.out (by kernel_rfl)) (fun _ _ _ h => h) (Or.inl ⟨by rfl,?_⟩) ?_ ?_
               rotate_left
               ·intro w'
                go_simp
                with_reducible rfl
               rotate_left
               ·simp only [Act.put,List.setIfInBounds_toArray,List.set_cons_zero,List.set_cons_succ,i64_w,i32_w]
                rfl
               refine pure_ (i := 36) (N := some 95) (v := ?_) (a' := ?_) #[true,true,true,true,true,true,true,true,true,true,true,true,true,true,true,true,true,true,true,true,true,true,true,true,true,true,true,true,true,true,true,true,true,true,true,true,true,false,false,false,false,false,false,false,false] rfl rfl (any_of HT_.out (by kernel_rfl)) (fun _ _ _ h => h) (Or.inl ⟨by rfl,?_⟩) ?_ ?_
               rotate_left
               ·intro w'
                go_simp
                with_reducible rfl
               rotate_left
               ·simp only [Act.put,List.setIfInBounds_toArray,List.set_cons_zero,List.set_cons_succ,i64_w,i32_w]
                rfl
               refine pure_ (i := 37) (N := some 96) (v := undef) (a' := ?_) #[true,true,true,true,true,true,true,true,true,true,true,true,true,true,true,true,true,true,true,true,true,true,true,true,true,true,true,true,true,true,true,true,true,true,true,true,true,true,false,false,false,false,false,false,false] rfl rfl (any_of HT_.out (by kernel_rfl)) (fun _ _ _ h => h) (Or.inr ⟨by rfl,rfl⟩) ?_ ?_
               rotate_left
               ·simp only [Act.put,List.setIfInBounds_toArray,List.set_cons_zero,List.set_cons_succ,i64_w,i32_w]
                rfl
               refine pure_ (i := 38) (N := some 97) (v := undef) (a' := ?_) #[true,true,true,true,true,true,true,true,true,true,true,true,true,true,true,true,true,true,true,true,true,true,true,true,true,true,true,true,true,true,true,true,true,true,true,true,true,true,true,false,false,false,false,false,false] rfl rfl (any_of HT_.out (by kernel_rfl)) (fun _ _ _ h => h) (Or.inr ⟨by rfl,rfl⟩) ?_ ?_
               rotate_left
               ·simp only [Act.put,List.setIfInBounds_toArray,List.set_cons_zero,List.set_cons_succ,i64_w,i32_w]
                rfl
               refine pure_ (i := 39) (N := some 98) (v := undef) (a' := ?_) #[true,true,true,true,true,true,true,true,true,true,true,true,true,true,true,true,true,true,true,true,true,true,true,true,true,true,true,true,true,true,true,true,true,true,true,true,true,true,true,true,false,false,false,false,false] rfl rfl (any_of HT_.out (by kernel_rfl)) (fun _ _ _ h => h) (Or.inr ⟨by rfl,rfl⟩) ?_ ?_
               rotate_left
               ·simp only [Act.put,List.setIfInBounds_toArray,List.set_cons_zero,List.set_cons_succ,i64_w,i32_w]
                rfl
               refine pure_ (i := 40) (N := some 99) (v := undef) (a' := ?_) #[true,true,true,true,true,true,true,true,true,true,true,true,true,true,true,true,true,true,true,true,true,true,true,true,true,true,true,true,true,true,true,true,true,true,true,true,true,true,true,true,true,false,false,false,false] rfl rfl (any_of HT_.out (by kernel_rfl)) (fun _ _ _ h => h) (Or.inr ⟨by rfl,rfl⟩) ?_ ?_
               rotate_left
               ·simp only [Act.put,List.setIfInBounds_toArray,List.set_cons_zero,List.set_cons_succ,i64_w,i32_w]
                rfl
               refine pure_ (i := 41) (N := some 100) (v := undef) (a' := ?_) #[true,true,true,true,true,true,true,true,true,true,true,true,true,true,true,true,true,true,true,true,true,true,true,true,true,true,true,true,true,true,true,true,true,true,true,true,true,true,true,true,true,true,false,false,false] rfl rfl (any_of HT_.out (by kernel_rfl)) (fun _ _ _ h => h) (Or.inr ⟨by rfl,rfl⟩) ?_ ?_
               rotate_left
               ·simp only [Act.put,List.setIfInBounds_toArray,List.set_cons_zero,List.set_cons_succ,i64_w,i32_w]
                rfl
               refine pure_ (i := 42) (N := some 101) (v := undef) (a' := ?_) #[true,true,true,true,true,true,true,true,true,true,true,true,true,true,true,true,true,true,true,true,true,true,true,true,true,true,true,true,true,true,true,true,true,true,true,true,true,true,true,true,true,true,true,false,false] rfl rfl (any_of HT_.out (by kernel_rfl)) (fun _ _ _ h => h) (Or.inr ⟨by rfl,rfl⟩) ?_ ?_
               rotate_left
               ·simp only [Act.put,List.setIfInBounds_toArray,List.set_cons_zero,List.set_cons_succ,i64_w,i32_w]
                rfl
               refine pure_ (i := 43) (N := some 102) (v := ?_) (a' := ?_) #[true,true,true,true,true,true,true,true,true,true,true,true,true,true,true,true,true,true,true,true,true,true,true,true,true,true,true,true,true,true,true,true,true,true,true,true,true,true,true,true,true,true,true,true,false] rfl rfl (any_of HT_.out (by kernel_rfl)) (fun _ _ _ h => h) (Or.inl ⟨by rfl,?_⟩) ?_ ?_
               rotate_left
               ·intro w'
                go_simp
                with_reducible rfl
               rotate_left
               ·simp only [Act.put,List.setIfInBounds_toArray,List.set_cons_zero,List.set_cons_succ,i64_w,i32_w]
                rfl
               refine pure_ (i := 44) (N := some 103) (v := ?_) (a' := ?_) #[true,true,true,true,true,true,true,true,true,true,true,true,true,true,true,true,true,true,true,true,true,true,true,true,true,true,true,true,true,true,true,true,true,true,true,true,true,true,true,true,true,true,true,true,true] rfl rfl (any_of HT_.out (by kernel_rfl)) (fun _ _ _ h => h) (Or.inl ⟨by rfl,?_⟩) ?_ ?_
               rotate_left
               ·intro w'
                go_simp
                with_reducible rfl
               rotate_left
               ·simp only [Act.put,List.setIfInBounds_toArray,List.set_cons_zero,List.set_cons_succ,i64_w,i32_w]
                rfl
               refine done_ (done_of HT_.out (by kernel_rfl)) ?_
               try go_wp2
               go_meet
               case rel => exact ⟨_,(false),(by first | rfl | (simp;done) | (simp [*];done)),H',⟨by have := HJ7.out;have := HK2.out;first | omega | exact Nat.le_refl _⟩,⟨by (with_reducible repeat (first | apply Kd.R_alloc | apply Kd.R_drewN | apply Kd.R_drew));exact HO_9.out⟩,⟨by (with_reducible repeat (first | apply Kd.R_alloc | apply Kd.R_drewN | apply Kd.R_drew));exact HO_10.out⟩,⟨by (with_reducible repeat (first | refine blk_drewN ?_ _ | refine blk_drew ?_ | refine blk_alloc ?_ _));exact BK309.out⟩,⟨by repeat (first | (with_reducible first | exact HB.out | apply below_alloc | apply pw_below_drewN | apply below_drew1 | refine below_set ?_ GE309.out) | exact HB.out)⟩⟩
              ·replace c31 := Bool.eq_false_iff.mpr c31
               subst c31
               have H1 : (bournelaw37_AllotStops.j2 k2 l1 l2 t310 t312 t315 x11_2 false (((rd_T47 t312 x11_2).f1) != 0) a0_0 l0_1 a0_2 l0_3 l0_4 l0_5 l0_6 l0_7 l0_8 l0_9 a0_10) = some r := by rw [if_neg (show ¬ (false = true) by decide)] at H;exact H
               clear H
               have H := H1
               clear H1
               have H' := Aside0.mk H
               clear H
               try go_wp2
               (repeat (rw [drewN_self w25];generalize hq_ : World.drewN w25 _ = w25;have n0_ : Aside0 (Kd.R (Kd.int .i64) 3 w25 w.heap.size (fun _ => True) v316 t315) := ⟨by rw [← hq_];exact (by (with_reducible repeat (first | apply Kd.R_alloc | apply Kd.R_drewN | apply Kd.R_drew));exact HO_10.out)⟩;have n1_ : Aside0 (Kd.R k47 47 w25 w.heap.size (fun _ => True) v313 t312) := ⟨by rw [← hq_];exact (by (with_reducible repeat (first | apply Kd.R_alloc | apply Kd.R_drewN | apply Kd.R_drew));exact HO_9.out)⟩;have n2_ : Aside0 (w25.heap[gb309]? = some (.cells #[.string a0_0,.slice A0_1 l0_1.length c0_1,.int .i64 a0_2,.slice A0_3 l0_3.length c0_3,.slice A0_4 l0_4.length c0_4,.slice A0_5 l0_5.length c0_5,.slice A0_6 l0_6.length c0_6,.slice A0_7 l0_7.length c0_7,.slice A0_8 l0_8.length c0_8,.slice A0_9 l0_9.length c0_9,.int .i64 a0_10] 31 (0,0))) := ⟨by rw [← hq_];exact (by (with_reducible repeat (first | refine blk_drewN ?_ _ | refine blk_drew ?_ | refine blk_alloc ?_ _));exact BK309.out)⟩;have n3_ : Aside0 (Below w.heap.size w w25) := ⟨by rw [← hq_];exact (by repeat (first | (with_reducible first | exact HB.out | apply below_alloc | apply pw_below_drewN | apply below_drew1 | refine below_set ?_ GE309.out) | exact HB.out))⟩;clear HO_10 HO_9 BK309 HB hq_;have HO_10 := n0_;have HO_9 := n1_;have BK309 := n2_;have HB := n3_;clear n0_ n1_ n2_ n3_))
               have n0_ := Aside0.mk (Kd.R_drew HO_9.out)
               have n1_ := Aside0.mk (Kd.R_drew HO_10.out)
               have n2_ := Aside0.mk (blk_drew BK309.out)
               have n3_ := Aside0.mk (below_drew1 HB.out)
               clear HO_9
               clear HO_10
               clear BK309
               clear HB
               have HO_9 := n0_
               have HO_10 := n1_
               have BK309 := n2_
               have HB := n3_
               clear n0_ n1_ n2_ n3_
               obtain ⟨Ao35,co35,eo35⟩ := Kd.R_slice HO_9.out
               (first | subst eo35 | (injection eo35 with f1_ f2_ f3_;have f4_ := f1_.symm;have f5_ := f3_.symm;clear f1_ f2_ f3_;subst f4_;subst f5_))
               have p320 : 0 ≤ (x11_2 : Int) := of_decide_eq_true (by first | (with_reducible assumption) | assumption)
               have q320 : x11_2 < (t312.length : Int) := of_decide_eq_true (by first | (with_reducible assumption) | assumption)
               obtain ⟨ad320,e320,hx320_0,hx320_1⟩ := at_T47 (Kd.R_reads' HO_9.out).2.2 x11_2 p320 q320
               cases e320
               replace p320 := eq_true p320
               replace q320 := eq_true q320
               have p321 : 0 ≤ (x11_2 : Int) := of_decide_eq_true (by first | (with_reducible assumption) | assumption)
               have q321 : x11_2 < (l1.length : Int) := of_decide_eq_true (by first | (with_reducible assumption) | assumption)
               obtain ⟨ad321,e321,hx321_0,hx321_1,hx321_2,hx321_3,hx321_4,hx321_5,hx321_6,hx321_7,hx321_8⟩ := at_T45 HR1.out x11_2 p321 q321
               have hw321_8 := hx321_8
               have hw321_7 := hx321_7
               have hw321_6 := hx321_6
               have hw321_5 := hx321_5
               have hw321_4 := hx321_4
               have hw321_3 := hx321_3
               have hw321_2 := hx321_2
               have hw321_1 := hx321_1
               have hw321_0 := hx321_0
               obtain rfl : ad318 = ad321 := (by injection e321)
               replace hx321_0 := (HB.out.cell (World.block_lt_of_cell? w _ hx321_0)).trans hx321_0
               replace hx321_1 := (HB.out.cell (World.block_lt_of_cell? w _ hx321_1)).trans hx321_1
               replace hx321_2 := (HB.out.cell (World.block_lt_of_cell? w _ hx321_2)).trans hx321_2
               replace hx321_3 := (HB.out.cell (World.block_lt_of_cell? w _ hx321_3)).trans hx321_3
               replace hx321_4 := (HB.out.cell (World.block_lt_of_cell? w _ hx321_4)).trans hx321_4
               replace hx321_5 := (HB.out.cell (World.block_lt_of_cell? w _ hx321_5)).trans hx321_5
               replace hx321_6 := (HB.out.cell (World.block_lt_of_cell? w _ hx321_6)).trans hx321_6
               replace hx321_7 := (HB.out.cell (World.block_lt_of_cell? w _ hx321_7)).trans hx321_7
               replace hx321_8 := (HB.out.cell (World.block_lt_of_cell? w _ hx321_8)).trans hx321_8
               replace p321 := eq_true p321
               replace q321 := eq_true q321
               have p322 : 0 ≤ (x11_2 : Int) := of_decide_eq_true (by first | (with_reducible assumption) | assumption)
               have q322 : x11_2 < (t312.length : Int) := of_decide_eq_true (by first | (with_reducible assumption) | assumption)
               obtain ⟨ad322,e322,hx322_0,hx322_1⟩ := at_T47 (Kd.R_reads' HO_9.out).2.2 x11_2 p322 q322
               obtain rfl : ad320 = ad322 := (by injection e322)
               replace p322 := eq_true p322
               replace q322 := eq_true q322
               have p323 : 0 ≤ (x11_2 : Int) := of_decide_eq_true (by first | (with_reducible assumption) | assumption)
               have q323 : x11_2 < (t312.length : Int) := of_decide_eq_true (by first | (with_reducible assumption) | assumption)
               obtain ⟨ad323,e323,hx323_0,hx323_1⟩ := at_T47 (Kd.R_reads' HO_9.out).2.2 x11_2 p323 q323
               obtain rfl : ad320 = ad323 := (by injection e323)
               replace p323 := eq_true p323
               replace q323 := eq_true q323
               have p324 : 0 ≤ (x11_2 : Int) := of_decide_eq_true (by first | (with_reducible assumption) | assumption)
               have q324 : x11_2 < (l1.length : Int) := of_decide_eq_true (by first | (with_reducible assumption) | assumption)
               obtain ⟨ad324,e324,hx324_0,hx324_1,hx324_2,hx324_3,hx324_4,hx324_5,hx324_6,hx324_7,hx324_8⟩ := at_T45 HR1.out x11_2 p324 q324
               have hw324_8 := hx324_8
               have hw324_7 := hx324_7
               have hw324_6 := hx324_6
               have hw324_5 := hx324_5
               have hw324_4 := hx324_4
               have hw324_3 := hx324_3
               have hw324_2 := hx324_2
               have hw324_1 := hx324_1
               have hw324_0 := hx324_0
               obtain rfl : ad318 = ad324 := (by injection e324)
               replace hx324_0 := (HB.out.cell (World.block_lt_of_cell? w _ hx324_0)).trans hx324_0
               replace hx324_1 := (HB.out.cell (World.block_lt_of_cell? w _ hx324_1)).trans hx324_1
               replace hx324_2 := (HB.out.cell (World.block_lt_of_cell? w _ hx324_2)).trans hx324_2
               replace hx324_3 := (HB.out.cell (World.block_lt_of_cell? w _ hx324_3)).trans hx324_3
               replace hx324_4 := (HB.out.cell (World.block_lt_of_cell? w _ hx324_4)).trans hx324_4
               replace hx324_5 := (HB.out.cell (World.block_lt_of_cell? w _ hx324_5)).trans hx324_5
               replace hx324_6 := (HB.out.cell (World.block_lt_of_cell? w _ hx324_6)).trans hx324_6
               replace hx324_7 := (HB.out.cell (World.block_lt_of_cell? w _ hx324_7)).trans hx324_7
               replace hx324_8 := (HB.out.cell (World.block_lt_of_cell? w _ hx324_8)).trans hx324_8
               replace p324 := eq_true p324
               replace q324 := eq_true q324
               have p325 : 0 ≤ (x11_2 : Int) := of_decide_eq_true (by first | (with_reducible assumption) | assumption)
               have q325 : x11_2 < (t312.length : Int) := of_decide_eq_true (by first | (with_reducible assumption) | assumption)
               obtain ⟨ad325,e325,hx325_0,hx325_1⟩ := at_T47 (Kd.R_reads' HO_9.out).2.2 x11_2 p325 q325
               obtain rfl : ad320 = ad325 := (by injection e325)
               replace p325 := eq_true p325
               replace q325 := eq_true q325
               refine start_ (n := 45) (S := fun w' => w'.cell? (ad320.add ((x11_2).toNat * 2)) = some (.int .i64 ((rd_T47 t312 x11_2).f0)) ∧ w'.cell? ⟨(ad320.add ((x11_2).toNat * 2)).block,(ad320.add ((x11_2).toNat * 2)).off + 1,none⟩ = some (.int .i64 ((rd_T47 t312 x11_2).f1)) ∧ w'.cell? (ad318.add ((x11_2).toNat * 9)) = some (.int .i64 ((rd_T45 l1 x11_2).f0)) ∧ w'.cell? ⟨(ad318.add ((x11_2).toNat * 9)).block,(ad318.add ((x11_2).toNat * 9)).off + 1,none⟩ = some (.int .i64 ((rd_T45 l1 x11_2).f1)) ∧ w'.cell? ⟨(ad318.add ((x11_2).toNat * 9)).block,(ad318.add ((x11_2).toNat * 9)).off + 2,none⟩ = some (.int .i64 ((rd_T45 l1 x11_2).f2)) ∧ w'.cell? ⟨(ad318.add ((x11_2).toNat * 9)).block,(ad318.add ((x11_2).toNat * 9)).off + 3,none⟩ = some (.int .i64 ((rd_T45 l1 x11_2).f3)) ∧ w'.cell? ⟨(ad318.add ((x11_2).toNat * 9)).block,(ad318.add ((x11_2).toNat * 9)).off + 4,none⟩ = some (.int .i64 ((rd_T45 l1 x11_2).f4)) ∧ w'.cell? ⟨(ad318.add ((x11_2).toNat * 9)).block,(ad318.add ((x11_2).toNat * 9)).off + 5,none⟩ = some (.int .i64 ((rd_T45 l1 x11_2).f5)) ∧ w'.cell? ⟨(ad318.add ((x11_2).toNat * 9)).block,(ad318.add ((x11_2).toNat * 9)).off + 6,none⟩ = some (.int .i64 ((rd_T45 l1 x11_2).f6)) ∧ w'.cell? ⟨(ad318.add ((x11_2).toNat * 9)).block,(ad318.add ((x11_2).toNat * 9)).off + 7,none⟩ = some (.int .i64 ((rd_T45 l1 x11_2).f7)) ∧ w'.cell? ⟨(ad318.add ((x11_2).toNat * 9)).block,(ad318.add ((x11_2).toNat * 9)).off + 8,none⟩ = some (.int .i64 ((rd_T45 l1 x11_2).f8)) ∧ w'.cell? (ad320.add ((x11_2).toNat * 2)) = some (.int .i64 ((rd_T47 t312 x11_2).f0)) ∧ w'.cell? ⟨(ad320.add ((x11_2).toNat * 2)).block,(ad320.add ((x11_2).toNat * 2)).off + 1,none⟩ = some (.int .i64 ((rd_T47 t312 x11_2).f1)) ∧ w'.cell? (ad320.add ((x11_2).toNat * 2)) = some (.int .i64 ((rd_T47 t312 x11_2).f0)) ∧ w'.cell? ⟨(ad320.add ((x11_2).toNat * 2)).block,(ad320.add ((x11_2).toNat * 2)).off + 1,none⟩ = some (.int .i64 ((rd_T47 t312 x11_2).f1)) ∧ w'.cell? (ad318.add ((x11_2).toNat * 9)) = some (.int .i64 ((rd_T45 l1 x11_2).f0)) ∧ w'.cell? ⟨(ad318.add ((x11_2).toNat * 9)).block,(ad318.add ((x11_2).toNat * 9)).off + 1,none⟩ = some (.int .i64 ((rd_T45 l1 x11_2).f1)) ∧ w'.cell? ⟨(ad318.add ((x11_2).toNat * 9)).block,(ad318.add ((x11_2).toNat * 9)).off + 2,none⟩ = some (.int .i64 ((rd_T45 l1 x11_2).f2)) ∧ w'.cell? ⟨(ad318.add ((x11_2).toNat * 9)).block,(ad318.add ((x11_2).toNat * 9)).off + 3,none⟩ = some (.int .i64 ((rd_T45 l1 x11_2).f3)) ∧ w'.cell? ⟨(ad318.add ((x11_2).toNat * 9)).block,(ad318.add ((x11_2).toNat * 9)).off + 4,none⟩ = some (.int .i64 ((rd_T45 l1 x11_2).f4)) ∧ w'.cell? ⟨(ad318.add ((x11_2).toNat * 9)).block,(ad318.add ((x11_2).toNat * 9)).off + 5,none⟩ = some (.int .i64 ((rd_T45 l1 x11_2).f5)) ∧ w'.cell? ⟨(ad318.add ((x11_2).toNat * 9)).block,(ad318.add ((x11_2).toNat * 9)).off + 6,none⟩ = some (.int .i64 ((rd_T45 l1 x11_2).f6)) ∧ w'.cell? ⟨(ad318.add ((x11_2).toNat * 9)).block,(ad318.add ((x11_2).toNat * 9)).off + 7,none⟩ = some (.int .i64 ((rd_T45 l1 x11_2).f7)) ∧ w'.cell? ⟨(ad318.add ((x11_2).toNat * 9)).block,(ad318.add ((x11_2).toNat * 9)).off + 8,none⟩ = some (.int .i64 ((rd_T45 l1 x11_2).f8)) ∧ w'.cell? (ad320.add ((x11_2).toNat * 2)) = some (.int .i64 ((rd_T47 t312 x11_2).f0)) ∧ w'.cell? ⟨(ad320.add ((x11_2).toNat * 2)).block,(ad320.add ((x11_2).toNat * 2)).off + 1,none⟩ = some (.int .i64 ((rd_T47 t312 x11_2).f1))) (ds := []) #[false,false,false,false,false,false,false,false,false,false,false,false,false,false,false,false,false,false,false,false,false,false,false,false,false,false,false,false,false,false,false,false,false,false,false,false,false,false,false,false,false,false,false,false,false] (by kernel_rfl) rfl rfl ⟨hx320_0,hx320_1,((HB.out.cell (World.block_lt_of_cell? w _ hw321_0)).trans hw321_0),((HB.out.cell (World.block_lt_of_cell? w _ hw321_1)).trans hw321_1),((HB.out.cell (World.block_lt_of_cell? w _ hw321_2)).trans hw321_2),((HB.out.cell (World.block_lt_of_cell? w _ hw321_3)).trans hw321_3),((HB.out.cell (World.block_lt_of_cell? w _ hw321_4)).trans hw321_4),((HB.out.cell (World.block_lt_of_cell? w _ hw321_5)).trans hw321_5),((HB.out.cell (World.block_lt_of_cell? w _ hw321_6)).trans hw321_6),((HB.out.cell (World.block_lt_of_cell? w _ hw321_7)).trans hw321_7),((HB.out.cell (World.block_lt_of_cell? w _ hw321_8)).trans hw321_8),hx322_0,hx322_1,hx323_0,hx323_1,((HB.out.cell (World.block_lt_of_cell? w _ hw324_0)).trans hw324_0),((HB.out.cell (World.block_lt_of_cell? w _ hw324_1)).trans hw324_1),((HB.out.cell (World.block_lt_of_cell? w _ hw324_2)).trans hw324_2),((HB.out.cell (World.block_lt_of_cell? w _ hw324_3)).trans hw324_3),((HB.out.cell (World.block_lt_of_cell? w _ hw324_4)).trans hw324_4),((HB.out.cell (World.block_lt_of_cell? w _ hw324_5)).trans hw324_5),((HB.out.cell (World.block_lt_of_cell? w _ hw324_6)).trans hw324_6),((HB.out.cell (World.block_lt_of_cell? w _ hw324_7)).trans hw324_7),((HB.out.cell (World.block_lt_of_cell? w _ hw324_8)).trans hw324_8),hx325_0,hx325_1⟩ (fun hHeld => ?_);refine with_tabW bournelaw37_AllotStops.tab12 bournelaw37_AllotStops.bits12 (fun HT_ HW_ => ?_)
               generalize w25.drew = w34 at HO_9 HO_10 BK309 HB hx320_0 hx320_1 hx321_0 hx321_1 hx321_2 hx321_3 hx321_4 hx321_5 hx321_6 hx321_7 hx321_8 hx322_0 hx322_1 hx323_0 hx323_1 hx324_0 hx324_1 hx324_2 hx324_3 hx324_4 hx324_5 hx324_6 hx324_7 hx324_8 hx325_0 hx325_1 hHeld ⊢
               refine pure_ (i := 0) (N := some 59) (v := ?_) (a' := ?_) #[true,false,false,false,false,false,false,false,false,false,false,false,false,false,false,false,false,false,false,false,false,false,false,false,false,false,false,false,false,false,false,false,false,false,false,false,false,false,false,false,false,false,false,false,false] rfl rfl (any_of HT_.out (by kernel_rfl)) (fun _ _ _ h => h) (Or.inl ⟨by rfl,?_⟩) ?_ ?_
               rotate_left
               ·intro w'
                go_simp
                with_reducible rfl
               rotate_left
               ·simp only [Act.put,List.setIfInBounds_toArray,List.set_cons_zero,List.set_cons_succ,i64_w,i32_w]
                rfl
               refine pure_ (i := 1) (N := some 60) (v := ?_) (a' := ?_) #[true,true,false,false,false,false,false,false,false,false,false,false,false,false,false,false,false,false,false,false,false,false,false,false,false,false,false,false,false,false,false,false,false,false,false,false,false,false,false,false,false,false,false,false,false] rfl rfl (any_of HT_.out (by kernel_rfl)) (fun _ _ _ h => h) (Or.inl ⟨by rfl,?_⟩) ?_ ?_
               rotate_left
               ·intro w'
                go_simp
                with_reducible rfl
               rotate_left
               ·simp only [Act.put,List.setIfInBounds_toArray,List.set_cons_zero,List.set_cons_succ,i64_w,i32_w]
                rfl
               refine pure_ (i := 2) (N := some 61) (v := ?_) (a' := ?_) #[true,true,true,false,false,false,false,false,false,false,false,false,false,false,false,false,false,false,false,false,false,false,false,false,false,false,false,false,false,false,false,false,false,false,false,false,false,false,false,false,false,false,false,false,false] rfl rfl (any_of HT_.out (by kernel_rfl)) (fun _ _ _ h => h) (Or.inl ⟨by rfl,?_⟩) ?_ ?_
               rotate_left
               ·intro w'
                go_simp
                with_reducible rfl
               rotate_left
               ·simp only [Act.put,List.setIfInBounds_toArray,List.set_cons_zero,List.set_cons_succ,i64_w,i32_w]
                rfl
               refine pure_ (i := 3) (N := some 62) (v := ?_) (a' := ?_) #[true,true,true,true,false,false,false,false,false,false,false,false,false,false,false,false,false,false,false,false,false,false,false,false,false,false,false,false,false,false,false,false,false,false,false,false,false,false,false,false,false,false,false,false,false] rfl rfl (any_of HT_.out (by kernel_rfl)) (fun _ _ _ h => h) (Or.inl ⟨by rfl,?_⟩) ?_ ?_
               rotate_left
               ·intro w'
                go_simp
                with_reducible rfl
               rotate_left
               ·simp only [Act.put,List.setIfInBounds_toArray,List.set_cons_zero,List.set_cons_succ,i64_w,i32_w]
                rfl
               refine pure_ (i := 5) (N := some 64) (v := ?_) (a' := ?_) #[true,true,true,true,false,true,false,false,false,false,false,false,false,false,false,false,false,false,false,false,false,false,false,false,false,false,false,false,false,false,false,false,false,false,false,false,false,false,false,false,false,false,false,false,false] rfl rfl (any_of HT_.out (by kernel_rfl)) (fun _ _ _ h => h) (Or.inl ⟨by rfl,?_⟩) ?_ ?_
               rotate_left
               ·intro w'
                go_simp
                with_reducible rfl
               rotate_left
               ·simp only [Act.put,List.setIfInBounds_toArray,List.set_cons_zero,List.set_cons_succ,i64_w,i32_w]
                rfl
               refine pure_ (i := 6) (N := some 65) (v := ?_) (a' := ?_) #[true,true,true,true,false,true,true,false,false,false,false,false,false,false,false,false,false,false,false,false,false,false,false,false,false,false,false,false,false,false,false,false,false,false,false,false,false,false,false,false,false,false,false,false,false] rfl rfl (any_of HT_.out (by kernel_rfl)) (fun _ _ _ h => h) (Or.inl ⟨by rfl,?_⟩) ?_ ?_
               rotate_left
               ·intro w'
                go_simp
                with_reducible rfl
               rotate_left
               ·simp only [Act.put,List.setIfInBounds_toArray,List.set_cons_zero,List.set_cons_succ,i64_w,i32_w]
                rfl
               refine pure_ (i := 7) (N := some 66) (v := ?_) (a' := ?_) #[true,true,true,true,false,true,true,true,false,false,false,false,false,false,false,false,false,false,false,false,false,false,false,false,false,false,false,false,false,false,false,false,false,false,false,false,false,false,false,false,false,false,false,false,false] rfl rfl (any_of HT_.out (by kernel_rfl)) (fun _ _ _ h => h) (Or.inl ⟨by rfl,?_⟩) ?_ ?_
               rotate_left
               ·intro w'
                go_simp
                with_reducible rfl
               rotate_left
               ·simp only [Act.put,List.setIfInBounds_toArray,List.set_cons_zero,List.set_cons_succ,i64_w,i32_w]
                rfl
               refine pure_ (i := 8) (N := some 67) (v := ?_) (a' := ?_) #[true,true,true,true,false,true,true,true,true,false,false,false,false,false,false,false,false,false,false,false,false,false,false,false,false,false,false,false,false,false,false,false,false,false,false,false,false,false,false,false,false,false,false,false,false] rfl rfl (any_of HT_.out (by kernel_rfl)) (fun _ _ _ h => h) (Or.inl ⟨by rfl,?_⟩) ?_ ?_
               rotate_left
               ·intro w'
                go_simp
                with_reducible rfl
               rotate_left
               ·simp only [Act.put,List.setIfInBounds_toArray,List.set_cons_zero,List.set_cons_succ,i64_w,i32_w]
                rfl
               refine take_ (i := 4) (N := some 63) (v := ?_) (a' := ?_) #[true,true,true,true,true,true,true,true,true,false,false,false,false,false,false,false,false,false,false,false,false,false,false,false,false,false,false,false,false,false,false,false,false,false,false,false,false,false,false,false,false,false,false,false,false] rfl rfl (take_ofW HT_.out HW_.out (by kernel_rfl)) (fun _ _ _ h => h) (Or.inl ⟨by rfl,?_⟩) hHeld ?_ ?_
               rotate_left
               ·rintro w' ⟨s0,s1,s2,s3,s4,s5,s6,s7,s8,s9,s10,s11,s12,s13,s14,s15,s16,s17,s18,s19,s20,s21,s22,s23,s24,s25⟩
                go_simp
                with_reducible rfl
               rotate_left
               ·simp only [Act.put,List.setIfInBounds_toArray,List.set_cons_zero,List.set_cons_succ,i64_w,i32_w]
                rfl
               refine take_ (i := 9) (N := some 68) (v := ?_) (a' := ?_) #[true,true,true,true,true,true,true,true,true,true,false,false,false,false,false,false,false,false,false,false,false,false,false,false,false,false,false,false,false,false,false,false,false,false,false,false,false,false,false,false,false,false,false,false,false] rfl rfl (take_ofW HT_.out HW_.out (by kernel_rfl)) (fun _ _ _ h => h) (Or.inl ⟨by rfl,?_⟩) hHeld ?_ ?_
               rotate_left
               ·rintro w' ⟨s0,s1,s2,s3,s4,s5,s6,s7,s8,s9,s10,s11,s12,s13,s14,s15,s16,s17,s18,s19,s20,s21,s22,s23,s24,s25⟩
                go_simp
                with_reducible rfl
               rotate_left
               ·simp only [Act.put,List.setIfInBounds_toArray,List.set_cons_zero,List.set_cons_succ,i64_w,i32_w]
                rfl
               refine pure_ (i := 10) (N := some 69) (v := ?_) (a' := ?_) #[true,true,true,true,true,true,true,true,true,true,true,false,false,false,false,false,false,false,false,false,false,false,false,false,false,false,false,false,false,false,false,false,false,false,false,false,false,false,false,false,false,false,false,false,false] rfl rfl (any_of HT_.out (by kernel_rfl)) (fun _ _ _ h => h) (Or.inl ⟨by rfl,?_⟩) ?_ ?_
               rotate_left
               ·intro w'
                go_simp
                with_reducible rfl
               rotate_left
               ·simp only [Act.put,List.setIfInBounds_toArray,List.set_cons_zero,List.set_cons_succ,i64_w,i32_w]
                rfl
               refine pure_ (i := 11) (N := some 70) (v := ?_) (a' := ?_) #[true,true,true,true,true,true,true,true,true,true,true,true,false,false,false,false,false,false,false,false,false,false,false,false,false,false,false,false,false,false,false,false,false,false,false,false,false,false,false,false,false,false,false,false,false] rfl rfl (any_of HT_.out (by kernel_rfl)) (fun _ _ _ h => h) (Or.inl ⟨by rfl,?_⟩) ?_ ?_
               rotate_left
               ·intro w'
                go_simp
                with_reducible rfl
               rotate_left
               ·simp only [Act.put,List.setIfInBounds_toArray,List.set_cons_zero,List.set_cons_succ,i64_w,i32_w]
                rfl
               refine pure_ (i := 12) (N := some 71) (v := ?_) (a' := ?_) #[true,true,true,true,true,true,true,true,true,true,true,true,true,false,false,false,false,false,false,false,false,false,false,false,false,false,false,false,false,false,false,false,false,false,false,false,false,false,false,false,false,false,false,false,false] rfl rfl (any_of HT_.out (by kernel_rfl)) (fun _ _ _ h => h) (Or.inl ⟨by rfl,?_⟩) ?_ ?_
               rotate_left
               ·intro w'
                go_simp
                with_reducible rfl
               rotate_left
               ·simp only [Act.put,List.setIfInBounds_toArray,List.set_cons_zero,List.set_cons_succ,i64_w,i32_w]
                rfl
               refine pure_ (i := 13) (N := some 72) (v := ?_) (a' := ?_) #[true,true,true,true,true,true,true,true,true,true,true,true,true,true,false,false,false,false,false,false,false,false,false,false,false,false,false,false,false,false,false,false,false,false,false,false,false,false,false,false,false,false,false,false,false] rfl rfl (any_of HT_.out (by kernel_rfl)) (fun _ _ _ h => h) (Or.inl ⟨by rfl,?_⟩) ?_ ?_
               rotate_left
               ·intro w'
                go_simp
                with_reducible rfl
               rotate_left
               ·simp only [Act.put,List.setIfInBounds_toArray,List.set_cons_zero,List.set_cons_succ,i64_w,i32_w]
                rfl
               refine pure_ (i := 14) (N := some 73) (v := ?_) (a' := ?_) #[true,true,true,true,true,true,true,true,true,true,true,true,true,true,true,false,false,false,false,false,false,false,false,false,false,false,false,false,false,false,false,false,false,false,false,false,false,false,false,false,false,false,false,false,false] rfl rfl (any_of HT_.out (by kernel_rfl)) (fun _ _ _ h => h) (Or.inl ⟨by rfl,?_⟩) ?_ ?_
               rotate_left
               ·intro w'
                go_simp
                with_reducible rfl
               rotate_left
               ·simp only [Act.put,List.setIfInBounds_toArray,List.set_cons_zero,List.set_cons_succ,i64_w,i32_w]
                rfl
               refine pure_ (i := 15) (N := some 74) (v := ?_) (a' := ?_) #[true,true,true,true,true,true,true,true,true,true,true,true,true,true,true,true,false,false,false,false,false,false,false,false,false,false,false,false,false,false,false,false,false,false,false,false,false,false,false,false,false,false,false,false,false] rfl rfl (any_of HT_.out (by kernel_rfl)) (fun _ _ _ h => h) (Or.inl ⟨by rfl,?_⟩) ?_ ?_
               rotate_left
               ·intro w'
                go_simp
                with_reducible rfl
               rotate_left
               ·simp only [Act.put,List.setIfInBounds_toArray,List.set_cons_zero,List.set_cons_succ,i64_w,i32_w]
                rfl
               refine take_ (i := 16) (N := some 75) (v := ?_) (a' := ?_) #[true,true,true,true,true,true,true,true,true,true,true,true,true,true,true,true,true,false,false,false,false,false,false,false,false,false,false,false,false,false,false,false,false,false,false,false,false,false,false,false,false,false,false,false,false] rfl rfl (take_ofW HT_.out HW_.out (by kernel_rfl)) (fun _ _ _ h => h) (Or.inl ⟨by rfl,?_⟩) hHeld ?_ ?_
               rotate_left
               ·rintro w' ⟨s0,s1,s2,s3,s4,s5,s6,s7,s8,s9,s10,s11,s12,s13,s14,s15,s16,s17,s18,s19,s20,s21,s22,s23,s24,s25⟩
                go_simp
                with_reducible rfl
               rotate_left
               ·simp only [Act.put,List.setIfInBounds_toArray,List.set_cons_zero,List.set_cons_succ,i64_w,i32_w]
                rfl
               refine pure_ (i := 17) (N := some 76) (v := ?_) (a' := ?_) #[true,true,true,true,true,true,true,true,true,true,true,true,true,true,true,true,true,true,false,false,false,false,false,false,false,false,false,false,false,false,false,false,false,false,false,false,false,false,false,false,false,false,false,false,false] rfl rfl (any_of HT_.out (by kernel_rfl)) (fun _ _ _ h => h) (Or.inl ⟨by rfl,?_⟩) ?_ ?_
               rotate_left
               ·intro w'
                go_simp
                with_reducible rfl
               rotate_left
               ·simp only [Act.put,List.setIfInBounds_toArray,List.set_cons_zero,List.set_cons_succ,i64_w,i32_w]
                rfl
               refine pure_ (i := 18) (N := some 77) (v := ?_) (a' := ?_) #[true,true,true,true,true,true,true,true,true,true,true,true,true,true,true,true,true,true,true,false,false,false,false,false,false,false,false,false,false,false,false,false,false,false,false,false,false,false,false,false,false,false,false,false,false] rfl rfl (any_of HT_.out (by kernel_rfl)) (fun _ _ _ h => h) (Or.inl ⟨by rfl,?_⟩) ?_ ?_
               rotate_left
               ·intro w'
                go_simp
                with_reducible rfl
               rotate_left
               ·simp only [Act.put,List.setIfInBounds_toArray,List.set_cons_zero,List.set_cons_succ,i64_w,i32_w]
                rfl
               refine pure_ (i := 19) (N := some 78) (v := ?_) (a' := ?_) #[true,true,true,true,true,true,true,true,true,true,true,true,true,true,true,true,true,true,true,true,false,false,false,false,false,false,false,false,false,false,false,false,false,false,false,false,false,false,false,false,false,false,false,false,false] rfl rfl (any_of HT_.out (by kernel_rfl)) (fun _ _ _ h => h) (Or.inl ⟨by rfl,?_⟩) ?_ ?_
               rotate_left
               ·intro w'
                go_simp
                with_reducible rfl
               rotate_left
               ·simp only [Act.put,List.setIfInBounds_toArray,List.set_cons_zero,List.set_cons_succ,i64_w,i32_w]
                rfl
               refine pure_ (i := 20) (N := some 79) (v := ?_) (a' := ?_) #[true,true,true,true,true,true,true,true,true,true,true,true,true,true,true,true,true,true,true,true,true,false,false,false,false,false,false,false,false,false,false,false,false,false,false,false,false,false,false,false,false,false,false,false,false] rfl rfl (any_of HT_.out (by kernel_rfl)) (fun _ _ _ h => h) (Or.inl ⟨by rfl,?_⟩) ?_ ?_
               rotate_left
               ·intro w'
                go_simp
                with_reducible rfl
               rotate_left
               ·simp only [Act.put,List.setIfInBounds_toArray,List.set_cons_zero,List.set_cons_succ,i64_w,i32_w]
                rfl
               refine pure_ (i := 21) (N := some 80) (v := ?_) (a' := ?_) #[true,true,true,true,true,true,true,true,true,true,true,true,true,true,true,true,true,true,true,true,true,true,false,false,false,false,false,false,false,false,false,false,false,false,false,false,false,false,false,false,false,false,false,false,false] rfl rfl (any_of HT_.out (by kernel_rfl)) (fun _ _ _ h => h) (Or.inl ⟨by rfl,?_⟩) ?_ ?_
               rotate_left
               ·intro w'
                go_simp
                with_reducible rfl
               rotate_left
               ·simp only [Act.put,List.setIfInBounds_toArray,List.set_cons_zero,List.set_cons_succ,i64_w,i32_w]
                rfl
               refine pure_ (i := 22) (N := some 81) (v := ?_) (a' := ?_) #[true,true,true,true,true,true,true,true,true,true,true,true,true,true,true,true,true,true,true,true,true,true,true,false,false,false,false,false,false,false,false,false,false,false,false,false,false,false,false,false,false,false,false,false,false] rfl rfl (any_of HT_.out (by kernel_rfl)) (fun _ _ _ h => h) (Or.inl ⟨by rfl,?_⟩) ?_ ?_
               rotate_left
               ·intro w'
                go_simp
                with_reducible rfl
               rotate_left
               ·simp only [Act.put,List.setIfInBounds_toArray,List.set_cons_zero,List.set_cons_succ,i64_w,i32_w]
                rfl
               refine pure_ (i := 23) (N := some 82) (v := ?_) (a' := ?_) #[true,true,true,true,true,true,true,true,true,true,true,true,true,true,true,true,true,true,true,true,true,true,true,true,false,false,false,false,false,false,false,false,false,false,false,false,false,false,false,false,false,false,false,false,false] rfl rfl (any_of HT_.out (by kernel_rfl)) (fun _ _ _ h => h) (Or.inl ⟨by rfl,?_⟩) ?_ ?_
               rotate_left
               ·intro w'
                go_simp
                with_reducible rfl
               rotate_left
               ·simp only [Act.put,List.setIfInBounds_toArray,List.set_cons_zero,List.set_cons_succ,i64_w,i32_w]
                rfl
               refine pure_ (i := 25) (N := some 84) (v := ?_) (a' := ?_) #[true,true,true,true,true,true,true,true,true,true,true,true,true,true,true,true,true,true,true,true,true,true,true,true,false,true,false,false,false,false,false,false,false,false,false,false,false,false,false,false,false,false,false,false,false] rfl rfl (any_of HT_.out (by kernel_rfl)) (fun _ _ _ h => h) (Or.inl ⟨by rfl,?_⟩) ?_ ?_
               rotate_left
               ·intro w'
                go_simp
                with_reducible rfl
               rotate_left
               ·simp only [Act.put,List.setIfInBounds_toArray,List.set_cons_zero,List.set_cons_succ,i64_w,i32_w]
                rfl
               refine pure_ (i := 26) (N := some 85) (v := ?_) (a' := ?_) #[true,true,true,true,true,true,true,true,true,true,true,true,true,true,true,true,true,true,true,true,true,true,true,true,false,true,true,false,false,false,false,false,false,false,false,false,false,false,false,false,false,false,false,false,false] rfl rfl (any_of HT_.out (by kernel_rfl)) (fun _ _ _ h => h) (Or.inl ⟨by rfl,?_⟩) ?_ ?_
               rotate_left
               ·intro w'
                go_simp
                with_reducible rfl
               rotate_left
               ·simp only [Act.put,List.setIfInBounds_toArray,List.set_cons_zero,List.set_cons_succ,i64_w,i32_w]
                rfl
               refine pure_ (i := 27) (N := some 86) (v := ?_) (a' := ?_) #[true,true,true,true,true,true,true,true,true,true,true,true,true,true,true,true,true,true,true,true,true,true,true,true,false,true,true,true,false,false,false,false,false,false,false,false,false,false,false,false,false,false,false,false,false] rfl rfl (any_of HT_.out (by kernel_rfl)) (fun _ _ _ h => h) (Or.inl ⟨by rfl,?_⟩) ?_ ?_
               rotate_left
               ·intro w'
                go_simp
                with_reducible rfl
               rotate_left
               ·simp only [Act.put,List.setIfInBounds_toArray,List.set_cons_zero,List.set_cons_succ,i64_w,i32_w]
                rfl
               refine pure_ (i := 28) (N := some 87) (v := ?_) (a' := ?_) #[true,true,true,true,true,true,true,true,true,true,true,true,true,true,true,true,true,true,true,true,true,true,true,true,false,true,true,true,true,false,false,false,false,false,false,false,false,false,false,false,false,false,false,false,false] rfl rfl (any_of HT_.out (by kernel_rfl)) (fun _ _ _ h => h) (Or.inl ⟨by rfl,?_⟩) ?_ ?_
               rotate_left
               ·intro w'
                go_simp
                with_reducible rfl
               rotate_left
               ·simp only [Act.put,List.setIfInBounds_toArray,List.set_cons_zero,List.set_cons_succ,i64_w,i32_w]
                rfl
               refine take_ (i := 24) (N := some 83) (v := ?_) (a' := ?_) #[true,true,true,true,true,true,true,true,true,true,true,true,true,true,true,true,true,true,true,true,true,true,true,true,true,true,true,true,true,false,false,false,false,false,false,false,false,false,false,false,false,false,false,false,false] rfl rfl (take_ofW HT_.out HW_.out (by kernel_rfl)) (fun _ _ _ h => h) (Or.inl ⟨by rfl,?_⟩) hHeld ?_ ?_
               rotate_left
               ·rintro w' ⟨s0,s1,s2,s3,s4,s5,s6,s7,s8,s9,s10,s11,s12,s13,s14,s15,s16,s17,s18,s19,s20,s21,s22,s23,s24,s25⟩
                go_simp
                with_reducible rfl
               rotate_left
               ·simp only [Act.put,List.setIfInBounds_toArray,List.set_cons_zero,List.set_cons_succ,i64_w,i32_w]
                rfl
               refine take_ (i := 29) (N := some 88) (v := ?_) (a' := ?_) #[true,true,true,true,true,true,true,true,true,true,true,true,true,true,true,true,true,true,true,true,true,true,true,true,true,true,true,true,true,true,false,false,false,false,false,false,false,false,false,false,false,false,false,false,false] rfl rfl (take_ofW HT_.out HW_.out (by kernel_rfl)) (fun _ _ _ h => h) (Or.inl ⟨by rfl,?_⟩) hHeld ?_ ?_
               rotate_left
               ·rintro w' ⟨s0,s1,s2,s3,s4,s5,s6,s7,s8,s9,s10,s11,s12,s13,s14,s15,s16,s17,s18,s19,s20,s21,s22,s23,s24,s25⟩
                go_simp
                with_reducible rfl
               rotate_left
               ·simp only [Act.put,List.setIfInBounds_toArray,List.set_cons_zero,List.set_cons_succ,i64_w,i32_w]
                rfl
               refine pure_ (i := 30) (N := some 89) (v := ?_) (a' := ?_) #[true,true,true,true,true,true,true,true,true,true,true,true,true,true,true,true,true,true,true,true,true,true,true,true,true,true,true,true,true,true,true,false,false,false,false,false,false,false,false,false,false,false,false,false,false] rfl rfl (any_of HT_.out (by kernel_rfl)) (fun _ _ _ h => h) (Or.inl ⟨by rfl,?_⟩) ?_ ?_
               rotate_left
               ·intro w'
                go_simp
                with_reducible rfl
               rotate_left
               ·simp only [Act.put,List.setIfInBounds_toArray,List.set_cons_zero,List.set_cons_succ,i64_w,i32_w]
                rfl
               refine pure_ (i := 31) (N := some 90) (v := ?_) (a' := ?_) #[true,true,true,true,true,true,true,true,true,true,true,true,true,true,true,true,true,true,true,true,true,true,true,true,true,true,true,true,true,true,true,true,false,false,false,false,false,false,false,false,false,false,false,false,false] rfl rfl (any_of HT_.out (by kernel_rfl)) (fun _ _ _ h => h) (Or.inl ⟨by rfl,?_⟩) ?_ ?_
               rotate_left
               ·intro w'
                go_simp
                with_reducible rfl
               rotate_left
               ·simp only [Act.put,List.setIfInBounds_toArray,List.set_cons_zero,List.set_cons_succ,i64_w,i32_w]
                rfl
               refine pure_ (i := 32) (N := some 91) (v := ?_) (a' := ?_) #[true,true,true,true,true,true,true,true,true,true,true,true,true,true,true,true,true,true,true,true,true,true,true,true,true,true,true,true,true,true,true,true,true,false,false,false,false,false,false,false,false,false,false,false,false] rfl rfl (any_of HT_.out (by kernel_rfl)) (fun _ _ _ h => h) (Or.inl ⟨by rfl,?_⟩) ?_ ?_
               rotate_left
               ·intro w'
                go_simp
                with_reducible rfl
               rotate_left
               ·simp only [Act.put,List.setIfInBounds_toArray,List.set_cons_zero,List.set_cons_succ,i64_w,i32_w]
                rfl
               refine pure_ (i := 33) (N := some 92) (v := ?_) (a' := ?_) #[true,true,true,true,true,true,true,true,true,true,true,true,true,true,true,true,true,true,true,true,true,true,true,true,true,true,true,true,true,true,true,true,true,true,false,false,false,false,false,false,false,false,false,false,false] rfl rfl (any_of HT_.out (by kernel_rfl)) (fun _ _ _ h => h) (Or.inl ⟨by rfl,?_⟩) ?_ ?_
               rotate_left
               ·intro w'
                go_simp
                with_reducible rfl
               rotate_left
               ·simp only [Act.put,List.setIfInBounds_toArray,List.set_cons_zero,List.set_cons_succ,i64_w,i32_w]
                rfl
               refine pure_ (i := 34) (N := some 93) (v := ?_) (a' := ?_) #[true,true,true,true,true,true,true,true,true,true,true,true,true,true,true,true,true,true,true,true,true,true,true,true,true,true,true,true,true,true,true,true,true,true,true,false,false,false,false,false,false,false,false,false,false] rfl rfl (any_of HT_.out (by kernel_rfl)) (fun _ _ _ h => h) (Or.inl ⟨by rfl,?_⟩) ?_ ?_
               rotate_left
               ·intro w'
                go_simp
                with_reducible rfl
               rotate_left
               ·simp only [Act.put,List.setIfInBounds_toArray,List.set_cons_zero,List.set_cons_succ,i64_w,i32_w]
                rfl
               refine pure_ (i := 35) (N := some 94) (v := ?_) (a' := ?_) #[true,true,true,true,true,true,true,true,true,true,true,true,true,true,true,true,true,true,true,true,true,true,true,true,true,true,true,true,true,true,true,true,true,true,true,true,false,false,false,false,false,false,false,false,false] rfl rfl (any_of HT_.out (by kernel_rfl)) (fun _ _ _ h => h) (Or.inl ⟨by rfl,?_⟩) ?_ ?_
               rotate_left
               ·intro w'
                go_simp
                with_reducible rfl
               rotate_left
               ·simp only [Act.put,List.setIfInBounds_toArray,List.set_cons_zero,List.set_cons_succ,i64_w,i32_w]
                rfl
               refine pure_ (i := 36) (N := some 95) (v := ?_) (a' := ?_) #[true,true,true,true,true,true,true,true,true,true,true,true,true,true,true,true,true,true,true,true,true,true,true,true,true,true,true,true,true,true,true,true,true,true,true,true,true,false,false,false,false,false,false,false,false] rfl rfl (any_of HT_.out (by kernel_rfl)) (fun _ _ _ h => h) (Or.inl ⟨by rfl,?_⟩) ?_ ?_
               rotate_left
               ·intro w'
                go_simp
                with_reducible rfl
               rotate_left
               ·simp only [Act.put,List.setIfInBounds_toArray,List.set_cons_zero,List.set_cons_succ,i64_w,i32_w]
                rfl
               refine pure_ (i := 37) (N := some 96) (v := ?_) (a' := ?_) #[true,true,true,true,true,true,true,true,true,true,true,true,true,true,true,true,true,true,true,true,true,true,true,true,true,true,true,true,true,true,true,true,true,true,true,true,true,true,false,false,false,false,false,false,false] rfl rfl (any_of HT_.out (by kernel_rfl)) (fun _ _ _ h => h) (Or.inl ⟨by rfl,?_⟩) ?_ ?_
               rotate_left
               ·intro w'
                go_simp
                with_reducible rfl
               rotate_left
               ·simp only [Act.put,List.setIfInBounds_toArray,List.set_cons_zero,List.set_cons_succ,i64_w,i32_w]
                rfl
               refine pure_ (i := 38) (N := some 97) (v := ?_) (a' := ?_) #[true,true,true,true,true,true,true,true,true,true,true,true,true,true,true,true,true,true,true,true,true,true,true,true,true,true,true,true,true,true,true,true,true,true,true,true,true,true,true,false,false,false,false,false,false] rfl rfl (any_of HT_.out (by kernel_rfl)) (fun _ _ _ h => h) (Or.inl ⟨by rfl,?_⟩) ?_ ?_
               rotate_left
               ·intro w'
                go_simp
                with_reducible rfl
               rotate_left
               ·simp only [Act.put,List.setIfInBounds_toArray,List.set_cons_zero,List.set_cons_succ,i64_w,i32_w]
                rfl
               refine pure_ (i := 39) (N := some 98) (v := ?_) (a' := ?_) #[true,true,true,true,true,true,true,true,true,true,true,true,true,true,true,true,true,true,true,true,true,true,true,true,true,true,true,true,true,true,true,true,true,true,true,true,true,true,true,true,false,false,false,false,false] rfl rfl (any_of HT_.out (by kernel_rfl)) (fun _ _ _ h => h) (Or.inl ⟨by rfl,?_⟩) ?_ ?_
               rotate_left
               ·intro w'
                go_simp
                with_reducible rfl
               rotate_left
               ·simp only [Act.put,List.setIfInBounds_toArray,List.set_cons_zero,List.set_cons_succ,i64_w,i32_w]
                rfl
               refine pure_ (i := 40) (N := some 99) (v := ?_) (a' := ?_) #[true,true,true,true,true,true,true,true,true,true,true,true,true,true,true,true,true,true,true,true,true,true,true,true,true,true,true,true,true,true,true,true,true,true,true,true,true,true,true,true,true,false,false,false,false] rfl rfl (any_of HT_.out (by kernel_rfl)) (fun _ _ _ h => h) (Or.inl ⟨by rfl,?_⟩) ?_ ?_
               rotate_left
               ·intro w'
                go_simp
                with_reducible rfl
               rotate_left
               ·simp only [Act.put,List.setIfInBounds_toArray,List.set_cons_zero,List.set_cons_succ,i64_w,i32_w]
                rfl
               refine take_ (i := 41) (N := some 100) (v := ?_) (a' := ?_) #[true,true,true,true,true,true,true,true,true,true,true,true,true,true,true,true,true,true,true,true,true,true,true,true,true,true,true,true,true,true,true,true,true,true,true,true,true,true,true,true,true,true,false,false,false] rfl rfl (take_ofW HT_.out HW_.out (by kernel_rfl)) (fun _ _ _ h => h) (Or.inl ⟨by rfl,?_⟩) hHeld ?_ ?_
               rotate_left
               ·rintro w' ⟨s0,s1,s2,s3,s4,s5,s6,s7,s8,s9,s10,s11,s12,s13,s14,s15,s16,s17,s18,s19,s20,s21,s22,s23,s24,s25⟩
                go_simp
                with_reducible rfl
               rotate_left
               ·simp only [Act.put,List.setIfInBounds_toArray,List.set_cons_zero,List.set_cons_succ,i64_w,i32_w]
                rfl
               refine pure_ (i := 42) (N := some 101) (v := ?_) (a' := ?_) #[true,true,true,true,true,true,true,true,true,true,true,true,true,true,true,true,true,true,true,true,true,true,true,true,true,true,true,true,true,true,true,true,true,true,true,true,true,true,true,true,true,true,true,false,false] rfl rfl (any_of HT_.out (by kernel_rfl)) (fun _ _ _ h => h) (Or.inl ⟨by rfl,?_⟩) ?_ ?_
               rotate_left
               ·intro w'
                go_simp
                with_reducible rfl
               rotate_left
               ·simp only [Act.put,List.setIfInBounds_toArray,List.set_cons_zero,List.set_cons_succ,i64_w,i32_w]
                rfl
               refine pure_ (i := 43) (N := some 102) (v := ?_) (a' := ?_) #[true,true,true,true,true,true,true,true,true,true,true,true,true,true,true,true,true,true,true,true,true,true,true,true,true,true,true,true,true,true,true,true,true,true,true,true,true,true,true,true,true,true,true,true,false] rfl rfl (any_of HT_.out (by kernel_rfl)) (fun _ _ _ h => h) (Or.inl ⟨by rfl,?_⟩) ?_ ?_
               rotate_left
               ·intro w'
                go_simp
                with_reducible rfl
               rotate_left
               ·simp only [Act.put,List.setIfInBounds_toArray,List.set_cons_zero,List.set_cons_succ,i64_w,i32_w]
                rfl
               refine pure_ (i := 44) (N := some 103) (v := ?_) (a' := ?_) #[true,true,true,true,true,true,true,true,true,true,true,true,true,true,true,true,true,true,true,true,true,true,true,true,true,true,true,true,true,true,true,true,true,true,true,true,true,true,true,true,true,true,true,true,true] rfl rfl (any_of HT_.out (by kernel_rfl)) (fun _ _ _ h => h) (Or.inl ⟨by rfl,?_⟩) ?_ ?_
               rotate_left
               ·intro w'
                go_simp
                with_reducible rfl
               rotate_left
               ·simp only [Act.put,List.setIfInBounds_toArray,List.set_cons_zero,List.set_cons_succ,i64_w,i32_w]
                rfl
               refine done_ (done_of HT_.out (by kernel_rfl)) ?_
               try go_wp2
               go_meet
               case rel => exact ⟨_,((((rd_T47 t312 x11_2).f1) != 0)),(by first | rfl | (simp;done) | (simp [*];done)),H',⟨by have := HJ7.out;have := HK2.out;first | omega | exact Nat.le_refl _⟩,⟨by (with_reducible repeat (first | apply Kd.R_alloc | apply Kd.R_drewN | apply Kd.R_drew));exact HO_9.out⟩,⟨by (with_reducible repeat (first | apply Kd.R_alloc | apply Kd.R_drewN | apply Kd.R_drew));exact HO_10.out⟩,⟨by (with_reducible repeat (first | refine blk_drewN ?_ _ | refine blk_drew ?_ | refine blk_alloc ?_ _));exact BK309.out⟩,⟨by repeat (first | (with_reducible first | exact HB.out | apply below_alloc | apply pw_below_drewN | apply below_drew1 | refine below_set ?_ GE309.out) | exact HB.out)⟩⟩
           ·rw [if_neg c27] at H
            exact absurd H (by simp)
          ·rw [if_neg c26] at H
           exact absurd H (by simp)
         case rest =>
          clear HC23
          try clear c2
          try clear p2
          try clear c3
          try clear p3
          try clear q3
          try clear hx3
          try clear c26
          try clear c27
          try clear c31
          try clear p32
          try clear q32
          try clear hx32
          try clear hx320_0
          try clear hx320_1
          try clear hx321_0
          try clear hx321_1
          try clear hx321_2
          try clear hx321_3
          try clear hx321_4
          try clear hx321_5
          try clear hx321_6
          try clear hx321_7
          try clear hx321_8
          try clear hx322_0
          try clear hx322_1
          try clear hx323_0
          try clear hx323_1
          try clear hx324_0
          try clear hx324_1
          try clear hx324_2
          try clear hx324_3
          try clear hx324_4
          try clear hx324_5
          try clear hx324_6
          try clear hx324_7
          try clear hx324_8
          try clear hx325_0
          try clear hx325_1
          try clear p320
          try clear p321
          try clear p322
          try clear p323
          try clear p324
          try clear p325
          try clear q320
          try clear q321
          try clear q322
          try clear q323
          try clear q324
          try clear q325
          obtain ⟨kq,x103_22,rfl,HA,HJ22,HO_9,HO_10,BK309,HB⟩ := hcut
          cases kq with
          | zero => exact absurd HA.out (by simp [bournelaw37_AllotStops.j2])
          | succ kj22 =>
           have H := HA.out
           clear HA
           simp only [bournelaw37_AllotStops.j2] at H
           by_cases c36 : x103_22 = true
           ·subst c36
            have H1 : (none) = some r := by rw [if_pos rfl] at H;exact H
            clear H
            have H := H1
            clear H1
            exact absurd H (by simp)
           ·replace c36 := Bool.eq_false_iff.mpr c36
            subst c36
            have H1 : (if 0 ≤ x11_2 then (if x11_2 < (t312.length : Int) then (if x11_2 < (l1.length : Int) then (if ((rd_T47 t312 x11_2).f1) ≥ ((rd_T45 l1 x11_2).f4) then (bournelaw37_AllotStops.j3 kj22 l1 l2 t310 t312 t315 x11_2 true a0_0 l0_1 a0_2 l0_3 l0_4 l0_5 l0_6 l0_7 l0_8 l0_9 a0_10) else (bournelaw37_AllotStops.j3 kj22 l1 l2 t310 t312 t315 x11_2 (!t319) a0_0 l0_1 a0_2 l0_3 l0_4 l0_5 l0_6 l0_7 l0_8 l0_9 a0_10)) else (none)) else (none)) else (none)) = some r := by rw [if_neg (show ¬ (false = true) by decide)] at H;exact H
            clear H
            have H := H1
            clear H1
            have HC37 := Aside0.mk H
            clear H
            go_upto_region 14 with (fail)
            go_cut [13] (fun v13 wc => ∃ (kq : Nat) (x13_36 : Bool),v13 = .bool x13_36 ∧ Aside0 (bournelaw37_AllotStops.j3 kq l1 l2 t310 t312 t315 x11_2 x13_36 a0_0 l0_1 a0_2 l0_3 l0_4 l0_5 l0_6 l0_7 l0_8 l0_9 a0_10 = some r) ∧ Aside0 (kq ≤ kj22) ∧ Aside0 (Kd.R k47 47 wc w.heap.size (fun _ => True) v313 t312) ∧ Aside0 (Kd.R (Kd.int .i64) 3 wc w.heap.size (fun _ => True) v316 t315) ∧ Aside0 (wc.heap[gb309]? = some (.cells #[.string a0_0,(.slice A0_1 l0_1.length c0_1),.int .i64 a0_2,(.slice A0_3 l0_3.length c0_3),(.slice A0_4 l0_4.length c0_4),(.slice A0_5 l0_5.length c0_5),(.slice A0_6 l0_6.length c0_6),(.slice A0_7 l0_7.length c0_7),(.slice A0_8 l0_8.length c0_8),(.slice A0_9 l0_9.length c0_9),.int .i64 a0_10] 31 (0,0))) ∧ Aside0 (Below w.heap.size w wc))
            case first =>
             have H := HC37.out
             clear HC37
             by_cases c38 : 0 ≤ x11_2
             ·rw [if_pos c38] at H
              have c38b0 : decide (0 ≤ x11_2) = true := decide_eq_true c38
              clear c38
              (first | rw [c38b0] | (simp only [i64_w,i32_w];rw [c38b0]) | skip)
              by_cases c39 : x11_2 < (t312.length : Int)
              ·rw [if_pos c39] at H
               have c39b0 : decide (x11_2 < (t312.length : Int)) = true := decide_eq_true c39
               clear c39
               by_cases c40 : x11_2 < (l1.length : Int)
               ·rw [if_pos c40] at H
                have c40b0 : decide (x11_2 < (l1.length : Int)) = true := decide_eq_true c40
                clear c40
                by_cases c41 : ((rd_T47 t312 x11_2).f1) ≥ ((rd_T45 l1 x11_2).f4)
                ·rw [if_pos c41] at H
                 have c41b0 : decide (((rd_T45 l1 x11_2).f4) ≤ ((rd_T47 t312 x11_2).f1)) = true := decide_eq_true c41
                 clear c41
                 have H' := Aside0.mk H
                 clear H
                 try go_wp2
                 (repeat (rw [drewN_self wc];generalize hq_ : World.drewN wc _ = wc;have n0_ : Aside0 (Kd.R (Kd.int .i64) 3 wc w.heap.size (fun _ => True) v316 t315) := ⟨by rw [← hq_];exact (by (with_reducible repeat (first | apply Kd.R_alloc | apply Kd.R_drewN | apply Kd.R_drew));exact HO_10.out)⟩;have n1_ : Aside0 (Kd.R k47 47 wc w.heap.size (fun _ => True) v313 t312) := ⟨by rw [← hq_];exact (by (with_reducible repeat (first | apply Kd.R_alloc | apply Kd.R_drewN | apply Kd.R_drew));exact HO_9.out)⟩;have n2_ : Aside0 (wc.heap[gb309]? = some (.cells #[.string a0_0,.slice A0_1 l0_1.length c0_1,.int .i64 a0_2,.slice A0_3 l0_3.length c0_3,.slice A0_4 l0_4.length c0_4,.slice A0_5 l0_5.length c0_5,.slice A0_6 l0_6.length c0_6,.slice A0_7 l0_7.length c0_7,.slice A0_8 l0_8.length c0_8,.slice A0_9 l0_9.length c0_9,.int .i64 a0_10] 31 (0,0))) := ⟨by rw [← hq_];exact (by (with_reducible repeat (first | refine blk_drewN ?_ _ | refine blk_drew ?_ | refine blk_alloc ?_ _));exact BK309.out)⟩;have n3_ : Aside0 (Below w.heap.size w wc) := ⟨by rw [← hq_];exact (by repeat (first | (with_reducible first | exact HB.out | apply below_alloc | apply pw_below_drewN | apply below_drew1 | refine below_set ?_ GE309.out) | exact HB.out))⟩;clear HO_10 HO_9 BK309 HB hq_;have HO_10 := n0_;have HO_9 := n1_;have BK309 := n2_;have HB := n3_;clear n0_ n1_ n2_ n3_))
                 have n0_ := Aside0.mk (Kd.R_drew HO_9.out)
                 have n1_ := Aside0.mk (Kd.R_drew HO_10.out)
                 have n2_ := Aside0.mk (blk_drew BK309.out)
                 have n3_ := Aside0.mk (below_drew1 HB.out)
                 clear HO_9
                 clear HO_10
                 clear BK309
                 clear HB
                 have HO_9 := n0_
                 have HO_10 := n1_
                 have BK309 := n2_
                 have HB := n3_
                 clear n0_ n1_ n2_ n3_
                 obtain ⟨Ao43,co43,eo43⟩ := Kd.R_slice HO_9.out
                 (first | subst eo43 | (injection eo43 with f1_ f2_ f3_;have f4_ := f1_.symm;have f5_ := f3_.symm;clear f1_ f2_ f3_;subst f4_;subst f5_))
                 have p326 : 0 ≤ (x11_2 : Int) := of_decide_eq_true (by first | (with_reducible assumption) | assumption)
                 have q326 : x11_2 < (t312.length : Int) := of_decide_eq_true (by first | (with_reducible assumption) | assumption)
                 obtain ⟨ad326,e326,hx326_0,hx326_1⟩ := at_T47 (Kd.R_reads' HO_9.out).2.2 x11_2 p326 q326
                 cases e326
                 replace p326 := eq_true p326
                 replace q326 := eq_true q326
                 have p327 : 0 ≤ (x11_2 : Int) := of_decide_eq_true (by first | (with_reducible assumption) | assumption)
                 have q327 : x11_2 < (l1.length : Int) := of_decide_eq_true (by first | (with_reducible assumption) | assumption)
                 obtain ⟨ad327,e327,hx327_0,hx327_1,hx327_2,hx327_3,hx327_4,hx327_5,hx327_6,hx327_7,hx327_8⟩ := at_T45 HR1.out x11_2 p327 q327
                 have hw327_8 := hx327_8
                 have hw327_7 := hx327_7
                 have hw327_6 := hx327_6
                 have hw327_5 := hx327_5
                 have hw327_4 := hx327_4
                 have hw327_3 := hx327_3
                 have hw327_2 := hx327_2
                 have hw327_1 := hx327_1
                 have hw327_0 := hx327_0
                 obtain rfl : ad318 = ad327 := (by injection e327)
                 replace hx327_0 := (HB.out.cell (World.block_lt_of_cell? w _ hx327_0)).trans hx327_0
                 replace hx327_1 := (HB.out.cell (World.block_lt_of_cell? w _ hx327_1)).trans hx327_1
                 replace hx327_2 := (HB.out.cell (World.block_lt_of_cell? w _ hx327_2)).trans hx327_2
                 replace hx327_3 := (HB.out.cell (World.block_lt_of_cell? w _ hx327_3)).trans hx327_3
                 replace hx327_4 := (HB.out.cell (World.block_lt_of_cell? w _ hx327_4)).trans hx327_4
                 replace hx327_5 := (HB.out.cell (World.block_lt_of_cell? w _ hx327_5)).trans hx327_5
                 replace hx327_6 := (HB.out.cell (World.block_lt_of_cell? w _ hx327_6)).trans hx327_6
                 replace hx327_7 := (HB.out.cell (World.block_lt_of_cell? w _ hx327_7)).trans hx327_7
                 replace hx327_8 := (HB.out.cell (World.block_lt_of_cell? w _ hx327_8)).trans hx327_8
                 replace p327 := eq_true p327
                 replace q327 := eq_true q327
                 refine start_ (n := 16) (S := fun w' => w'.cell? (ad326.add ((x11_2).toNat * 2)) = some (.int .i64 ((rd_T47 t312 x11_2).f0)) ∧ w'.cell? ⟨(ad326.add ((x11_2).toNat * 2)).block,(ad326.add ((x11_2).toNat * 2)).off + 1,none⟩ = some (.int .i64 ((rd_T47 t312 x11_2).f1)) ∧ w'.cell? (ad318.add ((x11_2).toNat * 9)) = some (.int .i64 ((rd_T45 l1 x11_2).f0)) ∧ w'.cell? ⟨(ad318.add ((x11_2).toNat * 9)).block,(ad318.add ((x11_2).toNat * 9)).off + 1,none⟩ = some (.int .i64 ((rd_T45 l1 x11_2).f1)) ∧ w'.cell? ⟨(ad318.add ((x11_2).toNat * 9)).block,(ad318.add ((x11_2).toNat * 9)).off + 2,none⟩ = some (.int .i64 ((rd_T45 l1 x11_2).f2)) ∧ w'.cell? ⟨(ad318.add ((x11_2).toNat * 9)).block,(ad318.add ((x11_2).toNat * 9)).off + 3,none⟩ = some (.int .i64 ((rd_T45 l1 x11_2).f3)) ∧ w'.cell? ⟨(ad318.add ((x11_2).toNat * 9)).block,(ad318.add ((x11_2).toNat * 9)).off + 4,none⟩ = some (.int .i64 ((rd_T45 l1 x11_2).f4)) ∧ w'.cell? ⟨(ad318.add ((x11_2).toNat * 9)).block,(ad318.add ((x11_2).toNat * 9)).off + 5,none⟩ = some (.int .i64 ((rd_T45 l1 x11_2).f5)) ∧ w'.cell? ⟨(ad318.add ((x11_2).toNat * 9)).block,(ad318.add ((x11_2).toNat * 9)).off + 6,none⟩ = some (.int .i64 ((rd_T45 l1 x11_2).f6)) ∧ w'.cell? ⟨(ad318.add ((x11_2).toNat * 9)).block,(ad318.add ((x11_2).toNat * 9)).off + 7,none⟩ = some (.int .i64 ((rd_T45 l1 x11_2).f7)) ∧ w'.cell? ⟨(ad318.add ((x11_2).toNat * 9)).block,(ad318.add ((x11_2).toNat * 9)).off + 8,none⟩ = some (.int .i64 ((rd_T45 l1 x11_2).f8))) (ds := []) #[false,false,false,false,false,false,false,false,false,false,false,false,false,false,false,false] (by kernel_rfl) rfl rfl ⟨hx326_0,hx326_1,((HB.out.cell (World.block_lt_of_cell? w _ hw327_0)).trans hw327_0),((HB.out.cell (World.block_lt_of_cell? w _ hw327_1)).trans hw327_1),((HB.out.cell (World.block_lt_of_cell? w _ hw327_2)).trans hw327_2),((HB.out.cell (World.block_lt_of_cell? w _ hw327_3)).trans hw327_3),((HB.out.cell (World.block_lt_of_cell? w _ hw327_4)).trans hw327_4),((HB.out.cell (World.block_lt_of_cell? w _ hw327_5)).trans hw327_5),((HB.out.cell (World.block_lt_of_cell? w _ hw327_6)).trans hw327_6),((HB.out.cell (World.block_lt_of_cell? w _ hw327_7)).trans hw327_7),((HB.out.cell (World.block_lt_of_cell? w _ hw327_8)).trans hw327_8)⟩ (fun hHeld => ?_);refine with_tabW bournelaw37_AllotStops.tab14 bournelaw37_AllotStops.bits14 (fun HT_ HW_ => ?_)
                 generalize wc.drew = w42 at HO_9 HO_10 BK309 HB hx326_0 hx326_1 hx327_0 hx327_1 hx327_2 hx327_3 hx327_4 hx327_5 hx327_6 hx327_7 hx327_8 hHeld ⊢
                 refine pure_ (i := 0) (N := some 104) (v := ?_) (a' := ?_) #[true,false,false,false,false,false,false,false,false,false,false,false,false,false,false,false] rfl rfl (any_of HT_.out (by kernel_rfl)) (fun _ _ _ h => h) (Or.inl ⟨by rfl,?_⟩) ?_ ?_
                 rotate_left
                 ·intro w'
                  go_simp
                  with_reducible rfl
                 rotate_left
                 ·simp only [Act.put,List.setIfInBounds_toArray,List.set_cons_zero,List.set_cons_succ,i64_w,i32_w]
                  rfl
                 refine pure_ (i := 1) (N := some 105) (v := ?_) (a' := ?_) #[true,true,false,false,false,false,false,false,false,false,false,false,false,false,false,false] rfl rfl (any_of HT_.out (by kernel_rfl)) (fun _ _ _ h => h) (Or.inl ⟨by rfl,?_⟩) ?_ ?_
                 rotate_left
                 ·intro w'
                  go_simp
                  with_reducible rfl
                 rotate_left
                 ·simp only [Act.put,List.setIfInBounds_toArray,List.set_cons_zero,List.set_cons_succ,i64_w,i32_w]
                  rfl
                 refine pure_ (i := 2) (N := some 106) (v := ?_) (a' := ?_) #[true,true,true,false,false,false,false,false,false,false,false,false,false,false,false,false] rfl rfl (any_of HT_.out (by kernel_rfl)) (fun _ _ _ h => h) (Or.inl ⟨by rfl,?_⟩) ?_ ?_
                 rotate_left
                 ·intro w'
                  go_simp
                  with_reducible rfl
                 rotate_left
                 ·simp only [Act.put,List.setIfInBounds_toArray,List.set_cons_zero,List.set_cons_succ,i64_w,i32_w]
                  rfl
                 refine pure_ (i := 3) (N := some 107) (v := ?_) (a' := ?_) #[true,true,true,true,false,false,false,false,false,false,false,false,false,false,false,false] rfl rfl (any_of HT_.out (by kernel_rfl)) (fun _ _ _ h => h) (Or.inl ⟨by rfl,?_⟩) ?_ ?_
                 rotate_left
                 ·intro w'
                  go_simp
                  with_reducible rfl
                 rotate_left
                 ·simp only [Act.put,List.setIfInBounds_toArray,List.set_cons_zero,List.set_cons_succ,i64_w,i32_w]
                  rfl
                 refine pure_ (i := 5) (N := some 109) (v := ?_) (a' := ?_) #[true,true,true,true,false,true,false,false,false,false,false,false,false,false,false,false] rfl rfl (any_of HT_.out (by kernel_rfl)) (fun _ _ _ h => h) (Or.inl ⟨by rfl,?_⟩) ?_ ?_
                 rotate_left
                 ·intro w'
                  go_simp
                  with_reducible rfl
                 rotate_left
                 ·simp only [Act.put,List.setIfInBounds_toArray,List.set_cons_zero,List.set_cons_succ,i64_w,i32_w]
                  rfl
                 refine pure_ (i := 6) (N := some 110) (v := ?_) (a' := ?_) #[true,true,true,true,false,true,true,false,false,false,false,false,false,false,false,false] rfl rfl (any_of HT_.out (by kernel_rfl)) (fun _ _ _ h => h) (Or.inl ⟨by rfl,?_⟩) ?_ ?_
                 rotate_left
                 ·intro w'
                  go_simp
                  with_reducible rfl
                 rotate_left
                 ·simp only [Act.put,List.setIfInBounds_toArray,List.set_cons_zero,List.set_cons_succ,i64_w,i32_w]
                  rfl
                 refine pure_ (i := 7) (N := some 111) (v := ?_) (a' := ?_) #[true,true,true,true,false,true,true,true,false,false,false,false,false,false,false,false] rfl rfl (any_of HT_.out (by kernel_rfl)) (fun _ _ _ h => h) (Or.inl ⟨by rfl,?_⟩) ?_ ?_
                 rotate_left
                 ·intro w'
                  go_simp
                  with_reducible rfl
                 rotate_left
                 ·simp only [Act.put,List.setIfInBounds_toArray,List.set_cons_zero,List.set_cons_succ,i64_w,i32_w]
                  rfl
                 refine pure_ (i := 8) (N := some 112) (v := ?_) (a' := ?_) #[true,true,true,true,false,true,true,true,true,false,false,false,false,false,false,false] rfl rfl (any_of HT_.out (by kernel_rfl)) (fun _ _ _ h => h) (Or.inl ⟨by rfl,?_⟩) ?_ ?_
                 rotate_left
                 ·intro w'
                  go_simp
                  with_reducible rfl
                 rotate_left
                 ·simp only [Act.put,List.setIfInBounds_toArray,List.set_cons_zero,List.set_cons_succ,i64_w,i32_w]
                  rfl
                 refine take_ (i := 4) (N := some 108) (v := ?_) (a' := ?_) #[true,true,true,true,true,true,true,true,true,false,false,false,false,false,false,false] rfl rfl (take_ofW HT_.out HW_.out (by kernel_rfl)) (fun _ _ _ h => h) (Or.inl ⟨by rfl,?_⟩) hHeld ?_ ?_
                 rotate_left
                 ·rintro w' ⟨s0,s1,s2,s3,s4,s5,s6,s7,s8,s9,s10⟩
                  go_simp
                  with_reducible rfl
                 rotate_left
                 ·simp only [Act.put,List.setIfInBounds_toArray,List.set_cons_zero,List.set_cons_succ,i64_w,i32_w]
                  rfl
                 refine take_ (i := 9) (N := some 113) (v := ?_) (a' := ?_) #[true,true,true,true,true,true,true,true,true,true,false,false,false,false,false,false] rfl rfl (take_ofW HT_.out HW_.out (by kernel_rfl)) (fun _ _ _ h => h) (Or.inl ⟨by rfl,?_⟩) hHeld ?_ ?_
                 rotate_left
                 ·rintro w' ⟨s0,s1,s2,s3,s4,s5,s6,s7,s8,s9,s10⟩
                  go_simp
                  with_reducible rfl
                 rotate_left
                 ·simp only [Act.put,List.setIfInBounds_toArray,List.set_cons_zero,List.set_cons_succ,i64_w,i32_w]
                  rfl
                 refine pure_ (i := 10) (N := some 114) (v := ?_) (a' := ?_) #[true,true,true,true,true,true,true,true,true,true,true,false,false,false,false,false] rfl rfl (any_of HT_.out (by kernel_rfl)) (fun _ _ _ h => h) (Or.inl ⟨by rfl,?_⟩) ?_ ?_
                 rotate_left
                 ·intro w'
                  go_simp
                  with_reducible rfl
                 rotate_left
                 ·simp only [Act.put,List.setIfInBounds_toArray,List.set_cons_zero,List.set_cons_succ,i64_w,i32_w]
                  rfl
                 refine pure_ (i := 11) (N := some 115) (v := ?_) (a' := ?_) #[true,true,true,true,true,true,true,true,true,true,true,true,false,false,false,false] rfl rfl (any_of HT_.out (by kernel_rfl)) (fun _ _ _ h => h) (Or.inl ⟨by rfl,?_⟩) ?_ ?_
                 rotate_left
                 ·intro w'
                  go_simp
                  with_reducible rfl
                 rotate_left
                 ·simp only [Act.put,List.setIfInBounds_toArray,List.set_cons_zero,List.set_cons_succ,i64_w,i32_w]
                  rfl
                 refine pure_ (i := 12) (N := some 116) (v := undef) (a' := ?_) #[true,true,true,true,true,true,true,true,true,true,true,true,true,false,false,false] rfl rfl (any_of HT_.out (by kernel_rfl)) (fun _ _ _ h => h) (Or.inr ⟨by rfl,rfl⟩) ?_ ?_
                 rotate_left
                 ·simp only [Act.put,List.setIfInBounds_toArray,List.set_cons_zero,List.set_cons_succ,i64_w,i32_w]
                  rfl
                 refine pure_ (i := 13) (N := some 117) (v := undef) (a' := ?_) #[true,true,true,true,true,true,true,true,true,true,true,true,true,true,false,false] rfl rfl (any_of HT_.out (by kernel_rfl)) (fun _ _ _ h => h) (Or.inr ⟨by rfl,rfl⟩) ?_ ?_
                 rotate_left
                 ·simp only [Act.put,List.setIfInBounds_toArray,List.set_cons_zero,List.set_cons_succ,i64_w,i32_w]
                  rfl
                 refine pure_ (i := 14) (N := some 118) (v := ?_) (a' := ?_) #[true,true,true,true,true,true,true,true,true,true,true,true,true,true,true,false] rfl rfl (any_of HT_.out (by kernel_rfl)) (fun _ _ _ h => h) (Or.inl ⟨by rfl,?_⟩) ?_ ?_
                 rotate_left
                 ·intro w'
                  go_simp
                  with_reducible rfl
                 rotate_left
                 ·simp only [Act.put,List.setIfInBounds_toArray,List.set_cons_zero,List.set_cons_succ,i64_w,i32_w]
                  rfl
                 refine pure_ (i := 15) (N := some 13) (v := ?_) (a' := ?_) #[true,true,true,true,true,true,true,true,true,true,true,true,true,true,true,true] rfl rfl (any_of HT_.out (by kernel_rfl)) (fun _ _ _ h => h) (Or.inl ⟨by rfl,?_⟩) ?_ ?_
                 rotate_left
                 ·intro w'
                  go_simp
                  with_reducible rfl
                 rotate_left
                 ·simp only [Act.put,List.setIfInBounds_toArray,List.set_cons_zero,List.set_cons_succ,i64_w,i32_w]
                  rfl
                 refine done_ (done_of HT_.out (by kernel_rfl)) ?_
                 try go_wp2
                 go_meet
                 case rel => exact ⟨_,(true),(by first | rfl | (simp;done) | (simp [*];done)),H',⟨by have := HJ7.out;have := HK2.out;have := HJ22.out;first | omega | exact Nat.le_refl _⟩,⟨by (with_reducible repeat (first | apply Kd.R_alloc | apply Kd.R_drewN | apply Kd.R_drew));exact HO_9.out⟩,⟨by (with_reducible repeat (first | apply Kd.R_alloc | apply Kd.R_drewN | apply Kd.R_drew));exact HO_10.out⟩,⟨by (with_reducible repeat (first | refine blk_drewN ?_ _ | refine blk_drew ?_ | refine blk_alloc ?_ _));exact BK309.out⟩,⟨by repeat (first | (with_reducible first | exact HB.out | apply below_alloc | apply pw_below_drewN | apply below_drew1 | refine below_set ?_ GE309.out) | exact HB.out)⟩⟩
                ·rw [if_neg c41] at H
                 have c41b0 : decide (((rd_T45 l1 x11_2).f4) ≤ ((rd_T47 t312 x11_2).f1)) = false := decide_eq_false c41
                 clear c41
                 have H' := Aside0.mk H
                 clear H
                 try go_wp2
                 (repeat (rw [drewN_self wc];generalize hq_ : World.drewN wc _ = wc;have n0_ : Aside0 (Kd.R (Kd.int .i64) 3 wc w.heap.size (fun _ => True) v316 t315) := ⟨by rw [← hq_];exact (by (with_reducible repeat (first | apply Kd.R_alloc | apply Kd.R_drewN | apply Kd.R_drew));exact HO_10.out)⟩;have n1_ : Aside0 (Kd.R k47 47 wc w.heap.size (fun _ => True) v313 t312) := ⟨by rw [← hq_];exact (by (with_reducible repeat (first | apply Kd.R_alloc | apply Kd.R_drewN | apply Kd.R_drew));exact HO_9.out)⟩;have n2_ : Aside0 (wc.heap[gb309]? = some (.cells #[.string a0_0,.slice A0_1 l0_1.length c0_1,.int .i64 a0_2,.slice A0_3 l0_3.length c0_3,.slice A0_4 l0_4.length c0_4,.slice A0_5 l0_5.length c0_5,.slice A0_6 l0_6.length c0_6,.slice A0_7 l0_7.length c0_7,.slice A0_8 l0_8.length c0_8,.slice A0_9 l0_9.length c0_9,.int .i64 a0_10] 31 (0,0))) := ⟨by rw [← hq_];exact (by (with_reducible repeat (first | refine blk_drewN ?_ _ | refine blk_drew ?_ | refine blk_alloc ?_ _));exact BK309.out)⟩;have n3_ : Aside0 (Below w.heap.size w wc) := ⟨by rw [← hq_];exact (by repeat (first | (with_reducible first | exact HB.out | apply below_alloc | apply pw_below_drewN | apply below_drew1 | refine below_set ?_ GE309.out) | exact HB.out))⟩;clear HO_10 HO_9 BK309 HB hq_;have HO_10 := n0_;have HO_9 := n1_;have BK309 := n2_;have HB := n3_;clear n0_ n1_ n2_ n3_))
                 have n0_ := Aside0.mk (Kd.R_drew HO_9.out)
                 have n1_ := Aside0.mk (Kd.R_drew HO_10.out)
                 have n2_ := Aside0.mk (blk_drew BK309.out)
                 have n3_ := Aside0.mk (below_drew1 HB.out)
                 clear HO_9
                 clear HO_10
                 clear BK309
                 clear HB
                 have HO_9 := n0_
                 have HO_10 := n1_
                 have BK309 := n2_
                 have HB := n3_
                 clear n0_ n1_ n2_ n3_
                 obtain ⟨Ao45,co45,eo45⟩ := Kd.R_slice HO_9.out
                 (first | subst eo45 | (injection eo45 with f1_ f2_ f3_;have f4_ := f1_.symm;have f5_ := f3_.symm;clear f1_ f2_ f3_;subst f4_;subst f5_))
                 have p326 : 0 ≤ (x11_2 : Int) := of_decide_eq_true (by first | (with_reducible assumption) | assumption)
                 have q326 : x11_2 < (t312.length : Int) := of_decide_eq_true (by first | (with_reducible assumption) | assumption)
                 obtain ⟨ad326,e326,hx326_0,hx326_1⟩ := at_T47 (Kd.R_reads' HO_9.out).2.2 x11_2 p326 q326
                 cases e326
                 replace p326 := eq_true p326
                 replace q326 := eq_true q326
                 have p327 : 0 ≤ (x11_2 : Int) := of_decide_eq_true (by first | (with_reducible assumption) | assumption)
                 have q327 : x11_2 < (l1.length : Int) := of_decide_eq_true (by first | (with_reducible assumption) | assumption)
                 obtain ⟨ad327,e327,hx327_0,hx327_1,hx327_2,hx327_3,hx327_4,hx327_5,hx327_6,hx327_7,hx327_8⟩ := at_T45 HR1.out x11_2 p327 q327
                 have hw327_8 := hx327_8
                 have hw327_7 := hx327_7
                 have hw327_6 := hx327_6
                 have hw327_5 := hx327_5
                 have hw327_4 := hx327_4
                 have hw327_3 := hx327_3
                 have hw327_2 := hx327_2
                 have hw327_1 := hx327_1
                 have hw327_0 := hx327_0
                 obtain rfl : ad318 = ad327 := (by injection e327)
                 replace hx327_0 := (HB.out.cell (World.block_lt_of_cell? w _ hx327_0)).trans hx327_0
                 replace hx327_1 := (HB.out.cell (World.block_lt_of_cell? w _ hx327_1)).trans hx327_1
                 replace hx327_2 := (HB.out.cell (World.block_lt_of_cell? w _ hx327_2)).trans hx327_2
                 replace hx327_3 := (HB.out.cell (World.block_lt_of_cell? w _ hx327_3)).trans hx327_3
                 replace hx327_4 := (HB.out.cell (World.block_lt_of_cell? w _ hx327_4)).trans hx327_4
                 replace hx327_5 := (HB.out.cell (World.block_lt_of_cell? w _ hx327_5)).trans hx327_5
                 replace hx327_6 := (HB.out.cell (World.block_lt_of_cell? w _ hx327_6)).trans hx327_6
                 replace hx327_7 := (HB.out.cell (World.block_lt_of_cell? w _ hx327_7)).trans hx327_7
                 replace hx327_8 := (HB.out.cell (World.block_lt_of_cell? w _ hx327_8)).trans hx327_8
                 replace p327 := eq_true p327
                 replace q327 := eq_true q327
                 refine start_ (n := 16) (S := fun w' => w'.cell? (ad326.add ((x11_2).toNat * 2)) = some (.int .i64 ((rd_T47 t312 x11_2).f0)) ∧ w'.cell? ⟨(ad326.add ((x11_2).toNat * 2)).block,(ad326.add ((x11_2).toNat * 2)).off + 1,none⟩ = some (.int .i64 ((rd_T47 t312 x11_2).f1)) ∧ w'.cell? (ad318.add ((x11_2).toNat * 9)) = some (.int .i64 ((rd_T45 l1 x11_2).f0)) ∧ w'.cell? ⟨(ad318.add ((x11_2).toNat * 9)).block,(ad318.add ((x11_2).toNat * 9)).off + 1,none⟩ = some (.int .i64 ((rd_T45 l1 x11_2).f1)) ∧ w'.cell? ⟨(ad318.add ((x11_2).toNat * 9)).block,(ad318.add ((x11_2).toNat * 9)).off + 2,none⟩ = some (.int .i64 ((rd_T45 l1 x11_2).f2)) ∧ w'.cell? ⟨(ad318.add ((x11_2).toNat * 9)).block,(ad318.add ((x11_2).toNat * 9)).off + 3,none⟩ = some (.int .i64 ((rd_T45 l1 x11_2).f3)) ∧ w'.cell? ⟨(ad318.add ((x11_2).toNat * 9)).block,(ad318.add ((x11_2).toNat * 9)).off + 4,none⟩ = some (.int .i64 ((rd_T45 l1 x11_2).f4)) ∧ w'.cell? ⟨(ad318.add ((x11_2).toNat * 9)).block,(ad318.add ((x11_2).toNat * 9)).off + 5,none⟩ = some (.int .i64 ((rd_T45 l1 x11_2).f5)) ∧ w'.cell? ⟨(ad318.add ((x11_2).toNat * 9)).block,(ad318.add ((x11_2).toNat * 9)).off + 6,none⟩ = some (.int .i64 ((rd_T45 l1 x11_2).f6)) ∧ w'.cell? ⟨(ad318.add ((x11_2).toNat * 9)).block,(ad318.add ((x11_2).toNat * 9)).off + 7,none⟩ = some (.int .i64 ((rd_T45 l1 x11_2).f7)) ∧ w'.cell? ⟨(ad318.add ((x11_2).toNat * 9)).block,(ad318.add ((x11_2).toNat * 9)).off + 8,none⟩ = some (.int .i64 ((rd_T45 l1 x11_2).f8))) (ds := []) #[false,false,false,false,false,false,false,false,false,false,false,false,false,false,false,false] (by kernel_rfl) rfl rfl ⟨hx326_0,hx326_1,((HB.out.cell (World.block_lt_of_cell? w _ hw327_0)).trans hw327_0),((HB.out.cell (World.block_lt_of_cell? w _ hw327_1)).trans hw327_1),((HB.out.cell (World.block_lt_of_cell? w _ hw327_2)).trans hw327_2),((HB.out.cell (World.block_lt_of_cell? w _ hw327_3)).trans hw327_3),((HB.out.cell (World.block_lt_of_cell? w _ hw327_4)).trans hw327_4),((HB.out.cell (World.block_lt_of_cell? w _ hw327_5)).trans hw327_5),((HB.out.cell (World.block_lt_of_cell? w _ hw327_6)).trans hw327_6),((HB.out.cell (World.block_lt_of_cell? w _ hw327_7)).trans hw327_7),((HB.out.cell (World.block_lt_of_cell? w _ hw327_8)).trans hw327_8)⟩ (fun hHeld => ?_);refine with_tabW bournelaw37_AllotStops.tab14 bournelaw37_AllotStops.bits14 (fun HT_ HW_ => ?_)
                 generalize wc.drew = w44 at HO_9 HO_10 BK309 HB hx326_0 hx326_1 hx327_0 hx327_1 hx327_2 hx327_3 hx327_4 hx327_5 hx327_6 hx327_7 hx327_8 hHeld ⊢
                 refine pure_ (i := 0) (N := some 104) (v := ?_) (a' := ?_) #[true,false,false,false,false,false,false,false,false,false,false,false,false,false,false,false] rfl rfl (any_of HT_.out (by kernel_rfl)) (fun _ _ _ h => h) (Or.inl ⟨by rfl,?_⟩) ?_ ?_
                 rotate_left
                 ·intro w'
                  go_simp
                  with_reducible rfl
                 rotate_left
                 ·simp only [Act.put,List.setIfInBounds_toArray,List.set_cons_zero,List.set_cons_succ,i64_w,i32_w]
                  rfl
                 refine pure_ (i := 1) (N := some 105) (v := ?_) (a' := ?_) #[true,true,false,false,false,false,false,false,false,false,false,false,false,false,false,false] rfl rfl (any_of HT_.out (by kernel_rfl)) (fun _ _ _ h => h) (Or.inl ⟨by rfl,?_⟩) ?_ ?_
                 rotate_left
                 ·intro w'
                  go_simp
                  with_reducible rfl
                 rotate_left
                 ·simp only [Act.put,List.setIfInBounds_toArray,List.set_cons_zero,List.set_cons_succ,i64_w,i32_w]
                  rfl
                 refine pure_ (i := 2) (N := some 106) (v := ?_) (a' := ?_) #[true,true,true,false,false,false,false,false,false,false,false,false,false,false,false,false] rfl rfl (any_of HT_.out (by kernel_rfl)) (fun _ _ _ h => h) (Or.inl ⟨by rfl,?_⟩) ?_ ?_
                 rotate_left
                 ·intro w'
                  go_simp
                  with_reducible rfl
                 rotate_left
                 ·simp only [Act.put,List.setIfInBounds_toArray,List.set_cons_zero,List.set_cons_succ,i64_w,i32_w]
                  rfl
                 refine pure_ (i := 3) (N := some 107) (v := ?_) (a' := ?_) #[true,true,true,true,false,false,false,false,false,false,false,false,false,false,false,false] rfl rfl (any_of HT_.out (by kernel_rfl)) (fun _ _ _ h => h) (Or.inl ⟨by rfl,?_⟩) ?_ ?_
                 rotate_left
                 ·intro w'
                  go_simp
                  with_reducible rfl
                 rotate_left
                 ·simp only [Act.put,List.setIfInBounds_toArray,List.set_cons_zero,List.set_cons_succ,i64_w,i32_w]
                  rfl
                 refine pure_ (i := 5) (N := some 109) (v := ?_) (a' := ?_) #[true,true,true,true,false,true,false,false,false,false,false,false,false,false,false,false] rfl rfl (any_of HT_.out (by kernel_rfl)) (fun _ _ _ h => h) (Or.inl ⟨by rfl,?_⟩) ?_ ?_
                 rotate_left
                 ·intro w'
                  go_simp
                  with_reducible rfl
                 rotate_left
                 ·simp only [Act.put,List.setIfInBounds_toArray,List.set_cons_zero,List.set_cons_succ,i64_w,i32_w]
                  rfl
                 refine pure_ (i := 6) (N := some 110) (v := ?_) (a' := ?_) #[true,true,true,true,false,true,true,false,false,false,false,false,false,false,false,false] rfl rfl (any_of HT_.out (by kernel_rfl)) (fun _ _ _ h => h) (Or.inl ⟨by rfl,?_⟩) ?_ ?_
                 rotate_left
                 ·intro w'
                  go_simp
                  with_reducible rfl
                 rotate_left
                 ·simp only [Act.put,List.setIfInBounds_toArray,List.set_cons_zero,List.set_cons_succ,i64_w,i32_w]
                  rfl
                 refine pure_ (i := 7) (N := some 111) (v := ?_) (a' := ?_) #[true,true,true,true,false,true,true,true,false,false,false,false,false,false,false,false] rfl rfl (any_of HT_.out (by kernel_rfl)) (fun _ _ _ h => h) (Or.inl ⟨by rfl,?_⟩) ?_ ?_
                 rotate_left
                 ·intro w'
                  go_simp
                  with_reducible rfl
                 rotate_left
                 ·simp only [Act.put,List.setIfInBounds_toArray,List.set_cons_zero,List.set_cons_succ,i64_w,i32_w]
                  rfl
                 refine pure_ (i := 8) (N := some 112) (v := ?_) (a' := ?_) #[true,true,true,true,false,true,true,true,true,false,false,false,false,false,false,false] rfl rfl (any_of HT_.out (by kernel_rfl)) (fun _ _ _ h => h) (Or.inl ⟨by rfl,?_⟩) ?_ ?_
                 rotate_left
                 ·intro w'
                  go_simp
                  with_reducible rfl
                 rotate_left
                 ·simp only [Act.put,List.setIfInBounds_toArray,List.set_cons_zero,List.set_cons_succ,i64_w,i32_w]
                  rfl
                 refine take_ (i := 4) (N := some 108) (v := ?_) (a' := ?_) #[true,true,true,true,true,true,true,true,true,false,false,false,false,false,false,false] rfl rfl (take_ofW HT_.out HW_.out (by kernel_rfl)) (fun _ _ _ h => h) (Or.inl ⟨by rfl,?_⟩) hHeld ?_ ?_
                 rotate_left
                 ·rintro w' ⟨s0,s1,s2,s3,s4,s5,s6,s7,s8,s9,s10⟩
                  go_simp
                  with_reducible rfl
                 rotate_left
                 ·simp only [Act.put,List.setIfInBounds_toArray,List.set_cons_zero,List.set_cons_succ,i64_w,i32_w]
                  rfl
                 refine take_ (i := 9) (N := some 113) (v := ?_) (a' := ?_) #[true,true,true,true,true,true,true,true,true,true,false,false,false,false,false,false] rfl rfl (take_ofW HT_.out HW_.out (by kernel_rfl)) (fun _ _ _ h => h) (Or.inl ⟨by rfl,?_⟩) hHeld ?_ ?_
                 rotate_left
                 ·rintro w' ⟨s0,s1,s2,s3,s4,s5,s6,s7,s8,s9,s10⟩
                  go_simp
                  with_reducible rfl
                 rotate_left
                 ·simp only [Act.put,List.setIfInBounds_toArray,List.set_cons_zero,List.set_cons_succ,i64_w,i32_w]
                  rfl
                 refine pure_ (i := 10) (N := some 114) (v := ?_) (a' := ?_) #[true,true,true,true,true,true,true,true,true,true,true,false,false,false,false,false] rfl rfl (any_of HT_.out (by kernel_rfl)) (fun _ _ _ h => h) (Or.inl ⟨by rfl,?_⟩) ?_ ?_
                 rotate_left
                 ·intro w'
                  go_simp
                  with_reducible rfl
                 rotate_left
                 ·simp only [Act.put,List.setIfInBounds_toArray,List.set_cons_zero,List.set_cons_succ,i64_w,i32_w]
                  rfl
                 refine pure_ (i := 11) (N := some 115) (v := ?_) (a' := ?_) #[true,true,true,true,true,true,true,true,true,true,true,true,false,false,false,false] rfl rfl (any_of HT_.out (by kernel_rfl)) (fun _ _ _ h => h) (Or.inl ⟨by rfl,?_⟩) ?_ ?_
                 rotate_left
                 ·intro w'
                  go_simp
                  with_reducible rfl
                 rotate_left
                 ·simp only [Act.put,List.setIfInBounds_toArray,List.set_cons_zero,List.set_cons_succ,i64_w,i32_w]
                  rfl
                 refine pure_ (i := 12) (N := some 116) (v := ?_) (a' := ?_) #[true,true,true,true,true,true,true,true,true,true,true,true,true,false,false,false] rfl rfl (any_of HT_.out (by kernel_rfl)) (fun _ _ _ h => h) (Or.inl ⟨by rfl,?_⟩) ?_ ?_
                 rotate_left
                 ·intro w'
                  go_simp
                  with_reducible rfl
                 rotate_left
                 ·simp only [Act.put,List.setIfInBounds_toArray,List.set_cons_zero,List.set_cons_succ,i64_w,i32_w]
                  rfl
                 refine pure_ (i := 13) (N := some 117) (v := ?_) (a' := ?_) #[true,true,true,true,true,true,true,true,true,true,true,true,true,true,false,false] rfl rfl (any_of HT_.out (by kernel_rfl)) (fun _ _ _ h => h) (Or.inl ⟨by rfl,?_⟩) ?_ ?_
                 rotate_left
                 ·intro w'
                  go_simp
                  with_reducible rfl
                 rotate_left
                 ·simp only [Act.put,List.setIfInBounds_toArray,List.set_cons_zero,List.set_cons_succ,i64_w,i32_w]
                  rfl
                 refine pure_ (i := 14) (N := some 118) (v := ?_) (a' := ?_) #[true,true,true,true,true,true,true,true,true,true,true,true,true,true,true,false] rfl rfl (any_of HT_.out (by kernel_rfl)) (fun _ _ _ h => h) (Or.inl ⟨by rfl,?_⟩) ?_ ?_
                 rotate_left
                 ·intro w'
                  go_simp
                  with_reducible rfl
                 rotate_left
                 ·simp only [Act.put,List.setIfInBounds_toArray,List.set_cons_zero,List.set_cons_succ,i64_w,i32_w]
                  rfl
                 refine pure_ (i := 15) (N := some 13) (v := ?_) (a' := ?_) #[true,true,true,true,true,true,true,true,true,true,true,true,true,true,true,true] rfl rfl (any_of HT_.out (by kernel_rfl)) (fun _ _ _ h => h) (Or.inl ⟨by rfl,?_⟩) ?_ ?_
                 rotate_left
                 ·intro w'
                  go_simp
                  with_reducible rfl
                 rotate_left
                 ·simp only [Act.put,List.setIfInBounds_toArray,List.set_cons_zero,List.set_cons_succ,i64_w,i32_w]
                  rfl
                 refine done_ (done_of HT_.out (by kernel_rfl)) ?_
                 try go_wp2
                 go_meet
                 case rel => exact ⟨_,(!t319),(by first | rfl | (simp;done) | (simp [*];done)),H',⟨by have := HJ7.out;have := HK2.out;have := HJ22.out;first | omega | exact Nat.le_refl _⟩,⟨by (with_reducible repeat (first | apply Kd.R_alloc | apply Kd.R_drewN | apply Kd.R_drew));exact HO_9.out⟩,⟨by (with_reducible repeat (first | apply Kd.R_alloc | apply Kd.R_drewN | apply Kd.R_drew));exact HO_10.out⟩,⟨by (with_reducible repeat (first | refine blk_drewN ?_ _ | refine blk_drew ?_ | refine blk_alloc ?_ _));exact BK309.out⟩,⟨by repeat (first | (with_reducible first | exact HB.out | apply below_alloc | apply pw_below_drewN | apply below_drew1 | refine below_set ?_ GE309.out) | exact HB.out)⟩⟩
               ·rw [if_neg c40] at H
                exact absurd H (by simp)
              ·rw [if_neg c39] at H
               exact absurd H (by simp)
             ·rw [if_neg c38] at H
              exact absurd H (by simp)
            case rest =>
             clear HC37
             try clear c2
             try clear p2
             try clear c3
             try clear p3
             try clear q3
             try clear hx3
             try clear c4
             try clear c26
             try clear c27
             try clear c31
             try clear p32
             try clear q32
             try clear hx32
             try clear c36
             try clear c38
             try clear c38b0
             try clear c39
             try clear c39b0
             try clear c40
             try clear c40b0
             try clear c41
             try clear c41b0
             try clear hx320_0
             try clear hx320_1
             try clear hx321_0
             try clear hx321_1
             try clear hx321_2
             try clear hx321_3
             try clear hx321_4
             try clear hx321_5
             try clear hx321_6
             try clear hx321_7
             try clear hx321_8
             try clear hx322_0
             try clear hx322_1
             try clear hx323_0
             try clear hx323_1
             try clear hx324_0
             try clear hx324_1
             try clear hx324_2
             try clear hx324_3
             try clear hx324_4
             try clear hx324_5
             try clear hx324_6
             try clear hx324_7
             try clear hx324_8
             try clear hx325_0
             try clear hx325_1
             try clear hx326_0
             try clear hx326_1
             try clear hx327_0
             try clear hx327_1
             try clear hx327_2
             try clear hx327_3
             try clear hx327_4
             try clear hx327_5
             try clear hx327_6
             try clear hx327_7
             try clear hx327_8
             try clear p2
             try clear p3
             try clear p32
             try clear p320
             try clear p321
             try clear p322
             try clear p323
             try clear p324
             try clear p325
             try clear p326
             try clear p327
             try clear q3
             try clear q32
             try clear q320
             try clear q321
             try clear q322
             try clear q323
             try clear q324
             try clear q325
             try clear q326
             try clear q327
             obtain ⟨kq,x13_36,rfl,HA,HJ36,HO_9,HO_10,BK309,HB⟩ := hcut
             cases kq with
             | zero => exact absurd HA.out (by simp [bournelaw37_AllotStops.j3])
             | succ kj36 =>
              have H := HA.out
              clear HA
              simp only [bournelaw37_AllotStops.j3] at H
              by_cases c46 : 0 ≤ x11_2
              ·rw [if_pos c46] at H
               have c46b0 : decide (0 ≤ x11_2) = true := decide_eq_true c46
               clear c46
               by_cases c47 : x11_2 < (l1.length : Int)
               ·rw [if_pos c47] at H
                have c47b0 : decide (x11_2 < (l1.length : Int)) = true := decide_eq_true c47
                clear c47
                replace H := Option.bind_eq_some_iff.mp H
                obtain ⟨t329,A480,H⟩ := H
                replace H : (bournelaw37_AllotStops.l1 kj36 l1 l2 t310 t312 t315 x11_2 x13_36 t329 0 a0_0 l0_1 a0_2 l0_3 l0_4 l0_5 l0_6 l0_7 l0_8 l0_9 a0_10) = some r := H
                have A48 := Aside0.mk A480
                clear A480
                have H' := Aside0.mk H
                clear H
                try go_wp2
                (repeat (rw [drewN_self wc];generalize hq_ : World.drewN wc _ = wc;have n0_ : Aside0 (Kd.R (Kd.int .i64) 3 wc w.heap.size (fun _ => True) v316 t315) := ⟨by rw [← hq_];exact (by (with_reducible repeat (first | apply Kd.R_alloc | apply Kd.R_drewN | apply Kd.R_drew));exact HO_10.out)⟩;have n1_ : Aside0 (Kd.R k47 47 wc w.heap.size (fun _ => True) v313 t312) := ⟨by rw [← hq_];exact (by (with_reducible repeat (first | apply Kd.R_alloc | apply Kd.R_drewN | apply Kd.R_drew));exact HO_9.out)⟩;have n2_ : Aside0 (wc.heap[gb309]? = some (.cells #[.string a0_0,.slice A0_1 l0_1.length c0_1,.int .i64 a0_2,.slice A0_3 l0_3.length c0_3,.slice A0_4 l0_4.length c0_4,.slice A0_5 l0_5.length c0_5,.slice A0_6 l0_6.length c0_6,.slice A0_7 l0_7.length c0_7,.slice A0_8 l0_8.length c0_8,.slice A0_9 l0_9.length c0_9,.int .i64 a0_10] 31 (0,0))) := ⟨by rw [← hq_];exact (by (with_reducible repeat (first | refine blk_drewN ?_ _ | refine blk_drew ?_ | refine blk_alloc ?_ _));exact BK309.out)⟩;have n3_ : Aside0 (Below w.heap.size w wc) := ⟨by rw [← hq_];exact (by repeat (first | (with_reducible first | exact HB.out | apply below_alloc | apply pw_below_drewN | apply below_drew1 | refine below_set ?_ GE309.out) | exact HB.out))⟩;clear HO_10 HO_9 BK309 HB hq_;have HO_10 := n0_;have HO_9 := n1_;have BK309 := n2_;have HB := n3_;clear n0_ n1_ n2_ n3_))
                have n0_ := Aside0.mk (Kd.R_drew HO_9.out)
                have n1_ := Aside0.mk (Kd.R_drew HO_10.out)
                have n2_ := Aside0.mk (blk_drew BK309.out)
                have n3_ := Aside0.mk (below_drew1 HB.out)
                clear HO_9
                clear HO_10
                clear BK309
                clear HB
                have HO_9 := n0_
                have HO_10 := n1_
                have BK309 := n2_
                have HB := n3_
                clear n0_ n1_ n2_ n3_
                have p328 : 0 ≤ (x11_2 : Int) := of_decide_eq_true (by first | (with_reducible assumption) | assumption)
                have q328 : x11_2 < (l1.length : Int) := of_decide_eq_true (by first | (with_reducible assumption) | assumption)
                obtain ⟨ad328,e328,hx328_0,hx328_1,hx328_2,hx328_3,hx328_4,hx328_5,hx328_6,hx328_7,hx328_8⟩ := at_T45 HR1.out x11_2 p328 q328
                have hw328_8 := hx328_8
                have hw328_7 := hx328_7
                have hw328_6 := hx328_6
                have hw328_5 := hx328_5
                have hw328_4 := hx328_4
                have hw328_3 := hx328_3
                have hw328_2 := hx328_2
                have hw328_1 := hx328_1
                have hw328_0 := hx328_0
                obtain rfl : ad318 = ad328 := (by injection e328)
                replace hx328_0 := (HB.out.cell (World.block_lt_of_cell? w _ hx328_0)).trans hx328_0
                replace hx328_1 := (HB.out.cell (World.block_lt_of_cell? w _ hx328_1)).trans hx328_1
                replace hx328_2 := (HB.out.cell (World.block_lt_of_cell? w _ hx328_2)).trans hx328_2
                replace hx328_3 := (HB.out.cell (World.block_lt_of_cell? w _ hx328_3)).trans hx328_3
                replace hx328_4 := (HB.out.cell (World.block_lt_of_cell? w _ hx328_4)).trans hx328_4
                replace hx328_5 := (HB.out.cell (World.block_lt_of_cell? w _ hx328_5)).trans hx328_5
                replace hx328_6 := (HB.out.cell (World.block_lt_of_cell? w _ hx328_6)).trans hx328_6
                replace hx328_7 := (HB.out.cell (World.block_lt_of_cell? w _ hx328_7)).trans hx328_7
                replace hx328_8 := (HB.out.cell (World.block_lt_of_cell? w _ hx328_8)).trans hx328_8
                replace p328 := eq_true p328
                replace q328 := eq_true q328
                refine start_ (n := 8) (S := fun w' => w'.cell? ⟨gb309,0,none⟩ = some (.string a0_0) ∧ w'.cell? ⟨gb309,1,none⟩ = some (.slice A0_1 l0_1.length c0_1) ∧ w'.cell? ⟨gb309,2,none⟩ = some (.int .i64 a0_2) ∧ w'.cell? ⟨gb309,3,none⟩ = some (.slice A0_3 l0_3.length c0_3) ∧ w'.cell? ⟨gb309,4,none⟩ = some (.slice A0_4 l0_4.length c0_4) ∧ w'.cell? ⟨gb309,5,none⟩ = some (.slice A0_5 l0_5.length c0_5) ∧ w'.cell? ⟨gb309,6,none⟩ = some (.slice A0_6 l0_6.length c0_6) ∧ w'.cell? ⟨gb309,7,none⟩ = some (.slice A0_7 l0_7.length c0_7) ∧ w'.cell? ⟨gb309,8,none⟩ = some (.slice A0_8 l0_8.length c0_8) ∧ w'.cell? ⟨gb309,9,none⟩ = some (.slice A0_9 l0_9.length c0_9) ∧ w'.cell? ⟨gb309,10,none⟩ = some (.int .i64 a0_10) ∧ w'.cell? (ad318.add ((x11_2).toNat * 9)) = some (.int .i64 ((rd_T45 l1 x11_2).f0)) ∧ w'.cell? ⟨(ad318.add ((x11_2).toNat * 9)).block,(ad318.add ((x11_2).toNat * 9)).off + 1,none⟩ = some (.int .i64 ((rd_T45 l1 x11_2).f1)) ∧ w'.cell? ⟨(ad318.add ((x11_2).toNat * 9)).block,(ad318.add ((x11_2).toNat * 9)).off + 2,none⟩ = some (.int .i64 ((rd_T45 l1 x11_2).f2)) ∧ w'.cell? ⟨(ad318.add ((x11_2).toNat * 9)).block,(ad318.add ((x11_2).toNat * 9)).off + 3,none⟩ = some (.int .i64 ((rd_T45 l1 x11_2).f3)) ∧ w'.cell? ⟨(ad318.add ((x11_2).toNat * 9)).block,(ad318.add ((x11_2).toNat * 9)).off + 4,none⟩ = some (.int .i64 ((rd_T45 l1 x11_2).f4)) ∧ w'.cell? ⟨(ad318.add ((x11_2).toNat * 9)).block,(ad318.add ((x11_2).toNat * 9)).off + 5,none⟩ = some (.int .i64 ((rd_T45 l1 x11_2).f5)) ∧ w'.cell? ⟨(ad318.add ((x11_2).toNat * 9)).block,(ad318.add ((x11_2).toNat * 9)).off + 6,none⟩ = some (.int .i64 ((rd_T45 l1 x11_2).f6)) ∧ w'.cell? ⟨(ad318.add ((x11_2).toNat * 9)).block,(ad318.add ((x11_2).toNat * 9)).off + 7,none⟩ = some (.int .i64 ((rd_T45 l1 x11_2).f7)) ∧ w'.cell? ⟨(ad318.add ((x11_2).toNat * 9)).block,(ad318.add ((x11_2).toNat * 9)).off + 8,none⟩ = some (.int .i64 ((rd_T45 l1 x11_2).f8))) (ds := []) #[false,false,false,false,false,false,false,false] (by kernel_rfl) rfl rfl ⟨(blk_cell BK309.out 0).trans rfl,(blk_cell BK309.out 1).trans rfl,(blk_cell BK309.out 2).trans rfl,(blk_cell BK309.out 3).trans rfl,(blk_cell BK309.out 4).trans rfl,(blk_cell BK309.out 5).trans rfl,(blk_cell BK309.out 6).trans rfl,(blk_cell BK309.out 7).trans rfl,(blk_cell BK309.out 8).trans rfl,(blk_cell BK309.out 9).trans rfl,(blk_cell BK309.out 10).trans rfl,((HB.out.cell (World.block_lt_of_cell? w _ hw328_0)).trans hw328_0),((HB.out.cell (World.block_lt_of_cell? w _ hw328_1)).trans hw328_1),((HB.out.cell (World.block_lt_of_cell? w _ hw328_2)).trans hw328_2),((HB.out.cell (World.block_lt_of_cell? w _ hw328_3)).trans hw328_3),((HB.out.cell (World.block_lt_of_cell? w _ hw328_4)).trans hw328_4),((HB.out.cell (World.block_lt_of_cell? w _ hw328_5)).trans hw328_5),((HB.out.cell (World.block_lt_of_cell? w _ hw328_6)).trans hw328_6),((HB.out.cell (World.block_lt_of_cell? w _ hw328_7)).trans hw328_7),((HB.out.cell (World.block_lt_of_cell? w _ hw328_8)).trans hw328_8)⟩ (fun hHeld => ?_);refine with_tabW bournelaw37_AllotStops.tab15 bournelaw37_AllotStops.bits15 (fun HT_ HW_ => ?_)
                generalize wc.drew = w49 at HO_9 HO_10 BK309 HB hx328_0 hx328_1 hx328_2 hx328_3 hx328_4 hx328_5 hx328_6 hx328_7 hx328_8 hHeld ⊢
                refine pure_ (i := 1) (N := some 120) (v := ?_) (a' := ?_) #[false,true,false,false,false,false,false,false] rfl rfl (any_of HT_.out (by kernel_rfl)) (fun _ _ _ h => h) (Or.inl ⟨by rfl,?_⟩) ?_ ?_
                rotate_left
                ·intro w'
                 go_simp
                 with_reducible rfl
                rotate_left
                ·simp only [Act.put,List.setIfInBounds_toArray,List.set_cons_zero,List.set_cons_succ,i64_w,i32_w]
                 rfl
                refine pure_ (i := 2) (N := some 121) (v := ?_) (a' := ?_) #[false,true,true,false,false,false,false,false] rfl rfl (any_of HT_.out (by kernel_rfl)) (fun _ _ _ h => h) (Or.inl ⟨by rfl,?_⟩) ?_ ?_
                rotate_left
                ·intro w'
                 go_simp
                 with_reducible rfl
                rotate_left
                ·simp only [Act.put,List.setIfInBounds_toArray,List.set_cons_zero,List.set_cons_succ,i64_w,i32_w]
                 rfl
                refine pure_ (i := 3) (N := some 122) (v := ?_) (a' := ?_) #[false,true,true,true,false,false,false,false] rfl rfl (any_of HT_.out (by kernel_rfl)) (fun _ _ _ h => h) (Or.inl ⟨by rfl,?_⟩) ?_ ?_
                rotate_left
                ·intro w'
                 go_simp
                 with_reducible rfl
                rotate_left
                ·simp only [Act.put,List.setIfInBounds_toArray,List.set_cons_zero,List.set_cons_succ,i64_w,i32_w]
                 rfl
                refine pure_ (i := 4) (N := some 123) (v := ?_) (a' := ?_) #[false,true,true,true,true,false,false,false] rfl rfl (any_of HT_.out (by kernel_rfl)) (fun _ _ _ h => h) (Or.inl ⟨by rfl,?_⟩) ?_ ?_
                rotate_left
                ·intro w'
                 go_simp
                 with_reducible rfl
                rotate_left
                ·simp only [Act.put,List.setIfInBounds_toArray,List.set_cons_zero,List.set_cons_succ,i64_w,i32_w]
                 rfl
                refine take_ (i := 0) (N := some 119) (v := ?_) (a' := ?_) #[true,true,true,true,true,false,false,false] rfl rfl (take_ofW HT_.out HW_.out (by kernel_rfl)) (fun _ _ _ h => h) (Or.inl ⟨by rfl,?_⟩) hHeld ?_ ?_
                rotate_left
                ·rintro w' ⟨s0,s1,s2,s3,s4,s5,s6,s7,s8,s9,s10,s11,s12,s13,s14,s15,s16,s17,s18,s19⟩
                 go_simp
                 with_reducible rfl
                rotate_left
                ·simp only [Act.put,List.setIfInBounds_toArray,List.set_cons_zero,List.set_cons_succ,i64_w,i32_w]
                 rfl
                refine take_ (i := 5) (N := some 124) (v := ?_) (a' := ?_) #[true,true,true,true,true,true,false,false] rfl rfl (take_ofW HT_.out HW_.out (by kernel_rfl)) (fun _ _ _ h => h) (Or.inl ⟨by rfl,?_⟩) hHeld ?_ ?_
                rotate_left
                ·rintro w' ⟨s0,s1,s2,s3,s4,s5,s6,s7,s8,s9,s10,s11,s12,s13,s14,s15,s16,s17,s18,s19⟩
                 go_simp
                 with_reducible rfl
                rotate_left
                ·simp only [Act.put,List.setIfInBounds_toArray,List.set_cons_zero,List.set_cons_succ,i64_w,i32_w]
                 rfl
                refine one_ (i := 6) (N := some 125) #[true,true,true,true,true,true,true,false] rfl rfl (one_of HT_.out (by kernel_rfl)) (by decide) (fun K hK => ?_)
                refine goes_ Try.func13 (by kernel_rfl) rfl #[.agg #[.string a0_0,.slice A0_1 l0_1.length c0_1,.int .i64 a0_2,.slice A0_3 l0_3.length c0_3,.slice A0_4 l0_4.length c0_4,.slice A0_5 l0_5.length c0_5,.slice A0_6 l0_6.length c0_6,.slice A0_7 l0_7.length c0_7,.slice A0_8 l0_8.length c0_8,.slice A0_9 l0_9.length c0_9,.int .i64 a0_10],.int .i64 ((rd_T45 l1 x11_2).f3)] (by rfl) rfl rfl (by (try simp only [List.map_toArray,List.map_cons,List.map_nil]);first | done | rfl | (simp only [List.length_drop,List.length_take];rfl)) ?_
                with_reducible refine (allot_Reach.calls kj36 a0_0 _ _ l0_1 a0_2 _ _ l0_3 _ _ l0_4 _ _ l0_5 _ _ l0_6 _ _ l0_7 _ _ l0_8 _ _ l0_9 a0_10 ((rd_T45 l1 x11_2).f3) t329 _ ?side1 ?side2 ?side3 ?side4 ?side5 ?side6 ?side7 ?side8 ?side9 ?side10 ?side11 ?side12 ?side13 ?side14 ?side15 ?side16 A48.out).mono ?_
                (case side1 => repeat (first | exact (Kd.C_below HR0_1.out HB.out) | (with_reducible refine Kd.C_alloc ?_ _) | (with_reducible refine Kd.C_drewN ?_ _) | (with_reducible refine Kd.C_drew ?_)))
                (case side2 => exact HC0_1.out)
                (case side3 => repeat (first | exact (Kd.C_below HR0_3.out HB.out) | (with_reducible refine Kd.C_alloc ?_ _) | (with_reducible refine Kd.C_drewN ?_ _) | (with_reducible refine Kd.C_drew ?_)))
                (case side4 => exact HC0_3.out)
                (case side5 => repeat (first | exact (Kd.C_below HR0_4.out HB.out) | (with_reducible refine Kd.C_alloc ?_ _) | (with_reducible refine Kd.C_drewN ?_ _) | (with_reducible refine Kd.C_drew ?_)))
                (case side6 => exact HC0_4.out)
                (case side7 => repeat (first | exact (Kd.C_below HR0_5.out HB.out) | (with_reducible refine Kd.C_alloc ?_ _) | (with_reducible refine Kd.C_drewN ?_ _) | (with_reducible refine Kd.C_drew ?_)))
                (case side8 => exact HC0_5.out)
                (case side9 => repeat (first | exact (Kd.C_below HR0_6.out HB.out) | (with_reducible refine Kd.C_alloc ?_ _) | (with_reducible refine Kd.C_drewN ?_ _) | (with_reducible refine Kd.C_drew ?_)))
                (case side10 => exact HC0_6.out)
                (case side11 => repeat (first | exact (Kd.C_below HR0_7.out HB.out) | (with_reducible refine Kd.C_alloc ?_ _) | (with_reducible refine Kd.C_drewN ?_ _) | (with_reducible refine Kd.C_drew ?_)))
                (case side12 => exact HC0_7.out)
                (case side13 => repeat (first | exact (Kd.C_below HR0_8.out HB.out) | (with_reducible refine Kd.C_alloc ?_ _) | (with_reducible refine Kd.C_drewN ?_ _) | (with_reducible refine Kd.C_drew ?_)))
                (case side14 => exact HC0_8.out)
                (case side15 => repeat (first | exact (Kd.C_below HR0_9.out HB.out) | (with_reducible refine Kd.C_alloc ?_ _) | (with_reducible refine Kd.C_drewN ?_ _) | (with_reducible refine Kd.C_drew ?_)))
                (case side16 => exact HC0_9.out)
                rintro e w50 ⟨v330,rfl,ho0,hb⟩
                refine ⟨_,rfl,?_⟩
                have n0_ := Aside0.mk (Kd.R_below (by (with_reducible repeat (first | apply Kd.R_alloc | apply Kd.R_drewN | apply Kd.R_drew));exact HO_9.out) hb)
                have n1_ := Aside0.mk (Kd.R_elder' (by (with_reducible repeat (first | apply Kd.R_alloc | apply Kd.R_drewN | apply Kd.R_drew));exact HO_10.out) (Kd.R_base ho0) hb)
                have n2_ := Aside0.mk (Kd.R_lower (Kd.R_new' ho0 (Kd.R_lt (by (with_reducible repeat (first | apply Kd.R_alloc | apply Kd.R_drewN | apply Kd.R_drew));exact HO_10.out))) (below_size (by repeat (first | (with_reducible first | exact HB.out | apply below_alloc | apply pw_below_drewN | apply below_drew1 | refine below_set ?_ GE309.out) | exact HB.out))))
                have n3_ := Aside0.mk (blk_below (g := gb309) (o := .cells #[.string a0_0,.slice A0_1 l0_1.length c0_1,.int .i64 a0_2,.slice A0_3 l0_3.length c0_3,.slice A0_4 l0_4.length c0_4,.slice A0_5 l0_5.length c0_5,.slice A0_6 l0_6.length c0_6,.slice A0_7 l0_7.length c0_7,.slice A0_8 l0_8.length c0_8,.slice A0_9 l0_9.length c0_9,.int .i64 a0_10] 31 (0,0)) (by (with_reducible repeat (first | refine blk_drewN ?_ _ | refine blk_drew ?_ | refine blk_alloc ?_ _));exact BK309.out) hb)
                have n4_ := Aside0.mk (below_step (by repeat (first | (with_reducible first | exact HB.out | apply below_alloc | apply pw_below_drewN | apply below_drew1 | refine below_set ?_ GE309.out) | exact HB.out)) hb)
                clear HO_9
                clear HO_10
                clear BK309
                clear HB
                have HO_9 := n0_
                have HO_10 := n1_
                have HO331 := n2_
                have BK309 := n3_
                have HB := n4_
                clear n0_ n1_ n2_ n3_ n4_
                (try clear hb)
                (try clear hb2)
                (try clear hk)
                (try clear hi)
                (try clear ho0)
                refine hK.out _ _ ⟨(blk_cell BK309.out 0).trans rfl,(blk_cell BK309.out 1).trans rfl,(blk_cell BK309.out 2).trans rfl,(blk_cell BK309.out 3).trans rfl,(blk_cell BK309.out 4).trans rfl,(blk_cell BK309.out 5).trans rfl,(blk_cell BK309.out 6).trans rfl,(blk_cell BK309.out 7).trans rfl,(blk_cell BK309.out 8).trans rfl,(blk_cell BK309.out 9).trans rfl,(blk_cell BK309.out 10).trans rfl,((HB.out.cell (World.block_lt_of_cell? w _ hw328_0)).trans hw328_0),((HB.out.cell (World.block_lt_of_cell? w _ hw328_1)).trans hw328_1),((HB.out.cell (World.block_lt_of_cell? w _ hw328_2)).trans hw328_2),((HB.out.cell (World.block_lt_of_cell? w _ hw328_3)).trans hw328_3),((HB.out.cell (World.block_lt_of_cell? w _ hw328_4)).trans hw328_4),((HB.out.cell (World.block_lt_of_cell? w _ hw328_5)).trans hw328_5),((HB.out.cell (World.block_lt_of_cell? w _ hw328_6)).trans hw328_6),((HB.out.cell (World.block_lt_of_cell? w _ hw328_7)).trans hw328_7),((HB.out.cell (World.block_lt_of_cell? w _ hw328_8)).trans hw328_8)⟩ (fun hHeld => ?_)
                clear hK K
                refine norm_ (a' := ?_) ?_ ?_
                rotate_left
                ·show Act.put _ (some 125) _ = _
                 simp only [Act.put,List.setIfInBounds_toArray,List.set_cons_zero,List.set_cons_succ,i64_w,i32_w]
                 rfl
                refine pure_ (i := 7) (N := some 14) (v := ?_) (a' := ?_) #[true,true,true,true,true,true,true,true] rfl rfl (any_of HT_.out (by kernel_rfl)) (fun _ _ _ h => h) (Or.inl ⟨by rfl,?_⟩) ?_ ?_
                rotate_left
                ·intro w'
                 go_simp
                 with_reducible rfl
                rotate_left
                ·simp only [Act.put,List.setIfInBounds_toArray,List.set_cons_zero,List.set_cons_succ,i64_w,i32_w]
                 rfl
                refine done_ (done_of HT_.out (by kernel_rfl)) ?_
                try go_wp2
                go_loopg [13,15] kj36 (fun kq v13 v15 w' => ∃ (x13_5 : Bool) (x15_5 : Int),v13 = .bool x13_5 ∧ v15 = .int .i64 x15_5 ∧ Aside0 (bournelaw37_AllotStops.l1 kq l1 l2 t310 t312 t315 x11_2 x13_5 t329 x15_5 a0_0 l0_1 a0_2 l0_3 l0_4 l0_5 l0_6 l0_7 l0_8 l0_9 a0_10 = some r) ∧ Aside0 (kq ≤ kj36) ∧ Aside0 (Kd.R k47 47 w' w.heap.size (fun _ => True) v313 t312) ∧ Aside0 (Kd.R (Kd.int .i64) 3 w' w.heap.size (fun k_ => some k_ ≠ (v330 : Value).ownBlock) v316 t315) ∧ Aside0 (Kd.R (Kd.int .i64) 3 w' w.heap.size (fun k_ => some k_ ≠ (v316 : Value).ownBlock) v330 t329) ∧ Aside0 (w'.heap[gb309]? = some (.cells #[.string a0_0,(.slice A0_1 l0_1.length c0_1),.int .i64 a0_2,(.slice A0_3 l0_3.length c0_3),(.slice A0_4 l0_4.length c0_4),(.slice A0_5 l0_5.length c0_5),(.slice A0_6 l0_6.length c0_6),(.slice A0_7 l0_7.length c0_7),(.slice A0_8 l0_8.length c0_8),(.slice A0_9 l0_9.length c0_9),.int .i64 a0_10] 31 (0,0))) ∧ Aside0 (Below w.heap.size w w'))
                case atStart => exact ⟨(x13_36),(0),(by first | rfl | (simp;done) | (simp [*];done)),(by first | rfl | (simp;done) | (simp [*];done)),H',⟨Nat.le_refl _⟩,⟨by (with_reducible repeat (first | apply Kd.R_alloc | apply Kd.R_drewN | apply Kd.R_drew));exact HO_9.out⟩,⟨by (with_reducible repeat (first | apply Kd.R_alloc | apply Kd.R_drewN | apply Kd.R_drew));exact Kd.R_mono HO_10.out (fun _ hk => hk.2)⟩,⟨by (with_reducible repeat (first | apply Kd.R_alloc | apply Kd.R_drewN | apply Kd.R_drew));exact Kd.R_mono HO331.out (fun _ hk => hk.2)⟩,⟨by (with_reducible repeat (first | refine blk_drewN ?_ _ | refine blk_drew ?_ | refine blk_alloc ?_ _));exact BK309.out⟩,⟨by repeat (first | (with_reducible first | exact HB.out | apply below_alloc | apply pw_below_drewN | apply below_drew1 | refine below_set ?_ GE309.out) | exact HB.out)⟩⟩
                case round =>
                 clear H'
                 try clear c1
                 try clear c2
                 try clear p2
                 try clear c3
                 try clear p3
                 try clear q3
                 try clear hx3
                 try clear c4
                 try clear c13
                 try clear c26
                 try clear c27
                 try clear c31
                 try clear p32
                 try clear q32
                 try clear hx32
                 try clear c36
                 try clear c38
                 try clear c38b0
                 try clear c39
                 try clear c39b0
                 try clear c40
                 try clear c40b0
                 try clear c41
                 try clear c41b0
                 try clear c46
                 try clear c46b0
                 try clear c47
                 try clear c47b0
                 try clear hx320_0
                 try clear hx320_1
                 try clear hx321_0
                 try clear hx321_1
                 try clear hx321_2
                 try clear hx321_3
                 try clear hx321_4
                 try clear hx321_5
                 try clear hx321_6
                 try clear hx321_7
                 try clear hx321_8
                 try clear hx322_0
                 try clear hx322_1
                 try clear hx323_0
                 try clear hx323_1
                 try clear hx324_0
                 try clear hx324_1
                 try clear hx324_2
                 try clear hx324_3
                 try clear hx324_4
                 try clear hx324_5
                 try clear hx324_6
                 try clear hx324_7
                 try clear hx324_8
                 try clear hx325_0
                 try clear hx325_1
                 try clear hx326_0
                 try clear hx326_1
                 try clear hx327_0
                 try clear hx327_1
                 try clear hx327_2
                 try clear hx327_3
                 try clear hx327_4
                 try clear hx327_5
                 try clear hx327_6
                 try clear hx327_7
                 try clear hx327_8
                 try clear hx328_0
                 try clear hx328_1
                 try clear hx328_2
                 try clear hx328_3
                 try clear hx328_4
                 try clear hx328_5
                 try clear hx328_6
                 try clear hx328_7
                 try clear hx328_8
                 try clear p2
                 try clear p3
                 try clear p32
                 try clear p320
                 try clear p321
                 try clear p322
                 try clear p323
                 try clear p324
                 try clear p325
                 try clear p326
                 try clear p327
                 try clear p328
                 try clear q3
                 try clear q32
                 try clear q320
                 try clear q321
                 try clear q322
                 try clear q323
                 try clear q324
                 try clear q325
                 try clear q326
                 try clear q327
                 try clear q328
                 obtain ⟨x13_5,x15_5,rfl,rfl,HA,HK5,HO_9,HO_10,HO_14,BK309,HB⟩ := hrel
                 cases gk with
                 | zero => exact absurd HA.out (by simp [bournelaw37_AllotStops.l1])
                 | succ k5 =>
                  have H := HA.out
                  clear HA
                  simp only [bournelaw37_AllotStops.l1] at H
                  by_cases c51 : x15_5 < (t329.length : Int)
                  ·rw [if_pos c51] at H
                   have c51b0 : decide (x15_5 < (t329.length : Int)) = true := decide_eq_true c51
                   clear c51
                   by_cases c52 : x13_5 = true
                   ·subst c52
                    have H1 : (bournelaw37_AllotStops.l1 k5 l1 l2 t310 t312 t315 x11_2 true t329 (wrap64 (x15_5 + 1)) a0_0 l0_1 a0_2 l0_3 l0_4 l0_5 l0_6 l0_7 l0_8 l0_9 a0_10) = some r := by rw [if_pos rfl] at H;exact H
                    clear H
                    have H := H1
                    clear H1
                    have H' := Aside0.mk H
                    clear H
                    obtain ⟨Ao53,co53,eo53⟩ := Kd.R_slice HO_14.out
                    subst eo53
                    go_wp2
                    go_roundg k5
                    case measure => have := HJ7.out;have := HK2.out;have := HJ22.out;have := HJ36.out;have := HK5.out;omega
                    case rel => exact ⟨(true),(wrap64 (x15_5 + 1)),(by first | rfl | (simp;done) | (simp [*];done)),(by first | rfl | (simp;done) | (simp [*];done)),H',⟨by have := HJ7.out;have := HK2.out;have := HJ22.out;have := HJ36.out;have := HK5.out;omega⟩,⟨by (with_reducible repeat (first | apply Kd.R_alloc | apply Kd.R_drewN | apply Kd.R_drew));exact HO_9.out⟩,⟨by (with_reducible repeat (first | apply Kd.R_alloc | apply Kd.R_drewN | apply Kd.R_drew));exact HO_10.out⟩,⟨by (with_reducible repeat (first | apply Kd.R_alloc | apply Kd.R_drewN | apply Kd.R_drew));exact HO_14.out⟩,⟨by (with_reducible repeat (first | refine blk_drewN ?_ _ | refine blk_drew ?_ | refine blk_alloc ?_ _));exact BK309.out⟩,⟨by repeat (first | (with_reducible first | exact HB.out | apply below_alloc | apply pw_below_drewN | apply below_drew1 | refine below_set ?_ GE309.out) | exact HB.out)⟩⟩
                   ·replace c52 := Bool.eq_false_iff.mpr c52
                    subst c52
                    have H1 : (if 0 ≤ x15_5 then (if 0 ≤ (rd t329 x15_5) then (if (rd t329 x15_5) < (t315.length : Int) then (bournelaw37_AllotStops.l1 k5 l1 l2 t310 t312 t315 x11_2 ((rd t315 (rd t329 x15_5)) == 0) t329 (wrap64 (x15_5 + 1)) a0_0 l0_1 a0_2 l0_3 l0_4 l0_5 l0_6 l0_7 l0_8 l0_9 a0_10) else (none)) else (none)) else (none)) = some r := by rw [if_neg (show ¬ (false = true) by decide)] at H;exact H
                    clear H
                    have H := H1
                    clear H1
                    by_cases c54 : 0 ≤ x15_5
                    ·rw [if_pos c54] at H
                     have c54b0 : decide (0 ≤ x15_5) = true := decide_eq_true c54
                     clear c54
                     by_cases c55 : 0 ≤ (rd t329 x15_5)
                     ·rw [if_pos c55] at H
                      have c55b0 : decide (0 ≤ (rd t329 x15_5)) = true := decide_eq_true c55
                      clear c55
                      by_cases c56 : (rd t329 x15_5) < (t315.length : Int)
                      ·rw [if_pos c56] at H
                       have c56b0 : decide ((rd t329 x15_5) < (t315.length : Int)) = true := decide_eq_true c56
                       clear c56
                       have H' := Aside0.mk H
                       clear H
                       obtain ⟨Ao57,co57,eo57⟩ := Kd.R_slice HO_14.out
                       subst eo57
                       have p332 : 0 ≤ (x15_5 : Int) := of_decide_eq_true (by first | (with_reducible assumption) | assumption)
                       have q332 : x15_5 < (t329.length : Int) := of_decide_eq_true (by first | (with_reducible assumption) | assumption)
                       obtain ⟨ad332,e332,hx332_0⟩ := Kd.at_int (Kd.R_reads' HO_14.out).2.2 x15_5 p332 q332
                       cases e332
                       replace p332 := eq_true p332
                       replace q332 := eq_true q332
                       obtain ⟨Ao58,co58,eo58⟩ := Kd.R_slice HO_10.out
                       subst eo58
                       have p333 : 0 ≤ ((rd t329 x15_5) : Int) := of_decide_eq_true (by first | (with_reducible assumption) | assumption)
                       have q333 : (rd t329 x15_5) < (t315.length : Int) := of_decide_eq_true (by first | (with_reducible assumption) | assumption)
                       obtain ⟨ad333,e333,hx333_0⟩ := Kd.at_int (Kd.R_reads' HO_10.out).2.2 (rd t329 x15_5) p333 q333
                       cases e333
                       replace p333 := eq_true p333
                       replace q333 := eq_true q333
                       go_wp2
                       go_roundg k5
                       case measure => have := HJ7.out;have := HK2.out;have := HJ22.out;have := HJ36.out;have := HK5.out;omega
                       case rel => exact ⟨(((rd t315 (rd t329 x15_5)) == 0)),(wrap64 (x15_5 + 1)),(by first | rfl | (simp;done) | (simp [*];done)),(by first | rfl | (simp;done) | (simp [*];done)),H',⟨by have := HJ7.out;have := HK2.out;have := HJ22.out;have := HJ36.out;have := HK5.out;omega⟩,⟨by (with_reducible repeat (first | apply Kd.R_alloc | apply Kd.R_drewN | apply Kd.R_drew));exact HO_9.out⟩,⟨by (with_reducible repeat (first | apply Kd.R_alloc | apply Kd.R_drewN | apply Kd.R_drew));exact HO_10.out⟩,⟨by (with_reducible repeat (first | apply Kd.R_alloc | apply Kd.R_drewN | apply Kd.R_drew));exact HO_14.out⟩,⟨by (with_reducible repeat (first | refine blk_drewN ?_ _ | refine blk_drew ?_ | refine blk_alloc ?_ _));exact BK309.out⟩,⟨by repeat (first | (with_reducible first | exact HB.out | apply below_alloc | apply pw_below_drewN | apply below_drew1 | refine below_set ?_ GE309.out) | exact HB.out)⟩⟩
                      ·rw [if_neg c56] at H
                       exact absurd H (by simp)
                     ·rw [if_neg c55] at H
                      exact absurd H (by simp)
                    ·rw [if_neg c54] at H
                     exact absurd H (by simp)
                  ·rw [if_neg c51] at H
                   have c51b0 : decide (x15_5 < (t329.length : Int)) = false := decide_eq_false c51
                   clear c51
                   by_cases c59 : x13_5 = true
                   ·subst c59
                    have H1 : (bournelaw37_AllotStops.l0 k5 l1 l2 t310 t312 t315 (wrap64 (x11_2 + 1)) a0_0 l0_1 a0_2 l0_3 l0_4 l0_5 l0_6 l0_7 l0_8 l0_9 a0_10) = some r := by rw [if_pos rfl] at H;exact H
                    clear H
                    have H := H1
                    clear H1
                    have H' := Aside0.mk H
                    clear H
                    obtain ⟨Ao60,co60,eo60⟩ := Kd.R_slice HO_14.out
                    subst eo60
                    go_wp2
                    go_roundg k5
                    case measure => have := HJ7.out;have := HK2.out;have := HJ22.out;have := HJ36.out;have := HK5.out;omega
                    case rel => exact ⟨(wrap64 (x11_2 + 1)),(by first | rfl | (simp;done) | (simp [*];done)),H',⟨by have := HJ7.out;have := HK2.out;have := HJ22.out;have := HJ36.out;have := HK5.out;omega⟩,⟨by (with_reducible repeat (first | apply Kd.R_alloc | apply Kd.R_drewN | apply Kd.R_drew));exact HO_9.out⟩,⟨by (with_reducible repeat (first | apply Kd.R_alloc | apply Kd.R_drewN | apply Kd.R_drew));exact Kd.R_mono HO_10.out (fun _ hk => trivial)⟩,⟨by (with_reducible repeat (first | refine blk_drewN ?_ _ | refine blk_drew ?_ | refine blk_alloc ?_ _));exact BK309.out⟩,⟨by repeat (first | (with_reducible first | exact HB.out | apply below_alloc | apply pw_below_drewN | apply below_drew1 | refine below_set ?_ GE309.out) | exact HB.out)⟩⟩
                   ·replace c59 := Bool.eq_false_iff.mpr c59
                    subst c59
                    have H1 : (none) = some r := by rw [if_neg (show ¬ (false = true) by decide)] at H;exact H
                    clear H
                    have H := H1
                    clear H1
                    exact absurd H (by simp)
               ·rw [if_neg c47] at H
                exact absurd H (by simp)
              ·rw [if_neg c46] at H
               exact absurd H (by simp)
        ·rw [if_neg c21] at H
         exact absurd H (by simp)
       ·rw [if_neg c20] at H
        have c20b0 : decide (x11_2 < (l1.length : Int)) = false := decide_eq_false c20
        clear c20
        have H' := Aside0.mk H
        clear H
        go_wp2
        go_loopg [16] k2 (fun kq v16 w' => ∃ (x16_3 : Int),v16 = .int .i64 x16_3 ∧ Aside0 (bournelaw37_AllotStops.l2 kq l1 l2 t310 t312 t315 x16_3 a0_0 l0_1 a0_2 l0_3 l0_4 l0_5 l0_6 l0_7 l0_8 l0_9 a0_10 = some r) ∧ Aside0 (kq ≤ k2) ∧ Aside0 (Kd.R k47 47 w' w.heap.size (fun _ => True) v313 t312) ∧ Aside0 (Kd.R (Kd.int .i64) 3 w' w.heap.size (fun _ => True) v316 t315) ∧ Aside0 (w'.heap[gb309]? = some (.cells #[.string a0_0,(.slice A0_1 l0_1.length c0_1),.int .i64 a0_2,(.slice A0_3 l0_3.length c0_3),(.slice A0_4 l0_4.length c0_4),(.slice A0_5 l0_5.length c0_5),(.slice A0_6 l0_6.length c0_6),(.slice A0_7 l0_7.length c0_7),(.slice A0_8 l0_8.length c0_8),(.slice A0_9 l0_9.length c0_9),.int .i64 a0_10] 31 (0,0))) ∧ Aside0 (Below w.heap.size w w'))
        case atStart => exact ⟨(0),(by first | rfl | (simp;done) | (simp [*];done)),H',⟨Nat.le_refl _⟩,⟨by (with_reducible repeat (first | apply Kd.R_alloc | apply Kd.R_drewN | apply Kd.R_drew));exact HO_9.out⟩,⟨by (with_reducible repeat (first | apply Kd.R_alloc | apply Kd.R_drewN | apply Kd.R_drew));exact HO_10.out⟩,⟨by (with_reducible repeat (first | refine blk_drewN ?_ _ | refine blk_drew ?_ | refine blk_alloc ?_ _));exact BK309.out⟩,⟨by repeat (first | (with_reducible first | exact HB.out | apply below_alloc | apply pw_below_drewN | apply below_drew1 | refine below_set ?_ GE309.out) | exact HB.out)⟩⟩
        case round =>
         clear H'
         try clear c1
         try clear c2
         try clear p2
         try clear c3
         try clear p3
         try clear q3
         try clear hx3
         try clear c4
         try clear c5
         try clear p6
         try clear c13
         try clear c20
         try clear c20b0
         try clear c21
         try clear c26
         try clear c27
         try clear c31
         try clear p32
         try clear q32
         try clear hx32
         try clear p33
         try clear q33
         try clear hx33
         try clear c36
         try clear c38
         try clear c38b0
         try clear c39
         try clear c39b0
         try clear c40
         try clear c40b0
         try clear c41
         try clear c41b0
         try clear c46
         try clear c46b0
         try clear c47
         try clear c47b0
         try clear c51
         try clear c51b0
         try clear c52
         try clear c54
         try clear c54b0
         try clear c55
         try clear c55b0
         try clear c56
         try clear c56b0
         try clear c59
         try clear hx320_0
         try clear hx320_1
         try clear hx321_0
         try clear hx321_1
         try clear hx321_2
         try clear hx321_3
         try clear hx321_4
         try clear hx321_5
         try clear hx321_6
         try clear hx321_7
         try clear hx321_8
         try clear hx322_0
         try clear hx322_1
         try clear hx323_0
         try clear hx323_1
         try clear hx324_0
         try clear hx324_1
         try clear hx324_2
         try clear hx324_3
         try clear hx324_4
         try clear hx324_5
         try clear hx324_6
         try clear hx324_7
         try clear hx324_8
         try clear hx325_0
         try clear hx325_1
         try clear hx326_0
         try clear hx326_1
         try clear hx327_0
         try clear hx327_1
         try clear hx327_2
         try clear hx327_3
         try clear hx327_4
         try clear hx327_5
         try clear hx327_6
         try clear hx327_7
         try clear hx327_8
         try clear hx328_0
         try clear hx328_1
         try clear hx328_2
         try clear hx328_3
         try clear hx328_4
         try clear hx328_5
         try clear hx328_6
         try clear hx328_7
         try clear hx328_8
         try clear hx332_0
         try clear hx333_0
         try clear p2
         try clear p3
         try clear p32
         try clear p320
         try clear p321
         try clear p322
         try clear p323
         try clear p324
         try clear p325
         try clear p326
         try clear p327
         try clear p328
         try clear p332
         try clear p333
         try clear q3
         try clear q32
         try clear q320
         try clear q321
         try clear q322
         try clear q323
         try clear q324
         try clear q325
         try clear q326
         try clear q327
         try clear q328
         try clear q332
         try clear q333
         obtain ⟨x16_3,rfl,HA,HK3,HO_9,HO_10,BK309,HB⟩ := hrel
         cases gk with
         | zero => exact absurd HA.out (by simp [bournelaw37_AllotStops.l2])
         | succ k3 =>
          have H := HA.out
          clear HA
          simp only [bournelaw37_AllotStops.l2] at H
          by_cases c61 : x16_3 < (l0_3.length : Int)
          ·rw [if_pos c61] at H
           have c61b0 : decide (x16_3 < (l0_3.length : Int)) = true := decide_eq_true c61
           clear c61
           replace H := Option.bind_eq_some_iff.mp H
           obtain ⟨t334,A620,H⟩ := H
           replace H : (bournelaw37_AllotStops.l3 k3 l1 l2 t310 t312 t315 x16_3 t334 0 a0_0 l0_1 a0_2 l0_3 l0_4 l0_5 l0_6 l0_7 l0_8 l0_9 a0_10) = some r := H
           have A62 := Aside0.mk A620
           clear A620
           have H' := Aside0.mk H
           clear H
           have hcz63_0 : wr.cell? ⟨gb309,0,none⟩ = some (.string a0_0) := (blk_cell BK309.out 0).trans rfl
           have hcz63_1 : wr.cell? ⟨gb309,1,none⟩ = some (.slice A0_1 l0_1.length c0_1) := (blk_cell BK309.out 1).trans rfl
           have hcz63_2 : wr.cell? ⟨gb309,2,none⟩ = some (.int .i64 a0_2) := (blk_cell BK309.out 2).trans rfl
           have hcz63_3 : wr.cell? ⟨gb309,3,none⟩ = some (.slice A0_3 l0_3.length c0_3) := (blk_cell BK309.out 3).trans rfl
           have hcz63_4 : wr.cell? ⟨gb309,4,none⟩ = some (.slice A0_4 l0_4.length c0_4) := (blk_cell BK309.out 4).trans rfl
           have hcz63_5 : wr.cell? ⟨gb309,5,none⟩ = some (.slice A0_5 l0_5.length c0_5) := (blk_cell BK309.out 5).trans rfl
           have hcz63_6 : wr.cell? ⟨gb309,6,none⟩ = some (.slice A0_6 l0_6.length c0_6) := (blk_cell BK309.out 6).trans rfl
           have hcz63_7 : wr.cell? ⟨gb309,7,none⟩ = some (.slice A0_7 l0_7.length c0_7) := (blk_cell BK309.out 7).trans rfl
           have hcz63_8 : wr.cell? ⟨gb309,8,none⟩ = some (.slice A0_8 l0_8.length c0_8) := (blk_cell BK309.out 8).trans rfl
           have hcz63_9 : wr.cell? ⟨gb309,9,none⟩ = some (.slice A0_9 l0_9.length c0_9) := (blk_cell BK309.out 9).trans rfl
           have hcz63_10 : wr.cell? ⟨gb309,10,none⟩ = some (.int .i64 a0_10) := (blk_cell BK309.out 10).trans rfl
           have hfz63_0 := blk_frozen BK309.out 0
           have hfz63_1 := blk_frozen BK309.out 1
           have hfz63_2 := blk_frozen BK309.out 2
           have hfz63_3 := blk_frozen BK309.out 3
           have hfz63_4 := blk_frozen BK309.out 4
           have hfz63_5 := blk_frozen BK309.out 5
           have hfz63_6 := blk_frozen BK309.out 6
           have hfz63_7 := blk_frozen BK309.out 7
           have hfz63_8 := blk_frozen BK309.out 8
           have hfz63_9 := blk_frozen BK309.out 9
           have hfz63_10 := blk_frozen BK309.out 10
           go_wp2_with (first | ((with_reducible refine gate_callee (f := 19) rfl ?_);refine goesL_ (some 155) rfl rfl Try.func19 (by kernel_rfl) rfl #[.agg #[.string a0_0,.slice A0_1 l0_1.length c0_1,.int .i64 a0_2,.slice A0_3 l0_3.length c0_3,.slice A0_4 l0_4.length c0_4,.slice A0_5 l0_5.length c0_5,.slice A0_6 l0_6.length c0_6,.slice A0_7 l0_7.length c0_7,.slice A0_8 l0_8.length c0_8,.slice A0_9 l0_9.length c0_9,.int .i64 a0_10],.slice A2 l2.length c2,.int .i64 x16_3] rfl (by (try simp only [List.map_toArray,List.map_cons,List.map_nil]);first | done | rfl | (simp only [List.length_drop,List.length_take];rfl)) ?_;(with_reducible refine (bourneref37_There.calls k3 a0_0 _ _ l0_1 a0_2 _ _ l0_3 _ _ l0_4 _ _ l0_5 _ _ l0_6 _ _ l0_7 _ _ l0_8 _ _ l0_9 a0_10 _ _ l2 x16_3 t334 _ ?side1 ?side2 ?side3 ?side4 ?side5 ?side6 ?side7 ?side8 ?side9 ?side10 ?side11 ?side12 ?side13 ?side14 ?side15 ?side16 ?side17 ?side18 A62.out).mono ?_);(case side1 => repeat (first | exact (Kd.C_below HR0_1.out HB.out) | (with_reducible refine Kd.C_alloc ?_ _) | (with_reducible refine Kd.C_drewN ?_ _) | (with_reducible refine Kd.C_drew ?_)));(case side2 => exact HC0_1.out);(case side3 => repeat (first | exact (Kd.C_below HR0_3.out HB.out) | (with_reducible refine Kd.C_alloc ?_ _) | (with_reducible refine Kd.C_drewN ?_ _) | (with_reducible refine Kd.C_drew ?_)));(case side4 => exact HC0_3.out);(case side5 => repeat (first | exact (Kd.C_below HR0_4.out HB.out) | (with_reducible refine Kd.C_alloc ?_ _) | (with_reducible refine Kd.C_drewN ?_ _) | (with_reducible refine Kd.C_drew ?_)));(case side6 => exact HC0_4.out);(case side7 => repeat (first | exact (Kd.C_below HR0_5.out HB.out) | (with_reducible refine Kd.C_alloc ?_ _) | (with_reducible refine Kd.C_drewN ?_ _) | (with_reducible refine Kd.C_drew ?_)));(case side8 => exact HC0_5.out);(case side9 => repeat (first | exact (Kd.C_below HR0_6.out HB.out) | (with_reducible refine Kd.C_alloc ?_ _) | (with_reducible refine Kd.C_drewN ?_ _) | (with_reducible refine Kd.C_drew ?_)));(case side10 => exact HC0_6.out);(case side11 => repeat (first | exact (Kd.C_below HR0_7.out HB.out) | (with_reducible refine Kd.C_alloc ?_ _) | (with_reducible refine Kd.C_drewN ?_ _) | (with_reducible refine Kd.C_drew ?_)));(case side12 => exact HC0_7.out);(case side13 => repeat (first | exact (Kd.C_below HR0_8.out HB.out) | (with_reducible refine Kd.C_alloc ?_ _) | (with_reducible refine Kd.C_drewN ?_ _) | (with_reducible refine Kd.C_drew ?_)));(case side14 => exact HC0_8.out);(case side15 => repeat (first | exact (Kd.C_below HR0_9.out HB.out) | (with_reducible refine Kd.C_alloc ?_ _) | (with_reducible refine Kd.C_drewN ?_ _) | (with_reducible refine Kd.C_drew ?_)));(case side16 => exact HC0_9.out);(case side17 => repeat (first | exact (Kd.C_below HR2.out HB.out) | (with_reducible refine Kd.C_alloc ?_ _) | (with_reducible refine Kd.C_drewN ?_ _) | (with_reducible refine Kd.C_drew ?_)));(case side18 => exact HC2.out);rintro e w64 ⟨rfl,hb⟩;refine ⟨_,rfl,?_⟩;have n0_ := Aside0.mk (Kd.R_below (by (with_reducible repeat (first | apply Kd.R_alloc | apply Kd.R_drewN | apply Kd.R_drew));exact HO_9.out) hb);have n1_ := Aside0.mk (Kd.R_below (by (with_reducible repeat (first | apply Kd.R_alloc | apply Kd.R_drewN | apply Kd.R_drew));exact HO_10.out) hb);have n2_ := Aside0.mk (blk_below (g := gb309) (o := .cells #[.string a0_0,.slice A0_1 l0_1.length c0_1,.int .i64 a0_2,.slice A0_3 l0_3.length c0_3,.slice A0_4 l0_4.length c0_4,.slice A0_5 l0_5.length c0_5,.slice A0_6 l0_6.length c0_6,.slice A0_7 l0_7.length c0_7,.slice A0_8 l0_8.length c0_8,.slice A0_9 l0_9.length c0_9,.int .i64 a0_10] 31 (0,0)) (by (with_reducible repeat (first | refine blk_drewN ?_ _ | refine blk_drew ?_ | refine blk_alloc ?_ _));exact BK309.out) hb);have n3_ := Aside0.mk (below_step (by repeat (first | (with_reducible first | exact HB.out | apply below_alloc | apply pw_below_drewN | apply below_drew1 | refine below_set ?_ GE309.out) | exact HB.out)) hb);clear HO_9;clear HO_10;clear BK309;clear HB;have HO_9 := n0_;have HO_10 := n1_;have BK309 := n2_;have HB := n3_;clear n0_ n1_ n2_ n3_;(try clear hb);(try clear hb2);(try clear hk);(try clear hi)))
           go_loopg [17,18] k3 (fun kq v17 v18 w' => ∃ (x17_4 : Int) (x18_4 : Int),v17 = .int .i64 x17_4 ∧ v18 = .int .i64 x18_4 ∧ Aside0 (bournelaw37_AllotStops.l3 kq l1 l2 t310 t312 t315 x16_3 x17_4 x18_4 a0_0 l0_1 a0_2 l0_3 l0_4 l0_5 l0_6 l0_7 l0_8 l0_9 a0_10 = some r) ∧ Aside0 (kq ≤ k3) ∧ Aside0 (Kd.R k47 47 w' w.heap.size (fun _ => True) v313 t312) ∧ Aside0 (Kd.R (Kd.int .i64) 3 w' w.heap.size (fun _ => True) v316 t315) ∧ Aside0 (w'.heap[gb309]? = some (.cells #[.string a0_0,(.slice A0_1 l0_1.length c0_1),.int .i64 a0_2,(.slice A0_3 l0_3.length c0_3),(.slice A0_4 l0_4.length c0_4),(.slice A0_5 l0_5.length c0_5),(.slice A0_6 l0_6.length c0_6),(.slice A0_7 l0_7.length c0_7),(.slice A0_8 l0_8.length c0_8),(.slice A0_9 l0_9.length c0_9),.int .i64 a0_10] 31 (0,0))) ∧ Aside0 (Below w.heap.size w w'))
           case atStart => exact ⟨(t334),(0),(by first | rfl | (simp;done) | (simp [*];done)),(by first | rfl | (simp;done) | (simp [*];done)),H',⟨Nat.le_refl _⟩,⟨by (with_reducible repeat (first | apply Kd.R_alloc | apply Kd.R_drewN | apply Kd.R_drew));exact HO_9.out⟩,⟨by (with_reducible repeat (first | apply Kd.R_alloc | apply Kd.R_drewN | apply Kd.R_drew));exact HO_10.out⟩,⟨by (with_reducible repeat (first | refine blk_drewN ?_ _ | refine blk_drew ?_ | refine blk_alloc ?_ _));exact BK309.out⟩,⟨by repeat (first | (with_reducible first | exact HB.out | apply below_alloc | apply pw_below_drewN | apply below_drew1 | refine below_set ?_ GE309.out) | exact HB.out)⟩⟩
           case round =>
            clear H'
            try clear c1
            try clear c2
            try clear p2
            try clear c3
            try clear p3
            try clear q3
            try clear hx3
            try clear c4
            try clear c5
            try clear c6
            try clear p6
            try clear c13
            try clear c19
            try clear c20
            try clear c20b0
            try clear c21
            try clear c26
            try clear c27
            try clear c31
            try clear p32
            try clear q32
            try clear hx32
            try clear p33
            try clear q33
            try clear hx33
            try clear c36
            try clear c38
            try clear c38b0
            try clear c39
            try clear c39b0
            try clear c40
            try clear c40b0
            try clear c41
            try clear c41b0
            try clear c46
            try clear c46b0
            try clear c47
            try clear c47b0
            try clear c51
            try clear c51b0
            try clear c52
            try clear c54
            try clear c54b0
            try clear c55
            try clear c55b0
            try clear c56
            try clear c56b0
            try clear c59
            try clear c61
            try clear c61b0
            try clear p64
            try clear hcz63_0
            try clear hcz63_1
            try clear hcz63_10
            try clear hcz63_2
            try clear hcz63_3
            try clear hcz63_4
            try clear hcz63_5
            try clear hcz63_6
            try clear hcz63_7
            try clear hcz63_8
            try clear hcz63_9
            try clear hfz63_0
            try clear hfz63_1
            try clear hfz63_10
            try clear hfz63_2
            try clear hfz63_3
            try clear hfz63_4
            try clear hfz63_5
            try clear hfz63_6
            try clear hfz63_7
            try clear hfz63_8
            try clear hfz63_9
            try clear hx320_0
            try clear hx320_1
            try clear hx321_0
            try clear hx321_1
            try clear hx321_2
            try clear hx321_3
            try clear hx321_4
            try clear hx321_5
            try clear hx321_6
            try clear hx321_7
            try clear hx321_8
            try clear hx322_0
            try clear hx322_1
            try clear hx323_0
            try clear hx323_1
            try clear hx324_0
            try clear hx324_1
            try clear hx324_2
            try clear hx324_3
            try clear hx324_4
            try clear hx324_5
            try clear hx324_6
            try clear hx324_7
            try clear hx324_8
            try clear hx325_0
            try clear hx325_1
            try clear hx326_0
            try clear hx326_1
            try clear hx327_0
            try clear hx327_1
            try clear hx327_2
            try clear hx327_3
            try clear hx327_4
            try clear hx327_5
            try clear hx327_6
            try clear hx327_7
            try clear hx327_8
            try clear hx328_0
            try clear hx328_1
            try clear hx328_2
            try clear hx328_3
            try clear hx328_4
            try clear hx328_5
            try clear hx328_6
            try clear hx328_7
            try clear hx328_8
            try clear hx332_0
            try clear hx333_0
            try clear p2
            try clear p3
            try clear p32
            try clear p320
            try clear p321
            try clear p322
            try clear p323
            try clear p324
            try clear p325
            try clear p326
            try clear p327
            try clear p328
            try clear p33
            try clear p332
            try clear p333
            try clear p6
            try clear q3
            try clear q32
            try clear q320
            try clear q321
            try clear q322
            try clear q323
            try clear q324
            try clear q325
            try clear q326
            try clear q327
            try clear q328
            try clear q33
            try clear q332
            try clear q333
            obtain ⟨x17_4,x18_4,rfl,rfl,HA,HK4,HO_9,HO_10,BK309,HB⟩ := hrel
            cases gk with
            | zero => exact absurd HA.out (by simp [bournelaw37_AllotStops.l3])
            | succ k4 =>
             have H := HA.out
             clear HA
             simp only [bournelaw37_AllotStops.l3] at H
             by_cases c65 : x18_4 < (l1.length : Int)
             ·rw [if_pos c65] at H
              have c65b0 : decide (x18_4 < (l1.length : Int)) = true := decide_eq_true c65
              clear c65
              by_cases c66 : 0 ≤ x18_4
              ·rw [if_pos c66] at H
               have c66b0 : decide (0 ≤ x18_4) = true := decide_eq_true c66
               clear c66
               replace H := Option.bind_eq_some_iff.mp H
               obtain ⟨t338,A670,H⟩ := H
               replace H : ((bourneref37_Has.f k4 t338 x16_3).bind fun t341 => (if t341 = true then (if x18_4 < (t312.length : Int) then (bournelaw37_AllotStops.l3 k4 l1 l2 t310 t312 t315 x16_3 (wrap64 (x17_4 - ((rd_T47 t312 x18_4).f1))) (wrap64 (x18_4 + 1)) a0_0 l0_1 a0_2 l0_3 l0_4 l0_5 l0_6 l0_7 l0_8 l0_9 a0_10) else (none)) else (bournelaw37_AllotStops.l3 k4 l1 l2 t310 t312 t315 x16_3 x17_4 (wrap64 (x18_4 + 1)) a0_0 l0_1 a0_2 l0_3 l0_4 l0_5 l0_6 l0_7 l0_8 l0_9 a0_10))) = some r := H
               have A67 := Aside0.mk A670
               clear A670
               replace H := Option.bind_eq_some_iff.mp H
               obtain ⟨t341,A680,H⟩ := H
               replace H : (if t341 = true then (if x18_4 < (t312.length : Int) then (bournelaw37_AllotStops.l3 k4 l1 l2 t310 t312 t315 x16_3 (wrap64 (x17_4 - ((rd_T47 t312 x18_4).f1))) (wrap64 (x18_4 + 1)) a0_0 l0_1 a0_2 l0_3 l0_4 l0_5 l0_6 l0_7 l0_8 l0_9 a0_10) else (none)) else (bournelaw37_AllotStops.l3 k4 l1 l2 t310 t312 t315 x16_3 x17_4 (wrap64 (x18_4 + 1)) a0_0 l0_1 a0_2 l0_3 l0_4 l0_5 l0_6 l0_7 l0_8 l0_9 a0_10)) = some r := H
               have A68 := Aside0.mk A680
               clear A680
               by_cases c69 : t341 = true
               ·subst c69
                have H1 : (if x18_4 < (t312.length : Int) then (bournelaw37_AllotStops.l3 k4 l1 l2 t310 t312 t315 x16_3 (wrap64 (x17_4 - ((rd_T47 t312 x18_4).f1))) (wrap64 (x18_4 + 1)) a0_0 l0_1 a0_2 l0_3 l0_4 l0_5 l0_6 l0_7 l0_8 l0_9 a0_10) else (none)) = some r := by rw [if_pos rfl] at H;exact H
                clear H
                have H := H1
                clear H1
                by_cases c70 : x18_4 < (t312.length : Int)
                ·rw [if_pos c70] at H
                 have c70b0 : decide (x18_4 < (t312.length : Int)) = true := decide_eq_true c70
                 clear c70
                 have H' := Aside0.mk H
                 clear H
                 try go_wp2
                 (repeat (rw [drewN_self wr];generalize hq_ : World.drewN wr _ = wr;have n0_ : Aside0 (Kd.R (Kd.int .i64) 3 wr w.heap.size (fun _ => True) v316 t315) := ⟨by rw [← hq_];exact (by (with_reducible repeat (first | apply Kd.R_alloc | apply Kd.R_drewN | apply Kd.R_drew));exact HO_10.out)⟩;have n1_ : Aside0 (Kd.R k47 47 wr w.heap.size (fun _ => True) v313 t312) := ⟨by rw [← hq_];exact (by (with_reducible repeat (first | apply Kd.R_alloc | apply Kd.R_drewN | apply Kd.R_drew));exact HO_9.out)⟩;have n2_ : Aside0 (wr.heap[gb309]? = some (.cells #[.string a0_0,.slice A0_1 l0_1.length c0_1,.int .i64 a0_2,.slice A0_3 l0_3.length c0_3,.slice A0_4 l0_4.length c0_4,.slice A0_5 l0_5.length c0_5,.slice A0_6 l0_6.length c0_6,.slice A0_7 l0_7.length c0_7,.slice A0_8 l0_8.length c0_8,.slice A0_9 l0_9.length c0_9,.int .i64 a0_10] 31 (0,0))) := ⟨by rw [← hq_];exact (by (with_reducible repeat (first | refine blk_drewN ?_ _ | refine blk_drew ?_ | refine blk_alloc ?_ _));exact BK309.out)⟩;have n3_ : Aside0 (Below w.heap.size w wr) := ⟨by rw [← hq_];exact (by repeat (first | (with_reducible first | exact HB.out | apply below_alloc | apply pw_below_drewN | apply below_drew1 | refine below_set ?_ GE309.out) | exact HB.out))⟩;clear HO_10 HO_9 BK309 HB hq_;have HO_10 := n0_;have HO_9 := n1_;have BK309 := n2_;have HB := n3_;clear n0_ n1_ n2_ n3_))
                 have n0_ := Aside0.mk (Kd.R_drew HO_9.out)
                 have n1_ := Aside0.mk (Kd.R_drew HO_10.out)
                 have n2_ := Aside0.mk (blk_drew BK309.out)
                 have n3_ := Aside0.mk (below_drew1 HB.out)
                 clear HO_9
                 clear HO_10
                 clear BK309
                 clear HB
                 have HO_9 := n0_
                 have HO_10 := n1_
                 have BK309 := n2_
                 have HB := n3_
                 clear n0_ n1_ n2_ n3_
                 have p337 : 0 ≤ (x18_4 : Int) := of_decide_eq_true (by first | (with_reducible assumption) | assumption)
                 have q337 : x18_4 < (l1.length : Int) := of_decide_eq_true (by first | (with_reducible assumption) | assumption)
                 obtain ⟨ad337,e337,hx337_0,hx337_1,hx337_2,hx337_3,hx337_4,hx337_5,hx337_6,hx337_7,hx337_8⟩ := at_T45 HR1.out x18_4 p337 q337
                 have hw337_8 := hx337_8
                 have hw337_7 := hx337_7
                 have hw337_6 := hx337_6
                 have hw337_5 := hx337_5
                 have hw337_4 := hx337_4
                 have hw337_3 := hx337_3
                 have hw337_2 := hx337_2
                 have hw337_1 := hx337_1
                 have hw337_0 := hx337_0
                 cases e337
                 replace hx337_0 := (HB.out.cell (World.block_lt_of_cell? w _ hx337_0)).trans hx337_0
                 replace hx337_1 := (HB.out.cell (World.block_lt_of_cell? w _ hx337_1)).trans hx337_1
                 replace hx337_2 := (HB.out.cell (World.block_lt_of_cell? w _ hx337_2)).trans hx337_2
                 replace hx337_3 := (HB.out.cell (World.block_lt_of_cell? w _ hx337_3)).trans hx337_3
                 replace hx337_4 := (HB.out.cell (World.block_lt_of_cell? w _ hx337_4)).trans hx337_4
                 replace hx337_5 := (HB.out.cell (World.block_lt_of_cell? w _ hx337_5)).trans hx337_5
                 replace hx337_6 := (HB.out.cell (World.block_lt_of_cell? w _ hx337_6)).trans hx337_6
                 replace hx337_7 := (HB.out.cell (World.block_lt_of_cell? w _ hx337_7)).trans hx337_7
                 replace hx337_8 := (HB.out.cell (World.block_lt_of_cell? w _ hx337_8)).trans hx337_8
                 replace p337 := eq_true p337
                 replace q337 := eq_true q337
                 refine start_ (n := 10) (S := fun w' => w'.cell? ⟨gb309,0,none⟩ = some (.string a0_0) ∧ w'.cell? ⟨gb309,1,none⟩ = some (.slice A0_1 l0_1.length c0_1) ∧ w'.cell? ⟨gb309,2,none⟩ = some (.int .i64 a0_2) ∧ w'.cell? ⟨gb309,3,none⟩ = some (.slice A0_3 l0_3.length c0_3) ∧ w'.cell? ⟨gb309,4,none⟩ = some (.slice A0_4 l0_4.length c0_4) ∧ w'.cell? ⟨gb309,5,none⟩ = some (.slice A0_5 l0_5.length c0_5) ∧ w'.cell? ⟨gb309,6,none⟩ = some (.slice A0_6 l0_6.length c0_6) ∧ w'.cell? ⟨gb309,7,none⟩ = some (.slice A0_7 l0_7.length c0_7) ∧ w'.cell? ⟨gb309,8,none⟩ = some (.slice A0_8 l0_8.length c0_8) ∧ w'.cell? ⟨gb309,9,none⟩ = some (.slice A0_9 l0_9.length c0_9) ∧ w'.cell? ⟨gb309,10,none⟩ = some (.int .i64 a0_10) ∧ w'.cell? (ad337.add ((x18_4).toNat * 9)) = some (.int .i64 ((rd_T45 l1 x18_4).f0)) ∧ w'.cell? ⟨(ad337.add ((x18_4).toNat * 9)).block,(ad337.add ((x18_4).toNat * 9)).off + 1,none⟩ = some (.int .i64 ((rd_T45 l1 x18_4).f1)) ∧ w'.cell? ⟨(ad337.add ((x18_4).toNat * 9)).block,(ad337.add ((x18_4).toNat * 9)).off + 2,none⟩ = some (.int .i64 ((rd_T45 l1 x18_4).f2)) ∧ w'.cell? ⟨(ad337.add ((x18_4).toNat * 9)).block,(ad337.add ((x18_4).toNat * 9)).off + 3,none⟩ = some (.int .i64 ((rd_T45 l1 x18_4).f3)) ∧ w'.cell? ⟨(ad337.add ((x18_4).toNat * 9)).block,(ad337.add ((x18_4).toNat * 9)).off + 4,none⟩ = some (.int .i64 ((rd_T45 l1 x18_4).f4)) ∧ w'.cell? ⟨(ad337.add ((x18_4).toNat * 9)).block,(ad337.add ((x18_4).toNat * 9)).off + 5,none⟩ = some (.int .i64 ((rd_T45 l1 x18_4).f5)) ∧ w'.cell? ⟨(ad337.add ((x18_4).toNat * 9)).block,(ad337.add ((x18_4).toNat * 9)).off + 6,none⟩ = some (.int .i64 ((rd_T45 l1 x18_4).f6)) ∧ w'.cell? ⟨(ad337.add ((x18_4).toNat * 9)).block,(ad337.add ((x18_4).toNat * 9)).off + 7,none⟩ = some (.int .i64 ((rd_T45 l1 x18_4).f7)) ∧ w'.cell? ⟨(ad337.add ((x18_4).toNat * 9)).block,(ad337.add ((x18_4).toNat * 9)).off + 8,none⟩ = some (.int .i64 ((rd_T45 l1 x18_4).f8))) (ds := []) #[false,false,false,false,false,false,false,false,false,false] (by kernel_rfl) rfl rfl ⟨(blk_cell BK309.out 0).trans rfl,(blk_cell BK309.out 1).trans rfl,(blk_cell BK309.out 2).trans rfl,(blk_cell BK309.out 3).trans rfl,(blk_cell BK309.out 4).trans rfl,(blk_cell BK309.out 5).trans rfl,(blk_cell BK309.out 6).trans rfl,(blk_cell BK309.out 7).trans rfl,(blk_cell BK309.out 8).trans rfl,(blk_cell BK309.out 9).trans rfl,(blk_cell BK309.out 10).trans rfl,((HB.out.cell (World.block_lt_of_cell? w _ hw337_0)).trans hw337_0),((HB.out.cell (World.block_lt_of_cell? w _ hw337_1)).trans hw337_1),((HB.out.cell (World.block_lt_of_cell? w _ hw337_2)).trans hw337_2),((HB.out.cell (World.block_lt_of_cell? w _ hw337_3)).trans hw337_3),((HB.out.cell (World.block_lt_of_cell? w _ hw337_4)).trans hw337_4),((HB.out.cell (World.block_lt_of_cell? w _ hw337_5)).trans hw337_5),((HB.out.cell (World.block_lt_of_cell? w _ hw337_6)).trans hw337_6),((HB.out.cell (World.block_lt_of_cell? w _ hw337_7)).trans hw337_7),((HB.out.cell (World.block_lt_of_cell? w _ hw337_8)).trans hw337_8)⟩ (fun hHeld => ?_);refine with_tabW bournelaw37_AllotStops.tab29 bournelaw37_AllotStops.bits29 (fun HT_ HW_ => ?_)
                 generalize wr.drew = w71 at HO_9 HO_10 BK309 HB hx337_0 hx337_1 hx337_2 hx337_3 hx337_4 hx337_5 hx337_6 hx337_7 hx337_8 hHeld ⊢
                 refine pure_ (i := 1) (N := some 163) (v := ?_) (a' := ?_) #[false,true,false,false,false,false,false,false,false,false] rfl rfl (any_of HT_.out (by kernel_rfl)) (fun _ _ _ h => h) (Or.inl ⟨by rfl,?_⟩) ?_ ?_
                 rotate_left
                 ·intro w'
                  go_simp
                  with_reducible rfl
                 rotate_left
                 ·simp only [Act.put,List.setIfInBounds_toArray,List.set_cons_zero,List.set_cons_succ,i64_w,i32_w]
                  rfl
                 refine pure_ (i := 2) (N := some 164) (v := ?_) (a' := ?_) #[false,true,true,false,false,false,false,false,false,false] rfl rfl (any_of HT_.out (by kernel_rfl)) (fun _ _ _ h => h) (Or.inl ⟨by rfl,?_⟩) ?_ ?_
                 rotate_left
                 ·intro w'
                  go_simp
                  with_reducible rfl
                 rotate_left
                 ·simp only [Act.put,List.setIfInBounds_toArray,List.set_cons_zero,List.set_cons_succ,i64_w,i32_w]
                  rfl
                 refine pure_ (i := 3) (N := some 165) (v := ?_) (a' := ?_) #[false,true,true,true,false,false,false,false,false,false] rfl rfl (any_of HT_.out (by kernel_rfl)) (fun _ _ _ h => h) (Or.inl ⟨by rfl,?_⟩) ?_ ?_
                 rotate_left
                 ·intro w'
                  go_simp
                  with_reducible rfl
                 rotate_left
                 ·simp only [Act.put,List.setIfInBounds_toArray,List.set_cons_zero,List.set_cons_succ,i64_w,i32_w]
                  rfl
                 refine pure_ (i := 4) (N := some 166) (v := ?_) (a' := ?_) #[false,true,true,true,true,false,false,false,false,false] rfl rfl (any_of HT_.out (by kernel_rfl)) (fun _ _ _ h => h) (Or.inl ⟨by rfl,?_⟩) ?_ ?_
                 rotate_left
                 ·intro w'
                  go_simp
                  with_reducible rfl
                 rotate_left
                 ·simp only [Act.put,List.setIfInBounds_toArray,List.set_cons_zero,List.set_cons_succ,i64_w,i32_w]
                  rfl
                 refine pure_ (i := 7) (N := some 169) (v := ?_) (a' := ?_) #[false,true,true,true,true,false,false,true,false,false] rfl rfl (any_of HT_.out (by kernel_rfl)) (fun _ _ _ h => h) (Or.inl ⟨by rfl,?_⟩) ?_ ?_
                 rotate_left
                 ·intro w'
                  go_simp
                  with_reducible rfl
                 rotate_left
                 ·simp only [Act.put,List.setIfInBounds_toArray,List.set_cons_zero,List.set_cons_succ,i64_w,i32_w]
                  rfl
                 refine take_ (i := 0) (N := some 162) (v := ?_) (a' := ?_) #[true,true,true,true,true,false,false,true,false,false] rfl rfl (take_ofW HT_.out HW_.out (by kernel_rfl)) (fun _ _ _ h => h) (Or.inl ⟨by rfl,?_⟩) hHeld ?_ ?_
                 rotate_left
                 ·rintro w' ⟨s0,s1,s2,s3,s4,s5,s6,s7,s8,s9,s10,s11,s12,s13,s14,s15,s16,s17,s18,s19⟩
                  go_simp
                  with_reducible rfl
                 rotate_left
                 ·simp only [Act.put,List.setIfInBounds_toArray,List.set_cons_zero,List.set_cons_succ,i64_w,i32_w]
                  rfl
                 refine take_ (i := 5) (N := some 167) (v := ?_) (a' := ?_) #[true,true,true,true,true,true,false,true,false,false] rfl rfl (take_ofW HT_.out HW_.out (by kernel_rfl)) (fun _ _ _ h => h) (Or.inl ⟨by rfl,?_⟩) hHeld ?_ ?_
                 rotate_left
                 ·rintro w' ⟨s0,s1,s2,s3,s4,s5,s6,s7,s8,s9,s10,s11,s12,s13,s14,s15,s16,s17,s18,s19⟩
                  go_simp
                  with_reducible rfl
                 rotate_left
                 ·simp only [Act.put,List.setIfInBounds_toArray,List.set_cons_zero,List.set_cons_succ,i64_w,i32_w]
                  rfl
                 refine one_ (i := 6) (N := some 168) #[true,true,true,true,true,true,true,true,false,false] rfl rfl (one_of HT_.out (by kernel_rfl)) (by decide) (fun K hK => ?_)
                 refine goes_ Try.func13 (by kernel_rfl) rfl #[.agg #[.string a0_0,.slice A0_1 l0_1.length c0_1,.int .i64 a0_2,.slice A0_3 l0_3.length c0_3,.slice A0_4 l0_4.length c0_4,.slice A0_5 l0_5.length c0_5,.slice A0_6 l0_6.length c0_6,.slice A0_7 l0_7.length c0_7,.slice A0_8 l0_8.length c0_8,.slice A0_9 l0_9.length c0_9,.int .i64 a0_10],.int .i64 ((rd_T45 l1 x18_4).f3)] (by rfl) rfl rfl (by (try simp only [List.map_toArray,List.map_cons,List.map_nil]);first | done | rfl | (simp only [List.length_drop,List.length_take];rfl)) ?_
                 with_reducible refine (allot_Reach.calls k4 a0_0 _ _ l0_1 a0_2 _ _ l0_3 _ _ l0_4 _ _ l0_5 _ _ l0_6 _ _ l0_7 _ _ l0_8 _ _ l0_9 a0_10 ((rd_T45 l1 x18_4).f3) t338 _ ?side1 ?side2 ?side3 ?side4 ?side5 ?side6 ?side7 ?side8 ?side9 ?side10 ?side11 ?side12 ?side13 ?side14 ?side15 ?side16 A67.out).mono ?_
                 (case side1 => repeat (first | exact (Kd.C_below HR0_1.out HB.out) | (with_reducible refine Kd.C_alloc ?_ _) | (with_reducible refine Kd.C_drewN ?_ _) | (with_reducible refine Kd.C_drew ?_)))
                 (case side2 => exact HC0_1.out)
                 (case side3 => repeat (first | exact (Kd.C_below HR0_3.out HB.out) | (with_reducible refine Kd.C_alloc ?_ _) | (with_reducible refine Kd.C_drewN ?_ _) | (with_reducible refine Kd.C_drew ?_)))
                 (case side4 => exact HC0_3.out)
                 (case side5 => repeat (first | exact (Kd.C_below HR0_4.out HB.out) | (with_reducible refine Kd.C_alloc ?_ _) | (with_reducible refine Kd.C_drewN ?_ _) | (with_reducible refine Kd.C_drew ?_)))
                 (case side6 => exact HC0_4.out)
                 (case side7 => repeat (first | exact (Kd.C_below HR0_5.out HB.out) | (with_reducible refine Kd.C_alloc ?_ _) | (with_reducible refine Kd.C_drewN ?_ _) | (with_reducible refine Kd.C_drew ?_)))
                 (case side8 => exact HC0_5.out)
                 (case side9 => repeat (first | exact (Kd.C_below HR0_6.out HB.out) | (with_reducible refine Kd.C_alloc ?_ _) | (with_reducible refine Kd.C_drewN ?_ _) | (with_reducible refine Kd.C_drew ?_)))
                 (case side10 => exact HC0_6.out)
                 (case side11 => repeat (first | exact (Kd.C_below HR0_7.out HB.out) | (with_reducible refine Kd.C_alloc ?_ _) | (with_reducible refine Kd.C_drewN ?_ _) | (with_reducible refine Kd.C_drew ?_)))
                 (case side12 => exact HC0_7.out)
                 (case side13 => repeat (first | exact (Kd.C_below HR0_8.out HB.out) | (with_reducible refine Kd.C_alloc ?_ _) | (with_reducible refine Kd.C_drewN ?_ _) | (with_reducible refine Kd.C_drew ?_)))
                 (case side14 => exact HC0_8.out)
                 (case side15 => repeat (first | exact (Kd.C_below HR0_9.out HB.out) | (with_reducible refine Kd.C_alloc ?_ _) | (with_reducible refine Kd.C_drewN ?_ _) | (with_reducible refine Kd.C_drew ?_)))
                 (case side16 => exact HC0_9.out)
                 rintro e w72 ⟨v339,rfl,ho0,hb⟩
                 refine ⟨_,rfl,?_⟩
                 have n0_ := Aside0.mk (Kd.R_below (by (with_reducible repeat (first | apply Kd.R_alloc | apply Kd.R_drewN | apply Kd.R_drew));exact HO_9.out) hb)
                 have n1_ := Aside0.mk (Kd.R_elder' (by (with_reducible repeat (first | apply Kd.R_alloc | apply Kd.R_drewN | apply Kd.R_drew));exact HO_10.out) (Kd.R_base ho0) hb)
                 have n2_ := Aside0.mk (Kd.R_lower (Kd.R_new' ho0 (Kd.R_lt (by (with_reducible repeat (first | apply Kd.R_alloc | apply Kd.R_drewN | apply Kd.R_drew));exact HO_10.out))) (below_size (by repeat (first | (with_reducible first | exact HB.out | apply below_alloc | apply pw_below_drewN | apply below_drew1 | refine below_set ?_ GE309.out) | exact HB.out))))
                 have n3_ := Aside0.mk (blk_below (g := gb309) (o := .cells #[.string a0_0,.slice A0_1 l0_1.length c0_1,.int .i64 a0_2,.slice A0_3 l0_3.length c0_3,.slice A0_4 l0_4.length c0_4,.slice A0_5 l0_5.length c0_5,.slice A0_6 l0_6.length c0_6,.slice A0_7 l0_7.length c0_7,.slice A0_8 l0_8.length c0_8,.slice A0_9 l0_9.length c0_9,.int .i64 a0_10] 31 (0,0)) (by (with_reducible repeat (first | refine blk_drewN ?_ _ | refine blk_drew ?_ | refine blk_alloc ?_ _));exact BK309.out) hb)
                 have n4_ := Aside0.mk (below_step (by repeat (first | (with_reducible first | exact HB.out | apply below_alloc | apply pw_below_drewN | apply below_drew1 | refine below_set ?_ GE309.out) | exact HB.out)) hb)
                 clear HO_9
                 clear HO_10
                 clear BK309
                 clear HB
                 have HO_9 := n0_
                 have HO_10 := n1_
                 have HO340 := n2_
                 have BK309 := n3_
                 have HB := n4_
                 clear n0_ n1_ n2_ n3_ n4_
                 (try clear hb)
                 (try clear hb2)
                 (try clear hk)
                 (try clear hi)
                 (try clear ho0)
                 obtain ⟨Ao73,co73,eo73⟩ := Kd.R_slice HO340.out
                 (first | subst eo73 | (injection eo73 with f1_ f2_ f3_;have f4_ := f1_.symm;have f5_ := f3_.symm;clear f1_ f2_ f3_;subst f4_;subst f5_))
                 refine hK.out _ _ ⟨(blk_cell BK309.out 0).trans rfl,(blk_cell BK309.out 1).trans rfl,(blk_cell BK309.out 2).trans rfl,(blk_cell BK309.out 3).trans rfl,(blk_cell BK309.out 4).trans rfl,(blk_cell BK309.out 5).trans rfl,(blk_cell BK309.out 6).trans rfl,(blk_cell BK309.out 7).trans rfl,(blk_cell BK309.out 8).trans rfl,(blk_cell BK309.out 9).trans rfl,(blk_cell BK309.out 10).trans rfl,((HB.out.cell (World.block_lt_of_cell? w _ hw337_0)).trans hw337_0),((HB.out.cell (World.block_lt_of_cell? w _ hw337_1)).trans hw337_1),((HB.out.cell (World.block_lt_of_cell? w _ hw337_2)).trans hw337_2),((HB.out.cell (World.block_lt_of_cell? w _ hw337_3)).trans hw337_3),((HB.out.cell (World.block_lt_of_cell? w _ hw337_4)).trans hw337_4),((HB.out.cell (World.block_lt_of_cell? w _ hw337_5)).trans hw337_5),((HB.out.cell (World.block_lt_of_cell? w _ hw337_6)).trans hw337_6),((HB.out.cell (World.block_lt_of_cell? w _ hw337_7)).trans hw337_7),((HB.out.cell (World.block_lt_of_cell? w _ hw337_8)).trans hw337_8)⟩ (fun hHeld => ?_)
                 clear hK K
                 refine norm_ (a' := ?_) ?_ ?_
                 rotate_left
                 ·show Act.put _ (some 168) _ = _
                  simp only [Act.put,List.setIfInBounds_toArray,List.set_cons_zero,List.set_cons_succ,i64_w,i32_w]
                  rfl
                 refine one_ (i := 8) (N := some 170) #[true,true,true,true,true,true,true,true,true,false] rfl rfl (one_of HT_.out (by kernel_rfl)) (by decide) (fun K hK => ?_)
                 refine goes_ Try.func20 (by kernel_rfl) rfl #[.slice Ao73 t338.length co73,.int .i64 x16_3] (by rfl) rfl rfl (by (try simp only [List.map_toArray,List.map_cons,List.map_nil]);first | done | rfl | (simp only [List.length_drop,List.length_take];rfl)) ?_
                 with_reducible refine (bourneref37_Has.calls k4 _ _ t338 x16_3 true _ ?side1 ?side2 A68.out).mono ?_
                 (case side1 => repeat (first | exact (Kd.R_reads' HO340.out).2.2 | (with_reducible refine Kd.C_alloc ?_ _) | (with_reducible refine Kd.C_drewN ?_ _) | (with_reducible refine Kd.C_drew ?_)))
                 (case side2 => exact (Kd.R_reads' HO340.out).2.1)
                 rintro e w' ⟨rfl,⟨nd,rfl⟩⟩
                 refine ⟨_,rfl,?_⟩
                 refine hK.out _ _ ⟨(blk_cell BK309.out 0).trans rfl,(blk_cell BK309.out 1).trans rfl,(blk_cell BK309.out 2).trans rfl,(blk_cell BK309.out 3).trans rfl,(blk_cell BK309.out 4).trans rfl,(blk_cell BK309.out 5).trans rfl,(blk_cell BK309.out 6).trans rfl,(blk_cell BK309.out 7).trans rfl,(blk_cell BK309.out 8).trans rfl,(blk_cell BK309.out 9).trans rfl,(blk_cell BK309.out 10).trans rfl,((HB.out.cell (World.block_lt_of_cell? w _ hw337_0)).trans hw337_0),((HB.out.cell (World.block_lt_of_cell? w _ hw337_1)).trans hw337_1),((HB.out.cell (World.block_lt_of_cell? w _ hw337_2)).trans hw337_2),((HB.out.cell (World.block_lt_of_cell? w _ hw337_3)).trans hw337_3),((HB.out.cell (World.block_lt_of_cell? w _ hw337_4)).trans hw337_4),((HB.out.cell (World.block_lt_of_cell? w _ hw337_5)).trans hw337_5),((HB.out.cell (World.block_lt_of_cell? w _ hw337_6)).trans hw337_6),((HB.out.cell (World.block_lt_of_cell? w _ hw337_7)).trans hw337_7),((HB.out.cell (World.block_lt_of_cell? w _ hw337_8)).trans hw337_8)⟩ (fun hHeld => ?_)
                 clear hK K
                 refine norm_ (a' := ?_) ?_ ?_
                 rotate_left
                 ·show Act.put _ (some 170) _ = _
                  simp only [Act.put,List.setIfInBounds_toArray,List.set_cons_zero,List.set_cons_succ,i64_w,i32_w]
                  rfl
                 refine pure_ (i := 9) (N := some 19) (v := ?_) (a' := ?_) #[true,true,true,true,true,true,true,true,true,true] rfl rfl (any_of HT_.out (by kernel_rfl)) (fun _ _ _ h => h) (Or.inl ⟨by rfl,?_⟩) ?_ ?_
                 rotate_left
                 ·intro w'
                  go_simp
                  with_reducible rfl
                 rotate_left
                 ·simp only [Act.put,List.setIfInBounds_toArray,List.set_cons_zero,List.set_cons_succ,i64_w,i32_w]
                  rfl
                 refine done_ (done_of HT_.out (by kernel_rfl)) ?_
                 obtain ⟨Ao74,co74,eo74⟩ := Kd.R_slice HO_9.out
                 subst eo74
                 have p342 : 0 ≤ (x18_4 : Int) := of_decide_eq_true (by first | (with_reducible assumption) | assumption)
                 have q342 : x18_4 < (t312.length : Int) := of_decide_eq_true (by first | (with_reducible assumption) | assumption)
                 obtain ⟨ad342,e342,hx342_0,hx342_1⟩ := at_T47 (Kd.R_reads' HO_9.out).2.2 x18_4 p342 q342
                 cases e342
                 replace p342 := eq_true p342
                 replace q342 := eq_true q342
                 try go_wp2
                 go_roundg k4
                 case measure => have := HJ7.out;have := HK2.out;have := HK3.out;have := HK4.out;omega
                 case rel => exact ⟨(wrap64 (x17_4 - ((rd_T47 t312 x18_4).f1))),(wrap64 (x18_4 + 1)),(by first | rfl | (simp;done) | (simp [*];done)),(by first | rfl | (simp;done) | (simp [*];done)),H',⟨by have := HJ7.out;have := HK2.out;have := HK3.out;have := HK4.out;omega⟩,⟨by (with_reducible repeat (first | apply Kd.R_alloc | apply Kd.R_drewN | apply Kd.R_drew));exact HO_9.out⟩,⟨by (with_reducible repeat (first | apply Kd.R_alloc | apply Kd.R_drewN | apply Kd.R_drew));exact Kd.R_mono HO_10.out (fun _ hk => trivial)⟩,⟨by (with_reducible repeat (first | refine blk_drewN ?_ _ | refine blk_drew ?_ | refine blk_alloc ?_ _));exact BK309.out⟩,⟨by repeat (first | (with_reducible first | exact HB.out | apply below_alloc | apply pw_below_drewN | apply below_drew1 | refine below_set ?_ GE309.out) | exact HB.out)⟩⟩
                ·rw [if_neg c70] at H
                 exact absurd H (by simp)
               ·replace c69 := Bool.eq_false_iff.mpr c69
                subst c69
                have H1 : (bournelaw37_AllotStops.l3 k4 l1 l2 t310 t312 t315 x16_3 x17_4 (wrap64 (x18_4 + 1)) a0_0 l0_1 a0_2 l0_3 l0_4 l0_5 l0_6 l0_7 l0_8 l0_9 a0_10) = some r := by rw [if_neg (show ¬ (false = true) by decide)] at H;exact H
                clear H
                have H := H1
                clear H1
                have H' := Aside0.mk H
                clear H
                try go_wp2
                (repeat (rw [drewN_self wr];generalize hq_ : World.drewN wr _ = wr;have n0_ : Aside0 (Kd.R (Kd.int .i64) 3 wr w.heap.size (fun _ => True) v316 t315) := ⟨by rw [← hq_];exact (by (with_reducible repeat (first | apply Kd.R_alloc | apply Kd.R_drewN | apply Kd.R_drew));exact HO_10.out)⟩;have n1_ : Aside0 (Kd.R k47 47 wr w.heap.size (fun _ => True) v313 t312) := ⟨by rw [← hq_];exact (by (with_reducible repeat (first | apply Kd.R_alloc | apply Kd.R_drewN | apply Kd.R_drew));exact HO_9.out)⟩;have n2_ : Aside0 (wr.heap[gb309]? = some (.cells #[.string a0_0,.slice A0_1 l0_1.length c0_1,.int .i64 a0_2,.slice A0_3 l0_3.length c0_3,.slice A0_4 l0_4.length c0_4,.slice A0_5 l0_5.length c0_5,.slice A0_6 l0_6.length c0_6,.slice A0_7 l0_7.length c0_7,.slice A0_8 l0_8.length c0_8,.slice A0_9 l0_9.length c0_9,.int .i64 a0_10] 31 (0,0))) := ⟨by rw [← hq_];exact (by (with_reducible repeat (first | refine blk_drewN ?_ _ | refine blk_drew ?_ | refine blk_alloc ?_ _));exact BK309.out)⟩;have n3_ : Aside0 (Below w.heap.size w wr) := ⟨by rw [← hq_];exact (by repeat (first | (with_reducible first | exact HB.out | apply below_alloc | apply pw_below_drewN | apply below_drew1 | refine below_set ?_ GE309.out) | exact HB.out))⟩;clear HO_10 HO_9 BK309 HB hq_;have HO_10 := n0_;have HO_9 := n1_;have BK309 := n2_;have HB := n3_;clear n0_ n1_ n2_ n3_))
                have n0_ := Aside0.mk (Kd.R_drew HO_9.out)
                have n1_ := Aside0.mk (Kd.R_drew HO_10.out)
                have n2_ := Aside0.mk (blk_drew BK309.out)
                have n3_ := Aside0.mk (below_drew1 HB.out)
                clear HO_9
                clear HO_10
                clear BK309
                clear HB
                have HO_9 := n0_
                have HO_10 := n1_
                have BK309 := n2_
                have HB := n3_
                clear n0_ n1_ n2_ n3_
                have p337 : 0 ≤ (x18_4 : Int) := of_decide_eq_true (by first | (with_reducible assumption) | assumption)
                have q337 : x18_4 < (l1.length : Int) := of_decide_eq_true (by first | (with_reducible assumption) | assumption)
                obtain ⟨ad337,e337,hx337_0,hx337_1,hx337_2,hx337_3,hx337_4,hx337_5,hx337_6,hx337_7,hx337_8⟩ := at_T45 HR1.out x18_4 p337 q337
                have hw337_8 := hx337_8
                have hw337_7 := hx337_7
                have hw337_6 := hx337_6
                have hw337_5 := hx337_5
                have hw337_4 := hx337_4
                have hw337_3 := hx337_3
                have hw337_2 := hx337_2
                have hw337_1 := hx337_1
                have hw337_0 := hx337_0
                cases e337
                replace hx337_0 := (HB.out.cell (World.block_lt_of_cell? w _ hx337_0)).trans hx337_0
                replace hx337_1 := (HB.out.cell (World.block_lt_of_cell? w _ hx337_1)).trans hx337_1
                replace hx337_2 := (HB.out.cell (World.block_lt_of_cell? w _ hx337_2)).trans hx337_2
                replace hx337_3 := (HB.out.cell (World.block_lt_of_cell? w _ hx337_3)).trans hx337_3
                replace hx337_4 := (HB.out.cell (World.block_lt_of_cell? w _ hx337_4)).trans hx337_4
                replace hx337_5 := (HB.out.cell (World.block_lt_of_cell? w _ hx337_5)).trans hx337_5
                replace hx337_6 := (HB.out.cell (World.block_lt_of_cell? w _ hx337_6)).trans hx337_6
                replace hx337_7 := (HB.out.cell (World.block_lt_of_cell? w _ hx337_7)).trans hx337_7
                replace hx337_8 := (HB.out.cell (World.block_lt_of_cell? w _ hx337_8)).trans hx337_8
                replace p337 := eq_true p337
                replace q337 := eq_true q337
                refine start_ (n := 10) (S := fun w' => w'.cell? ⟨gb309,0,none⟩ = some (.string a0_0) ∧ w'.cell? ⟨gb309,1,none⟩ = some (.slice A0_1 l0_1.length c0_1) ∧ w'.cell? ⟨gb309,2,none⟩ = some (.int .i64 a0_2) ∧ w'.cell? ⟨gb309,3,none⟩ = some (.slice A0_3 l0_3.length c0_3) ∧ w'.cell? ⟨gb309,4,none⟩ = some (.slice A0_4 l0_4.length c0_4) ∧ w'.cell? ⟨gb309,5,none⟩ = some (.slice A0_5 l0_5.length c0_5) ∧ w'.cell? ⟨gb309,6,none⟩ = some (.slice A0_6 l0_6.length c0_6) ∧ w'.cell? ⟨gb309,7,none⟩ = some (.slice A0_7 l0_7.length c0_7) ∧ w'.cell? ⟨gb309,8,none⟩ = some (.slice A0_8 l0_8.length c0_8) ∧ w'.cell? ⟨gb309,9,none⟩ = some (.slice A0_9 l0_9.length c0_9) ∧ w'.cell? ⟨gb309,10,none⟩ = some (.int .i64 a0_10) ∧ w'.cell? (ad337.add ((x18_4).toNat * 9)) = some (.int .i64 ((rd_T45 l1 x18_4).f0)) ∧ w'.cell? ⟨(ad337.add ((x18_4).toNat * 9)).block,(ad337.add ((x18_4).toNat * 9)).off + 1,none⟩ = some (.int .i64 ((rd_T45 l1 x18_4).f1)) ∧ w'.cell? ⟨(ad337.add ((x18_4).toNat * 9)).block,(ad337.add ((x18_4).toNat * 9)).off + 2,none⟩ = some (.int .i64 ((rd_T45 l1 x18_4).f2)) ∧ w'.cell? ⟨(ad337.add ((x18_4).toNat * 9)).block,(ad337.add ((x18_4).toNat * 9)).off + 3,none⟩ = some (.int .i64 ((rd_T45 l1 x18_4).f3)) ∧ w'.cell? ⟨(ad337.add ((x18_4).toNat * 9)).block,(ad337.add ((x18_4).toNat * 9)).off + 4,none⟩ = some (.int .i64 ((rd_T45 l1 x18_4).f4)) ∧ w'.cell? ⟨(ad337.add ((x18_4).toNat * 9)).block,(ad337.add ((x18_4).toNat * 9)).off + 5,none⟩ = some (.int .i64 ((rd_T45 l1 x18_4).f5)) ∧ w'.cell? ⟨(ad337.add ((x18_4).toNat * 9)).block,(ad337.add ((x18_4).toNat * 9)).off + 6,none⟩ = some (.int .i64 ((rd_T45 l1 x18_4).f6)) ∧ w'.cell? ⟨(ad337.add ((x18_4).toNat * 9)).block,(ad337.add ((x18_4).toNat * 9)).off + 7,none⟩ = some (.int .i64 ((rd_T45 l1 x18_4).f7)) ∧ w'.cell? ⟨(ad337.add ((x18_4).toNat * 9)).block,(ad337.add ((x18_4).toNat * 9)).off + 8,none⟩ = some (.int .i64 ((rd_T45 l1 x18_4).f8))) (ds := []) #[false,false,false,false,false,false,false,false,false,false] (by kernel_rfl) rfl rfl ⟨(blk_cell BK309.out 0).trans rfl,(blk_cell BK309.out 1).trans rfl,(blk_cell BK309.out 2).trans rfl,(blk_cell BK309.out 3).trans rfl,(blk_cell BK309.out 4).trans rfl,(blk_cell BK309.out 5).trans rfl,(blk_cell BK309.out 6).trans rfl,(blk_cell BK309.out 7).trans rfl,(blk_cell BK309.out 8).trans rfl,(blk_cell BK309.out 9).trans rfl,(blk_cell BK309.out 10).trans rfl,((HB.out.cell (World.block_lt_of_cell? w _ hw337_0)).trans hw337_0),((HB.out.cell (World.block_lt_of_cell? w _ hw337_1)).trans hw337_1),((HB.out.cell (World.block_lt_of_cell? w _ hw337_2)).trans hw337_2),((HB.out.cell (World.block_lt_of_cell? w _ hw337_3)).trans hw337_3),((HB.out.cell (World.block_lt_of_cell? w _ hw337_4)).trans hw337_4),((HB.out.cell (World.block_lt_of_cell? w _ hw337_5)).trans hw337_5),((HB.out.cell (World.block_lt_of_cell? w _ hw337_6)).trans hw337_6),((HB.out.cell (World.block_lt_of_cell? w _ hw337_7)).trans hw337_7),((HB.out.cell (World.block_lt_of_cell? w _ hw337_8)).trans hw337_8)⟩ (fun hHeld => ?_);refine with_tabW bournelaw37_AllotStops.tab29 bournelaw37_AllotStops.bits29 (fun HT_ HW_ => ?_)
                generalize wr.drew = w75 at HO_9 HO_10 BK309 HB hx337_0 hx337_1 hx337_2 hx337_3 hx337_4 hx337_5 hx337_6 hx337_7 hx337_8 hHeld ⊢
                refine pure_ (i := 1) (N := some 163) (v := ?_) (a' := ?_) #[false,true,false,false,false,false,false,false,false,false] rfl rfl (any_of HT_.out (by kernel_rfl)) (fun _ _ _ h => h) (Or.inl ⟨by rfl,?_⟩) ?_ ?_
                rotate_left
                ·intro w'
                 go_simp
                 with_reducible rfl
                rotate_left
                ·simp only [Act.put,List.setIfInBounds_toArray,List.set_cons_zero,List.set_cons_succ,i64_w,i32_w]
                 rfl
                refine pure_ (i := 2) (N := some 164) (v := ?_) (a' := ?_) #[false,true,true,false,false,false,false,false,false,false] rfl rfl (any_of HT_.out (by kernel_rfl)) (fun _ _ _ h => h) (Or.inl ⟨by rfl,?_⟩) ?_ ?_
                rotate_left
                ·intro w'
                 go_simp
                 with_reducible rfl
                rotate_left
                ·simp only [Act.put,List.setIfInBounds_toArray,List.set_cons_zero,List.set_cons_succ,i64_w,i32_w]
                 rfl
                refine pure_ (i := 3) (N := some 165) (v := ?_) (a' := ?_) #[false,true,true,true,false,false,false,false,false,false] rfl rfl (any_of HT_.out (by kernel_rfl)) (fun _ _ _ h => h) (Or.inl ⟨by rfl,?_⟩) ?_ ?_
                rotate_left
                ·intro w'
                 go_simp
                 with_reducible rfl
                rotate_left
                ·simp only [Act.put,List.setIfInBounds_toArray,List.set_cons_zero,List.set_cons_succ,i64_w,i32_w]
                 rfl
                refine pure_ (i := 4) (N := some 166) (v := ?_) (a' := ?_) #[false,true,true,true,true,false,false,false,false,false] rfl rfl (any_of HT_.out (by kernel_rfl)) (fun _ _ _ h => h) (Or.inl ⟨by rfl,?_⟩) ?_ ?_
                rotate_left
                ·intro w'
                 go_simp
                 with_reducible rfl
                rotate_left
                ·simp only [Act.put,List.setIfInBounds_toArray,List.set_cons_zero,List.set_cons_succ,i64_w,i32_w]
                 rfl
                refine pure_ (i := 7) (N := some 169) (v := ?_) (a' := ?_) #[false,true,true,true,true,false,false,true,false,false] rfl rfl (any_of HT_.out (by kernel_rfl)) (fun _ _ _ h => h) (Or.inl ⟨by rfl,?_⟩) ?_ ?_
                rotate_left
                ·intro w'
                 go_simp
                 with_reducible rfl
                rotate_left
                ·simp only [Act.put,List.setIfInBounds_toArray,List.set_cons_zero,List.set_cons_succ,i64_w,i32_w]
                 rfl
                refine take_ (i := 0) (N := some 162) (v := ?_) (a' := ?_) #[true,true,true,true,true,false,false,true,false,false] rfl rfl (take_ofW HT_.out HW_.out (by kernel_rfl)) (fun _ _ _ h => h) (Or.inl ⟨by rfl,?_⟩) hHeld ?_ ?_
                rotate_left
                ·rintro w' ⟨s0,s1,s2,s3,s4,s5,s6,s7,s8,s9,s10,s11,s12,s13,s14,s15,s16,s17,s18,s19⟩
                 go_simp
                 with_reducible rfl
                rotate_left
                ·simp only [Act.put,List.setIfInBounds_toArray,List.set_cons_zero,List.set_cons_succ,i64_w,i32_w]
                 rfl
                refine take_ (i := 5) (N := some 167) (v := ?_) (a' := ?_) #[true,true,true,true,true,true,false,true,false,false] rfl rfl (take_ofW HT_.out HW_.out (by kernel_rfl)) (fun _ _ _ h => h) (Or.inl ⟨by rfl,?_⟩) hHeld ?_ ?_
                rotate_left
                ·rintro w' ⟨s0,s1,s2,s3,s4,s5,s6,s7,s8,s9,s10,s11,s12,s13,s14,s15,s16,s17,s18,s19⟩
                 go_simp
                 with_reducible rfl
                rotate_left
                ·simp only [Act.put,List.setIfInBounds_toArray,List.set_cons_zero,List.set_cons_succ,i64_w,i32_w]
                 rfl
                refine one_ (i := 6) (N := some 168) #[true,true,true,true,true,true,true,true,false,false] rfl rfl (one_of HT_.out (by kernel_rfl)) (by decide) (fun K hK => ?_)
                refine goes_ Try.func13 (by kernel_rfl) rfl #[.agg #[.string a0_0,.slice A0_1 l0_1.length c0_1,.int .i64 a0_2,.slice A0_3 l0_3.length c0_3,.slice A0_4 l0_4.length c0_4,.slice A0_5 l0_5.length c0_5,.slice A0_6 l0_6.length c0_6,.slice A0_7 l0_7.length c0_7,.slice A0_8 l0_8.length c0_8,.slice A0_9 l0_9.length c0_9,.int .i64 a0_10],.int .i64 ((rd_T45 l1 x18_4).f3)] (by rfl) rfl rfl (by (try simp only [List.map_toArray,List.map_cons,List.map_nil]);first | done | rfl | (simp only [List.length_drop,List.length_take];rfl)) ?_
                with_reducible refine (allot_Reach.calls k4 a0_0 _ _ l0_1 a0_2 _ _ l0_3 _ _ l0_4 _ _ l0_5 _ _ l0_6 _ _ l0_7 _ _ l0_8 _ _ l0_9 a0_10 ((rd_T45 l1 x18_4).f3) t338 _ ?side1 ?side2 ?side3 ?side4 ?side5 ?side6 ?side7 ?side8 ?side9 ?side10 ?side11 ?side12 ?side13 ?side14 ?side15 ?side16 A67.out).mono ?_
                (case side1 => repeat (first | exact (Kd.C_below HR0_1.out HB.out) | (with_reducible refine Kd.C_alloc ?_ _) | (with_reducible refine Kd.C_drewN ?_ _) | (with_reducible refine Kd.C_drew ?_)))
                (case side2 => exact HC0_1.out)
                (case side3 => repeat (first | exact (Kd.C_below HR0_3.out HB.out) | (with_reducible refine Kd.C_alloc ?_ _) | (with_reducible refine Kd.C_drewN ?_ _) | (with_reducible refine Kd.C_drew ?_)))
                (case side4 => exact HC0_3.out)
                (case side5 => repeat (first | exact (Kd.C_below HR0_4.out HB.out) | (with_reducible refine Kd.C_alloc ?_ _) | (with_reducible refine Kd.C_drewN ?_ _) | (with_reducible refine Kd.C_drew ?_)))
                (case side6 => exact HC0_4.out)
                (case side7 => repeat (first | exact (Kd.C_below HR0_5.out HB.out) | (with_reducible refine Kd.C_alloc ?_ _) | (with_reducible refine Kd.C_drewN ?_ _) | (with_reducible refine Kd.C_drew ?_)))
                (case side8 => exact HC0_5.out)
                (case side9 => repeat (first | exact (Kd.C_below HR0_6.out HB.out) | (with_reducible refine Kd.C_alloc ?_ _) | (with_reducible refine Kd.C_drewN ?_ _) | (with_reducible refine Kd.C_drew ?_)))
                (case side10 => exact HC0_6.out)
                (case side11 => repeat (first | exact (Kd.C_below HR0_7.out HB.out) | (with_reducible refine Kd.C_alloc ?_ _) | (with_reducible refine Kd.C_drewN ?_ _) | (with_reducible refine Kd.C_drew ?_)))
                (case side12 => exact HC0_7.out)
                (case side13 => repeat (first | exact (Kd.C_below HR0_8.out HB.out) | (with_reducible refine Kd.C_alloc ?_ _) | (with_reducible refine Kd.C_drewN ?_ _) | (with_reducible refine Kd.C_drew ?_)))
                (case side14 => exact HC0_8.out)
                (case side15 => repeat (first | exact (Kd.C_below HR0_9.out HB.out) | (with_reducible refine Kd.C_alloc ?_ _) | (with_reducible refine Kd.C_drewN ?_ _) | (with_reducible refine Kd.C_drew ?_)))
                (case side16 => exact HC0_9.out)
                rintro e w76 ⟨v339,rfl,ho0,hb⟩
                refine ⟨_,rfl,?_⟩
                have n0_ := Aside0.mk (Kd.R_below (by (with_reducible repeat (first | apply Kd.R_alloc | apply Kd.R_drewN | apply Kd.R_drew));exact HO_9.out) hb)
                have n1_ := Aside0.mk (Kd.R_elder' (by (with_reducible repeat (first | apply Kd.R_alloc | apply Kd.R_drewN | apply Kd.R_drew));exact HO_10.out) (Kd.R_base ho0) hb)
                have n2_ := Aside0.mk (Kd.R_lower (Kd.R_new' ho0 (Kd.R_lt (by (with_reducible repeat (first | apply Kd.R_alloc | apply Kd.R_drewN | apply Kd.R_drew));exact HO_10.out))) (below_size (by repeat (first | (with_reducible first | exact HB.out | apply below_alloc | apply pw_below_drewN | apply below_drew1 | refine below_set ?_ GE309.out) | exact HB.out))))
                have n3_ := Aside0.mk (blk_below (g := gb309) (o := .cells #[.string a0_0,.slice A0_1 l0_1.length c0_1,.int .i64 a0_2,.slice A0_3 l0_3.length c0_3,.slice A0_4 l0_4.length c0_4,.slice A0_5 l0_5.length c0_5,.slice A0_6 l0_6.length c0_6,.slice A0_7 l0_7.length c0_7,.slice A0_8 l0_8.length c0_8,.slice A0_9 l0_9.length c0_9,.int .i64 a0_10] 31 (0,0)) (by (with_reducible repeat (first | refine blk_drewN ?_ _ | refine blk_drew ?_ | refine blk_alloc ?_ _));exact BK309.out) hb)
                have n4_ := Aside0.mk (below_step (by repeat (first | (with_reducible first | exact HB.out | apply below_alloc | apply pw_below_drewN | apply below_drew1 | refine below_set ?_ GE309.out) | exact HB.out)) hb)
                clear HO_9
                clear HO_10
                clear BK309
                clear HB
                have HO_9 := n0_
                have HO_10 := n1_
                have HO340 := n2_
                have BK309 := n3_
                have HB := n4_
                clear n0_ n1_ n2_ n3_ n4_
                (try clear hb)
                (try clear hb2)
                (try clear hk)
                (try clear hi)
                (try clear ho0)
                obtain ⟨Ao77,co77,eo77⟩ := Kd.R_slice HO340.out
                (first | subst eo77 | (injection eo77 with f1_ f2_ f3_;have f4_ := f1_.symm;have f5_ := f3_.symm;clear f1_ f2_ f3_;subst f4_;subst f5_))
                refine hK.out _ _ ⟨(blk_cell BK309.out 0).trans rfl,(blk_cell BK309.out 1).trans rfl,(blk_cell BK309.out 2).trans rfl,(blk_cell BK309.out 3).trans rfl,(blk_cell BK309.out 4).trans rfl,(blk_cell BK309.out 5).trans rfl,(blk_cell BK309.out 6).trans rfl,(blk_cell BK309.out 7).trans rfl,(blk_cell BK309.out 8).trans rfl,(blk_cell BK309.out 9).trans rfl,(blk_cell BK309.out 10).trans rfl,((HB.out.cell (World.block_lt_of_cell? w _ hw337_0)).trans hw337_0),((HB.out.cell (World.block_lt_of_cell? w _ hw337_1)).trans hw337_1),((HB.out.cell (World.block_lt_of_cell? w _ hw337_2)).trans hw337_2),((HB.out.cell (World.block_lt_of_cell? w _ hw337_3)).trans hw337_3),((HB.out.cell (World.block_lt_of_cell? w _ hw337_4)).trans hw337_4),((HB.out.cell (World.block_lt_of_cell? w _ hw337_5)).trans hw337_5),((HB.out.cell (World.block_lt_of_cell? w _ hw337_6)).trans hw337_6),((HB.out.cell (World.block_lt_of_cell? w _ hw337_7)).trans hw337_7),((HB.out.cell (World.block_lt_of_cell? w _ hw337_8)).trans hw337_8)⟩ (fun hHeld => ?_)
                clear hK K
                refine norm_ (a' := ?_) ?_ ?_
                rotate_left
                ·show Act.put _ (some 168) _ = _
                 simp only [Act.put,List.setIfInBounds_toArray,List.set_cons_zero,List.set_cons_succ,i64_w,i32_w]
                 rfl
                refine one_ (i := 8) (N := some 170) #[true,true,true,true,true,true,true,true,true,false] rfl rfl (one_of HT_.out (by kernel_rfl)) (by decide) (fun K hK => ?_)
                refine goes_ Try.func20 (by kernel_rfl) rfl #[.slice Ao77 t338.length co77,.int .i64 x16_3] (by rfl) rfl rfl (by (try simp only [List.map_toArray,List.map_cons,List.map_nil]);first | done | rfl | (simp only [List.length_drop,List.length_take];rfl)) ?_
                with_reducible refine (bourneref37_Has.calls k4 _ _ t338 x16_3 false _ ?side1 ?side2 A68.out).mono ?_
                (case side1 => repeat (first | exact (Kd.R_reads' HO340.out).2.2 | (with_reducible refine Kd.C_alloc ?_ _) | (with_reducible refine Kd.C_drewN ?_ _) | (with_reducible refine Kd.C_drew ?_)))
                (case side2 => exact (Kd.R_reads' HO340.out).2.1)
                rintro e w' ⟨rfl,⟨nd,rfl⟩⟩
                refine ⟨_,rfl,?_⟩
                refine hK.out _ _ ⟨(blk_cell BK309.out 0).trans rfl,(blk_cell BK309.out 1).trans rfl,(blk_cell BK309.out 2).trans rfl,(blk_cell BK309.out 3).trans rfl,(blk_cell BK309.out 4).trans rfl,(blk_cell BK309.out 5).trans rfl,(blk_cell BK309.out 6).trans rfl,(blk_cell BK309.out 7).trans rfl,(blk_cell BK309.out 8).trans rfl,(blk_cell BK309.out 9).trans rfl,(blk_cell BK309.out 10).trans rfl,((HB.out.cell (World.block_lt_of_cell? w _ hw337_0)).trans hw337_0),((HB.out.cell (World.block_lt_of_cell? w _ hw337_1)).trans hw337_1),((HB.out.cell (World.block_lt_of_cell? w _ hw337_2)).trans hw337_2),((HB.out.cell (World.block_lt_of_cell? w _ hw337_3)).trans hw337_3),((HB.out.cell (World.block_lt_of_cell? w _ hw337_4)).trans hw337_4),((HB.out.cell (World.block_lt_of_cell? w _ hw337_5)).trans hw337_5),((HB.out.cell (World.block_lt_of_cell? w _ hw337_6)).trans hw337_6),((HB.out.cell (World.block_lt_of_cell? w _ hw337_7)).trans hw337_7),((HB.out.cell (World.block_lt_of_cell? w _ hw337_8)).trans hw337_8)⟩ (fun hHeld => ?_)
                clear hK K
                refine norm_ (a' := ?_) ?_ ?_
                rotate_left
                ·show Act.put _ (some 170) _ = _
                 simp only [Act.put,List.setIfInBounds_toArray,List.set_cons_zero,List.set_cons_succ,i64_w,i32_w]
                 rfl
                refine pure_ (i := 9) (N := some 19) (v := ?_) (a' := ?_) #[true,true,true,true,true,true,true,true,true,true] rfl rfl (any_of HT_.out (by kernel_rfl)) (fun _ _ _ h => h) (Or.inl ⟨by rfl,?_⟩) ?_ ?_
                rotate_left
                ·intro w'
                 go_simp
                 with_reducible rfl
                rotate_left
                ·simp only [Act.put,List.setIfInBounds_toArray,List.set_cons_zero,List.set_cons_succ,i64_w,i32_w]
                 rfl
                refine done_ (done_of HT_.out (by kernel_rfl)) ?_
                try go_wp2
                go_roundg k4
                case measure => have := HJ7.out;have := HK2.out;have := HK3.out;have := HK4.out;omega
                case rel => exact ⟨(x17_4),(wrap64 (x18_4 + 1)),(by first | rfl | (simp;done) | (simp [*];done)),(by first | rfl | (simp;done) | (simp [*];done)),H',⟨by have := HJ7.out;have := HK2.out;have := HK3.out;have := HK4.out;omega⟩,⟨by (with_reducible repeat (first | apply Kd.R_alloc | apply Kd.R_drewN | apply Kd.R_drew));exact HO_9.out⟩,⟨by (with_reducible repeat (first | apply Kd.R_alloc | apply Kd.R_drewN | apply Kd.R_drew));exact Kd.R_mono HO_10.out (fun _ hk => trivial)⟩,⟨by (with_reducible repeat (first | refine blk_drewN ?_ _ | refine blk_drew ?_ | refine blk_alloc ?_ _));exact BK309.out⟩,⟨by repeat (first | (with_reducible first | exact HB.out | apply below_alloc | apply pw_below_drewN | apply below_drew1 | refine below_set ?_ GE309.out) | exact HB.out)⟩⟩
              ·rw [if_neg c66] at H
               exact absurd H (by simp)
             ·rw [if_neg c65] at H
              have c65b0 : decide (x18_4 < (l1.length : Int)) = false := decide_eq_false c65
              clear c65
              by_cases c78 : 0 ≤ x16_3
              ·rw [if_pos c78] at H
               have c78b0 : decide (0 ≤ x16_3) = true := decide_eq_true c78
               clear c78
               by_cases c79 : x16_3 < (t315.length : Int)
               ·rw [if_pos c79] at H
                have c79b0 : decide (x16_3 < (t315.length : Int)) = true := decide_eq_true c79
                clear c79
                by_cases c80 : x17_4 = (rd t315 x16_3)
                ·rw [if_pos c80] at H
                 have c80b0 : (x17_4 == (rd t315 x16_3)) = true := beq_iff_eq.mpr c80
                 have c80b1 : (x17_4 != (rd t315 x16_3)) = false := bne_eq_false_iff_eq.mpr c80
                 clear c80
                 by_cases c81 : (rd t315 x16_3) < 0
                 ·rw [if_pos c81] at H
                  exact absurd H (by simp)
                 ·rw [if_neg c81] at H
                  have c81b0 : decide ((rd t315 x16_3) < 0) = false := decide_eq_false c81
                  clear c81
                  have H' := Aside0.mk H
                  clear H
                  obtain ⟨Ao82,co82,eo82⟩ := Kd.R_slice HO_10.out
                  subst eo82
                  have p335 : 0 ≤ (x16_3 : Int) := of_decide_eq_true (by first | (with_reducible assumption) | assumption)
                  have q335 : x16_3 < (t315.length : Int) := of_decide_eq_true (by first | (with_reducible assumption) | assumption)
                  obtain ⟨ad335,e335,hx335_0⟩ := Kd.at_int (Kd.R_reads' HO_10.out).2.2 x16_3 p335 q335
                  cases e335
                  replace p335 := eq_true p335
                  replace q335 := eq_true q335
                  have p336 : 0 ≤ (x16_3 : Int) := of_decide_eq_true (by first | (with_reducible assumption) | assumption)
                  have q336 : x16_3 < (t315.length : Int) := of_decide_eq_true (by first | (with_reducible assumption) | assumption)
                  obtain ⟨ad336,e336,hx336_0⟩ := Kd.at_int (Kd.R_reads' HO_10.out).2.2 x16_3 p336 q336
                  obtain rfl : ad335 = ad336 := (by injection e336)
                  replace p336 := eq_true p336
                  replace q336 := eq_true q336
                  go_wp2
                  go_roundg k4
                  case measure => have := HJ7.out;have := HK2.out;have := HK3.out;have := HK4.out;omega
                  case rel => exact ⟨(wrap64 (x16_3 + 1)),(by first | rfl | (simp;done) | (simp [*];done)),H',⟨by have := HJ7.out;have := HK2.out;have := HK3.out;have := HK4.out;omega⟩,⟨by (with_reducible repeat (first | apply Kd.R_alloc | apply Kd.R_drewN | apply Kd.R_drew));exact HO_9.out⟩,⟨by (with_reducible repeat (first | apply Kd.R_alloc | apply Kd.R_drewN | apply Kd.R_drew));exact HO_10.out⟩,⟨by (with_reducible repeat (first | refine blk_drewN ?_ _ | refine blk_drew ?_ | refine blk_alloc ?_ _));exact BK309.out⟩,⟨by repeat (first | (with_reducible first | exact HB.out | apply below_alloc | apply pw_below_drewN | apply below_drew1 | refine below_set ?_ GE309.out) | exact HB.out)⟩⟩
                ·rw [if_neg c80] at H
                 exact absurd H (by simp)
               ·rw [if_neg c79] at H
                exact absurd H (by simp)
              ·rw [if_neg c78] at H
               exact absurd H (by simp)
          ·rw [if_neg c61] at H
           have c61b0 : decide (x16_3 < (l0_3.length : Int)) = false := decide_eq_false c61
           clear c61
           obtain rfl := Option.some.inj H
           have hcz83_0 : wr.cell? ⟨gb309,0,none⟩ = some (.string a0_0) := (blk_cell BK309.out 0).trans rfl
           have hcz83_1 : wr.cell? ⟨gb309,1,none⟩ = some (.slice A0_1 l0_1.length c0_1) := (blk_cell BK309.out 1).trans rfl
           have hcz83_2 : wr.cell? ⟨gb309,2,none⟩ = some (.int .i64 a0_2) := (blk_cell BK309.out 2).trans rfl
           have hcz83_3 : wr.cell? ⟨gb309,3,none⟩ = some (.slice A0_3 l0_3.length c0_3) := (blk_cell BK309.out 3).trans rfl
           have hcz83_4 : wr.cell? ⟨gb309,4,none⟩ = some (.slice A0_4 l0_4.length c0_4) := (blk_cell BK309.out 4).trans rfl
           have hcz83_5 : wr.cell? ⟨gb309,5,none⟩ = some (.slice A0_5 l0_5.length c0_5) := (blk_cell BK309.out 5).trans rfl
           have hcz83_6 : wr.cell? ⟨gb309,6,none⟩ = some (.slice A0_6 l0_6.length c0_6) := (blk_cell BK309.out 6).trans rfl
           have hcz83_7 : wr.cell? ⟨gb309,7,none⟩ = some (.slice A0_7 l0_7.length c0_7) := (blk_cell BK309.out 7).trans rfl
           have hcz83_8 : wr.cell? ⟨gb309,8,none⟩ = some (.slice A0_8 l0_8.length c0_8) := (blk_cell BK309.out 8).trans rfl
           have hcz83_9 : wr.cell? ⟨gb309,9,none⟩ = some (.slice A0_9 l0_9.length c0_9) := (blk_cell BK309.out 9).trans rfl
           have hcz83_10 : wr.cell? ⟨gb309,10,none⟩ = some (.int .i64 a0_10) := (blk_cell BK309.out 10).trans rfl
           have hfz83_0 := blk_frozen BK309.out 0
           have hfz83_1 := blk_frozen BK309.out 1
           have hfz83_2 := blk_frozen BK309.out 2
           have hfz83_3 := blk_frozen BK309.out 3
           have hfz83_4 := blk_frozen BK309.out 4
           have hfz83_5 := blk_frozen BK309.out 5
           have hfz83_6 := blk_frozen BK309.out 6
           have hfz83_7 := blk_frozen BK309.out 7
           have hfz83_8 := blk_frozen BK309.out 8
           have hfz83_9 := blk_frozen BK309.out 9
           have hfz83_10 := blk_frozen BK309.out 10
           go_wp2
           go_ret
           exact ⟨by first | rfl | (simp [errW_none,errW_some] <;> rfl) | (simp [*,errW_none,errW_some] <;> rfl),by repeat (first | (with_reducible first | exact HB.out | apply below_alloc | apply pw_below_drewN | apply below_drew1 | refine below_set ?_ GE309.out) | exact HB.out)⟩
 ·replace c6 := Bool.eq_false_iff.mpr c6
  subst c6
  have H1 : (some t310) = some r := by rw [if_neg (show ¬ (false = true) by decide)] at H;exact H
  clear H
  have H := H1
  clear H1
  obtain rfl := Option.some.inj H
  go_enter Try.func4,Try.ntmps4
  go_wp2_with (first | ((with_reducible refine gate_dst (N := 3) rfl ?_);(try (refine gate_guard (by rfl) ?_;dsimp only));refine box_event ?hg (N := 3) ?hd (cs := #[.string a0_0,.slice A0_1 l0_1.length c0_1,.int .i64 a0_2,.slice A0_3 l0_3.length c0_3,.slice A0_4 l0_4.length c0_4,.slice A0_5 l0_5.length c0_5,.slice A0_6 l0_6.length c0_6,.slice A0_7 l0_7.length c0_7,.slice A0_8 l0_8.length c0_8,.slice A0_9 l0_9.length c0_9,.int .i64 a0_10]) (t := 31) ?hr ?_;(case hd => rfl);(case hg => rfl);(case hr => first | (go_simp;done) | (go_simp;rfl));intro gb309 hg w84 hbox hb;have n0_ := Aside0.mk (below_step (by repeat (first | (with_reducible first | exact HB.out | apply below_alloc | apply pw_below_drewN | apply below_drew1) | exact HB.out)) hb);have n1_ := Aside0.mk (hbox);have n2_ := Aside0.mk ((by rw [hg];exact (below_size (by repeat (first | (with_reducible first | exact HB.out | apply below_alloc | apply pw_below_drewN | apply below_drew1) | exact HB.out))) : w.heap.size ≤ gb309));have n3_ := Aside0.mk ((by rw [hg];exact (below_size (by repeat (first | (with_reducible first | exact HB.out | apply below_alloc | apply pw_below_drewN | apply below_drew1) | exact HB.out))) : w.heap.size ≤ gb309));clear HB;have HB := n0_;have BK309 := n1_;have GW309 := n2_;have GE309 := n3_;clear n0_ n1_ n2_ n3_;clear hb hbox hg) | ((with_reducible refine gate_callee (f := 8) rfl ?_);refine goesL_ (some 20) rfl rfl Try.func8 (by kernel_rfl) rfl #[] rfl (by (try simp only [List.map_toArray,List.map_cons,List.map_nil]);first | done | rfl | (simp only [List.length_drop,List.length_take];rfl)) ?_;(with_reducible refine (bournelaw37_small.calls k t310 _ A4.out).mono ?_);rintro e w85 ⟨rfl,hb⟩;refine ⟨_,rfl,?_⟩;have n0_ := Aside0.mk (blk_below (g := gb309) (o := .cells #[.string a0_0,.slice A0_1 l0_1.length c0_1,.int .i64 a0_2,.slice A0_3 l0_3.length c0_3,.slice A0_4 l0_4.length c0_4,.slice A0_5 l0_5.length c0_5,.slice A0_6 l0_6.length c0_6,.slice A0_7 l0_7.length c0_7,.slice A0_8 l0_8.length c0_8,.slice A0_9 l0_9.length c0_9,.int .i64 a0_10] 31 (0,0)) (by (with_reducible repeat (first | refine blk_drewN ?_ _ | refine blk_drew ?_ | refine blk_alloc ?_ _));exact BK309.out) hb);have n1_ := Aside0.mk (below_step (by repeat (first | (with_reducible first | exact HB.out | apply below_alloc | apply pw_below_drewN | apply below_drew1 | refine below_set ?_ GE309.out) | exact HB.out)) hb);clear BK309;clear HB;have BK309 := n0_;have HB := n1_;clear n0_ n1_;(try clear hb);(try clear hb2);(try clear hk);(try clear hi);have hcz86_0 : w85.cell? ⟨gb309,0,none⟩ = some (.string a0_0) := (blk_cell BK309.out 0).trans rfl;have hcz86_1 : w85.cell? ⟨gb309,1,none⟩ = some (.slice A0_1 l0_1.length c0_1) := (blk_cell BK309.out 1).trans rfl;have hcz86_2 : w85.cell? ⟨gb309,2,none⟩ = some (.int .i64 a0_2) := (blk_cell BK309.out 2).trans rfl;have hcz86_3 : w85.cell? ⟨gb309,3,none⟩ = some (.slice A0_3 l0_3.length c0_3) := (blk_cell BK309.out 3).trans rfl;have hcz86_4 : w85.cell? ⟨gb309,4,none⟩ = some (.slice A0_4 l0_4.length c0_4) := (blk_cell BK309.out 4).trans rfl;have hcz86_5 : w85.cell? ⟨gb309,5,none⟩ = some (.slice A0_5 l0_5.length c0_5) := (blk_cell BK309.out 5).trans rfl;have hcz86_6 : w85.cell? ⟨gb309,6,none⟩ = some (.slice A0_6 l0_6.length c0_6) := (blk_cell BK309.out 6).trans rfl;have hcz86_7 : w85.cell? ⟨gb309,7,none⟩ = some (.slice A0_7 l0_7.length c0_7) := (blk_cell BK309.out 7).trans rfl;have hcz86_8 : w85.cell? ⟨gb309,8,none⟩ = some (.slice A0_8 l0_8.length c0_8) := (blk_cell BK309.out 8).trans rfl;have hcz86_9 : w85.cell? ⟨gb309,9,none⟩ = some (.slice A0_9 l0_9.length c0_9) := (blk_cell BK309.out 9).trans rfl;have hcz86_10 : w85.cell? ⟨gb309,10,none⟩ = some (.int .i64 a0_10) := (blk_cell BK309.out 10).trans rfl;have hfz86_0 := blk_frozen BK309.out 0;have hfz86_1 := blk_frozen BK309.out 1;have hfz86_2 := blk_frozen BK309.out 2;have hfz86_3 := blk_frozen BK309.out 3;have hfz86_4 := blk_frozen BK309.out 4;have hfz86_5 := blk_frozen BK309.out 5;have hfz86_6 := blk_frozen BK309.out 6;have hfz86_7 := blk_frozen BK309.out 7;have hfz86_8 := blk_frozen BK309.out 8;have hfz86_9 := blk_frozen BK309.out 9;have hfz86_10 := blk_frozen BK309.out 10) | ((with_reducible refine gate_callee (f := 9) rfl ?_);refine goesL_ (some 23) rfl rfl Try.func9 (by kernel_rfl) rfl #[.agg #[.string a0_0,.slice A0_1 l0_1.length c0_1,.int .i64 a0_2,.slice A0_3 l0_3.length c0_3,.slice A0_4 l0_4.length c0_4,.slice A0_5 l0_5.length c0_5,.slice A0_6 l0_6.length c0_6,.slice A0_7 l0_7.length c0_7,.slice A0_8 l0_8.length c0_8,.slice A0_9 l0_9.length c0_9,.int .i64 a0_10],.slice A1 l1.length c1,.slice none 0 0] rfl (by (try simp only [List.map_toArray,List.map_cons,List.map_nil]);first | done | rfl | (simp only [List.length_drop,List.length_take];rfl)) ?_;(refine (bournelaw37_few.calls a0_0 _ _ l0_1 a0_2 _ _ l0_3 _ _ l0_4 _ _ l0_5 _ _ l0_6 _ _ l0_7 _ _ l0_8 _ _ l0_9 a0_10 _ _ l1 _ _ ([] : List (S47)) false _ ?side1 ?side2 ?side3 ?side4 ?side5 ?side6 ?side7 ?side8 ?side9 ?side10 ?side11 ?side12 ?side13 ?side14 ?side15 ?side16 ?side17 ?side18 ?side19 ?side20 A5.out).mono ?_);(case side1 => repeat (first | exact (Kd.C_below HR0_1.out HB.out) | (with_reducible refine Kd.C_alloc ?_ _) | (with_reducible refine Kd.C_drewN ?_ _) | (with_reducible refine Kd.C_drew ?_)));(case side2 => exact HC0_1.out);(case side3 => repeat (first | exact (Kd.C_below HR0_3.out HB.out) | (with_reducible refine Kd.C_alloc ?_ _) | (with_reducible refine Kd.C_drewN ?_ _) | (with_reducible refine Kd.C_drew ?_)));(case side4 => exact HC0_3.out);(case side5 => repeat (first | exact (Kd.C_below HR0_4.out HB.out) | (with_reducible refine Kd.C_alloc ?_ _) | (with_reducible refine Kd.C_drewN ?_ _) | (with_reducible refine Kd.C_drew ?_)));(case side6 => exact HC0_4.out);(case side7 => repeat (first | exact (Kd.C_below HR0_5.out HB.out) | (with_reducible refine Kd.C_alloc ?_ _) | (with_reducible refine Kd.C_drewN ?_ _) | (with_reducible refine Kd.C_drew ?_)));(case side8 => exact HC0_5.out);(case side9 => repeat (first | exact (Kd.C_below HR0_6.out HB.out) | (with_reducible refine Kd.C_alloc ?_ _) | (with_reducible refine Kd.C_drewN ?_ _) | (with_reducible refine Kd.C_drew ?_)));(case side10 => exact HC0_6.out);(case side11 => repeat (first | exact (Kd.C_below HR0_7.out HB.out) | (with_reducible refine Kd.C_alloc ?_ _) | (with_reducible refine Kd.C_drewN ?_ _) | (with_reducible refine Kd.C_drew ?_)));(case side12 => exact HC0_7.out);(case side13 => repeat (first | exact (Kd.C_below HR0_8.out HB.out) | (with_reducible refine Kd.C_alloc ?_ _) | (with_reducible refine Kd.C_drewN ?_ _) | (with_reducible refine Kd.C_drew ?_)));(case side14 => exact HC0_8.out);(case side15 => repeat (first | exact (Kd.C_below HR0_9.out HB.out) | (with_reducible refine Kd.C_alloc ?_ _) | (with_reducible refine Kd.C_drewN ?_ _) | (with_reducible refine Kd.C_drew ?_)));(case side16 => exact HC0_9.out);(case side17 => repeat (first | exact (Kd.C_below HR1.out HB.out) | (with_reducible refine Kd.C_alloc ?_ _) | (with_reducible refine Kd.C_drewN ?_ _) | (with_reducible refine Kd.C_drew ?_)));(case side18 => exact HC1.out);(case side19 => exact Kd.C_nil _ _);(case side20 => exact Nat.le_refl _);rintro e w87 ⟨rfl,hb⟩;refine ⟨_,rfl,?_⟩;have n0_ := Aside0.mk (blk_below (g := gb309) (o := .cells #[.string a0_0,.slice A0_1 l0_1.length c0_1,.int .i64 a0_2,.slice A0_3 l0_3.length c0_3,.slice A0_4 l0_4.length c0_4,.slice A0_5 l0_5.length c0_5,.slice A0_6 l0_6.length c0_6,.slice A0_7 l0_7.length c0_7,.slice A0_8 l0_8.length c0_8,.slice A0_9 l0_9.length c0_9,.int .i64 a0_10] 31 (0,0)) (by (with_reducible repeat (first | refine blk_drewN ?_ _ | refine blk_drew ?_ | refine blk_alloc ?_ _));exact BK309.out) hb);have n1_ := Aside0.mk (below_step (by repeat (first | (with_reducible first | exact HB.out | apply below_alloc | apply pw_below_drewN | apply below_drew1 | refine below_set ?_ GE309.out) | exact HB.out)) hb);clear BK309;clear HB;have BK309 := n0_;have HB := n1_;clear n0_ n1_;(try clear hb);(try clear hb2);(try clear hk);(try clear hi)))
  go_ret
  exact ⟨by first | rfl | (simp [errW_none,errW_some] <;> rfl) | (simp [*,errW_none,errW_some] <;> rfl),by repeat (first | (with_reducible first | exact HB.out | apply below_alloc | apply pw_below_drewN | apply below_drew1 | refine below_set ?_ GE309.out) | exact HB.out)⟩

end Go.Proofs.Ythmbleephognnaa.Q
