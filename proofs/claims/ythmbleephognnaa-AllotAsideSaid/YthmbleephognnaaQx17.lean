-- written by xprint.py (this session's program over the kit's print program)
import Derived.Test.YthmbleephognnaaQx0
import Derived.Test.YthmbleephognnaaQx1
import Derived.Test.YthmbleephognnaaQx2
import Derived.Test.YthmbleephognnaaQx3
import Derived.Test.YthmbleephognnaaQx8
import Derived.Test.YthmbleephognnaaQx9
namespace Go.Proofs.Ythmbleephognnaa.Q
open Go.RowKit Go.Proofs.YthmbleephognnaaW.PrintWords Go.Proofs.YthmbleephognnaaW.PrintLast Go.Proofs.YthmbleephognnaaW.PrintMore
attribute [local go_sem] max2_int min2_int max_two min_two max_three min_three max_four min_four -- for this text's walks alone
set_option linter.unusedVariables false
set_option linter.unusedSimpArgs false

attribute [local go_sem high] eqA47
/-! ### bournelaw37_AllotAside: function 6 -/
mutual
def bournelaw37_AllotAside.j0 : Nat → List (S45) → List Int → List Bool → Bool → Bool → ByteArray → List ByteArray → Int → List (S58) → List (S98) → List (S100) → List (S102) → List (S104) → List (S106) → List Int → Int → Option (Bool)
 | 0,_,_,_,_,_,_,_,_,_,_,_,_,_,_,_,_ => none
 | k + 1,x1,x2,x3,x9,x35,x381000,x381001,x381002,x381003,x381004,x381005,x381006,x381007,x381008,x381009,x381010 => if x35 = true then (some x9) else (bournelaw37_AllotAside.l0 k x1 x2 x3 x9 ([] : List (S45)) ([] : List Int) 0 x381000 x381001 x381002 x381003 x381004 x381005 x381006 x381007 x381008 x381009 x381010)
def bournelaw37_AllotAside.l0 : Nat → List (S45) → List Int → List Bool → Bool → List (S45) → List Int → Int → ByteArray → List ByteArray → Int → List (S58) → List (S98) → List (S100) → List (S102) → List (S104) → List (S106) → List Int → Int → Option (Bool)
 | 0,_,_,_,_,_,_,_,_,_,_,_,_,_,_,_,_,_,_ => none
 | k + 1,x1,x2,x3,x9,x11,x12,x13,x381000,x381001,x381002,x381003,x381004,x381005,x381006,x381007,x381008,x381009,x381010 => if x13 < (x1.length : Int) then (if 0 ≤ x13 then ((allot_Reach.f k x381000 x381001 x381002 x381003 x381004 x381005 x381006 x381007 x381008 x381009 x381010 ((rd_T45 x1 x13).f3)).bind fun t384 => (bournelaw37_AllotAside.l1 k x1 x2 x3 x9 x11 x12 x13 t384 0 0 x381000 x381001 x381002 x381003 x381004 x381005 x381006 x381007 x381008 x381009 x381010)) else (none)) else ((allot_Day.f k x381000 x381001 x381002 x381003 x381004 x381005 x381006 x381007 x381008 x381009 x381010 x1 x2).bind fun bt396 => ((allot_Day.f k x381000 x381001 x381002 x381003 x381004 x381005 x381006 x381007 x381008 x381009 x381010 x11 x2).bind fun bt402 => (if (bt402.1.length : Int) = (x11.length : Int) then (bournelaw37_AllotAside.j4 k x9 x11 x12 bt396.1 bt402.1 ((bt396.1.length : Int) != (x1.length : Int))) else (none))))
def bournelaw37_AllotAside.l1 : Nat → List (S45) → List Int → List Bool → Bool → List (S45) → List Int → Int → List Int → Int → Int → ByteArray → List ByteArray → Int → List (S58) → List (S98) → List (S100) → List (S102) → List (S104) → List (S106) → List Int → Int → Option (Bool)
 | 0,_,_,_,_,_,_,_,_,_,_,_,_,_,_,_,_,_,_,_,_,_ => none
 | k + 1,x1,x2,x3,x9,x11,x12,x13,x14,x15,x16,x381000,x381001,x381002,x381003,x381004,x381005,x381006,x381007,x381008,x381009,x381010 => if x16 < (x14.length : Int) then (if 0 ≤ x16 then (if 0 ≤ (rd x14 x16) then (if (rd x14 x16) < (x3.length : Int) then (if rdOf false x3 (rd x14 x16) = true then (bournelaw37_AllotAside.l1 k x1 x2 x3 x9 x11 x12 x13 x14 (wrap64 (x15 + 1)) (wrap64 (x16 + 1)) x381000 x381001 x381002 x381003 x381004 x381005 x381006 x381007 x381008 x381009 x381010) else (bournelaw37_AllotAside.l1 k x1 x2 x3 x9 x11 x12 x13 x14 x15 (wrap64 (x16 + 1)) x381000 x381001 x381002 x381003 x381004 x381005 x381006 x381007 x381008 x381009 x381010)) else (none)) else (none)) else (none)) else (if x15 = 0 then (bournelaw37_AllotAside.j3 k x1 x2 x3 x9 x11 x12 x13 x15 false x381000 x381001 x381002 x381003 x381004 x381005 x381006 x381007 x381008 x381009 x381010) else (bournelaw37_AllotAside.j3 k x1 x2 x3 x9 x11 x12 x13 x15 (x15 != (x14.length : Int)) x381000 x381001 x381002 x381003 x381004 x381005 x381006 x381007 x381008 x381009 x381010))
def bournelaw37_AllotAside.j3 : Nat → List (S45) → List Int → List Bool → Bool → List (S45) → List Int → Int → Int → Bool → ByteArray → List ByteArray → Int → List (S58) → List (S98) → List (S100) → List (S102) → List (S104) → List (S106) → List Int → Int → Option (Bool)
 | 0,_,_,_,_,_,_,_,_,_,_,_,_,_,_,_,_,_,_,_,_ => none
 | k + 1,x1,x2,x3,x9,x11,x12,x13,x15,x72,x381000,x381001,x381002,x381003,x381004,x381005,x381006,x381007,x381008,x381009,x381010 => if x72 = true then (some x9) else (if x15 > 0 then (if 0 ≤ x13 then (if x13 < (x1.length : Int) then (if x11.length < 1954687338268 then (if x12.length < 17592186044416 then (bournelaw37_AllotAside.l0 k x1 x2 x3 x9 (x11 ++ [(⟨(rd_T45 x1 x13).f0,(rd_T45 x1 x13).f1,(rd_T45 x1 x13).f2,(rd_T45 x1 x13).f3,(rd_T45 x1 x13).f4,(rd_T45 x1 x13).f5,(rd_T45 x1 x13).f6,(rd_T45 x1 x13).f7,(rd_T45 x1 x13).f8⟩ : S45)]) (x12 ++ [x13]) (wrap64 (x13 + 1)) x381000 x381001 x381002 x381003 x381004 x381005 x381006 x381007 x381008 x381009 x381010) else (none)) else (none)) else (none)) else (none)) else (bournelaw37_AllotAside.l0 k x1 x2 x3 x9 x11 x12 (wrap64 (x13 + 1)) x381000 x381001 x381002 x381003 x381004 x381005 x381006 x381007 x381008 x381009 x381010))
def bournelaw37_AllotAside.j4 : Nat → Bool → List (S45) → List Int → List (S47) → List (S47) → Bool → Option (Bool)
 | 0,_,_,_,_,_,_ => none
 | k + 1,x9,x11,x12,x17,x19,x112 => if x112 = true then (none) else (bournelaw37_AllotAside.l2 k x9 x11 x12 x17 x19 0)
def bournelaw37_AllotAside.l2 : Nat → Bool → List (S45) → List Int → List (S47) → List (S47) → Int → Option (Bool)
 | 0,_,_,_,_,_,_ => none
 | k + 1,x9,x11,x12,x17,x19,x21 => if x21 < (x11.length : Int) then (if 0 ≤ x21 then (if x21 < (x19.length : Int) then (if x21 < (x12.length : Int) then (if 0 ≤ (rd x12 x21) then (if (rd x12 x21) < (x17.length : Int) then (if (!(((rd_T47 x19 x21).f0) == ((rd_T47 x17 (rd x12 x21)).f0)) || (!(((rd_T47 x19 x21).f1) == ((rd_T47 x17 (rd x12 x21)).f1)))) = true then (none) else (bournelaw37_AllotAside.l2 k x9 x11 x12 x17 x19 (wrap64 (x21 + 1)))) else (none)) else (none)) else (none)) else (none)) else (none)) else (some x9)
end
def bournelaw37_AllotAside.f (k : Nat) (a0_0 : ByteArray) (l0_1 : List ByteArray) (a0_2 : Int) (l0_3 : List (S58)) (l0_4 : List (S98)) (l0_5 : List (S100)) (l0_6 : List (S102)) (l0_7 : List (S104)) (l0_8 : List (S106)) (l0_9 : List Int) (a0_10 : Int) (l1 : List (S45)) (l2 : List Int) (l3 : List Bool) : Option (Bool) := (bournelaw37_small.f k).bind fun t381 => ((bournelaw37_few.f a0_0 l0_1 a0_2 l0_3 l0_4 l0_5 l0_6 l0_7 l0_8 l0_9 a0_10 l1 ([] : List (S47))).bind fun t382 => (if t382 = true then (bournelaw37_AllotAside.j0 k l1 l2 l3 t381 (decide ((l3.length : Int) < (l0_3.length : Int))) a0_0 l0_1 a0_2 l0_3 l0_4 l0_5 l0_6 l0_7 l0_8 l0_9 a0_10) else (bournelaw37_AllotAside.j0 k l1 l2 l3 t381 true a0_0 l0_1 a0_2 l0_3 l0_4 l0_5 l0_6 l0_7 l0_8 l0_9 a0_10)))
def bournelaw37_AllotAside.T10 : Bool × List (List Nat × List Nat) := (true,[([],[]),([],[]),([],[]),([1,2],[1,2]),([3],[3]),([4],[4]),([0,5],[0,5]),([6,6,0,1,2,3,4,5,6],[6])])
def bournelaw37_AllotAside.B10 : List Nat := [0,0,0,6,14,30,63,127]
theorem bournelaw37_AllotAside.tab10 : rtab .any (opsOf Try.f6 10) = bournelaw37_AllotAside.T10 := by kernel_rfl
theorem bournelaw37_AllotAside.bits10 : waitsOk bournelaw37_AllotAside.T10.2 bournelaw37_AllotAside.B10 = true := by kernel_rfl
def bournelaw37_AllotAside.T29 : Bool × List (List Nat × List Nat) := (true,[([],[]),([],[]),([0,1],[0,1]),([2],[2]),([],[]),([],[]),([],[]),([5,6],[5,6]),([7],[7]),([4,8],[4,8]),([9],[9]),([3,10],[3,10])])
def bournelaw37_AllotAside.B29 : List Nat := [0,0,3,7,0,0,0,96,224,496,1008,2047]
theorem bournelaw37_AllotAside.tab29 : rtab .any (opsOf Try.f6 29) = bournelaw37_AllotAside.T29 := by kernel_rfl
theorem bournelaw37_AllotAside.bits29 : waitsOk bournelaw37_AllotAside.T29.2 bournelaw37_AllotAside.B29 = true := by kernel_rfl
set_option maxHeartbeats 8000000 in
set_option maxRecDepth 100000 in
theorem bournelaw37_AllotAside.calls (k : Nat) (a0_0 : ByteArray) (A0_1 : Option Addr) (c0_1 : Nat) (l0_1 : List ByteArray) (a0_2 : Int) (A0_3 : Option Addr) (c0_3 : Nat) (l0_3 : List (S58)) (A0_4 : Option Addr) (c0_4 : Nat) (l0_4 : List (S98)) (A0_5 : Option Addr) (c0_5 : Nat) (l0_5 : List (S100)) (A0_6 : Option Addr) (c0_6 : Nat) (l0_6 : List (S102)) (A0_7 : Option Addr) (c0_7 : Nat) (l0_7 : List (S104)) (A0_8 : Option Addr) (c0_8 : Nat) (l0_8 : List (S106)) (A0_9 : Option Addr) (c0_9 : Nat) (l0_9 : List Int) (a0_10 : Int) (A1 : Option Addr) (c1 : Nat) (l1 : List (S45)) (A2 : Option Addr) (c2 : Nat) (l2 : List Int) (A3 : Option Addr) (c3 : Nat) (l3 : List Bool) (r : Bool) (w : World) (hr0_1 : Kd.C Kd.string w A0_1 l0_1.length l0_1) (hc0_1 : l0_1.length ≤ c0_1) (hr0_3 : Kd.C k58 w A0_3 l0_3.length l0_3) (hc0_3 : l0_3.length ≤ c0_3) (hr0_4 : Kd.C k98 w A0_4 l0_4.length l0_4) (hc0_4 : l0_4.length ≤ c0_4) (hr0_5 : Kd.C k100 w A0_5 l0_5.length l0_5) (hc0_5 : l0_5.length ≤ c0_5) (hr0_6 : Kd.C k102 w A0_6 l0_6.length l0_6) (hc0_6 : l0_6.length ≤ c0_6) (hr0_7 : Kd.C k104 w A0_7 l0_7.length l0_7) (hc0_7 : l0_7.length ≤ c0_7) (hr0_8 : Kd.C k106 w A0_8 l0_8.length l0_8) (hc0_8 : l0_8.length ≤ c0_8) (hr0_9 : Kd.C (Kd.int .i64) w A0_9 l0_9.length l0_9) (hc0_9 : l0_9.length ≤ c0_9) (hr1 : Kd.C k45 w A1 l1.length l1) (hc1 : l1.length ≤ c1) (hr2 : Kd.C (Kd.int .i64) w A2 l2.length l2) (hc2 : l2.length ≤ c2) (hr3 : Kd.C Kd.bool w A3 l3.length l3) (hc3 : l3.length ≤ c3) (h : bournelaw37_AllotAside.f k a0_0 l0_1 a0_2 l0_3 l0_4 l0_5 l0_6 l0_7 l0_8 l0_9 a0_10 l1 l2 l3 = some r) :
  Calls Try.prog 6 #[.agg #[.string a0_0,.slice A0_1 l0_1.length c0_1,.int .i64 a0_2,.slice A0_3 l0_3.length c0_3,.slice A0_4 l0_4.length c0_4,.slice A0_5 l0_5.length c0_5,.slice A0_6 l0_6.length c0_6,.slice A0_7 l0_7.length c0_7,.slice A0_8 l0_8.length c0_8,.slice A0_9 l0_9.length c0_9,.int .i64 a0_10],.slice A1 l1.length c1,.slice A2 l2.length c2,.slice A3 l3.length c3] w fun e w' => e = .returned (.bool r) ∧ Below w.heap.size w w' := by
 have hu31 := Try.underlying31
 have hu45 := Try.underlying45
 have hu47 := Try.underlying47
 have HR0_1 := Aside0.mk hr0_1
 have HC0_1 := Aside0.mk hc0_1
 clear hr0_1 hc0_1
 have HR0_3 := Aside0.mk hr0_3
 have HC0_3 := Aside0.mk hc0_3
 clear hr0_3 hc0_3
 have HR0_4 := Aside0.mk hr0_4
 have HC0_4 := Aside0.mk hc0_4
 clear hr0_4 hc0_4
 have HR0_5 := Aside0.mk hr0_5
 have HC0_5 := Aside0.mk hc0_5
 clear hr0_5 hc0_5
 have HR0_6 := Aside0.mk hr0_6
 have HC0_6 := Aside0.mk hc0_6
 clear hr0_6 hc0_6
 have HR0_7 := Aside0.mk hr0_7
 have HC0_7 := Aside0.mk hc0_7
 clear hr0_7 hc0_7
 have HR0_8 := Aside0.mk hr0_8
 have HC0_8 := Aside0.mk hc0_8
 clear hr0_8 hc0_8
 have HR0_9 := Aside0.mk hr0_9
 have HC0_9 := Aside0.mk hc0_9
 clear hr0_9 hc0_9
 have HR1 := Aside0.mk hr1
 have HC1 := Aside0.mk hc1
 clear hr1 hc1
 have HR2 := Aside0.mk hr2
 have HC2 := Aside0.mk hc2
 clear hr2 hc2
 have HR3 := Aside0.mk hr3
 have HC3 := Aside0.mk hc3
 clear hr3 hc3
 have HB := Aside0.mk (Below.refl w.heap.size w)
 have H : ((bournelaw37_small.f k).bind fun t381 => ((bournelaw37_few.f a0_0 l0_1 a0_2 l0_3 l0_4 l0_5 l0_6 l0_7 l0_8 l0_9 a0_10 l1 ([] : List (S47))).bind fun t382 => (if t382 = true then (bournelaw37_AllotAside.j0 k l1 l2 l3 t381 (decide ((l3.length : Int) < (l0_3.length : Int))) a0_0 l0_1 a0_2 l0_3 l0_4 l0_5 l0_6 l0_7 l0_8 l0_9 a0_10) else (bournelaw37_AllotAside.j0 k l1 l2 l3 t381 true a0_0 l0_1 a0_2 l0_3 l0_4 l0_5 l0_6 l0_7 l0_8 l0_9 a0_10)))) = some r := h
 clear h
 replace H := Option.bind_eq_some_iff.mp H
 obtain ⟨t381,A50,H⟩ := H
 replace H : ((bournelaw37_few.f a0_0 l0_1 a0_2 l0_3 l0_4 l0_5 l0_6 l0_7 l0_8 l0_9 a0_10 l1 ([] : List (S47))).bind fun t382 => (if t382 = true then (bournelaw37_AllotAside.j0 k l1 l2 l3 t381 (decide ((l3.length : Int) < (l0_3.length : Int))) a0_0 l0_1 a0_2 l0_3 l0_4 l0_5 l0_6 l0_7 l0_8 l0_9 a0_10) else (bournelaw37_AllotAside.j0 k l1 l2 l3 t381 true a0_0 l0_1 a0_2 l0_3 l0_4 l0_5 l0_6 l0_7 l0_8 l0_9 a0_10))) = some r := H
 have A5 := Aside0.mk A50
 clear A50
 replace H := Option.bind_eq_some_iff.mp H
 obtain ⟨t382,A60,H⟩ := H
 replace H : (if t382 = true then (bournelaw37_AllotAside.j0 k l1 l2 l3 t381 (decide ((l3.length : Int) < (l0_3.length : Int))) a0_0 l0_1 a0_2 l0_3 l0_4 l0_5 l0_6 l0_7 l0_8 l0_9 a0_10) else (bournelaw37_AllotAside.j0 k l1 l2 l3 t381 true a0_0 l0_1 a0_2 l0_3 l0_4 l0_5 l0_6 l0_7 l0_8 l0_9 a0_10)) = some r := H
 have A6 := Aside0.mk A60
 clear A60
 have HC7 := Aside0.mk H
 clear H
 go_enter Try.func6,Try.ntmps6
 go_upto_region 3 with (first | ((with_reducible refine gate_dst (N := 4) rfl ?_);(try (refine gate_guard (by rfl) ?_;dsimp only));refine box_event ?hg (N := 4) ?hd (cs := #[.string a0_0,.slice A0_1 l0_1.length c0_1,.int .i64 a0_2,.slice A0_3 l0_3.length c0_3,.slice A0_4 l0_4.length c0_4,.slice A0_5 l0_5.length c0_5,.slice A0_6 l0_6.length c0_6,.slice A0_7 l0_7.length c0_7,.slice A0_8 l0_8.length c0_8,.slice A0_9 l0_9.length c0_9,.int .i64 a0_10]) (t := 31) ?hr ?_;(case hd => rfl);(case hg => rfl);(case hr => first | (go_simp;done) | (go_simp;rfl));intro gb380 hg w8 hbox hb;have n0_ := Aside0.mk (below_step (by repeat (first | (with_reducible first | exact HB.out | apply below_alloc | apply pw_below_drewN | apply below_drew1) | exact HB.out)) hb);have n1_ := Aside0.mk (hbox);have n2_ := Aside0.mk ((by rw [hg];exact (below_size (by repeat (first | (with_reducible first | exact HB.out | apply below_alloc | apply pw_below_drewN | apply below_drew1) | exact HB.out))) : w.heap.size ≤ gb380));have n3_ := Aside0.mk ((by rw [hg];exact (below_size (by repeat (first | (with_reducible first | exact HB.out | apply below_alloc | apply pw_below_drewN | apply below_drew1) | exact HB.out))) : w.heap.size ≤ gb380));clear HB;have HB := n0_;have BK380 := n1_;have GW380 := n2_;have GE380 := n3_;clear n0_ n1_ n2_ n3_;clear hb hbox hg) | ((with_reducible refine gate_callee (f := 8) rfl ?_);refine goesL_ (some 22) rfl rfl Try.func8 (by kernel_rfl) rfl #[] rfl (by (try simp only [List.map_toArray,List.map_cons,List.map_nil]);first | done | rfl | (simp only [List.length_drop,List.length_take];rfl)) ?_;(with_reducible refine (bournelaw37_small.calls k t381 _ A5.out).mono ?_);rintro e w9 ⟨rfl,hb⟩;refine ⟨_,rfl,?_⟩;have n0_ := Aside0.mk (blk_below (g := gb380) (o := .cells #[.string a0_0,.slice A0_1 l0_1.length c0_1,.int .i64 a0_2,.slice A0_3 l0_3.length c0_3,.slice A0_4 l0_4.length c0_4,.slice A0_5 l0_5.length c0_5,.slice A0_6 l0_6.length c0_6,.slice A0_7 l0_7.length c0_7,.slice A0_8 l0_8.length c0_8,.slice A0_9 l0_9.length c0_9,.int .i64 a0_10] 31 (0,0)) (by (with_reducible repeat (first | refine blk_drewN ?_ _ | refine blk_drew ?_ | refine blk_alloc ?_ _));exact BK380.out) hb);have n1_ := Aside0.mk (below_step (by repeat (first | (with_reducible first | exact HB.out | apply below_alloc | apply pw_below_drewN | apply below_drew1 | refine below_set ?_ GE380.out) | exact HB.out)) hb);clear BK380;clear HB;have BK380 := n0_;have HB := n1_;clear n0_ n1_;(try clear hb);(try clear hb2);(try clear hk);(try clear hi);have hcz10_0 : w9.cell? ⟨gb380,0,none⟩ = some (.string a0_0) := (blk_cell BK380.out 0).trans rfl;have hcz10_1 : w9.cell? ⟨gb380,1,none⟩ = some (.slice A0_1 l0_1.length c0_1) := (blk_cell BK380.out 1).trans rfl;have hcz10_2 : w9.cell? ⟨gb380,2,none⟩ = some (.int .i64 a0_2) := (blk_cell BK380.out 2).trans rfl;have hcz10_3 : w9.cell? ⟨gb380,3,none⟩ = some (.slice A0_3 l0_3.length c0_3) := (blk_cell BK380.out 3).trans rfl;have hcz10_4 : w9.cell? ⟨gb380,4,none⟩ = some (.slice A0_4 l0_4.length c0_4) := (blk_cell BK380.out 4).trans rfl;have hcz10_5 : w9.cell? ⟨gb380,5,none⟩ = some (.slice A0_5 l0_5.length c0_5) := (blk_cell BK380.out 5).trans rfl;have hcz10_6 : w9.cell? ⟨gb380,6,none⟩ = some (.slice A0_6 l0_6.length c0_6) := (blk_cell BK380.out 6).trans rfl;have hcz10_7 : w9.cell? ⟨gb380,7,none⟩ = some (.slice A0_7 l0_7.length c0_7) := (blk_cell BK380.out 7).trans rfl;have hcz10_8 : w9.cell? ⟨gb380,8,none⟩ = some (.slice A0_8 l0_8.length c0_8) := (blk_cell BK380.out 8).trans rfl;have hcz10_9 : w9.cell? ⟨gb380,9,none⟩ = some (.slice A0_9 l0_9.length c0_9) := (blk_cell BK380.out 9).trans rfl;have hcz10_10 : w9.cell? ⟨gb380,10,none⟩ = some (.int .i64 a0_10) := (blk_cell BK380.out 10).trans rfl;have hfz10_0 := blk_frozen BK380.out 0;have hfz10_1 := blk_frozen BK380.out 1;have hfz10_2 := blk_frozen BK380.out 2;have hfz10_3 := blk_frozen BK380.out 3;have hfz10_4 := blk_frozen BK380.out 4;have hfz10_5 := blk_frozen BK380.out 5;have hfz10_6 := blk_frozen BK380.out 6;have hfz10_7 := blk_frozen BK380.out 7;have hfz10_8 := blk_frozen BK380.out 8;have hfz10_9 := blk_frozen BK380.out 9;have hfz10_10 := blk_frozen BK380.out 10) | ((with_reducible refine gate_callee (f := 9) rfl ?_);refine goesL_ (some 25) rfl rfl Try.func9 (by kernel_rfl) rfl #[.agg #[.string a0_0,.slice A0_1 l0_1.length c0_1,.int .i64 a0_2,.slice A0_3 l0_3.length c0_3,.slice A0_4 l0_4.length c0_4,.slice A0_5 l0_5.length c0_5,.slice A0_6 l0_6.length c0_6,.slice A0_7 l0_7.length c0_7,.slice A0_8 l0_8.length c0_8,.slice A0_9 l0_9.length c0_9,.int .i64 a0_10],.slice A1 l1.length c1,.slice none 0 0] rfl (by (try simp only [List.map_toArray,List.map_cons,List.map_nil]);first | done | rfl | (simp only [List.length_drop,List.length_take];rfl)) ?_;(refine (bournelaw37_few.calls a0_0 _ _ l0_1 a0_2 _ _ l0_3 _ _ l0_4 _ _ l0_5 _ _ l0_6 _ _ l0_7 _ _ l0_8 _ _ l0_9 a0_10 _ _ l1 _ _ ([] : List (S47)) t382 _ ?side1 ?side2 ?side3 ?side4 ?side5 ?side6 ?side7 ?side8 ?side9 ?side10 ?side11 ?side12 ?side13 ?side14 ?side15 ?side16 ?side17 ?side18 ?side19 ?side20 A6.out).mono ?_);(case side1 => repeat (first | exact (Kd.C_below HR0_1.out HB.out) | (with_reducible refine Kd.C_alloc ?_ _) | (with_reducible refine Kd.C_drewN ?_ _) | (with_reducible refine Kd.C_drew ?_)));(case side2 => exact HC0_1.out);(case side3 => repeat (first | exact (Kd.C_below HR0_3.out HB.out) | (with_reducible refine Kd.C_alloc ?_ _) | (with_reducible refine Kd.C_drewN ?_ _) | (with_reducible refine Kd.C_drew ?_)));(case side4 => exact HC0_3.out);(case side5 => repeat (first | exact (Kd.C_below HR0_4.out HB.out) | (with_reducible refine Kd.C_alloc ?_ _) | (with_reducible refine Kd.C_drewN ?_ _) | (with_reducible refine Kd.C_drew ?_)));(case side6 => exact HC0_4.out);(case side7 => repeat (first | exact (Kd.C_below HR0_5.out HB.out) | (with_reducible refine Kd.C_alloc ?_ _) | (with_reducible refine Kd.C_drewN ?_ _) | (with_reducible refine Kd.C_drew ?_)));(case side8 => exact HC0_5.out);(case side9 => repeat (first | exact (Kd.C_below HR0_6.out HB.out) | (with_reducible refine Kd.C_alloc ?_ _) | (with_reducible refine Kd.C_drewN ?_ _) | (with_reducible refine Kd.C_drew ?_)));(case side10 => exact HC0_6.out);(case side11 => repeat (first | exact (Kd.C_below HR0_7.out HB.out) | (with_reducible refine Kd.C_alloc ?_ _) | (with_reducible refine Kd.C_drewN ?_ _) | (with_reducible refine Kd.C_drew ?_)));(case side12 => exact HC0_7.out);(case side13 => repeat (first | exact (Kd.C_below HR0_8.out HB.out) | (with_reducible refine Kd.C_alloc ?_ _) | (with_reducible refine Kd.C_drewN ?_ _) | (with_reducible refine Kd.C_drew ?_)));(case side14 => exact HC0_8.out);(case side15 => repeat (first | exact (Kd.C_below HR0_9.out HB.out) | (with_reducible refine Kd.C_alloc ?_ _) | (with_reducible refine Kd.C_drewN ?_ _) | (with_reducible refine Kd.C_drew ?_)));(case side16 => exact HC0_9.out);(case side17 => repeat (first | exact (Kd.C_below HR1.out HB.out) | (with_reducible refine Kd.C_alloc ?_ _) | (with_reducible refine Kd.C_drewN ?_ _) | (with_reducible refine Kd.C_drew ?_)));(case side18 => exact HC1.out);(case side19 => exact Kd.C_nil _ _);(case side20 => exact Nat.le_refl _);rintro e w11 ⟨rfl,hb⟩;refine ⟨_,rfl,?_⟩;have n0_ := Aside0.mk (blk_below (g := gb380) (o := .cells #[.string a0_0,.slice A0_1 l0_1.length c0_1,.int .i64 a0_2,.slice A0_3 l0_3.length c0_3,.slice A0_4 l0_4.length c0_4,.slice A0_5 l0_5.length c0_5,.slice A0_6 l0_6.length c0_6,.slice A0_7 l0_7.length c0_7,.slice A0_8 l0_8.length c0_8,.slice A0_9 l0_9.length c0_9,.int .i64 a0_10] 31 (0,0)) (by (with_reducible repeat (first | refine blk_drewN ?_ _ | refine blk_drew ?_ | refine blk_alloc ?_ _));exact BK380.out) hb);have n1_ := Aside0.mk (below_step (by repeat (first | (with_reducible first | exact HB.out | apply below_alloc | apply pw_below_drewN | apply below_drew1 | refine below_set ?_ GE380.out) | exact HB.out)) hb);clear BK380;clear HB;have BK380 := n0_;have HB := n1_;clear n0_ n1_;(try clear hb);(try clear hb2);(try clear hk);(try clear hi)))
 (try simp only [Act.put,List.setIfInBounds_toArray,List.set_cons_zero,List.set_cons_succ])
 go_cut [35] (fun v35 wc => ∃ (kq : Nat) (x35_6 : Bool),v35 = .bool x35_6 ∧ Aside0 (bournelaw37_AllotAside.j0 kq l1 l2 l3 t381 x35_6 a0_0 l0_1 a0_2 l0_3 l0_4 l0_5 l0_6 l0_7 l0_8 l0_9 a0_10 = some r) ∧ Aside0 (kq ≤ k) ∧ Aside0 (wc.heap[gb380]? = some (.cells #[.string a0_0,(.slice A0_1 l0_1.length c0_1),.int .i64 a0_2,(.slice A0_3 l0_3.length c0_3),(.slice A0_4 l0_4.length c0_4),(.slice A0_5 l0_5.length c0_5),(.slice A0_6 l0_6.length c0_6),(.slice A0_7 l0_7.length c0_7),(.slice A0_8 l0_8.length c0_8),(.slice A0_9 l0_9.length c0_9),.int .i64 a0_10] 31 (0,0))) ∧ Aside0 (Below w.heap.size w wc))
 case first =>
  have H := HC7.out
  clear HC7
  by_cases c12 : t382 = true
  ·subst c12
   have H1 : (bournelaw37_AllotAside.j0 k l1 l2 l3 t381 (decide ((l3.length : Int) < (l0_3.length : Int))) a0_0 l0_1 a0_2 l0_3 l0_4 l0_5 l0_6 l0_7 l0_8 l0_9 a0_10) = some r := by rw [if_pos rfl] at H;exact H
   clear H
   have H := H1
   clear H1
   have H' := Aside0.mk H
   clear H
   have hcz13_0 : w11.cell? ⟨gb380,0,none⟩ = some (.string a0_0) := (blk_cell BK380.out 0).trans rfl
   have hcz13_1 : w11.cell? ⟨gb380,1,none⟩ = some (.slice A0_1 l0_1.length c0_1) := (blk_cell BK380.out 1).trans rfl
   have hcz13_2 : w11.cell? ⟨gb380,2,none⟩ = some (.int .i64 a0_2) := (blk_cell BK380.out 2).trans rfl
   have hcz13_3 : w11.cell? ⟨gb380,3,none⟩ = some (.slice A0_3 l0_3.length c0_3) := (blk_cell BK380.out 3).trans rfl
   have hcz13_4 : w11.cell? ⟨gb380,4,none⟩ = some (.slice A0_4 l0_4.length c0_4) := (blk_cell BK380.out 4).trans rfl
   have hcz13_5 : w11.cell? ⟨gb380,5,none⟩ = some (.slice A0_5 l0_5.length c0_5) := (blk_cell BK380.out 5).trans rfl
   have hcz13_6 : w11.cell? ⟨gb380,6,none⟩ = some (.slice A0_6 l0_6.length c0_6) := (blk_cell BK380.out 6).trans rfl
   have hcz13_7 : w11.cell? ⟨gb380,7,none⟩ = some (.slice A0_7 l0_7.length c0_7) := (blk_cell BK380.out 7).trans rfl
   have hcz13_8 : w11.cell? ⟨gb380,8,none⟩ = some (.slice A0_8 l0_8.length c0_8) := (blk_cell BK380.out 8).trans rfl
   have hcz13_9 : w11.cell? ⟨gb380,9,none⟩ = some (.slice A0_9 l0_9.length c0_9) := (blk_cell BK380.out 9).trans rfl
   have hcz13_10 : w11.cell? ⟨gb380,10,none⟩ = some (.int .i64 a0_10) := (blk_cell BK380.out 10).trans rfl
   have hfz13_0 := blk_frozen BK380.out 0
   have hfz13_1 := blk_frozen BK380.out 1
   have hfz13_2 := blk_frozen BK380.out 2
   have hfz13_3 := blk_frozen BK380.out 3
   have hfz13_4 := blk_frozen BK380.out 4
   have hfz13_5 := blk_frozen BK380.out 5
   have hfz13_6 := blk_frozen BK380.out 6
   have hfz13_7 := blk_frozen BK380.out 7
   have hfz13_8 := blk_frozen BK380.out 8
   have hfz13_9 := blk_frozen BK380.out 9
   have hfz13_10 := blk_frozen BK380.out 10
   go_wp2
   go_meet
   case rel => exact ⟨_,(decide ((l3.length : Int) < (l0_3.length : Int))),(by first | rfl | (simp;done) | (simp [*];done)),H',⟨by first | omega | exact Nat.le_refl _⟩,⟨by (with_reducible repeat (first | refine blk_drewN ?_ _ | refine blk_drew ?_ | refine blk_alloc ?_ _));exact BK380.out⟩,⟨by repeat (first | (with_reducible first | exact HB.out | apply below_alloc | apply pw_below_drewN | apply below_drew1 | refine below_set ?_ GE380.out) | exact HB.out)⟩⟩
  ·replace c12 := Bool.eq_false_iff.mpr c12
   subst c12
   have H1 : (bournelaw37_AllotAside.j0 k l1 l2 l3 t381 true a0_0 l0_1 a0_2 l0_3 l0_4 l0_5 l0_6 l0_7 l0_8 l0_9 a0_10) = some r := by rw [if_neg (show ¬ (false = true) by decide)] at H;exact H
   clear H
   have H := H1
   clear H1
   have H' := Aside0.mk H
   clear H
   go_wp2
   go_meet
   case rel => exact ⟨_,(true),(by first | rfl | (simp;done) | (simp [*];done)),H',⟨by first | omega | exact Nat.le_refl _⟩,⟨by (with_reducible repeat (first | refine blk_drewN ?_ _ | refine blk_drew ?_ | refine blk_alloc ?_ _));exact BK380.out⟩,⟨by repeat (first | (with_reducible first | exact HB.out | apply below_alloc | apply pw_below_drewN | apply below_drew1 | refine below_set ?_ GE380.out) | exact HB.out)⟩⟩
 case rest =>
  clear HC7
  try clear c1
  try clear c2
  try clear p2
  try clear c3
  try clear c6
  try clear c8
  try clear c9
  try clear c12
  try clear hcz10_0
  try clear hcz10_1
  try clear hcz10_10
  try clear hcz10_2
  try clear hcz10_3
  try clear hcz10_4
  try clear hcz10_5
  try clear hcz10_6
  try clear hcz10_7
  try clear hcz10_8
  try clear hcz10_9
  try clear hcz13_0
  try clear hcz13_1
  try clear hcz13_10
  try clear hcz13_2
  try clear hcz13_3
  try clear hcz13_4
  try clear hcz13_5
  try clear hcz13_6
  try clear hcz13_7
  try clear hcz13_8
  try clear hcz13_9
  try clear hfz10_0
  try clear hfz10_1
  try clear hfz10_10
  try clear hfz10_2
  try clear hfz10_3
  try clear hfz10_4
  try clear hfz10_5
  try clear hfz10_6
  try clear hfz10_7
  try clear hfz10_8
  try clear hfz10_9
  try clear hfz13_0
  try clear hfz13_1
  try clear hfz13_10
  try clear hfz13_2
  try clear hfz13_3
  try clear hfz13_4
  try clear hfz13_5
  try clear hfz13_6
  try clear hfz13_7
  try clear hfz13_8
  try clear hfz13_9
  obtain ⟨kq,x35_6,rfl,HA,HJ6,BK380,HB⟩ := hcut
  cases kq with
  | zero => exact absurd HA.out (by simp [bournelaw37_AllotAside.j0])
  | succ kj6 =>
   have H := HA.out
   clear HA
   simp only [bournelaw37_AllotAside.j0] at H
   by_cases c14 : x35_6 = true
   ·subst c14
    have H1 : (some t381) = some r := by rw [if_pos rfl] at H;exact H
    clear H
    have H := H1
    clear H1
    obtain rfl := Option.some.inj H
    go_wp2
    go_ret
    exact ⟨by first | rfl | (simp [errW_none,errW_some] <;> rfl) | (simp [*,errW_none,errW_some] <;> rfl),by repeat (first | (with_reducible first | exact HB.out | apply below_alloc | apply pw_below_drewN | apply below_drew1 | refine below_set ?_ GE380.out) | exact HB.out)⟩
   ·replace c14 := Bool.eq_false_iff.mpr c14
    subst c14
    have H1 : (bournelaw37_AllotAside.l0 kj6 l1 l2 l3 t381 ([] : List (S45)) ([] : List Int) 0 a0_0 l0_1 a0_2 l0_3 l0_4 l0_5 l0_6 l0_7 l0_8 l0_9 a0_10) = some r := by rw [if_neg (show ¬ (false = true) by decide)] at H;exact H
    clear H
    have H := H1
    clear H1
    have H' := Aside0.mk H
    clear H
    go_wp2
    go_loopg [11,12,13] kj6 (fun kq v11 v12 v13 w' => ∃ (x11_2 : List (S45)) (x12_2 : List Int) (x13_2 : Int),v13 = .int .i64 x13_2 ∧ Aside0 (bournelaw37_AllotAside.l0 kq l1 l2 l3 t381 x11_2 x12_2 x13_2 a0_0 l0_1 a0_2 l0_3 l0_4 l0_5 l0_6 l0_7 l0_8 l0_9 a0_10 = some r) ∧ Aside0 (kq ≤ kj6) ∧ Aside0 (Kd.R k45 45 w' w.heap.size (fun _ => True) v11 x11_2) ∧ Aside0 (Kd.R (Kd.int .i64) 3 w' w.heap.size (fun _ => True) v12 x12_2) ∧ Aside0 (w'.heap[gb380]? = some (.cells #[.string a0_0,(.slice A0_1 l0_1.length c0_1),.int .i64 a0_2,(.slice A0_3 l0_3.length c0_3),(.slice A0_4 l0_4.length c0_4),(.slice A0_5 l0_5.length c0_5),(.slice A0_6 l0_6.length c0_6),(.slice A0_7 l0_7.length c0_7),(.slice A0_8 l0_8.length c0_8),(.slice A0_9 l0_9.length c0_9),.int .i64 a0_10] 31 (0,0))) ∧ Aside0 (Below w.heap.size w w'))
    case atStart => exact ⟨(([] : List (S45))),(([] : List Int)),(0),(by first | rfl | (simp;done) | (simp [*];done)),H',⟨Nat.le_refl _⟩,⟨by first | exact Kd.R_nil _ _ _ _ _ | exact Kd.N_nil _ _ _ _ _ | exact Kd.V_nil _ _ _ _ _ | exact Kd.Q_nil _ _ _ _ _ | exact Kd.S_nil _ _ _ _ _⟩,⟨by first | exact Kd.R_nil _ _ _ _ _ | exact Kd.N_nil _ _ _ _ _ | exact Kd.V_nil _ _ _ _ _ | exact Kd.Q_nil _ _ _ _ _ | exact Kd.S_nil _ _ _ _ _⟩,⟨by (with_reducible repeat (first | refine blk_drewN ?_ _ | refine blk_drew ?_ | refine blk_alloc ?_ _));exact BK380.out⟩,⟨by repeat (first | (with_reducible first | exact HB.out | apply below_alloc | apply pw_below_drewN | apply below_drew1 | refine below_set ?_ GE380.out) | exact HB.out)⟩⟩
    case round =>
     clear H'
     try clear c1
     try clear c2
     try clear p2
     try clear c3
     try clear c6
     try clear c8
     try clear c9
     try clear c12
     try clear c14
     try clear hcz10_0
     try clear hcz10_1
     try clear hcz10_10
     try clear hcz10_2
     try clear hcz10_3
     try clear hcz10_4
     try clear hcz10_5
     try clear hcz10_6
     try clear hcz10_7
     try clear hcz10_8
     try clear hcz10_9
     try clear hcz13_0
     try clear hcz13_1
     try clear hcz13_10
     try clear hcz13_2
     try clear hcz13_3
     try clear hcz13_4
     try clear hcz13_5
     try clear hcz13_6
     try clear hcz13_7
     try clear hcz13_8
     try clear hcz13_9
     try clear hfz10_0
     try clear hfz10_1
     try clear hfz10_10
     try clear hfz10_2
     try clear hfz10_3
     try clear hfz10_4
     try clear hfz10_5
     try clear hfz10_6
     try clear hfz10_7
     try clear hfz10_8
     try clear hfz10_9
     try clear hfz13_0
     try clear hfz13_1
     try clear hfz13_10
     try clear hfz13_2
     try clear hfz13_3
     try clear hfz13_4
     try clear hfz13_5
     try clear hfz13_6
     try clear hfz13_7
     try clear hfz13_8
     try clear hfz13_9
     try clear p2
     obtain ⟨x11_2,x12_2,x13_2,rfl,HA,HK2,HO_11,HO_12,BK380,HB⟩ := hrel
     cases gk with
     | zero => exact absurd HA.out (by simp [bournelaw37_AllotAside.l0])
     | succ k2 =>
      have H := HA.out
      clear HA
      simp only [bournelaw37_AllotAside.l0] at H
      by_cases c15 : x13_2 < (l1.length : Int)
      ·rw [if_pos c15] at H
       have c15b0 : decide (x13_2 < (l1.length : Int)) = true := decide_eq_true c15
       clear c15
       by_cases c16 : 0 ≤ x13_2
       ·rw [if_pos c16] at H
        have c16b0 : decide (0 ≤ x13_2) = true := decide_eq_true c16
        clear c16
        replace H := Option.bind_eq_some_iff.mp H
        obtain ⟨t384,A170,H⟩ := H
        replace H : (bournelaw37_AllotAside.l1 k2 l1 l2 l3 t381 x11_2 x12_2 x13_2 t384 0 0 a0_0 l0_1 a0_2 l0_3 l0_4 l0_5 l0_6 l0_7 l0_8 l0_9 a0_10) = some r := H
        have A17 := Aside0.mk A170
        clear A170
        have H' := Aside0.mk H
        clear H
        try go_wp2
        (repeat (rw [drewN_self wr];generalize hq_ : World.drewN wr _ = wr;have n0_ : Aside0 (Kd.R k45 45 wr w.heap.size (fun _ => True) u11 x11_2) := ⟨by rw [← hq_];exact (by (with_reducible repeat (first | apply Kd.R_alloc | apply Kd.R_drewN | apply Kd.R_drew));exact HO_11.out)⟩;have n1_ : Aside0 (Kd.R (Kd.int .i64) 3 wr w.heap.size (fun _ => True) u12 x12_2) := ⟨by rw [← hq_];exact (by (with_reducible repeat (first | apply Kd.R_alloc | apply Kd.R_drewN | apply Kd.R_drew));exact HO_12.out)⟩;have n2_ : Aside0 (wr.heap[gb380]? = some (.cells #[.string a0_0,.slice A0_1 l0_1.length c0_1,.int .i64 a0_2,.slice A0_3 l0_3.length c0_3,.slice A0_4 l0_4.length c0_4,.slice A0_5 l0_5.length c0_5,.slice A0_6 l0_6.length c0_6,.slice A0_7 l0_7.length c0_7,.slice A0_8 l0_8.length c0_8,.slice A0_9 l0_9.length c0_9,.int .i64 a0_10] 31 (0,0))) := ⟨by rw [← hq_];exact (by (with_reducible repeat (first | refine blk_drewN ?_ _ | refine blk_drew ?_ | refine blk_alloc ?_ _));exact BK380.out)⟩;have n3_ : Aside0 (Below w.heap.size w wr) := ⟨by rw [← hq_];exact (by repeat (first | (with_reducible first | exact HB.out | apply below_alloc | apply pw_below_drewN | apply below_drew1 | refine below_set ?_ GE380.out) | exact HB.out))⟩;clear HO_11 HO_12 BK380 HB hq_;have HO_11 := n0_;have HO_12 := n1_;have BK380 := n2_;have HB := n3_;clear n0_ n1_ n2_ n3_))
        have n0_ := Aside0.mk (Kd.R_drew HO_11.out)
        have n1_ := Aside0.mk (Kd.R_drew HO_12.out)
        have n2_ := Aside0.mk (blk_drew BK380.out)
        have n3_ := Aside0.mk (below_drew1 HB.out)
        clear HO_11
        clear HO_12
        clear BK380
        clear HB
        have HO_11 := n0_
        have HO_12 := n1_
        have BK380 := n2_
        have HB := n3_
        clear n0_ n1_ n2_ n3_
        have p383 : 0 ≤ (x13_2 : Int) := of_decide_eq_true (by first | (with_reducible assumption) | assumption)
        have q383 : x13_2 < (l1.length : Int) := of_decide_eq_true (by first | (with_reducible assumption) | assumption)
        obtain ⟨ad383,e383,hx383_0,hx383_1,hx383_2,hx383_3,hx383_4,hx383_5,hx383_6,hx383_7,hx383_8⟩ := at_T45 HR1.out x13_2 p383 q383
        have hw383_8 := hx383_8
        have hw383_7 := hx383_7
        have hw383_6 := hx383_6
        have hw383_5 := hx383_5
        have hw383_4 := hx383_4
        have hw383_3 := hx383_3
        have hw383_2 := hx383_2
        have hw383_1 := hx383_1
        have hw383_0 := hx383_0
        cases e383
        replace hx383_0 := (HB.out.cell (World.block_lt_of_cell? w _ hx383_0)).trans hx383_0
        replace hx383_1 := (HB.out.cell (World.block_lt_of_cell? w _ hx383_1)).trans hx383_1
        replace hx383_2 := (HB.out.cell (World.block_lt_of_cell? w _ hx383_2)).trans hx383_2
        replace hx383_3 := (HB.out.cell (World.block_lt_of_cell? w _ hx383_3)).trans hx383_3
        replace hx383_4 := (HB.out.cell (World.block_lt_of_cell? w _ hx383_4)).trans hx383_4
        replace hx383_5 := (HB.out.cell (World.block_lt_of_cell? w _ hx383_5)).trans hx383_5
        replace hx383_6 := (HB.out.cell (World.block_lt_of_cell? w _ hx383_6)).trans hx383_6
        replace hx383_7 := (HB.out.cell (World.block_lt_of_cell? w _ hx383_7)).trans hx383_7
        replace hx383_8 := (HB.out.cell (World.block_lt_of_cell? w _ hx383_8)).trans hx383_8
        replace p383 := eq_true p383
        replace q383 := eq_true q383
        refine start_ (n := 8) (S := fun w' => w'.cell? ⟨gb380,0,none⟩ = some (.string a0_0) ∧ w'.cell? ⟨gb380,1,none⟩ = some (.slice A0_1 l0_1.length c0_1) ∧ w'.cell? ⟨gb380,2,none⟩ = some (.int .i64 a0_2) ∧ w'.cell? ⟨gb380,3,none⟩ = some (.slice A0_3 l0_3.length c0_3) ∧ w'.cell? ⟨gb380,4,none⟩ = some (.slice A0_4 l0_4.length c0_4) ∧ w'.cell? ⟨gb380,5,none⟩ = some (.slice A0_5 l0_5.length c0_5) ∧ w'.cell? ⟨gb380,6,none⟩ = some (.slice A0_6 l0_6.length c0_6) ∧ w'.cell? ⟨gb380,7,none⟩ = some (.slice A0_7 l0_7.length c0_7) ∧ w'.cell? ⟨gb380,8,none⟩ = some (.slice A0_8 l0_8.length c0_8) ∧ w'.cell? ⟨gb380,9,none⟩ = some (.slice A0_9 l0_9.length c0_9) ∧ w'.cell? ⟨gb380,10,none⟩ = some (.int .i64 a0_10) ∧ w'.cell? (ad383.add ((x13_2).toNat * 9)) = some (.int .i64 ((rd_T45 l1 x13_2).f0)) ∧ w'.cell? ⟨(ad383.add ((x13_2).toNat * 9)).block,(ad383.add ((x13_2).toNat * 9)).off + 1,none⟩ = some (.int .i64 ((rd_T45 l1 x13_2).f1)) ∧ w'.cell? ⟨(ad383.add ((x13_2).toNat * 9)).block,(ad383.add ((x13_2).toNat * 9)).off + 2,none⟩ = some (.int .i64 ((rd_T45 l1 x13_2).f2)) ∧ w'.cell? ⟨(ad383.add ((x13_2).toNat * 9)).block,(ad383.add ((x13_2).toNat * 9)).off + 3,none⟩ = some (.int .i64 ((rd_T45 l1 x13_2).f3)) ∧ w'.cell? ⟨(ad383.add ((x13_2).toNat * 9)).block,(ad383.add ((x13_2).toNat * 9)).off + 4,none⟩ = some (.int .i64 ((rd_T45 l1 x13_2).f4)) ∧ w'.cell? ⟨(ad383.add ((x13_2).toNat * 9)).block,(ad383.add ((x13_2).toNat * 9)).off + 5,none⟩ = some (.int .i64 ((rd_T45 l1 x13_2).f5)) ∧ w'.cell? ⟨(ad383.add ((x13_2).toNat * 9)).block,(ad383.add ((x13_2).toNat * 9)).off + 6,none⟩ = some (.int .i64 ((rd_T45 l1 x13_2).f6)) ∧ w'.cell? ⟨(ad383.add ((x13_2).toNat * 9)).block,(ad383.add ((x13_2).toNat * 9)).off + 7,none⟩ = some (.int .i64 ((rd_T45 l1 x13_2).f7)) ∧ w'.cell? ⟨(ad383.add ((x13_2).toNat * 9)).block,(ad383.add ((x13_2).toNat * 9)).off + 8,none⟩ = some (.int .i64 ((rd_T45 l1 x13_2).f8))) (ds := []) #[false,false,false,false,false,false,false,false] (by kernel_rfl) rfl rfl ⟨(blk_cell BK380.out 0).trans rfl,(blk_cell BK380.out 1).trans rfl,(blk_cell BK380.out 2).trans rfl,(blk_cell BK380.out 3).trans rfl,(blk_cell BK380.out 4).trans rfl,(blk_cell BK380.out 5).trans rfl,(blk_cell BK380.out 6).trans rfl,(blk_cell BK380.out 7).trans rfl,(blk_cell BK380.out 8).trans rfl,(blk_cell BK380.out 9).trans rfl,(blk_cell BK380.out 10).trans rfl,((HB.out.cell (World.block_lt_of_cell? w _ hw383_0)).trans hw383_0),((HB.out.cell (World.block_lt_of_cell? w _ hw383_1)).trans hw383_1),((HB.out.cell (World.block_lt_of_cell? w _ hw383_2)).trans hw383_2),((HB.out.cell (World.block_lt_of_cell? w _ hw383_3)).trans hw383_3),((HB.out.cell (World.block_lt_of_cell? w _ hw383_4)).trans hw383_4),((HB.out.cell (World.block_lt_of_cell? w _ hw383_5)).trans hw383_5),((HB.out.cell (World.block_lt_of_cell? w _ hw383_6)).trans hw383_6),((HB.out.cell (World.block_lt_of_cell? w _ hw383_7)).trans hw383_7),((HB.out.cell (World.block_lt_of_cell? w _ hw383_8)).trans hw383_8)⟩ (fun hHeld => ?_);refine with_tabW bournelaw37_AllotAside.tab10 bournelaw37_AllotAside.bits10 (fun HT_ HW_ => ?_)
        generalize wr.drew = w18 at HO_11 HO_12 BK380 HB hx383_0 hx383_1 hx383_2 hx383_3 hx383_4 hx383_5 hx383_6 hx383_7 hx383_8 hHeld ⊢
        refine pure_ (i := 1) (N := some 44) (v := ?_) (a' := ?_) #[false,true,false,false,false,false,false,false] rfl rfl (any_of HT_.out (by kernel_rfl)) (fun _ _ _ h => h) (Or.inl ⟨by rfl,?_⟩) ?_ ?_
        rotate_left
        ·intro w'
         go_simp
         with_reducible rfl
        rotate_left
        ·simp only [Act.put,List.setIfInBounds_toArray,List.set_cons_zero,List.set_cons_succ,i64_w,i32_w]
         rfl
        refine pure_ (i := 2) (N := some 45) (v := ?_) (a' := ?_) #[false,true,true,false,false,false,false,false] rfl rfl (any_of HT_.out (by kernel_rfl)) (fun _ _ _ h => h) (Or.inl ⟨by rfl,?_⟩) ?_ ?_
        rotate_left
        ·intro w'
         go_simp
         with_reducible rfl
        rotate_left
        ·simp only [Act.put,List.setIfInBounds_toArray,List.set_cons_zero,List.set_cons_succ,i64_w,i32_w]
         rfl
        refine pure_ (i := 3) (N := some 46) (v := ?_) (a' := ?_) #[false,true,true,true,false,false,false,false] rfl rfl (any_of HT_.out (by kernel_rfl)) (fun _ _ _ h => h) (Or.inl ⟨by rfl,?_⟩) ?_ ?_
        rotate_left
        ·intro w'
         go_simp
         with_reducible rfl
        rotate_left
        ·simp only [Act.put,List.setIfInBounds_toArray,List.set_cons_zero,List.set_cons_succ,i64_w,i32_w]
         rfl
        refine pure_ (i := 4) (N := some 47) (v := ?_) (a' := ?_) #[false,true,true,true,true,false,false,false] rfl rfl (any_of HT_.out (by kernel_rfl)) (fun _ _ _ h => h) (Or.inl ⟨by rfl,?_⟩) ?_ ?_
        rotate_left
        ·intro w'
         go_simp
         with_reducible rfl
        rotate_left
        ·simp only [Act.put,List.setIfInBounds_toArray,List.set_cons_zero,List.set_cons_succ,i64_w,i32_w]
         rfl
        refine take_ (i := 0) (N := some 43) (v := ?_) (a' := ?_) #[true,true,true,true,true,false,false,false] rfl rfl (take_ofW HT_.out HW_.out (by kernel_rfl)) (fun _ _ _ h => h) (Or.inl ⟨by rfl,?_⟩) hHeld ?_ ?_
        rotate_left
        ·rintro w' ⟨s0,s1,s2,s3,s4,s5,s6,s7,s8,s9,s10,s11,s12,s13,s14,s15,s16,s17,s18,s19⟩
         go_simp
         with_reducible rfl
        rotate_left
        ·simp only [Act.put,List.setIfInBounds_toArray,List.set_cons_zero,List.set_cons_succ,i64_w,i32_w]
         rfl
        refine take_ (i := 5) (N := some 48) (v := ?_) (a' := ?_) #[true,true,true,true,true,true,false,false] rfl rfl (take_ofW HT_.out HW_.out (by kernel_rfl)) (fun _ _ _ h => h) (Or.inl ⟨by rfl,?_⟩) hHeld ?_ ?_
        rotate_left
        ·rintro w' ⟨s0,s1,s2,s3,s4,s5,s6,s7,s8,s9,s10,s11,s12,s13,s14,s15,s16,s17,s18,s19⟩
         go_simp
         with_reducible rfl
        rotate_left
        ·simp only [Act.put,List.setIfInBounds_toArray,List.set_cons_zero,List.set_cons_succ,i64_w,i32_w]
         rfl
        refine one_ (i := 6) (N := some 49) #[true,true,true,true,true,true,true,false] rfl rfl (one_of HT_.out (by kernel_rfl)) (by decide) (fun K hK => ?_)
        refine goes_ Try.func13 (by kernel_rfl) rfl #[.agg #[.string a0_0,.slice A0_1 l0_1.length c0_1,.int .i64 a0_2,.slice A0_3 l0_3.length c0_3,.slice A0_4 l0_4.length c0_4,.slice A0_5 l0_5.length c0_5,.slice A0_6 l0_6.length c0_6,.slice A0_7 l0_7.length c0_7,.slice A0_8 l0_8.length c0_8,.slice A0_9 l0_9.length c0_9,.int .i64 a0_10],.int .i64 ((rd_T45 l1 x13_2).f3)] (by rfl) rfl rfl (by (try simp only [List.map_toArray,List.map_cons,List.map_nil]);first | done | rfl | (simp only [List.length_drop,List.length_take];rfl)) ?_
        with_reducible refine (allot_Reach.calls k2 a0_0 _ _ l0_1 a0_2 _ _ l0_3 _ _ l0_4 _ _ l0_5 _ _ l0_6 _ _ l0_7 _ _ l0_8 _ _ l0_9 a0_10 ((rd_T45 l1 x13_2).f3) t384 _ ?side1 ?side2 ?side3 ?side4 ?side5 ?side6 ?side7 ?side8 ?side9 ?side10 ?side11 ?side12 ?side13 ?side14 ?side15 ?side16 A17.out).mono ?_
        (case side1 => repeat (first | exact (Kd.C_below HR0_1.out HB.out) | (with_reducible refine Kd.C_alloc ?_ _) | (with_reducible refine Kd.C_drewN ?_ _) | (with_reducible refine Kd.C_drew ?_)))
        (case side2 => exact HC0_1.out)
        (case side3 => repeat (first | exact (Kd.C_below HR0_3.out HB.out) | (with_reducible refine Kd.C_alloc ?_ _) | (with_reducible refine Kd.C_drewN ?_ _) | (with_reducible refine Kd.C_drew ?_)))
        (case side4 => exact HC0_3.out)
        (case side5 => repeat (first | exact (Kd.C_below HR0_4.out HB.out) | (with_reducible refine Kd.C_alloc ?_ _) | (with_reducible refine Kd.C_drewN ?_ _) | (with_reducible refine Kd.C_drew ?_)))
        (case side6 => exact HC0_4.out)
        (case side7 => repeat (first | exact (Kd.C_below HR0_5.out HB.out) | (with_reducible refine Kd.C_alloc ?_ _) | (with_reducible refine Kd.C_drewN ?_ _) | (with_reducible refine Kd.C_drew ?_)))
        (case side8 => exact HC0_5.out)
        (case side9 => repeat (first | exact (Kd.C_below HR0_6.out HB.out) | (with_reducible refine Kd.C_alloc ?_ _) | (with_reducible refine Kd.C_drewN ?_ _) | (with_reducible refine Kd.C_drew ?_)))
        (case side10 => exact HC0_6.out)
        (case side11 => repeat (first | exact (Kd.C_below HR0_7.out HB.out) | (with_reducible refine Kd.C_alloc ?_ _) | (with_reducible refine Kd.C_drewN ?_ _) | (with_reducible refine Kd.C_drew ?_)))
        (case side12 => exact HC0_7.out)
        (case side13 => repeat (first | exact (Kd.C_below HR0_8.out HB.out) | (with_reducible refine Kd.C_alloc ?_ _) | (with_reducible refine Kd.C_drewN ?_ _) | (with_reducible refine Kd.C_drew ?_)))
        (case side14 => exact HC0_8.out)
        (case side15 => repeat (first | exact (Kd.C_below HR0_9.out HB.out) | (with_reducible refine Kd.C_alloc ?_ _) | (with_reducible refine Kd.C_drewN ?_ _) | (with_reducible refine Kd.C_drew ?_)))
        (case side16 => exact HC0_9.out)
        rintro e w19 ⟨v385,rfl,ho0,hb⟩
        refine ⟨_,rfl,?_⟩
        have n0_ := Aside0.mk (Kd.R_below (by (with_reducible repeat (first | apply Kd.R_alloc | apply Kd.R_drewN | apply Kd.R_drew));exact HO_11.out) hb)
        have n1_ := Aside0.mk (Kd.R_elder' (by (with_reducible repeat (first | apply Kd.R_alloc | apply Kd.R_drewN | apply Kd.R_drew));exact HO_12.out) (Kd.R_base ho0) hb)
        have n2_ := Aside0.mk (Kd.R_lower (Kd.R_new' ho0 (Kd.R_lt (by (with_reducible repeat (first | apply Kd.R_alloc | apply Kd.R_drewN | apply Kd.R_drew));exact HO_12.out))) (below_size (by repeat (first | (with_reducible first | exact HB.out | apply below_alloc | apply pw_below_drewN | apply below_drew1 | refine below_set ?_ GE380.out) | exact HB.out))))
        have n3_ := Aside0.mk (blk_below (g := gb380) (o := .cells #[.string a0_0,.slice A0_1 l0_1.length c0_1,.int .i64 a0_2,.slice A0_3 l0_3.length c0_3,.slice A0_4 l0_4.length c0_4,.slice A0_5 l0_5.length c0_5,.slice A0_6 l0_6.length c0_6,.slice A0_7 l0_7.length c0_7,.slice A0_8 l0_8.length c0_8,.slice A0_9 l0_9.length c0_9,.int .i64 a0_10] 31 (0,0)) (by (with_reducible repeat (first | refine blk_drewN ?_ _ | refine blk_drew ?_ | refine blk_alloc ?_ _));exact BK380.out) hb)
        have n4_ := Aside0.mk (below_step (by repeat (first | (with_reducible first | exact HB.out | apply below_alloc | apply pw_below_drewN | apply below_drew1 | refine below_set ?_ GE380.out) | exact HB.out)) hb)
        clear HO_11
        clear HO_12
        clear BK380
        clear HB
        have HO_11 := n0_
        have HO_12 := n1_
        have HO386 := n2_
        have BK380 := n3_
        have HB := n4_
        clear n0_ n1_ n2_ n3_ n4_
        (try clear hb)
        (try clear hb2)
        (try clear hk)
        (try clear hi)
        (try clear ho0)
        refine hK.out _ _ ⟨(blk_cell BK380.out 0).trans rfl,(blk_cell BK380.out 1).trans rfl,(blk_cell BK380.out 2).trans rfl,(blk_cell BK380.out 3).trans rfl,(blk_cell BK380.out 4).trans rfl,(blk_cell BK380.out 5).trans rfl,(blk_cell BK380.out 6).trans rfl,(blk_cell BK380.out 7).trans rfl,(blk_cell BK380.out 8).trans rfl,(blk_cell BK380.out 9).trans rfl,(blk_cell BK380.out 10).trans rfl,((HB.out.cell (World.block_lt_of_cell? w _ hw383_0)).trans hw383_0),((HB.out.cell (World.block_lt_of_cell? w _ hw383_1)).trans hw383_1),((HB.out.cell (World.block_lt_of_cell? w _ hw383_2)).trans hw383_2),((HB.out.cell (World.block_lt_of_cell? w _ hw383_3)).trans hw383_3),((HB.out.cell (World.block_lt_of_cell? w _ hw383_4)).trans hw383_4),((HB.out.cell (World.block_lt_of_cell? w _ hw383_5)).trans hw383_5),((HB.out.cell (World.block_lt_of_cell? w _ hw383_6)).trans hw383_6),((HB.out.cell (World.block_lt_of_cell? w _ hw383_7)).trans hw383_7),((HB.out.cell (World.block_lt_of_cell? w _ hw383_8)).trans hw383_8)⟩ (fun hHeld => ?_)
        clear hK K
        refine norm_ (a' := ?_) ?_ ?_
        rotate_left
        ·show Act.put _ (some 49) _ = _
         simp only [Act.put,List.setIfInBounds_toArray,List.set_cons_zero,List.set_cons_succ,i64_w,i32_w]
         rfl
        refine pure_ (i := 7) (N := some 14) (v := ?_) (a' := ?_) #[true,true,true,true,true,true,true,true] rfl rfl (any_of HT_.out (by kernel_rfl)) (fun _ _ _ h => h) (Or.inl ⟨by rfl,?_⟩) ?_ ?_
        rotate_left
        ·intro w'
         go_simp
         with_reducible rfl
        rotate_left
        ·simp only [Act.put,List.setIfInBounds_toArray,List.set_cons_zero,List.set_cons_succ,i64_w,i32_w]
         rfl
        refine done_ (done_of HT_.out (by kernel_rfl)) ?_
        try go_wp2
        go_loopg [15,16] k2 (fun kq v15 v16 w' => ∃ (x15_3 : Int) (x16_3 : Int),v15 = .int .i64 x15_3 ∧ v16 = .int .i64 x16_3 ∧ Aside0 (bournelaw37_AllotAside.l1 kq l1 l2 l3 t381 x11_2 x12_2 x13_2 t384 x15_3 x16_3 a0_0 l0_1 a0_2 l0_3 l0_4 l0_5 l0_6 l0_7 l0_8 l0_9 a0_10 = some r) ∧ Aside0 (kq ≤ k2) ∧ Aside0 (Kd.R k45 45 w' w.heap.size (fun _ => True) u11 x11_2) ∧ Aside0 (Kd.R (Kd.int .i64) 3 w' w.heap.size (fun k_ => some k_ ≠ (v385 : Value).ownBlock) u12 x12_2) ∧ Aside0 (Kd.R (Kd.int .i64) 3 w' w.heap.size (fun k_ => some k_ ≠ (u12 : Value).ownBlock) v385 t384) ∧ Aside0 (w'.heap[gb380]? = some (.cells #[.string a0_0,(.slice A0_1 l0_1.length c0_1),.int .i64 a0_2,(.slice A0_3 l0_3.length c0_3),(.slice A0_4 l0_4.length c0_4),(.slice A0_5 l0_5.length c0_5),(.slice A0_6 l0_6.length c0_6),(.slice A0_7 l0_7.length c0_7),(.slice A0_8 l0_8.length c0_8),(.slice A0_9 l0_9.length c0_9),.int .i64 a0_10] 31 (0,0))) ∧ Aside0 (Below w.heap.size w w'))
        case atStart => exact ⟨(0),(0),(by first | rfl | (simp;done) | (simp [*];done)),(by first | rfl | (simp;done) | (simp [*];done)),H',⟨Nat.le_refl _⟩,⟨by (with_reducible repeat (first | apply Kd.R_alloc | apply Kd.R_drewN | apply Kd.R_drew));exact HO_11.out⟩,⟨by (with_reducible repeat (first | apply Kd.R_alloc | apply Kd.R_drewN | apply Kd.R_drew));exact Kd.R_mono HO_12.out (fun _ hk => hk.2)⟩,⟨by (with_reducible repeat (first | apply Kd.R_alloc | apply Kd.R_drewN | apply Kd.R_drew));exact Kd.R_mono HO386.out (fun _ hk => hk.2)⟩,⟨by (with_reducible repeat (first | refine blk_drewN ?_ _ | refine blk_drew ?_ | refine blk_alloc ?_ _));exact BK380.out⟩,⟨by repeat (first | (with_reducible first | exact HB.out | apply below_alloc | apply pw_below_drewN | apply below_drew1 | refine below_set ?_ GE380.out) | exact HB.out)⟩⟩
        case round =>
         clear H'
         try clear c1
         try clear c2
         try clear p2
         try clear c3
         try clear p3
         try clear q3
         try clear hx3
         try clear c6
         try clear c8
         try clear c9
         try clear c12
         try clear c13
         try clear c14
         try clear c15
         try clear c15b0
         try clear c16
         try clear c16b0
         try clear hcz10_0
         try clear hcz10_1
         try clear hcz10_10
         try clear hcz10_2
         try clear hcz10_3
         try clear hcz10_4
         try clear hcz10_5
         try clear hcz10_6
         try clear hcz10_7
         try clear hcz10_8
         try clear hcz10_9
         try clear hcz13_0
         try clear hcz13_1
         try clear hcz13_10
         try clear hcz13_2
         try clear hcz13_3
         try clear hcz13_4
         try clear hcz13_5
         try clear hcz13_6
         try clear hcz13_7
         try clear hcz13_8
         try clear hcz13_9
         try clear hfz10_0
         try clear hfz10_1
         try clear hfz10_10
         try clear hfz10_2
         try clear hfz10_3
         try clear hfz10_4
         try clear hfz10_5
         try clear hfz10_6
         try clear hfz10_7
         try clear hfz10_8
         try clear hfz10_9
         try clear hfz13_0
         try clear hfz13_1
         try clear hfz13_10
         try clear hfz13_2
         try clear hfz13_3
         try clear hfz13_4
         try clear hfz13_5
         try clear hfz13_6
         try clear hfz13_7
         try clear hfz13_8
         try clear hfz13_9
         try clear hx383_0
         try clear hx383_1
         try clear hx383_2
         try clear hx383_3
         try clear hx383_4
         try clear hx383_5
         try clear hx383_6
         try clear hx383_7
         try clear hx383_8
         try clear p2
         try clear p383
         try clear q383
         obtain ⟨x15_3,x16_3,rfl,rfl,HA,HK3,HO_11,HO_12,HO_14,BK380,HB⟩ := hrel
         cases gk with
         | zero => exact absurd HA.out (by simp [bournelaw37_AllotAside.l1])
         | succ k3 =>
          have H := HA.out
          clear HA
          simp only [bournelaw37_AllotAside.l1] at H
          by_cases c20 : x16_3 < (t384.length : Int)
          ·rw [if_pos c20] at H
           have c20b0 : decide (x16_3 < (t384.length : Int)) = true := decide_eq_true c20
           clear c20
           by_cases c21 : 0 ≤ x16_3
           ·rw [if_pos c21] at H
            have c21b0 : decide (0 ≤ x16_3) = true := decide_eq_true c21
            clear c21
            by_cases c22 : 0 ≤ (rd t384 x16_3)
            ·rw [if_pos c22] at H
             have c22b0 : decide (0 ≤ (rd t384 x16_3)) = true := decide_eq_true c22
             clear c22
             by_cases c23 : (rd t384 x16_3) < (l3.length : Int)
             ·rw [if_pos c23] at H
              have c23b0 : decide ((rd t384 x16_3) < (l3.length : Int)) = true := decide_eq_true c23
              clear c23
              obtain ⟨bq24,hbq24⟩ : ∃ b_ : Bool,b_ = (rdOf false l3 (rd t384 x16_3)) := ⟨_,rfl⟩
              replace H : (if bq24 = true then (bournelaw37_AllotAside.l1 k3 l1 l2 l3 t381 x11_2 x12_2 x13_2 t384 (wrap64 (x15_3 + 1)) (wrap64 (x16_3 + 1)) a0_0 l0_1 a0_2 l0_3 l0_4 l0_5 l0_6 l0_7 l0_8 l0_9 a0_10) else (bournelaw37_AllotAside.l1 k3 l1 l2 l3 t381 x11_2 x12_2 x13_2 t384 x15_3 (wrap64 (x16_3 + 1)) a0_0 l0_1 a0_2 l0_3 l0_4 l0_5 l0_6 l0_7 l0_8 l0_9 a0_10)) = some r := by rw [← hbq24] at H;exact H
              have Nbq24 := Aside0.mk hbq24
              clear hbq24
              by_cases c25 : bq24 = true
              ·subst c25
               have H1 : (bournelaw37_AllotAside.l1 k3 l1 l2 l3 t381 x11_2 x12_2 x13_2 t384 (wrap64 (x15_3 + 1)) (wrap64 (x16_3 + 1)) a0_0 l0_1 a0_2 l0_3 l0_4 l0_5 l0_6 l0_7 l0_8 l0_9 a0_10) = some r := by rw [if_pos rfl] at H;exact H
               clear H
               have H := H1
               clear H1
               have H' := Aside0.mk H
               clear H
               obtain ⟨Ao26,co26,eo26⟩ := Kd.R_slice HO_14.out
               subst eo26
               have p387 : 0 ≤ (x16_3 : Int) := of_decide_eq_true (by first | (with_reducible assumption) | assumption)
               have q387 : x16_3 < (t384.length : Int) := of_decide_eq_true (by first | (with_reducible assumption) | assumption)
               obtain ⟨ad387,e387,hx387_0⟩ := Kd.at_int (Kd.R_reads' HO_14.out).2.2 x16_3 p387 q387
               cases e387
               replace p387 := eq_true p387
               replace q387 := eq_true q387
               have p388 : 0 ≤ ((rd t384 x16_3) : Int) := of_decide_eq_true (by first | (with_reducible assumption) | assumption)
               have q388 : (rd t384 x16_3) < (l3.length : Int) := of_decide_eq_true (by first | (with_reducible assumption) | assumption)
               obtain ⟨ad388,e388,hx388_0⟩ := Kd.at_bool HR3.out (rd t384 x16_3) p388 q388
               (try rw [← Nbq24.out] at hx388_0)
               cases e388
               replace hx388_0 := (HB.out.cell (World.block_lt_of_cell? w _ hx388_0)).trans hx388_0
               replace p388 := eq_true p388
               replace q388 := eq_true q388
               go_wp2
               go_roundg k3
               case measure => have := HJ6.out;have := HK2.out;have := HK3.out;omega
               case rel => exact ⟨(wrap64 (x15_3 + 1)),(wrap64 (x16_3 + 1)),(by first | rfl | (simp;done) | (simp [*];done)),(by first | rfl | (simp;done) | (simp [*];done)),H',⟨by have := HJ6.out;have := HK2.out;have := HK3.out;omega⟩,⟨by (with_reducible repeat (first | apply Kd.R_alloc | apply Kd.R_drewN | apply Kd.R_drew));exact HO_11.out⟩,⟨by (with_reducible repeat (first | apply Kd.R_alloc | apply Kd.R_drewN | apply Kd.R_drew));exact HO_12.out⟩,⟨by (with_reducible repeat (first | apply Kd.R_alloc | apply Kd.R_drewN | apply Kd.R_drew));exact HO_14.out⟩,⟨by (with_reducible repeat (first | refine blk_drewN ?_ _ | refine blk_drew ?_ | refine blk_alloc ?_ _));exact BK380.out⟩,⟨by repeat (first | (with_reducible first | exact HB.out | apply below_alloc | apply pw_below_drewN | apply below_drew1 | refine below_set ?_ GE380.out) | exact HB.out)⟩⟩
              ·replace c25 := Bool.eq_false_iff.mpr c25
               subst c25
               have H1 : (bournelaw37_AllotAside.l1 k3 l1 l2 l3 t381 x11_2 x12_2 x13_2 t384 x15_3 (wrap64 (x16_3 + 1)) a0_0 l0_1 a0_2 l0_3 l0_4 l0_5 l0_6 l0_7 l0_8 l0_9 a0_10) = some r := by rw [if_neg (show ¬ (false = true) by decide)] at H;exact H
               clear H
               have H := H1
               clear H1
               have H' := Aside0.mk H
               clear H
               obtain ⟨Ao27,co27,eo27⟩ := Kd.R_slice HO_14.out
               subst eo27
               have p387 : 0 ≤ (x16_3 : Int) := of_decide_eq_true (by first | (with_reducible assumption) | assumption)
               have q387 : x16_3 < (t384.length : Int) := of_decide_eq_true (by first | (with_reducible assumption) | assumption)
               obtain ⟨ad387,e387,hx387_0⟩ := Kd.at_int (Kd.R_reads' HO_14.out).2.2 x16_3 p387 q387
               cases e387
               replace p387 := eq_true p387
               replace q387 := eq_true q387
               have p388 : 0 ≤ ((rd t384 x16_3) : Int) := of_decide_eq_true (by first | (with_reducible assumption) | assumption)
               have q388 : (rd t384 x16_3) < (l3.length : Int) := of_decide_eq_true (by first | (with_reducible assumption) | assumption)
               obtain ⟨ad388,e388,hx388_0⟩ := Kd.at_bool HR3.out (rd t384 x16_3) p388 q388
               (try rw [← Nbq24.out] at hx388_0)
               cases e388
               replace hx388_0 := (HB.out.cell (World.block_lt_of_cell? w _ hx388_0)).trans hx388_0
               replace p388 := eq_true p388
               replace q388 := eq_true q388
               go_wp2
               go_roundg k3
               case measure => have := HJ6.out;have := HK2.out;have := HK3.out;omega
               case rel => exact ⟨(x15_3),(wrap64 (x16_3 + 1)),(by first | rfl | (simp;done) | (simp [*];done)),(by first | rfl | (simp;done) | (simp [*];done)),H',⟨by have := HJ6.out;have := HK2.out;have := HK3.out;omega⟩,⟨by (with_reducible repeat (first | apply Kd.R_alloc | apply Kd.R_drewN | apply Kd.R_drew));exact HO_11.out⟩,⟨by (with_reducible repeat (first | apply Kd.R_alloc | apply Kd.R_drewN | apply Kd.R_drew));exact HO_12.out⟩,⟨by (with_reducible repeat (first | apply Kd.R_alloc | apply Kd.R_drewN | apply Kd.R_drew));exact HO_14.out⟩,⟨by (with_reducible repeat (first | refine blk_drewN ?_ _ | refine blk_drew ?_ | refine blk_alloc ?_ _));exact BK380.out⟩,⟨by repeat (first | (with_reducible first | exact HB.out | apply below_alloc | apply pw_below_drewN | apply below_drew1 | refine below_set ?_ GE380.out) | exact HB.out)⟩⟩
             ·rw [if_neg c23] at H
              exact absurd H (by simp)
            ·rw [if_neg c22] at H
             exact absurd H (by simp)
           ·rw [if_neg c21] at H
            exact absurd H (by simp)
          ·rw [if_neg c20] at H
           have c20b0 : decide (x16_3 < (t384.length : Int)) = false := decide_eq_false c20
           clear c20
           have HC28 := Aside0.mk H
           clear H
           obtain ⟨Ao29,co29,eo29⟩ := Kd.R_slice HO_14.out
           subst eo29
           go_upto_region 17 with (fail)
           go_cut [72] (fun v72 wc => ∃ (kq : Nat) (x72_27 : Bool),v72 = .bool x72_27 ∧ Aside0 (bournelaw37_AllotAside.j3 kq l1 l2 l3 t381 x11_2 x12_2 x13_2 x15_3 x72_27 a0_0 l0_1 a0_2 l0_3 l0_4 l0_5 l0_6 l0_7 l0_8 l0_9 a0_10 = some r) ∧ Aside0 (kq ≤ k3) ∧ Aside0 (Kd.R k45 45 wc w.heap.size (fun _ => True) u11 x11_2) ∧ Aside0 (Kd.R (Kd.int .i64) 3 wc w.heap.size (fun _ => True) u12 x12_2) ∧ Aside0 (wc.heap[gb380]? = some (.cells #[.string a0_0,(.slice A0_1 l0_1.length c0_1),.int .i64 a0_2,(.slice A0_3 l0_3.length c0_3),(.slice A0_4 l0_4.length c0_4),(.slice A0_5 l0_5.length c0_5),(.slice A0_6 l0_6.length c0_6),(.slice A0_7 l0_7.length c0_7),(.slice A0_8 l0_8.length c0_8),(.slice A0_9 l0_9.length c0_9),.int .i64 a0_10] 31 (0,0))) ∧ Aside0 (Below w.heap.size w wc))
           case first =>
            have H := HC28.out
            clear HC28
            by_cases c30 : x15_3 = 0
            ·rw [if_pos c30] at H
             have c30b0 : (x15_3 == 0) = true := beq_iff_eq.mpr c30
             have c30b1 : (x15_3 != 0) = false := bne_eq_false_iff_eq.mpr c30
             clear c30
             (first | rw [c30b0] | (simp only [i64_w,i32_w];rw [c30b0]) | skip)
             have H' := Aside0.mk H
             clear H
             go_wp2
             go_meet
             case rel => exact ⟨_,(false),(by first | rfl | (simp;done) | (simp [*];done)),H',⟨by have := HJ6.out;have := HK2.out;have := HK3.out;first | omega | exact Nat.le_refl _⟩,⟨by (with_reducible repeat (first | apply Kd.R_alloc | apply Kd.R_drewN | apply Kd.R_drew));exact HO_11.out⟩,⟨by (with_reducible repeat (first | apply Kd.R_alloc | apply Kd.R_drewN | apply Kd.R_drew));exact Kd.R_mono HO_12.out (fun _ hk => trivial)⟩,⟨by (with_reducible repeat (first | refine blk_drewN ?_ _ | refine blk_drew ?_ | refine blk_alloc ?_ _));exact BK380.out⟩,⟨by repeat (first | (with_reducible first | exact HB.out | apply below_alloc | apply pw_below_drewN | apply below_drew1 | refine below_set ?_ GE380.out) | exact HB.out)⟩⟩
            ·rw [if_neg c30] at H
             have c30b0 : (x15_3 == 0) = false := beq_eq_false_iff_ne.mpr c30
             have c30b1 : (x15_3 != 0) = true := bne_iff_ne.mpr c30
             (first | rw [c30b0] | (simp only [i64_w,i32_w];rw [c30b0]) | skip)
             have H' := Aside0.mk H
             clear H
             go_wp2
             go_meet
             case rel => exact ⟨_,((x15_3 != (t384.length : Int))),(by first | rfl | (simp;done) | (simp [*];done)),H',⟨by have := HJ6.out;have := HK2.out;have := HK3.out;first | omega | exact Nat.le_refl _⟩,⟨by (with_reducible repeat (first | apply Kd.R_alloc | apply Kd.R_drewN | apply Kd.R_drew));exact HO_11.out⟩,⟨by (with_reducible repeat (first | apply Kd.R_alloc | apply Kd.R_drewN | apply Kd.R_drew));exact Kd.R_mono HO_12.out (fun _ hk => trivial)⟩,⟨by (with_reducible repeat (first | refine blk_drewN ?_ _ | refine blk_drew ?_ | refine blk_alloc ?_ _));exact BK380.out⟩,⟨by repeat (first | (with_reducible first | exact HB.out | apply below_alloc | apply pw_below_drewN | apply below_drew1 | refine below_set ?_ GE380.out) | exact HB.out)⟩⟩
           case rest =>
            clear HC28
            try clear c1
            try clear c2
            try clear p2
            try clear q2
            try clear c3
            try clear p3
            try clear q3
            try clear hx3
            try clear c6
            try clear p6
            try clear c8
            try clear c9
            try clear c12
            try clear c13
            try clear c14
            try clear c15
            try clear c15b0
            try clear c16
            try clear c16b0
            try clear c20
            try clear c20b0
            try clear c21
            try clear c21b0
            try clear c22
            try clear c22b0
            try clear c23
            try clear c23b0
            try clear q24
            try clear c25
            try clear c30
            try clear c30b0
            try clear c30b1
            try clear hcz10_0
            try clear hcz10_1
            try clear hcz10_10
            try clear hcz10_2
            try clear hcz10_3
            try clear hcz10_4
            try clear hcz10_5
            try clear hcz10_6
            try clear hcz10_7
            try clear hcz10_8
            try clear hcz10_9
            try clear hcz13_0
            try clear hcz13_1
            try clear hcz13_10
            try clear hcz13_2
            try clear hcz13_3
            try clear hcz13_4
            try clear hcz13_5
            try clear hcz13_6
            try clear hcz13_7
            try clear hcz13_8
            try clear hcz13_9
            try clear hfz10_0
            try clear hfz10_1
            try clear hfz10_10
            try clear hfz10_2
            try clear hfz10_3
            try clear hfz10_4
            try clear hfz10_5
            try clear hfz10_6
            try clear hfz10_7
            try clear hfz10_8
            try clear hfz10_9
            try clear hfz13_0
            try clear hfz13_1
            try clear hfz13_10
            try clear hfz13_2
            try clear hfz13_3
            try clear hfz13_4
            try clear hfz13_5
            try clear hfz13_6
            try clear hfz13_7
            try clear hfz13_8
            try clear hfz13_9
            try clear hx383_0
            try clear hx383_1
            try clear hx383_2
            try clear hx383_3
            try clear hx383_4
            try clear hx383_5
            try clear hx383_6
            try clear hx383_7
            try clear hx383_8
            try clear hx387_0
            try clear hx388_0
            try clear p2
            try clear p3
            try clear p383
            try clear p387
            try clear p388
            try clear q3
            try clear q383
            try clear q387
            try clear q388
            obtain ⟨kq,x72_27,rfl,HA,HJ27,HO_11,HO_12,BK380,HB⟩ := hcut
            cases kq with
            | zero => exact absurd HA.out (by simp [bournelaw37_AllotAside.j3])
            | succ kj27 =>
             have H := HA.out
             clear HA
             simp only [bournelaw37_AllotAside.j3] at H
             by_cases c31 : x72_27 = true
             ·subst c31
              have H1 : (some t381) = some r := by rw [if_pos rfl] at H;exact H
              clear H
              have H := H1
              clear H1
              obtain rfl := Option.some.inj H
              go_wp2
              go_ret
              exact ⟨by first | rfl | (simp [errW_none,errW_some] <;> rfl) | (simp [*,errW_none,errW_some] <;> rfl),by repeat (first | (with_reducible first | exact HB.out | apply below_alloc | apply pw_below_drewN | apply below_drew1 | refine below_set ?_ GE380.out) | exact HB.out)⟩
             ·replace c31 := Bool.eq_false_iff.mpr c31
              subst c31
              have H1 : (if x15_3 > 0 then (if 0 ≤ x13_2 then (if x13_2 < (l1.length : Int) then (if x11_2.length < 1954687338268 then (if x12_2.length < 17592186044416 then (bournelaw37_AllotAside.l0 kj27 l1 l2 l3 t381 (x11_2 ++ [(⟨(rd_T45 l1 x13_2).f0,(rd_T45 l1 x13_2).f1,(rd_T45 l1 x13_2).f2,(rd_T45 l1 x13_2).f3,(rd_T45 l1 x13_2).f4,(rd_T45 l1 x13_2).f5,(rd_T45 l1 x13_2).f6,(rd_T45 l1 x13_2).f7,(rd_T45 l1 x13_2).f8⟩ : S45)]) (x12_2 ++ [x13_2]) (wrap64 (x13_2 + 1)) a0_0 l0_1 a0_2 l0_3 l0_4 l0_5 l0_6 l0_7 l0_8 l0_9 a0_10) else (none)) else (none)) else (none)) else (none)) else (bournelaw37_AllotAside.l0 kj27 l1 l2 l3 t381 x11_2 x12_2 (wrap64 (x13_2 + 1)) a0_0 l0_1 a0_2 l0_3 l0_4 l0_5 l0_6 l0_7 l0_8 l0_9 a0_10)) = some r := by rw [if_neg (show ¬ (false = true) by decide)] at H;exact H
              clear H
              have H := H1
              clear H1
              by_cases c32 : x15_3 > 0
              ·rw [if_pos c32] at H
               have c32b0 : decide (0 < x15_3) = true := decide_eq_true c32
               clear c32
               by_cases c33 : 0 ≤ x13_2
               ·rw [if_pos c33] at H
                have c33b0 : decide (0 ≤ x13_2) = true := decide_eq_true c33
                clear c33
                by_cases c34 : x13_2 < (l1.length : Int)
                ·rw [if_pos c34] at H
                 have c34b0 : decide (x13_2 < (l1.length : Int)) = true := decide_eq_true c34
                 clear c34
                 by_cases c35 : x11_2.length < 1954687338268
                 ·rw [if_pos c35] at H
                  have LMc35 := Aside0.mk c35
                  clear c35
                  obtain ⟨y390,hy390⟩ : ∃ y_ : List (S45),y_ = (x11_2 ++ [(⟨(rd_T45 l1 x13_2).f0,(rd_T45 l1 x13_2).f1,(rd_T45 l1 x13_2).f2,(rd_T45 l1 x13_2).f3,(rd_T45 l1 x13_2).f4,(rd_T45 l1 x13_2).f5,(rd_T45 l1 x13_2).f6,(rd_T45 l1 x13_2).f7,(rd_T45 l1 x13_2).f8⟩ : S45)]) := ⟨_,rfl⟩
                  replace H : (if x12_2.length < 17592186044416 then (bournelaw37_AllotAside.l0 kj27 l1 l2 l3 t381 y390 (x12_2 ++ [x13_2]) (wrap64 (x13_2 + 1)) a0_0 l0_1 a0_2 l0_3 l0_4 l0_5 l0_6 l0_7 l0_8 l0_9 a0_10) else (none)) = some r := by first | (rw [hy390];with_reducible exact H) | (have H2_ := (Option.bind_some _ _).symm.trans H;rw [hy390];with_reducible exact H2_) | (have H2_ := (Option.bind_some _ _).symm.trans H;with_reducible exact H2_) | with_reducible exact H | (rw [hy390];exact H) | exact H
                  have Ny390 := Aside0.mk hy390
                  clear hy390
                  by_cases c36 : x12_2.length < 17592186044416
                  ·rw [if_pos c36] at H
                   have LMc36 := Aside0.mk c36
                   clear c36
                   obtain ⟨y393,hy393⟩ : ∃ y_ : List Int,y_ = (x12_2 ++ [x13_2]) := ⟨_,rfl⟩
                   replace H : (bournelaw37_AllotAside.l0 kj27 l1 l2 l3 t381 y390 y393 (wrap64 (x13_2 + 1)) a0_0 l0_1 a0_2 l0_3 l0_4 l0_5 l0_6 l0_7 l0_8 l0_9 a0_10) = some r := by first | (rw [hy393];with_reducible exact H) | (have H2_ := (Option.bind_some _ _).symm.trans H;rw [hy393];with_reducible exact H2_) | (have H2_ := (Option.bind_some _ _).symm.trans H;with_reducible exact H2_) | with_reducible exact H | (rw [hy393];exact H) | exact H
                   have Ny393 := Aside0.mk hy393
                   clear hy393
                   have H' := Aside0.mk H
                   clear H
                   have p389 : 0 ≤ (x13_2 : Int) := of_decide_eq_true (by first | (with_reducible assumption) | assumption)
                   have q389 : x13_2 < (l1.length : Int) := of_decide_eq_true (by first | (with_reducible assumption) | assumption)
                   obtain ⟨ad389,e389,hx389_0,hx389_1,hx389_2,hx389_3,hx389_4,hx389_5,hx389_6,hx389_7,hx389_8⟩ := at_T45 HR1.out x13_2 p389 q389
                   obtain rfl : ad383 = ad389 := (by injection e389)
                   replace hx389_0 := (HB.out.cell (World.block_lt_of_cell? w _ hx389_0)).trans hx389_0
                   replace hx389_1 := (HB.out.cell (World.block_lt_of_cell? w _ hx389_1)).trans hx389_1
                   replace hx389_2 := (HB.out.cell (World.block_lt_of_cell? w _ hx389_2)).trans hx389_2
                   replace hx389_3 := (HB.out.cell (World.block_lt_of_cell? w _ hx389_3)).trans hx389_3
                   replace hx389_4 := (HB.out.cell (World.block_lt_of_cell? w _ hx389_4)).trans hx389_4
                   replace hx389_5 := (HB.out.cell (World.block_lt_of_cell? w _ hx389_5)).trans hx389_5
                   replace hx389_6 := (HB.out.cell (World.block_lt_of_cell? w _ hx389_6)).trans hx389_6
                   replace hx389_7 := (HB.out.cell (World.block_lt_of_cell? w _ hx389_7)).trans hx389_7
                   replace hx389_8 := (HB.out.cell (World.block_lt_of_cell? w _ hx389_8)).trans hx389_8
                   replace p389 := eq_true p389
                   replace q389 := eq_true q389
                   go_wp2_with (first | ((with_reducible refine gate_builtin (b := .append) (xs := #[.tmp 76,.tmp 81]) rfl ?_);(try (refine gate_guard (by rfl) ?_;dsimp only));at_builtin;refine Kd.R_append k45 (w0 := w) w.heap.size rfl (.tmp 76) (.tmp 81) 32 45 (.agg #[(.int .i64 0),(.int .i64 0),(.int .i64 0),(.int .i64 0),(.int .i64 0),(.int .i64 0),(.int .i64 0),(.int .i64 0),(.int .i64 0)]) 72 rfl Try.underlying32 info45 rfl (by decide) (by omega) u11 x11_2 (⟨(rd_T45 l1 x13_2).f0,(rd_T45 l1 x13_2).f1,(rd_T45 l1 x13_2).f2,(rd_T45 l1 x13_2).f3,(rd_T45 l1 x13_2).f4,(rd_T45 l1 x13_2).f5,(rd_T45 l1 x13_2).f6,(rd_T45 l1 x13_2).f7,(rd_T45 l1 x13_2).f8⟩ : S45) [.int .i64 ((rd_T45 l1 x13_2).f0),.int .i64 ((rd_T45 l1 x13_2).f1),.int .i64 ((rd_T45 l1 x13_2).f2),.int .i64 ((rd_T45 l1 x13_2).f3),.int .i64 ((rd_T45 l1 x13_2).f4),.int .i64 ((rd_T45 l1 x13_2).f5),.int .i64 ((rd_T45 l1 x13_2).f6),.int .i64 ((rd_T45 l1 x13_2).f7),.int .i64 ((rd_T45 l1 x13_2).f8)] (fun _ => True) (fun _ => False) rfl rfl ?aP (fun _ hk => hk.elim) ?aF ?aO ?aB ?aS ?aL ?_;(case aP => exact k45_mkM _ _ _ (⟨(rd_T45 l1 x13_2).f0,(rd_T45 l1 x13_2).f1,(rd_T45 l1 x13_2).f2,(rd_T45 l1 x13_2).f3,(rd_T45 l1 x13_2).f4,(rd_T45 l1 x13_2).f5,(rd_T45 l1 x13_2).f6,(rd_T45 l1 x13_2).f7,(rd_T45 l1 x13_2).f8⟩ : S45));(case aB => exact (by repeat (first | (with_reducible first | exact HB.out | apply below_alloc | apply pw_below_drewN | apply below_drew1 | refine below_set ?_ GE380.out) | exact HB.out)));(case aF => exact (fun _ _ => trivial));(case aO => exact (by (with_reducible repeat (first | apply Kd.R_alloc | apply Kd.R_drewN | apply Kd.R_drew));exact HO_11.out));(case aS => exact (below_size (by repeat (first | (with_reducible first | exact HB.out | apply below_alloc | apply pw_below_drewN | apply below_drew1 | refine below_set ?_ GE380.out) | exact HB.out))));(case aL => have := LMc35.out;omega);intro v391 w37 ho hb hg hat;rw [← Ny390.out] at ho;have n0_ := Aside0.mk (Kd.R_over' (by (with_reducible repeat (first | apply Kd.R_alloc | apply Kd.R_drewN | apply Kd.R_drew));exact HO_12.out) (Kd.R_typed (by (with_reducible repeat (first | apply Kd.R_alloc | apply Kd.R_drewN | apply Kd.R_drew));exact HO_11.out)) (by decide) hg);have n1_ := Aside0.mk (blk_grown (g := gb380) (o := .cells #[.string a0_0,.slice A0_1 l0_1.length c0_1,.int .i64 a0_2,.slice A0_3 l0_3.length c0_3,.slice A0_4 l0_4.length c0_4,.slice A0_5 l0_5.length c0_5,.slice A0_6 l0_6.length c0_6,.slice A0_7 l0_7.length c0_7,.slice A0_8 l0_8.length c0_8,.slice A0_9 l0_9.length c0_9,.int .i64 a0_10] 31 (0,0)) (by (with_reducible repeat (first | refine blk_drewN ?_ _ | refine blk_drew ?_ | refine blk_alloc ?_ _));exact BK380.out) hg (Kd.R_ne HO_11.out BK380.out (by decide)));have n2_ := Aside0.mk (hb);have n3_ := Aside0.mk (ho);clear HO_12;clear BK380;clear HB;clear HO_11;have HO_12 := n0_;have BK380 := n1_;have HB := n2_;have HO392 := n3_;clear n0_ n1_ n2_ n3_;clear ho hb hg hat) | ((with_reducible refine gate_builtin (b := .append) (xs := #[.tmp 83,.tmp 85]) rfl ?_);(try (refine gate_guard (by rfl) ?_;dsimp only));at_builtin;refine Kd.R_append (Kd.int .i64) (w0 := w) w.heap.size rfl (.tmp 83) (.tmp 85) 29 3 (.int .i64 0) 8 rfl Try.underlying29 info3 rfl (by decide) (by omega) u12 x12_2 x13_2 [.int .i64 x13_2] (fun _ => True) (fun _ => False) rfl rfl ?aP (fun _ hk => hk.elim) ?aF ?aO ?aB ?aS ?aL ?_;(case aP => exact rfl);(case aB => exact (by repeat (first | (with_reducible first | exact HB.out | apply below_alloc | apply pw_below_drewN | apply below_drew1 | refine below_set ?_ GE380.out) | exact HB.out)));(case aF => exact (fun _ _ => trivial));(case aO => exact (by (with_reducible repeat (first | apply Kd.R_alloc | apply Kd.R_drewN | apply Kd.R_drew));exact HO_12.out));(case aS => exact (below_size (by repeat (first | (with_reducible first | exact HB.out | apply below_alloc | apply pw_below_drewN | apply below_drew1 | refine below_set ?_ GE380.out) | exact HB.out))));(case aL => have := LMc36.out;omega);intro v394 w38 ho hb hg hat;rw [← Ny393.out] at ho;have n0_ := Aside0.mk (blk_grown (g := gb380) (o := .cells #[.string a0_0,.slice A0_1 l0_1.length c0_1,.int .i64 a0_2,.slice A0_3 l0_3.length c0_3,.slice A0_4 l0_4.length c0_4,.slice A0_5 l0_5.length c0_5,.slice A0_6 l0_6.length c0_6,.slice A0_7 l0_7.length c0_7,.slice A0_8 l0_8.length c0_8,.slice A0_9 l0_9.length c0_9,.int .i64 a0_10] 31 (0,0)) (by (with_reducible repeat (first | refine blk_drewN ?_ _ | refine blk_drew ?_ | refine blk_alloc ?_ _));exact BK380.out) hg (Kd.R_ne HO_12.out BK380.out (by decide)));have n1_ := Aside0.mk (Kd.R_over' (by (with_reducible repeat (first | apply Kd.R_alloc | apply Kd.R_drewN | apply Kd.R_drew));exact HO392.out) (Kd.R_typed (by (with_reducible repeat (first | apply Kd.R_alloc | apply Kd.R_drewN | apply Kd.R_drew));exact HO_12.out)) (by decide) hg);have n2_ := Aside0.mk (hb);have n3_ := Aside0.mk (ho);clear BK380;clear HO392;clear HB;clear HO_12;have BK380 := n0_;have HO392 := n1_;have HB := n2_;have HO395 := n3_;clear n0_ n1_ n2_ n3_;clear ho hb hg hat))
                   go_roundg kj27
                   case measure => have := HJ6.out;have := HK2.out;have := HK3.out;have := HJ27.out;omega
                   case rel => exact ⟨(y390),(y393),(wrap64 (x13_2 + 1)),(by first | rfl | (simp;done) | (simp [*];done)),H',⟨by have := HJ6.out;have := HK2.out;have := HK3.out;have := HJ27.out;omega⟩,⟨by (with_reducible repeat (first | apply Kd.R_alloc | apply Kd.R_drewN | apply Kd.R_drew));exact HO392.out⟩,⟨by (with_reducible repeat (first | apply Kd.R_alloc | apply Kd.R_drewN | apply Kd.R_drew));exact HO395.out⟩,⟨by (with_reducible repeat (first | refine blk_drewN ?_ _ | refine blk_drew ?_ | refine blk_alloc ?_ _));exact BK380.out⟩,⟨by repeat (first | (with_reducible first | exact HB.out | apply below_alloc | apply pw_below_drewN | apply below_drew1 | refine below_set ?_ GE380.out) | exact HB.out)⟩⟩
                  ·rw [if_neg c36] at H
                   exact absurd H (by simp)
                 ·rw [if_neg c35] at H
                  exact absurd H (by simp)
                ·rw [if_neg c34] at H
                 exact absurd H (by simp)
               ·rw [if_neg c33] at H
                exact absurd H (by simp)
              ·rw [if_neg c32] at H
               have c32b0 : decide (0 < x15_3) = false := decide_eq_false c32
               clear c32
               have H' := Aside0.mk H
               clear H
               go_wp2
               go_roundg kj27
               case measure => have := HJ6.out;have := HK2.out;have := HK3.out;have := HJ27.out;omega
               case rel => exact ⟨(x11_2),(x12_2),(wrap64 (x13_2 + 1)),(by first | rfl | (simp;done) | (simp [*];done)),H',⟨by have := HJ6.out;have := HK2.out;have := HK3.out;have := HJ27.out;omega⟩,⟨by (with_reducible repeat (first | apply Kd.R_alloc | apply Kd.R_drewN | apply Kd.R_drew));exact HO_11.out⟩,⟨by (with_reducible repeat (first | apply Kd.R_alloc | apply Kd.R_drewN | apply Kd.R_drew));exact HO_12.out⟩,⟨by (with_reducible repeat (first | refine blk_drewN ?_ _ | refine blk_drew ?_ | refine blk_alloc ?_ _));exact BK380.out⟩,⟨by repeat (first | (with_reducible first | exact HB.out | apply below_alloc | apply pw_below_drewN | apply below_drew1 | refine below_set ?_ GE380.out) | exact HB.out)⟩⟩
       ·rw [if_neg c16] at H
        exact absurd H (by simp)
      ·rw [if_neg c15] at H
       have c15b0 : decide (x13_2 < (l1.length : Int)) = false := decide_eq_false c15
       clear c15
       replace H := Option.bind_eq_some_iff.mp H
       obtain ⟨⟨t396,t399⟩,A390,H⟩ := H
       replace H : ((allot_Day.f k2 a0_0 l0_1 a0_2 l0_3 l0_4 l0_5 l0_6 l0_7 l0_8 l0_9 a0_10 x11_2 l2).bind fun bt402 => (if (bt402.1.length : Int) = (x11_2.length : Int) then (bournelaw37_AllotAside.j4 k2 t381 x11_2 x12_2 t396 bt402.1 ((t396.length : Int) != (l1.length : Int))) else (none))) = some r := H
       have A39 := Aside0.mk A390
       clear A390
       replace H := Option.bind_eq_some_iff.mp H
       obtain ⟨⟨t402,t405⟩,A400,H⟩ := H
       replace H : (if (t402.length : Int) = (x11_2.length : Int) then (bournelaw37_AllotAside.j4 k2 t381 x11_2 x12_2 t396 t402 ((t396.length : Int) != (l1.length : Int))) else (none)) = some r := H
       have A40 := Aside0.mk A400
       clear A400
       have HC41 := Aside0.mk H
       clear H
       have hcz42_0 : wr.cell? ⟨gb380,0,none⟩ = some (.string a0_0) := (blk_cell BK380.out 0).trans rfl
       have hcz42_1 : wr.cell? ⟨gb380,1,none⟩ = some (.slice A0_1 l0_1.length c0_1) := (blk_cell BK380.out 1).trans rfl
       have hcz42_2 : wr.cell? ⟨gb380,2,none⟩ = some (.int .i64 a0_2) := (blk_cell BK380.out 2).trans rfl
       have hcz42_3 : wr.cell? ⟨gb380,3,none⟩ = some (.slice A0_3 l0_3.length c0_3) := (blk_cell BK380.out 3).trans rfl
       have hcz42_4 : wr.cell? ⟨gb380,4,none⟩ = some (.slice A0_4 l0_4.length c0_4) := (blk_cell BK380.out 4).trans rfl
       have hcz42_5 : wr.cell? ⟨gb380,5,none⟩ = some (.slice A0_5 l0_5.length c0_5) := (blk_cell BK380.out 5).trans rfl
       have hcz42_6 : wr.cell? ⟨gb380,6,none⟩ = some (.slice A0_6 l0_6.length c0_6) := (blk_cell BK380.out 6).trans rfl
       have hcz42_7 : wr.cell? ⟨gb380,7,none⟩ = some (.slice A0_7 l0_7.length c0_7) := (blk_cell BK380.out 7).trans rfl
       have hcz42_8 : wr.cell? ⟨gb380,8,none⟩ = some (.slice A0_8 l0_8.length c0_8) := (blk_cell BK380.out 8).trans rfl
       have hcz42_9 : wr.cell? ⟨gb380,9,none⟩ = some (.slice A0_9 l0_9.length c0_9) := (blk_cell BK380.out 9).trans rfl
       have hcz42_10 : wr.cell? ⟨gb380,10,none⟩ = some (.int .i64 a0_10) := (blk_cell BK380.out 10).trans rfl
       have hfz42_0 := blk_frozen BK380.out 0
       have hfz42_1 := blk_frozen BK380.out 1
       have hfz42_2 := blk_frozen BK380.out 2
       have hfz42_3 := blk_frozen BK380.out 3
       have hfz42_4 := blk_frozen BK380.out 4
       have hfz42_5 := blk_frozen BK380.out 5
       have hfz42_6 := blk_frozen BK380.out 6
       have hfz42_7 := blk_frozen BK380.out 7
       have hfz42_8 := blk_frozen BK380.out 8
       have hfz42_9 := blk_frozen BK380.out 9
       have hfz42_10 := blk_frozen BK380.out 10
       go_upto_region 24 with (first | ((with_reducible refine gate_callee (f := 10) rfl ?_);refine goesL_ (some 91) rfl rfl Try.func10 (by kernel_rfl) rfl #[.agg #[.string a0_0,.slice A0_1 l0_1.length c0_1,.int .i64 a0_2,.slice A0_3 l0_3.length c0_3,.slice A0_4 l0_4.length c0_4,.slice A0_5 l0_5.length c0_5,.slice A0_6 l0_6.length c0_6,.slice A0_7 l0_7.length c0_7,.slice A0_8 l0_8.length c0_8,.slice A0_9 l0_9.length c0_9,.int .i64 a0_10],.slice A1 l1.length c1,.slice A2 l2.length c2] rfl (by (try simp only [List.map_toArray,List.map_cons,List.map_nil]);first | done | rfl | (simp only [List.length_drop,List.length_take];rfl)) ?_;(with_reducible refine (allot_Day.calls k2 a0_0 _ _ l0_1 a0_2 _ _ l0_3 _ _ l0_4 _ _ l0_5 _ _ l0_6 _ _ l0_7 _ _ l0_8 _ _ l0_9 a0_10 _ _ l1 _ _ l2 t396 t399 _ ?side1 ?side2 ?side3 ?side4 ?side5 ?side6 ?side7 ?side8 ?side9 ?side10 ?side11 ?side12 ?side13 ?side14 ?side15 ?side16 ?side17 ?side18 ?side19 ?side20 A39.out).mono ?_);(case side1 => repeat (first | exact (Kd.C_below HR0_1.out HB.out) | (with_reducible refine Kd.C_alloc ?_ _) | (with_reducible refine Kd.C_drewN ?_ _) | (with_reducible refine Kd.C_drew ?_)));(case side2 => exact HC0_1.out);(case side3 => repeat (first | exact (Kd.C_below HR0_3.out HB.out) | (with_reducible refine Kd.C_alloc ?_ _) | (with_reducible refine Kd.C_drewN ?_ _) | (with_reducible refine Kd.C_drew ?_)));(case side4 => exact HC0_3.out);(case side5 => repeat (first | exact (Kd.C_below HR0_4.out HB.out) | (with_reducible refine Kd.C_alloc ?_ _) | (with_reducible refine Kd.C_drewN ?_ _) | (with_reducible refine Kd.C_drew ?_)));(case side6 => exact HC0_4.out);(case side7 => repeat (first | exact (Kd.C_below HR0_5.out HB.out) | (with_reducible refine Kd.C_alloc ?_ _) | (with_reducible refine Kd.C_drewN ?_ _) | (with_reducible refine Kd.C_drew ?_)));(case side8 => exact HC0_5.out);(case side9 => repeat (first | exact (Kd.C_below HR0_6.out HB.out) | (with_reducible refine Kd.C_alloc ?_ _) | (with_reducible refine Kd.C_drewN ?_ _) | (with_reducible refine Kd.C_drew ?_)));(case side10 => exact HC0_6.out);(case side11 => repeat (first | exact (Kd.C_below HR0_7.out HB.out) | (with_reducible refine Kd.C_alloc ?_ _) | (with_reducible refine Kd.C_drewN ?_ _) | (with_reducible refine Kd.C_drew ?_)));(case side12 => exact HC0_7.out);(case side13 => repeat (first | exact (Kd.C_below HR0_8.out HB.out) | (with_reducible refine Kd.C_alloc ?_ _) | (with_reducible refine Kd.C_drewN ?_ _) | (with_reducible refine Kd.C_drew ?_)));(case side14 => exact HC0_8.out);(case side15 => repeat (first | exact (Kd.C_below HR0_9.out HB.out) | (with_reducible refine Kd.C_alloc ?_ _) | (with_reducible refine Kd.C_drewN ?_ _) | (with_reducible refine Kd.C_drew ?_)));(case side16 => exact HC0_9.out);(case side17 => repeat (first | exact (Kd.C_below HR1.out HB.out) | (with_reducible refine Kd.C_alloc ?_ _) | (with_reducible refine Kd.C_drewN ?_ _) | (with_reducible refine Kd.C_drew ?_)));(case side18 => exact HC1.out);(case side19 => repeat (first | exact (Kd.C_below HR2.out HB.out) | (with_reducible refine Kd.C_alloc ?_ _) | (with_reducible refine Kd.C_drewN ?_ _) | (with_reducible refine Kd.C_drew ?_)));(case side20 => exact HC2.out);rintro e w43 ⟨v397,v400,rfl,ho0,ho1,hb⟩;refine ⟨_,rfl,?_⟩;have n0_ := Aside0.mk (Kd.R_below (by (with_reducible repeat (first | apply Kd.R_alloc | apply Kd.R_drewN | apply Kd.R_drew));exact HO_11.out) hb);have n1_ := Aside0.mk (Kd.R_elder' (by (with_reducible repeat (first | apply Kd.R_alloc | apply Kd.R_drewN | apply Kd.R_drew));exact HO_12.out) (Kd.R_base ho1) hb);have n2_ := Aside0.mk (Kd.R_lower ho0 (below_size (by repeat (first | (with_reducible first | exact HB.out | apply below_alloc | apply pw_below_drewN | apply below_drew1 | refine below_set ?_ GE380.out) | exact HB.out))));have n3_ := Aside0.mk (Kd.R_lower (Kd.R_new' ho1 (Kd.R_lt (by (with_reducible repeat (first | apply Kd.R_alloc | apply Kd.R_drewN | apply Kd.R_drew));exact HO_12.out))) (below_size (by repeat (first | (with_reducible first | exact HB.out | apply below_alloc | apply pw_below_drewN | apply below_drew1 | refine below_set ?_ GE380.out) | exact HB.out))));have n4_ := Aside0.mk (blk_below (g := gb380) (o := .cells #[.string a0_0,.slice A0_1 l0_1.length c0_1,.int .i64 a0_2,.slice A0_3 l0_3.length c0_3,.slice A0_4 l0_4.length c0_4,.slice A0_5 l0_5.length c0_5,.slice A0_6 l0_6.length c0_6,.slice A0_7 l0_7.length c0_7,.slice A0_8 l0_8.length c0_8,.slice A0_9 l0_9.length c0_9,.int .i64 a0_10] 31 (0,0)) (by (with_reducible repeat (first | refine blk_drewN ?_ _ | refine blk_drew ?_ | refine blk_alloc ?_ _));exact BK380.out) hb);have n5_ := Aside0.mk (below_step (by repeat (first | (with_reducible first | exact HB.out | apply below_alloc | apply pw_below_drewN | apply below_drew1 | refine below_set ?_ GE380.out) | exact HB.out)) hb);clear HO_11;clear HO_12;clear BK380;clear HB;have HO_11 := n0_;have HO_12 := n1_;have HO398 := n2_;have HO401 := n3_;have BK380 := n4_;have HB := n5_;clear n0_ n1_ n2_ n3_ n4_ n5_;(try clear hb);(try clear hb2);(try clear hk);(try clear hi);(try clear ho0);(try clear ho1);have hcz44_0 : w43.cell? ⟨gb380,0,none⟩ = some (.string a0_0) := (blk_cell BK380.out 0).trans rfl;have hcz44_1 : w43.cell? ⟨gb380,1,none⟩ = some (.slice A0_1 l0_1.length c0_1) := (blk_cell BK380.out 1).trans rfl;have hcz44_2 : w43.cell? ⟨gb380,2,none⟩ = some (.int .i64 a0_2) := (blk_cell BK380.out 2).trans rfl;have hcz44_3 : w43.cell? ⟨gb380,3,none⟩ = some (.slice A0_3 l0_3.length c0_3) := (blk_cell BK380.out 3).trans rfl;have hcz44_4 : w43.cell? ⟨gb380,4,none⟩ = some (.slice A0_4 l0_4.length c0_4) := (blk_cell BK380.out 4).trans rfl;have hcz44_5 : w43.cell? ⟨gb380,5,none⟩ = some (.slice A0_5 l0_5.length c0_5) := (blk_cell BK380.out 5).trans rfl;have hcz44_6 : w43.cell? ⟨gb380,6,none⟩ = some (.slice A0_6 l0_6.length c0_6) := (blk_cell BK380.out 6).trans rfl;have hcz44_7 : w43.cell? ⟨gb380,7,none⟩ = some (.slice A0_7 l0_7.length c0_7) := (blk_cell BK380.out 7).trans rfl;have hcz44_8 : w43.cell? ⟨gb380,8,none⟩ = some (.slice A0_8 l0_8.length c0_8) := (blk_cell BK380.out 8).trans rfl;have hcz44_9 : w43.cell? ⟨gb380,9,none⟩ = some (.slice A0_9 l0_9.length c0_9) := (blk_cell BK380.out 9).trans rfl;have hcz44_10 : w43.cell? ⟨gb380,10,none⟩ = some (.int .i64 a0_10) := (blk_cell BK380.out 10).trans rfl;have hfz44_0 := blk_frozen BK380.out 0;have hfz44_1 := blk_frozen BK380.out 1;have hfz44_2 := blk_frozen BK380.out 2;have hfz44_3 := blk_frozen BK380.out 3;have hfz44_4 := blk_frozen BK380.out 4;have hfz44_5 := blk_frozen BK380.out 5;have hfz44_6 := blk_frozen BK380.out 6;have hfz44_7 := blk_frozen BK380.out 7;have hfz44_8 := blk_frozen BK380.out 8;have hfz44_9 := blk_frozen BK380.out 9;have hfz44_10 := blk_frozen BK380.out 10;obtain ⟨Ao45,co45,eo45⟩ := Kd.R_slice HO_11.out;subst eo45) | ((with_reducible refine gate_callee (f := 10) rfl ?_);refine goesL_ (some 98) rfl rfl Try.func10 (by kernel_rfl) rfl #[.agg #[.string a0_0,.slice A0_1 l0_1.length c0_1,.int .i64 a0_2,.slice A0_3 l0_3.length c0_3,.slice A0_4 l0_4.length c0_4,.slice A0_5 l0_5.length c0_5,.slice A0_6 l0_6.length c0_6,.slice A0_7 l0_7.length c0_7,.slice A0_8 l0_8.length c0_8,.slice A0_9 l0_9.length c0_9,.int .i64 a0_10],.slice Ao45 x11_2.length co45,.slice A2 l2.length c2] rfl (by (try simp only [List.map_toArray,List.map_cons,List.map_nil]);first | done | rfl | (simp only [List.length_drop,List.length_take];rfl)) ?_;(with_reducible refine (allot_Day.calls k2 a0_0 _ _ l0_1 a0_2 _ _ l0_3 _ _ l0_4 _ _ l0_5 _ _ l0_6 _ _ l0_7 _ _ l0_8 _ _ l0_9 a0_10 _ _ x11_2 _ _ l2 t402 t405 _ ?side1 ?side2 ?side3 ?side4 ?side5 ?side6 ?side7 ?side8 ?side9 ?side10 ?side11 ?side12 ?side13 ?side14 ?side15 ?side16 ?side17 ?side18 ?side19 ?side20 A40.out).mono ?_);(case side1 => repeat (first | exact (Kd.C_below HR0_1.out HB.out) | (with_reducible refine Kd.C_alloc ?_ _) | (with_reducible refine Kd.C_drewN ?_ _) | (with_reducible refine Kd.C_drew ?_)));(case side2 => exact HC0_1.out);(case side3 => repeat (first | exact (Kd.C_below HR0_3.out HB.out) | (with_reducible refine Kd.C_alloc ?_ _) | (with_reducible refine Kd.C_drewN ?_ _) | (with_reducible refine Kd.C_drew ?_)));(case side4 => exact HC0_3.out);(case side5 => repeat (first | exact (Kd.C_below HR0_4.out HB.out) | (with_reducible refine Kd.C_alloc ?_ _) | (with_reducible refine Kd.C_drewN ?_ _) | (with_reducible refine Kd.C_drew ?_)));(case side6 => exact HC0_4.out);(case side7 => repeat (first | exact (Kd.C_below HR0_5.out HB.out) | (with_reducible refine Kd.C_alloc ?_ _) | (with_reducible refine Kd.C_drewN ?_ _) | (with_reducible refine Kd.C_drew ?_)));(case side8 => exact HC0_5.out);(case side9 => repeat (first | exact (Kd.C_below HR0_6.out HB.out) | (with_reducible refine Kd.C_alloc ?_ _) | (with_reducible refine Kd.C_drewN ?_ _) | (with_reducible refine Kd.C_drew ?_)));(case side10 => exact HC0_6.out);(case side11 => repeat (first | exact (Kd.C_below HR0_7.out HB.out) | (with_reducible refine Kd.C_alloc ?_ _) | (with_reducible refine Kd.C_drewN ?_ _) | (with_reducible refine Kd.C_drew ?_)));(case side12 => exact HC0_7.out);(case side13 => repeat (first | exact (Kd.C_below HR0_8.out HB.out) | (with_reducible refine Kd.C_alloc ?_ _) | (with_reducible refine Kd.C_drewN ?_ _) | (with_reducible refine Kd.C_drew ?_)));(case side14 => exact HC0_8.out);(case side15 => repeat (first | exact (Kd.C_below HR0_9.out HB.out) | (with_reducible refine Kd.C_alloc ?_ _) | (with_reducible refine Kd.C_drewN ?_ _) | (with_reducible refine Kd.C_drew ?_)));(case side16 => exact HC0_9.out);(case side17 => repeat (first | exact (Kd.R_reads' HO_11.out).2.2 | (with_reducible refine Kd.C_alloc ?_ _) | (with_reducible refine Kd.C_drewN ?_ _) | (with_reducible refine Kd.C_drew ?_)));(case side18 => exact (Kd.R_reads' HO_11.out).2.1);(case side19 => repeat (first | exact (Kd.C_below HR2.out HB.out) | (with_reducible refine Kd.C_alloc ?_ _) | (with_reducible refine Kd.C_drewN ?_ _) | (with_reducible refine Kd.C_drew ?_)));(case side20 => exact HC2.out);rintro e w46 ⟨v403,v406,rfl,ho0,ho1,hb⟩;refine ⟨_,rfl,?_⟩;have n0_ := Aside0.mk (Kd.R_below (by (with_reducible repeat (first | apply Kd.R_alloc | apply Kd.R_drewN | apply Kd.R_drew));exact HO_11.out) hb);have n1_ := Aside0.mk (Kd.R_elder' (by (with_reducible repeat (first | apply Kd.R_alloc | apply Kd.R_drewN | apply Kd.R_drew));exact HO_12.out) (Kd.R_base ho1) hb);have n2_ := Aside0.mk (Kd.R_elder' (by (with_reducible repeat (first | apply Kd.R_alloc | apply Kd.R_drewN | apply Kd.R_drew));exact HO398.out) (Kd.R_base ho0) hb);have n3_ := Aside0.mk (Kd.R_elder' (by (with_reducible repeat (first | apply Kd.R_alloc | apply Kd.R_drewN | apply Kd.R_drew));exact HO401.out) (Kd.R_base ho1) hb);have n4_ := Aside0.mk (Kd.R_lower (Kd.R_new' ho0 (Kd.R_lt (by (with_reducible repeat (first | apply Kd.R_alloc | apply Kd.R_drewN | apply Kd.R_drew));exact HO398.out))) (below_size (by repeat (first | (with_reducible first | exact HB.out | apply below_alloc | apply pw_below_drewN | apply below_drew1 | refine below_set ?_ GE380.out) | exact HB.out))));have n5_ := Aside0.mk (Kd.R_lower (Kd.R_new' (Kd.R_new' ho1 (Kd.R_lt (by (with_reducible repeat (first | apply Kd.R_alloc | apply Kd.R_drewN | apply Kd.R_drew));exact HO_12.out))) (Kd.R_lt (by (with_reducible repeat (first | apply Kd.R_alloc | apply Kd.R_drewN | apply Kd.R_drew));exact HO401.out))) (below_size (by repeat (first | (with_reducible first | exact HB.out | apply below_alloc | apply pw_below_drewN | apply below_drew1 | refine below_set ?_ GE380.out) | exact HB.out))));have n6_ := Aside0.mk (blk_below (g := gb380) (o := .cells #[.string a0_0,.slice A0_1 l0_1.length c0_1,.int .i64 a0_2,.slice A0_3 l0_3.length c0_3,.slice A0_4 l0_4.length c0_4,.slice A0_5 l0_5.length c0_5,.slice A0_6 l0_6.length c0_6,.slice A0_7 l0_7.length c0_7,.slice A0_8 l0_8.length c0_8,.slice A0_9 l0_9.length c0_9,.int .i64 a0_10] 31 (0,0)) (by (with_reducible repeat (first | refine blk_drewN ?_ _ | refine blk_drew ?_ | refine blk_alloc ?_ _));exact BK380.out) hb);have n7_ := Aside0.mk (below_step (by repeat (first | (with_reducible first | exact HB.out | apply below_alloc | apply pw_below_drewN | apply below_drew1 | refine below_set ?_ GE380.out) | exact HB.out)) hb);clear HO_11;clear HO_12;clear HO398;clear HO401;clear BK380;clear HB;have HO_11 := n0_;have HO_12 := n1_;have HO398 := n2_;have HO401 := n3_;have HO404 := n4_;have HO407 := n5_;have BK380 := n6_;have HB := n7_;clear n0_ n1_ n2_ n3_ n4_ n5_ n6_ n7_;(try clear hb);(try clear hb2);(try clear hk);(try clear hi);(try clear ho0);(try clear ho1)))
       (try simp only [Act.put,List.setIfInBounds_toArray,List.set_cons_zero,List.set_cons_succ])
       go_cut [112] (fun v112 wc => ∃ (kq : Nat) (x112_40 : Bool),v112 = .bool x112_40 ∧ Aside0 (bournelaw37_AllotAside.j4 kq t381 x11_2 x12_2 t396 t402 x112_40 = some r) ∧ Aside0 (kq ≤ k2) ∧ Aside0 (Kd.R k45 45 wc w.heap.size (fun _ => True) (.slice Ao45 x11_2.length co45) x11_2) ∧ Aside0 (Kd.R (Kd.int .i64) 3 wc w.heap.size (fun _ => True) u12 x12_2) ∧ Aside0 (Kd.R k47 47 wc w.heap.size (fun k_ => some k_ ≠ (v403 : Value).ownBlock) v397 t396) ∧ Aside0 (Kd.R k47 47 wc w.heap.size (fun k_ => some k_ ≠ (v397 : Value).ownBlock) v403 t402) ∧ Aside0 (wc.heap[gb380]? = some (.cells #[.string a0_0,(.slice A0_1 l0_1.length c0_1),.int .i64 a0_2,(.slice A0_3 l0_3.length c0_3),(.slice A0_4 l0_4.length c0_4),(.slice A0_5 l0_5.length c0_5),(.slice A0_6 l0_6.length c0_6),(.slice A0_7 l0_7.length c0_7),(.slice A0_8 l0_8.length c0_8),(.slice A0_9 l0_9.length c0_9),.int .i64 a0_10] 31 (0,0))) ∧ Aside0 (Below w.heap.size w wc))
       case first =>
        have H := HC41.out
        clear HC41
        by_cases c47 : (t402.length : Int) = (x11_2.length : Int)
        ·rw [if_pos c47] at H
         have c47b0 : ((t402.length : Int) == (x11_2.length : Int)) = true := beq_iff_eq.mpr c47
         have c47b1 : ((t402.length : Int) != (x11_2.length : Int)) = false := bne_eq_false_iff_eq.mpr c47
         have c47b2 : (t402.length == x11_2.length) = true := by first | simpa using c47 | (simp at c47 ⊢;omega)
         clear c47
         (first | rw [c47b0] | (simp only [i64_w,i32_w];rw [c47b0]) | skip)
         have H' := Aside0.mk H
         clear H
         obtain ⟨Ao48,co48,eo48⟩ := Kd.R_slice HO404.out
         subst eo48
         obtain ⟨Ao49,co49,eo49⟩ := Kd.R_slice HO398.out
         subst eo49
         go_wp2
         go_meet
         case rel => exact ⟨_,(((t396.length : Int) != (l1.length : Int))),(by first | rfl | (simp;done) | (simp [*];done)),H',⟨by have := HJ6.out;have := HK2.out;first | omega | exact Nat.le_refl _⟩,⟨by (with_reducible repeat (first | apply Kd.R_alloc | apply Kd.R_drewN | apply Kd.R_drew));exact HO_11.out⟩,⟨by (with_reducible repeat (first | apply Kd.R_alloc | apply Kd.R_drewN | apply Kd.R_drew));exact Kd.R_mono HO_12.out (fun _ hk => trivial)⟩,⟨by (with_reducible repeat (first | apply Kd.R_alloc | apply Kd.R_drewN | apply Kd.R_drew));exact Kd.R_mono HO398.out (fun _ hk => hk.2)⟩,⟨by (with_reducible repeat (first | apply Kd.R_alloc | apply Kd.R_drewN | apply Kd.R_drew));exact Kd.R_mono HO404.out (fun _ hk => hk.2)⟩,⟨by (with_reducible repeat (first | refine blk_drewN ?_ _ | refine blk_drew ?_ | refine blk_alloc ?_ _));exact BK380.out⟩,⟨by repeat (first | (with_reducible first | exact HB.out | apply below_alloc | apply pw_below_drewN | apply below_drew1 | refine below_set ?_ GE380.out) | exact HB.out)⟩⟩
        ·rw [if_neg c47] at H
         exact absurd H (by simp)
       case rest =>
        clear HC41
        try clear c1
        try clear c2
        try clear p2
        try clear q2
        try clear c3
        try clear p3
        try clear q3
        try clear hx3
        try clear c4
        try clear c6
        try clear p6
        try clear c8
        try clear c9
        try clear c10
        try clear c12
        try clear c13
        try clear c14
        try clear c15
        try clear c15b0
        try clear c16
        try clear c16b0
        try clear c20
        try clear c20b0
        try clear c21
        try clear c21b0
        try clear c22
        try clear c22b0
        try clear c23
        try clear c23b0
        try clear q24
        try clear c25
        try clear c30
        try clear c30b0
        try clear c30b1
        try clear c31
        try clear c32
        try clear c32b0
        try clear c33
        try clear c33b0
        try clear c34
        try clear c34b0
        try clear c35
        try clear c36
        try clear p38
        try clear q38
        try clear hx38
        try clear c47
        try clear c47b0
        try clear c47b1
        try clear c47b2
        try clear hcz10_0
        try clear hcz10_1
        try clear hcz10_10
        try clear hcz10_2
        try clear hcz10_3
        try clear hcz10_4
        try clear hcz10_5
        try clear hcz10_6
        try clear hcz10_7
        try clear hcz10_8
        try clear hcz10_9
        try clear hcz13_0
        try clear hcz13_1
        try clear hcz13_10
        try clear hcz13_2
        try clear hcz13_3
        try clear hcz13_4
        try clear hcz13_5
        try clear hcz13_6
        try clear hcz13_7
        try clear hcz13_8
        try clear hcz13_9
        try clear hcz42_0
        try clear hcz42_1
        try clear hcz42_10
        try clear hcz42_2
        try clear hcz42_3
        try clear hcz42_4
        try clear hcz42_5
        try clear hcz42_6
        try clear hcz42_7
        try clear hcz42_8
        try clear hcz42_9
        try clear hcz44_0
        try clear hcz44_1
        try clear hcz44_10
        try clear hcz44_2
        try clear hcz44_3
        try clear hcz44_4
        try clear hcz44_5
        try clear hcz44_6
        try clear hcz44_7
        try clear hcz44_8
        try clear hcz44_9
        try clear hfz10_0
        try clear hfz10_1
        try clear hfz10_10
        try clear hfz10_2
        try clear hfz10_3
        try clear hfz10_4
        try clear hfz10_5
        try clear hfz10_6
        try clear hfz10_7
        try clear hfz10_8
        try clear hfz10_9
        try clear hfz13_0
        try clear hfz13_1
        try clear hfz13_10
        try clear hfz13_2
        try clear hfz13_3
        try clear hfz13_4
        try clear hfz13_5
        try clear hfz13_6
        try clear hfz13_7
        try clear hfz13_8
        try clear hfz13_9
        try clear hfz42_0
        try clear hfz42_1
        try clear hfz42_10
        try clear hfz42_2
        try clear hfz42_3
        try clear hfz42_4
        try clear hfz42_5
        try clear hfz42_6
        try clear hfz42_7
        try clear hfz42_8
        try clear hfz42_9
        try clear hfz44_0
        try clear hfz44_1
        try clear hfz44_10
        try clear hfz44_2
        try clear hfz44_3
        try clear hfz44_4
        try clear hfz44_5
        try clear hfz44_6
        try clear hfz44_7
        try clear hfz44_8
        try clear hfz44_9
        try clear hx383_0
        try clear hx383_1
        try clear hx383_2
        try clear hx383_3
        try clear hx383_4
        try clear hx383_5
        try clear hx383_6
        try clear hx383_7
        try clear hx383_8
        try clear hx387_0
        try clear hx388_0
        try clear hx389_0
        try clear hx389_1
        try clear hx389_2
        try clear hx389_3
        try clear hx389_4
        try clear hx389_5
        try clear hx389_6
        try clear hx389_7
        try clear hx389_8
        try clear p2
        try clear p3
        try clear p383
        try clear p387
        try clear p388
        try clear p389
        try clear p6
        try clear q2
        try clear q24
        try clear q3
        try clear q383
        try clear q387
        try clear q388
        try clear q389
        obtain ⟨kq,x112_40,rfl,HA,HJ40,HO_11,HO_12,HO_17,HO_19,BK380,HB⟩ := hcut
        cases kq with
        | zero => exact absurd HA.out (by simp [bournelaw37_AllotAside.j4])
        | succ kj40 =>
         have H := HA.out
         clear HA
         simp only [bournelaw37_AllotAside.j4] at H
         by_cases c50 : x112_40 = true
         ·subst c50
          have H1 : (none) = some r := by rw [if_pos rfl] at H;exact H
          clear H
          have H := H1
          clear H1
          exact absurd H (by simp)
         ·replace c50 := Bool.eq_false_iff.mpr c50
          subst c50
          have H1 : (bournelaw37_AllotAside.l2 kj40 t381 x11_2 x12_2 t396 t402 0) = some r := by rw [if_neg (show ¬ (false = true) by decide)] at H;exact H
          clear H
          have H := H1
          clear H1
          have H' := Aside0.mk H
          clear H
          go_wp2
          go_loopg [21] kj40 (fun kq v21 w' => ∃ (x21_4 : Int),v21 = .int .i64 x21_4 ∧ Aside0 (bournelaw37_AllotAside.l2 kq t381 x11_2 x12_2 t396 t402 x21_4 = some r) ∧ Aside0 (kq ≤ kj40) ∧ Aside0 (Kd.R k45 45 w' w.heap.size (fun _ => True) (.slice Ao45 x11_2.length co45) x11_2) ∧ Aside0 (Kd.R (Kd.int .i64) 3 w' w.heap.size (fun _ => True) u12 x12_2) ∧ Aside0 (Kd.R k47 47 w' w.heap.size (fun k_ => some k_ ≠ (v403 : Value).ownBlock) v397 t396) ∧ Aside0 (Kd.R k47 47 w' w.heap.size (fun k_ => some k_ ≠ (v397 : Value).ownBlock) v403 t402) ∧ Aside0 (w'.heap[gb380]? = some (.cells #[.string a0_0,(.slice A0_1 l0_1.length c0_1),.int .i64 a0_2,(.slice A0_3 l0_3.length c0_3),(.slice A0_4 l0_4.length c0_4),(.slice A0_5 l0_5.length c0_5),(.slice A0_6 l0_6.length c0_6),(.slice A0_7 l0_7.length c0_7),(.slice A0_8 l0_8.length c0_8),(.slice A0_9 l0_9.length c0_9),.int .i64 a0_10] 31 (0,0))) ∧ Aside0 (Below w.heap.size w w'))
          case atStart => exact ⟨(0),(by first | rfl | (simp;done) | (simp [*];done)),H',⟨Nat.le_refl _⟩,⟨by (with_reducible repeat (first | apply Kd.R_alloc | apply Kd.R_drewN | apply Kd.R_drew));exact HO_11.out⟩,⟨by (with_reducible repeat (first | apply Kd.R_alloc | apply Kd.R_drewN | apply Kd.R_drew));exact HO_12.out⟩,⟨by (with_reducible repeat (first | apply Kd.R_alloc | apply Kd.R_drewN | apply Kd.R_drew));exact HO_17.out⟩,⟨by (with_reducible repeat (first | apply Kd.R_alloc | apply Kd.R_drewN | apply Kd.R_drew));exact HO_19.out⟩,⟨by (with_reducible repeat (first | refine blk_drewN ?_ _ | refine blk_drew ?_ | refine blk_alloc ?_ _));exact BK380.out⟩,⟨by repeat (first | (with_reducible first | exact HB.out | apply below_alloc | apply pw_below_drewN | apply below_drew1 | refine below_set ?_ GE380.out) | exact HB.out)⟩⟩
          case round =>
           clear H'
           try clear c1
           try clear c2
           try clear p2
           try clear q2
           try clear c3
           try clear p3
           try clear q3
           try clear hx3
           try clear c4
           try clear c5
           try clear c6
           try clear p6
           try clear c8
           try clear c9
           try clear c10
           try clear c12
           try clear c13
           try clear c14
           try clear c15
           try clear c15b0
           try clear c16
           try clear c16b0
           try clear c20
           try clear c20b0
           try clear c21
           try clear c21b0
           try clear c22
           try clear c22b0
           try clear c23
           try clear c23b0
           try clear q24
           try clear c25
           try clear c30
           try clear c30b0
           try clear c30b1
           try clear c31
           try clear c32
           try clear c32b0
           try clear c33
           try clear c33b0
           try clear c34
           try clear c34b0
           try clear c35
           try clear c36
           try clear p38
           try clear q38
           try clear hx38
           try clear c47
           try clear c47b0
           try clear c47b1
           try clear c47b2
           try clear c50
           try clear hcz10_0
           try clear hcz10_1
           try clear hcz10_10
           try clear hcz10_2
           try clear hcz10_3
           try clear hcz10_4
           try clear hcz10_5
           try clear hcz10_6
           try clear hcz10_7
           try clear hcz10_8
           try clear hcz10_9
           try clear hcz13_0
           try clear hcz13_1
           try clear hcz13_10
           try clear hcz13_2
           try clear hcz13_3
           try clear hcz13_4
           try clear hcz13_5
           try clear hcz13_6
           try clear hcz13_7
           try clear hcz13_8
           try clear hcz13_9
           try clear hcz42_0
           try clear hcz42_1
           try clear hcz42_10
           try clear hcz42_2
           try clear hcz42_3
           try clear hcz42_4
           try clear hcz42_5
           try clear hcz42_6
           try clear hcz42_7
           try clear hcz42_8
           try clear hcz42_9
           try clear hcz44_0
           try clear hcz44_1
           try clear hcz44_10
           try clear hcz44_2
           try clear hcz44_3
           try clear hcz44_4
           try clear hcz44_5
           try clear hcz44_6
           try clear hcz44_7
           try clear hcz44_8
           try clear hcz44_9
           try clear hfz10_0
           try clear hfz10_1
           try clear hfz10_10
           try clear hfz10_2
           try clear hfz10_3
           try clear hfz10_4
           try clear hfz10_5
           try clear hfz10_6
           try clear hfz10_7
           try clear hfz10_8
           try clear hfz10_9
           try clear hfz13_0
           try clear hfz13_1
           try clear hfz13_10
           try clear hfz13_2
           try clear hfz13_3
           try clear hfz13_4
           try clear hfz13_5
           try clear hfz13_6
           try clear hfz13_7
           try clear hfz13_8
           try clear hfz13_9
           try clear hfz42_0
           try clear hfz42_1
           try clear hfz42_10
           try clear hfz42_2
           try clear hfz42_3
           try clear hfz42_4
           try clear hfz42_5
           try clear hfz42_6
           try clear hfz42_7
           try clear hfz42_8
           try clear hfz42_9
           try clear hfz44_0
           try clear hfz44_1
           try clear hfz44_10
           try clear hfz44_2
           try clear hfz44_3
           try clear hfz44_4
           try clear hfz44_5
           try clear hfz44_6
           try clear hfz44_7
           try clear hfz44_8
           try clear hfz44_9
           try clear hx383_0
           try clear hx383_1
           try clear hx383_2
           try clear hx383_3
           try clear hx383_4
           try clear hx383_5
           try clear hx383_6
           try clear hx383_7
           try clear hx383_8
           try clear hx387_0
           try clear hx388_0
           try clear hx389_0
           try clear hx389_1
           try clear hx389_2
           try clear hx389_3
           try clear hx389_4
           try clear hx389_5
           try clear hx389_6
           try clear hx389_7
           try clear hx389_8
           try clear p2
           try clear p3
           try clear p38
           try clear p383
           try clear p387
           try clear p388
           try clear p389
           try clear p6
           try clear q2
           try clear q24
           try clear q3
           try clear q38
           try clear q383
           try clear q387
           try clear q388
           try clear q389
           obtain ⟨x21_4,rfl,HA,HK4,HO_11,HO_12,HO_17,HO_19,BK380,HB⟩ := hrel
           cases gk with
           | zero => exact absurd HA.out (by simp [bournelaw37_AllotAside.l2])
           | succ k4 =>
            have H := HA.out
            clear HA
            simp only [bournelaw37_AllotAside.l2] at H
            by_cases c51 : x21_4 < (x11_2.length : Int)
            ·rw [if_pos c51] at H
             have c51b0 : decide (x21_4 < (x11_2.length : Int)) = true := decide_eq_true c51
             clear c51
             by_cases c52 : 0 ≤ x21_4
             ·rw [if_pos c52] at H
              have c52b0 : decide (0 ≤ x21_4) = true := decide_eq_true c52
              clear c52
              by_cases c53 : x21_4 < (t402.length : Int)
              ·rw [if_pos c53] at H
               have c53b0 : decide (x21_4 < (t402.length : Int)) = true := decide_eq_true c53
               clear c53
               by_cases c54 : x21_4 < (x12_2.length : Int)
               ·rw [if_pos c54] at H
                have c54b0 : decide (x21_4 < (x12_2.length : Int)) = true := decide_eq_true c54
                clear c54
                by_cases c55 : 0 ≤ (rd x12_2 x21_4)
                ·rw [if_pos c55] at H
                 have c55b0 : decide (0 ≤ (rd x12_2 x21_4)) = true := decide_eq_true c55
                 clear c55
                 by_cases c56 : (rd x12_2 x21_4) < (t396.length : Int)
                 ·rw [if_pos c56] at H
                  have c56b0 : decide ((rd x12_2 x21_4) < (t396.length : Int)) = true := decide_eq_true c56
                  clear c56
                  by_cases c57 : (!(((rd_T47 t402 x21_4).f0) == ((rd_T47 t396 (rd x12_2 x21_4)).f0)) || (!(((rd_T47 t402 x21_4).f1) == ((rd_T47 t396 (rd x12_2 x21_4)).f1)))) = true
                  ·rw [if_pos c57] at H
                   exact absurd H (by simp)
                  ·rw [if_neg c57] at H
                   have c57b0 : (!(((rd_T47 t402 x21_4).f0) == ((rd_T47 t396 (rd x12_2 x21_4)).f0)) || (!(((rd_T47 t402 x21_4).f1) == ((rd_T47 t396 (rd x12_2 x21_4)).f1)))) = false := by simpa using c57
                   clear c57
                   have H' := Aside0.mk H
                   clear H
                   try go_wp2
                   (repeat (rw [drewN_self wr];generalize hq_ : World.drewN wr _ = wr;have n0_ : Aside0 (Kd.R k45 45 wr w.heap.size (fun _ => True) (.slice Ao45 x11_2.length co45) x11_2) := ⟨by rw [← hq_];exact (by (with_reducible repeat (first | apply Kd.R_alloc | apply Kd.R_drewN | apply Kd.R_drew));exact HO_11.out)⟩;have n1_ : Aside0 (Kd.R (Kd.int .i64) 3 wr w.heap.size (fun _ => True) u12 x12_2) := ⟨by rw [← hq_];exact (by (with_reducible repeat (first | apply Kd.R_alloc | apply Kd.R_drewN | apply Kd.R_drew));exact HO_12.out)⟩;have n2_ : Aside0 (Kd.R k47 47 wr w.heap.size (fun k_ => some k_ ≠ (v403 : Value).ownBlock) v397 t396) := ⟨by rw [← hq_];exact (by (with_reducible repeat (first | apply Kd.R_alloc | apply Kd.R_drewN | apply Kd.R_drew));exact HO_17.out)⟩;have n3_ : Aside0 (Kd.R k47 47 wr w.heap.size (fun k_ => some k_ ≠ (v397 : Value).ownBlock) v403 t402) := ⟨by rw [← hq_];exact (by (with_reducible repeat (first | apply Kd.R_alloc | apply Kd.R_drewN | apply Kd.R_drew));exact HO_19.out)⟩;have n4_ : Aside0 (wr.heap[gb380]? = some (.cells #[.string a0_0,.slice A0_1 l0_1.length c0_1,.int .i64 a0_2,.slice A0_3 l0_3.length c0_3,.slice A0_4 l0_4.length c0_4,.slice A0_5 l0_5.length c0_5,.slice A0_6 l0_6.length c0_6,.slice A0_7 l0_7.length c0_7,.slice A0_8 l0_8.length c0_8,.slice A0_9 l0_9.length c0_9,.int .i64 a0_10] 31 (0,0))) := ⟨by rw [← hq_];exact (by (with_reducible repeat (first | refine blk_drewN ?_ _ | refine blk_drew ?_ | refine blk_alloc ?_ _));exact BK380.out)⟩;have n5_ : Aside0 (Below w.heap.size w wr) := ⟨by rw [← hq_];exact (by repeat (first | (with_reducible first | exact HB.out | apply below_alloc | apply pw_below_drewN | apply below_drew1 | refine below_set ?_ GE380.out) | exact HB.out))⟩;clear HO_11 HO_12 HO_17 HO_19 BK380 HB hq_;have HO_11 := n0_;have HO_12 := n1_;have HO_17 := n2_;have HO_19 := n3_;have BK380 := n4_;have HB := n5_;clear n0_ n1_ n2_ n3_ n4_ n5_))
                   have n0_ := Aside0.mk (Kd.R_drew HO_11.out)
                   have n1_ := Aside0.mk (Kd.R_drew HO_12.out)
                   have n2_ := Aside0.mk (Kd.R_drew HO_17.out)
                   have n3_ := Aside0.mk (Kd.R_drew HO_19.out)
                   have n4_ := Aside0.mk (blk_drew BK380.out)
                   have n5_ := Aside0.mk (below_drew1 HB.out)
                   clear HO_11
                   clear HO_12
                   clear HO_17
                   clear HO_19
                   clear BK380
                   clear HB
                   have HO_11 := n0_
                   have HO_12 := n1_
                   have HO_17 := n2_
                   have HO_19 := n3_
                   have BK380 := n4_
                   have HB := n5_
                   clear n0_ n1_ n2_ n3_ n4_ n5_
                   obtain ⟨Ao59,co59,eo59⟩ := Kd.R_slice HO_19.out
                   (first | subst eo59 | (injection eo59 with f1_ f2_ f3_;have f4_ := f1_.symm;have f5_ := f3_.symm;clear f1_ f2_ f3_;subst f4_;subst f5_))
                   have p408 : 0 ≤ (x21_4 : Int) := of_decide_eq_true (by first | (with_reducible assumption) | assumption)
                   have q408 : x21_4 < (t402.length : Int) := of_decide_eq_true (by first | (with_reducible assumption) | assumption)
                   obtain ⟨ad408,e408,hx408_0,hx408_1⟩ := at_T47 (Kd.R_reads' HO_19.out).2.2 x21_4 p408 q408
                   cases e408
                   replace p408 := eq_true p408
                   replace q408 := eq_true q408
                   obtain ⟨Ao60,co60,eo60⟩ := Kd.R_slice HO_12.out
                   (first | subst eo60 | (injection eo60 with f1_ f2_ f3_;have f4_ := f1_.symm;have f5_ := f3_.symm;clear f1_ f2_ f3_;subst f4_;subst f5_))
                   have p409 : 0 ≤ (x21_4 : Int) := of_decide_eq_true (by first | (with_reducible assumption) | assumption)
                   have q409 : x21_4 < (x12_2.length : Int) := of_decide_eq_true (by first | (with_reducible assumption) | assumption)
                   obtain ⟨ad409,e409,hx409_0⟩ := Kd.at_int (Kd.R_reads' HO_12.out).2.2 x21_4 p409 q409
                   cases e409
                   replace p409 := eq_true p409
                   replace q409 := eq_true q409
                   obtain ⟨Ao61,co61,eo61⟩ := Kd.R_slice HO_17.out
                   (first | subst eo61 | (injection eo61 with f1_ f2_ f3_;have f4_ := f1_.symm;have f5_ := f3_.symm;clear f1_ f2_ f3_;subst f4_;subst f5_))
                   have p410 : 0 ≤ ((rd x12_2 x21_4) : Int) := of_decide_eq_true (by first | (with_reducible assumption) | assumption)
                   have q410 : (rd x12_2 x21_4) < (t396.length : Int) := of_decide_eq_true (by first | (with_reducible assumption) | assumption)
                   obtain ⟨ad410,e410,hx410_0,hx410_1⟩ := at_T47 (Kd.R_reads' HO_17.out).2.2 (rd x12_2 x21_4) p410 q410
                   cases e410
                   replace p410 := eq_true p410
                   replace q410 := eq_true q410
                   refine start_ (n := 12) (S := fun w' => w'.cell? (ad408.add ((x21_4).toNat * 2)) = some (.int .i64 ((rd_T47 t402 x21_4).f0)) ∧ w'.cell? ⟨(ad408.add ((x21_4).toNat * 2)).block,(ad408.add ((x21_4).toNat * 2)).off + 1,none⟩ = some (.int .i64 ((rd_T47 t402 x21_4).f1)) ∧ w'.cell? (ad409.add (x21_4).toNat) = some (.int .i64 (rd x12_2 x21_4)) ∧ w'.cell? (ad410.add (((rd x12_2 x21_4)).toNat * 2)) = some (.int .i64 ((rd_T47 t396 (rd x12_2 x21_4)).f0)) ∧ w'.cell? ⟨(ad410.add (((rd x12_2 x21_4)).toNat * 2)).block,(ad410.add (((rd x12_2 x21_4)).toNat * 2)).off + 1,none⟩ = some (.int .i64 ((rd_T47 t396 (rd x12_2 x21_4)).f1))) (ds := []) #[false,false,false,false,false,false,false,false,false,false,false,false] (by kernel_rfl) rfl rfl ⟨hx408_0,hx408_1,hx409_0,hx410_0,hx410_1⟩ (fun hHeld => ?_);refine with_tabW bournelaw37_AllotAside.tab29 bournelaw37_AllotAside.bits29 (fun HT_ HW_ => ?_)
                   generalize wr.drew = w58 at HO_11 HO_12 HO_17 HO_19 BK380 HB hx408_0 hx408_1 hx409_0 hx410_0 hx410_1 hHeld ⊢
                   refine pure_ (i := 0) (N := some 119) (v := ?_) (a' := ?_) #[true,false,false,false,false,false,false,false,false,false,false,false] rfl rfl (any_of HT_.out (by kernel_rfl)) (fun _ _ _ h => h) (Or.inl ⟨by rfl,?_⟩) ?_ ?_
                   rotate_left
                   ·intro w'
                    go_simp
                    with_reducible rfl
                   rotate_left
                   ·simp only [Act.put,List.setIfInBounds_toArray,List.set_cons_zero,List.set_cons_succ,i64_w,i32_w]
                    rfl
                   refine pure_ (i := 1) (N := some 120) (v := ?_) (a' := ?_) #[true,true,false,false,false,false,false,false,false,false,false,false] rfl rfl (any_of HT_.out (by kernel_rfl)) (fun _ _ _ h => h) (Or.inl ⟨by rfl,?_⟩) ?_ ?_
                   rotate_left
                   ·intro w'
                    go_simp
                    with_reducible rfl
                   rotate_left
                   ·simp only [Act.put,List.setIfInBounds_toArray,List.set_cons_zero,List.set_cons_succ,i64_w,i32_w]
                    rfl
                   refine pure_ (i := 2) (N := some 121) (v := ?_) (a' := ?_) #[true,true,true,false,false,false,false,false,false,false,false,false] rfl rfl (any_of HT_.out (by kernel_rfl)) (fun _ _ _ h => h) (Or.inl ⟨by rfl,?_⟩) ?_ ?_
                   rotate_left
                   ·intro w'
                    go_simp
                    with_reducible rfl
                   rotate_left
                   ·simp only [Act.put,List.setIfInBounds_toArray,List.set_cons_zero,List.set_cons_succ,i64_w,i32_w]
                    rfl
                   refine pure_ (i := 4) (N := some 123) (v := ?_) (a' := ?_) #[true,true,true,false,true,false,false,false,false,false,false,false] rfl rfl (any_of HT_.out (by kernel_rfl)) (fun _ _ _ h => h) (Or.inl ⟨by rfl,?_⟩) ?_ ?_
                   rotate_left
                   ·intro w'
                    go_simp
                    with_reducible rfl
                   rotate_left
                   ·simp only [Act.put,List.setIfInBounds_toArray,List.set_cons_zero,List.set_cons_succ,i64_w,i32_w]
                    rfl
                   refine pure_ (i := 5) (N := some 124) (v := ?_) (a' := ?_) #[true,true,true,false,true,true,false,false,false,false,false,false] rfl rfl (any_of HT_.out (by kernel_rfl)) (fun _ _ _ h => h) (Or.inl ⟨by rfl,?_⟩) ?_ ?_
                   rotate_left
                   ·intro w'
                    go_simp
                    with_reducible rfl
                   rotate_left
                   ·simp only [Act.put,List.setIfInBounds_toArray,List.set_cons_zero,List.set_cons_succ,i64_w,i32_w]
                    rfl
                   refine pure_ (i := 6) (N := some 125) (v := ?_) (a' := ?_) #[true,true,true,false,true,true,true,false,false,false,false,false] rfl rfl (any_of HT_.out (by kernel_rfl)) (fun _ _ _ h => h) (Or.inl ⟨by rfl,?_⟩) ?_ ?_
                   rotate_left
                   ·intro w'
                    go_simp
                    with_reducible rfl
                   rotate_left
                   ·simp only [Act.put,List.setIfInBounds_toArray,List.set_cons_zero,List.set_cons_succ,i64_w,i32_w]
                    rfl
                   refine pure_ (i := 7) (N := some 126) (v := ?_) (a' := ?_) #[true,true,true,false,true,true,true,true,false,false,false,false] rfl rfl (any_of HT_.out (by kernel_rfl)) (fun _ _ _ h => h) (Or.inl ⟨by rfl,?_⟩) ?_ ?_
                   rotate_left
                   ·intro w'
                    go_simp
                    with_reducible rfl
                   rotate_left
                   ·simp only [Act.put,List.setIfInBounds_toArray,List.set_cons_zero,List.set_cons_succ,i64_w,i32_w]
                    rfl
                   refine take_ (i := 3) (N := some 122) (v := ?_) (a' := ?_) #[true,true,true,true,true,true,true,true,false,false,false,false] rfl rfl (take_ofW HT_.out HW_.out (by kernel_rfl)) (fun _ _ _ h => h) (Or.inl ⟨by rfl,?_⟩) hHeld ?_ ?_
                   rotate_left
                   ·rintro w' ⟨s0,s1,s2,s3,s4⟩
                    go_simp
                    with_reducible rfl
                   rotate_left
                   ·simp only [Act.put,List.setIfInBounds_toArray,List.set_cons_zero,List.set_cons_succ,i64_w,i32_w]
                    rfl
                   refine take_ (i := 8) (N := some 127) (v := ?_) (a' := ?_) #[true,true,true,true,true,true,true,true,true,false,false,false] rfl rfl (take_ofW HT_.out HW_.out (by kernel_rfl)) (fun _ _ _ h => h) (Or.inl ⟨by rfl,?_⟩) hHeld ?_ ?_
                   rotate_left
                   ·rintro w' ⟨s0,s1,s2,s3,s4⟩
                    go_simp
                    with_reducible rfl
                   rotate_left
                   ·simp only [Act.put,List.setIfInBounds_toArray,List.set_cons_zero,List.set_cons_succ,i64_w,i32_w]
                    rfl
                   refine pure_ (i := 9) (N := some 128) (v := ?_) (a' := ?_) #[true,true,true,true,true,true,true,true,true,true,false,false] rfl rfl (any_of HT_.out (by kernel_rfl)) (fun _ _ _ h => h) (Or.inl ⟨by rfl,?_⟩) ?_ ?_
                   rotate_left
                   ·intro w'
                    go_simp
                    with_reducible rfl
                   rotate_left
                   ·simp only [Act.put,List.setIfInBounds_toArray,List.set_cons_zero,List.set_cons_succ,i64_w,i32_w]
                    rfl
                   refine take_ (i := 10) (N := some 129) (v := ?_) (a' := ?_) #[true,true,true,true,true,true,true,true,true,true,true,false] rfl rfl (take_ofW HT_.out HW_.out (by kernel_rfl)) (fun _ _ _ h => h) (Or.inl ⟨by rfl,?_⟩) hHeld ?_ ?_
                   rotate_left
                   ·rintro w' ⟨s0,s1,s2,s3,s4⟩
                    go_simp
                    with_reducible rfl
                   rotate_left
                   ·simp only [Act.put,List.setIfInBounds_toArray,List.set_cons_zero,List.set_cons_succ,i64_w,i32_w]
                    rfl
                   refine pure_ (i := 11) (N := some 130) (v := ?_) (a' := ?_) #[true,true,true,true,true,true,true,true,true,true,true,true] rfl rfl (any_of HT_.out (by kernel_rfl)) (fun _ _ _ h => h) (Or.inl ⟨by rfl,?_⟩) ?_ ?_
                   rotate_left
                   ·intro w'
                    go_simp
                    with_reducible rfl
                   rotate_left
                   ·simp only [Act.put,List.setIfInBounds_toArray,List.set_cons_zero,List.set_cons_succ,i64_w,i32_w]
                    rfl
                   refine done_ (done_of HT_.out (by kernel_rfl)) ?_
                   try go_wp2
                   go_roundg k4
                   case measure => have := HJ6.out;have := HK2.out;have := HJ40.out;have := HK4.out;omega
                   case rel => exact ⟨(wrap64 (x21_4 + 1)),(by first | rfl | (simp;done) | (simp [*];done)),H',⟨by have := HJ6.out;have := HK2.out;have := HJ40.out;have := HK4.out;omega⟩,⟨by (with_reducible repeat (first | apply Kd.R_alloc | apply Kd.R_drewN | apply Kd.R_drew));exact HO_11.out⟩,⟨by (with_reducible repeat (first | apply Kd.R_alloc | apply Kd.R_drewN | apply Kd.R_drew));exact HO_12.out⟩,⟨by (with_reducible repeat (first | apply Kd.R_alloc | apply Kd.R_drewN | apply Kd.R_drew));exact HO_17.out⟩,⟨by (with_reducible repeat (first | apply Kd.R_alloc | apply Kd.R_drewN | apply Kd.R_drew));exact HO_19.out⟩,⟨by (with_reducible repeat (first | refine blk_drewN ?_ _ | refine blk_drew ?_ | refine blk_alloc ?_ _));exact BK380.out⟩,⟨by repeat (first | (with_reducible first | exact HB.out | apply below_alloc | apply pw_below_drewN | apply below_drew1 | refine below_set ?_ GE380.out) | exact HB.out)⟩⟩
                 ·rw [if_neg c56] at H
                  exact absurd H (by simp)
                ·rw [if_neg c55] at H
                 exact absurd H (by simp)
               ·rw [if_neg c54] at H
                exact absurd H (by simp)
              ·rw [if_neg c53] at H
               exact absurd H (by simp)
             ·rw [if_neg c52] at H
              exact absurd H (by simp)
            ·rw [if_neg c51] at H
             have c51b0 : decide (x21_4 < (x11_2.length : Int)) = false := decide_eq_false c51
             clear c51
             obtain rfl := Option.some.inj H
             go_wp2
             go_ret
             exact ⟨by first | rfl | (simp [errW_none,errW_some] <;> rfl) | (simp [*,errW_none,errW_some] <;> rfl),by repeat (first | (with_reducible first | exact HB.out | apply below_alloc | apply pw_below_drewN | apply below_drew1 | refine below_set ?_ GE380.out) | exact HB.out)⟩

end Go.Proofs.Ythmbleephognnaa.Q
